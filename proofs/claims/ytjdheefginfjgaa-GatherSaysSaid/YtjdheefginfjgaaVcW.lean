/-
  The framework of this prover's proofs, part W: regions that draw their order. Conditions: none.
-/
import Derived.Test.YtjdheefginfjgaaVcG
import Derived.Orders
set_option linter.unusedVariables false
namespace Go.Vc
open Go

/-- Two frames that differ in slot d alone. -/
structure Agr (d : Nat) (st st1 : St) : Prop where
  t : ∀ i, i ≠ d → st1.t i = st.t i
  b : st1.b = st.b
  n : st1.n = st.n

section
variable {P : Program} {cfg : Cfg} {st st1 : St} {d : Nat} {ch : List (Nat × Bool)}

theorem Agr.ev (A : Agr d st st1) {x : Operand} (hx : x ≠ .tmp d) : st1.ev ch x = st.ev ch x := by
  cases x with
  | tmp i => simp only [St.ev]; rw [A.t i (fun e => hx (by rw [e]))]
  | _ => rfl
theorem Agr.evs (A : Agr d st st1) : ∀ {l : List Operand}, (∀ x ∈ l, x ≠ .tmp d) → st1.evs ch l = st.evs ch l
  | [], _ => rfl
  | x :: l, h => by simp only [St.evs]; rw [A.ev (h x (by simp)), A.evs (fun y hy => h y (by simp [hy]))]
theorem Agr.partsL (A : Agr d st st1) : ∀ {l : List (Nat × Operand)}, (∀ x ∈ l, x.2 ≠ .tmp d) → Vc.partsL st1 ch l = Vc.partsL st ch l
  | [], _ => rfl
  | (i, x) :: l, h => by simp only [Vc.partsL]; rw [A.ev (h (i, x) (by simp)), A.partsL (fun y hy => h y (by simp [hy]))]
theorem Agr.optV (A : Agr d st st1) : ∀ {x : Option Operand}, (∀ y, x = some y → y ≠ .tmp d) → Vc.optV st1 ch x = Vc.optV st ch x
  | none, _ => rfl
  | some x, h => by simp only [Vc.optV]; rw [A.ev (h x rfl)]

theorem Agr.vd (A : Agr d st st1) {o : Oper} (h : ∀ x ∈ o.op.operands.toList, x ≠ .tmp d) : vcVd P o ch st1 = vcVd P o ch st := by
  obtain ⟨dst, op, ty, pos, af, gd⟩ := o
  cases op with
  | move x => simp only [vcVd]; rw [A.ev (h x (by simp [Op.operands]))]
  | assign x => simp only [vcVd]; rw [A.ev (h x (by simp [Op.operands]))]
  | pick c x y =>
    simp only [vcVd]
    have hx := h x (by simp [Op.operands])
    have hy := h y (by simp [Op.operands])
    cases c with
    | tmp s => simp only; rw [A.ev (h (.tmp s) (by simp [Op.operands])), A.ev hx, A.ev hy]
    | _ => rfl
  | nilCheck x => simp only [vcVd]; rw [A.ev (h x (by simp [Op.operands]))]
  | binOp op T x y T' => simp only [vcVd]; rw [A.ev (h x (by simp [Op.operands])), A.ev (h y (by simp [Op.operands]))]
  | unOp op T x => simp only [vcVd]; rw [A.ev (h x (by simp [Op.operands]))]
  | convert s t x => simp only [vcVd]; rw [A.ev (h x (by simp [Op.operands]))]
  | makeInterface T x => simp only [vcVd]; rw [A.ev (h x (by simp [Op.operands]))]
  | fieldAddr T x f => simp only [vcVd]; rw [A.ev (h x (by simp [Op.operands]))]
  | field T x f => simp only [vcVd]; rw [A.ev (h x (by simp [Op.operands]))]
  | indexAddr T x y => simp only [vcVd]; rw [A.ev (h x (by simp [Op.operands])), A.ev (h y (by simp [Op.operands]))]
  | load T x => simp only [vcVd]; rw [A.ev (h x (by simp [Op.operands])), A.b]
  | extract x i => simp only [vcVd]; rw [A.ev (h x (by simp [Op.operands]))]
  | build T ps =>
    simp only [vcVd]
    rw [A.partsL (fun x hx => h x.2 (by simp only [Op.operands, List.mem_map]; exact ⟨x, hx, rfl⟩))]
  | index T x y => simp only [vcVd]; rw [A.ev (h x (by simp [Op.operands])), A.ev (h y (by simp [Op.operands]))]
  | lookup T x y ok => simp only [vcVd]; rw [A.ev (h x (by simp [Op.operands])), A.ev (h y (by simp [Op.operands]))]
  | typeAssert x T U ok => simp only [vcVd]; rw [A.ev (h x (by simp [Op.operands]))]
  | slice T x lo hi mx =>
    simp only [vcVd]
    rw [A.ev (h x (by simp [Op.operands])), A.optV (x := lo) (fun y hy => h y (by simp [Op.operands, hy])), A.optV (x := hi) (fun y hy => h y (by simp [Op.operands, hy])), A.optV (x := mx) (fun y hy => h y (by simp [Op.operands, hy]))]
  | call c =>
    obtain ⟨callee, args, ts⟩ := c
    cases callee with
    | builtin b =>
      have ha : ∀ x ∈ args.toList, x ≠ .tmp d := fun x hx => h x (by simpa [Op.operands, Call.operands] using hx)
      cases b with
      | len =>
        simp only [vcVd]
        split
        · rename_i x hargs; rw [A.ev (ha x (by rw [hargs]; simp))]
        · rfl
      | cap => simp only [vcVd]; rw [A.evs ha]
      | max => simp only [vcVd]; rw [A.evs ha]
      | min => simp only [vcVd]; rw [A.evs ha]
      | _ => rfl
    | _ => rfl
  | _ => rfl

theorem Agr.vcE (A : Agr d st st1) {o : Oper} (h : ∀ x ∈ o.op.operands.toList, x ≠ .tmp d) {hp : Hp} {K : SV → List Box → Hp → Prop} : Vc.vcE P cfg o ch st1 hp K = Vc.vcE P cfg o ch st hp K := by
  obtain ⟨dst, op, ty, pos, af, gd⟩ := o
  have hnb : ∀ T cs, Vc.newBox cfg ⟨dst, op, ty, pos, af, gd⟩ st1 hp T cs K = Vc.newBox cfg ⟨dst, op, ty, pos, af, gd⟩ st hp T cs K := by intro T cs; simp only [Vc.newBox, A.b]
  cases op with
  | alloc T => simp only [Vc.vcE, hnb]
  | box T x => simp only [Vc.vcE, hnb]; rw [A.ev (h x (by simp [Op.operands]))]
  | buildSlice T n ps =>
    simp only [Vc.vcE, A.b]
    rw [A.partsL (fun x hx => h x.2 (by simp only [Op.operands, List.mem_map]; exact ⟨x, hx, rfl⟩))]
  | store T x y => simp only [Vc.vcE, A.b]; rw [A.ev (h x (by simp [Op.operands])), A.ev (h y (by simp [Op.operands]))]
  | call c =>
    obtain ⟨callee, args, ts⟩ := c
    have ha : ∀ x ∈ args.toList, x ≠ .tmp d := fun x hx => h x (by simp only [Op.operands, Call.operands]; cases callee <;> simp_all)
    cases callee with
    | builtin b => simp only [Vc.vcE, A.b]; rw [A.evs ha]
    | value f =>
      cases f with
      | func g => simp only [Vc.vcE, A.b]; rw [A.evs ha]
      | tmp t => simp only [Vc.vcE, A.b]; rw [A.evs ha, A.ev (h (.tmp t) (by simp [Op.operands, Call.operands]))]
      | _ => rfl
    | invoke r m => rfl
  | makeMap T r => cases r <;> simp only [Vc.vcE, A.b]
  | makeSlice T l c => simp only [Vc.vcE, A.b]; rw [A.ev (h l (by simp [Op.operands])), A.ev (h c (by simp [Op.operands]))]
  | mapUpdate T m k x => simp only [Vc.vcE, A.b]; rw [A.ev (h m (by simp [Op.operands])), A.ev (h k (by simp [Op.operands])), A.ev (h x (by simp [Op.operands]))]
  | range T x => simp only [Vc.vcE, A.b]; rw [A.ev (h x (by simp [Op.operands]))]
  | next it s => simp only [Vc.vcE, A.b]; rw [A.ev (h it (by simp [Op.operands]))]
  | _ => rfl
end

def WF (st : St) : Prop := ∀ i s p x, st.t i = .gd s p x → st.g s = true

def putC (st : St) (dst : Option Nat) (gd : Option (Nat × Bool)) : Prop :=
  ∀ d, dst = some d → Nat.blt d st.n = true ∧ st.g d = false ∧ ∀ s p, gd = some (s, p) → d ≠ s
def putS (st : St) (dst : Option Nat) (gd : Option (Nat × Bool)) (x : SV) : St :=
  match dst with
  | none => st
  | some d => match gd with
    | none => { st with t := fun i => bif Nat.beq i d then .s x else st.t i }
    | some (s, p) => { st with t := fun i => bif Nat.beq i d then .gd s p x else st.t i, g := fun k => bif Nat.beq k s then true else st.g k }

theorem put_iff {st : St} {dst : Option Nat} {gd : Option (Nat × Bool)} {x : SV} {K : St → Prop} : st.put dst gd x K ↔ putC st dst gd ∧ K (putS st dst gd x) := by
  cases dst with
  | none => simp [St.put, putC, putS]
  | some d =>
    cases gd with
    | none =>
      simp only [St.put, putC, putS, Option.some.injEq, reduceCtorEq, false_implies, implies_true, and_true, forall_eq']
      cases h1 : Nat.blt d st.n <;> cases h2 : st.g d <;> simp_all
    | some q =>
      obtain ⟨s, p⟩ := q
      simp only [St.put, putC, putS, Option.some.injEq, forall_eq', Prod.mk.injEq]
      rcases Bool.eq_false_or_eq_true (Nat.beq d s) with h3 | h3
      · have := Nat.eq_of_beq_eq_true h3
        rw [h3]
        simp only [Bool.true_or, Bool.not_true, Bool.and_false, cond_false, false_iff, not_and]
        rintro ⟨_, _, h⟩
        exact (h s p ⟨rfl, rfl⟩ this).elim
      · have hne := Nat.ne_of_beq_eq_false h3
        rw [h3]
        cases h1 : Nat.blt d st.n <;> cases h2 : st.g d <;> simp_all


theorem beq_ne {i d : Nat} (h : i ≠ d) : Nat.beq i d = false := by cases hq : Nat.beq i d <;> simp_all
theorem putS_agr {st : St} {d : Nat} {gd : Option (Nat × Bool)} {x : SV} : Agr d st (putS st (some d) gd x) := by
  cases gd with
  | none => exact ⟨fun i hi => by simp [putS, beq_ne hi], rfl, rfl⟩
  | some q => exact ⟨fun i hi => by simp [putS, beq_ne hi], rfl, rfl⟩
theorem putS_WF {st : St} {dst : Option Nat} {gd : Option (Nat × Bool)} {x : SV} (W : WF st) : WF (putS st dst gd x) := by
  cases dst with
  | none => exact W
  | some d =>
    intro i s p y hi
    cases gd with
    | none =>
      simp only [putS] at hi ⊢
      cases hb : Nat.beq i d with
      | true => rw [hb] at hi; simp at hi
      | false => rw [hb] at hi; exact W i s p y hi
    | some q =>
      obtain ⟨s', p'⟩ := q
      simp only [putS] at hi ⊢
      cases hb : Nat.beq i d with
      | true => rw [hb] at hi; simp at hi; simp [hi.1]
      | false => rw [hb] at hi; have := W i s p y hi; cases Nat.beq s s' <;> simp [this]

theorem WF_box {st : St} (W : WF st) (b : List Box) : WF ⟨st.n, st.t, st.g, b⟩ := W

section
variable {P : Program} {cfg : Cfg} {ops : Array Oper} {st st1 : St} {d : Nat}

theorem Agr.chain (A : Agr d st st1) (W : WF st) (hg : st.g d = false) : ∀ (n s : Nat) (p : Bool), s ≠ d → Vc.chain st1 n s p = Vc.chain st n s p
  | 0, _, _, _ => rfl
  | n + 1, s, p, hs => by
    simp only [Vc.chain]
    rw [A.t s hs]
    cases hx : st.t s with
    | s y => rfl
    | gd s' p' y =>
      have : s' ≠ d := by intro e; have := W s s' p' y hx; rw [e, hg] at this; simp at this
      simp only
      rw [A.chain W hg n s' p' this]
theorem Agr.condP (A : Agr d st st1) (W : WF st) (hg : st.g d = false) : ∀ (n s : Nat) (p : Bool), s ≠ d → Vc.condP st1 n s p = Vc.condP st n s p
  | 0, _, _, _ => rfl
  | n + 1, s, p, hs => by
    simp only [Vc.condP]
    rw [A.t s hs]
    cases hx : st.t s with
    | s y =>
      cases y with
      | t z => cases z with
        | one u => cases u with
          | v v => cases v <;> rfl
          | _ => rfl
        | _ => rfl
      | _ => rfl
    | gd s' p' y =>
      have : s' ≠ d := by intro e; have := W s s' p' y hx; rw [e, hg] at this; simp at this
      have ih := A.condP W hg n s' p' this
      cases y with
      | t z => cases z with
        | one u => cases u with
          | v v => cases v <;> simp only [ih]
          | _ => rfl
        | _ => rfl
      | _ => rfl
theorem Agr.okGd (A : Agr d st st1) (W : WF st) (hg : st.g d = false) : ∀ (n s : Nat), s ≠ d → Vc.okGd st1 n s = Vc.okGd st n s
  | 0, _, _ => rfl
  | n + 1, s, hs => by
    simp only [Vc.okGd]
    rw [A.t s hs]
    cases hx : st.t s with
    | s y =>
      cases y with
      | t z => cases z with
        | one u => cases u with
          | v v => cases v <;> rfl
          | _ => rfl
        | _ => rfl
      | _ => rfl
    | gd s' p' y =>
      have : s' ≠ d := by intro e; have := W s s' p' y hx; rw [e, hg] at this; simp at this
      have ih := A.okGd W hg n s' this
      cases y with
      | t z => cases z with
        | one u => cases u with
          | v v => cases v <;> simp only [ih]
          | _ => rfl
        | _ => rfl
      | _ => rfl

/-- The guard of an operation, by slots. -/
def gdO (ops : Array Oper) (o : Oper) : Option (Option (Nat × Bool)) :=
  match o.guard with
  | none => some none
  | some (j, p) => ((ops[j]?).bind (·.dst)).map fun s => some (s, p)
def okG (st : St) : Option (Nat × Bool) → Prop
  | none => True
  | some (s, _) => okGd st 8 s = true
def chG (st : St) : Option (Nat × Bool) → List (Nat × Bool)
  | none => []
  | some (s, p) => chain st 8 s p
def coG (st : St) : Option (Nat × Bool) → Prop
  | none => True
  | some (s, p) => condP st 8 s p
def GG (st : St) : Option (Nat × Bool) → Prop → Prop
  | none, p => p
  | some (s, q), p => condP st 8 s q → p

theorem GG_mono (st : St) (g : Option (Nat × Bool)) (p q : Prop) (h : p → q) : GG st g p → GG st g q := by
  cases g with
  | none => exact h
  | some s => exact fun f c => h (f c)

theorem Agr.okG (A : Agr d st st1) (W : WF st) (hg : st.g d = false) {g : Option (Nat × Bool)} (hs : ∀ s p, g = some (s, p) → s ≠ d) : Vc.okG st1 g = Vc.okG st g := by
  cases g with
  | none => rfl
  | some q => simp only [Vc.okG]; rw [A.okGd W hg 8 q.1 (hs q.1 q.2 rfl)]
theorem Agr.chG (A : Agr d st st1) (W : WF st) (hg : st.g d = false) {g : Option (Nat × Bool)} (hs : ∀ s p, g = some (s, p) → s ≠ d) : Vc.chG st1 g = Vc.chG st g := by
  cases g with
  | none => rfl
  | some q => simp only [Vc.chG]; rw [A.chain W hg 8 q.1 q.2 (hs q.1 q.2 rfl)]
theorem Agr.coG (A : Agr d st st1) (W : WF st) (hg : st.g d = false) {g : Option (Nat × Bool)} (hs : ∀ s p, g = some (s, p) → s ≠ d) : Vc.coG st1 g = Vc.coG st g := by
  cases g with
  | none => rfl
  | some q => simp only [Vc.coG]; rw [A.condP W hg 8 q.1 q.2 (hs q.1 q.2 rfl)]
theorem Agr.GG (A : Agr d st st1) (W : WF st) (hg : st.g d = false) {g : Option (Nat × Bool)} (hs : ∀ s p, g = some (s, p) → s ≠ d) : Vc.GG st1 g = Vc.GG st g := by
  cases g with
  | none => rfl
  | some q => funext p; simp only [Vc.GG]; rw [A.condP W hg 8 q.1 q.2 (hs q.1 q.2 rfl)]

/-- What an operation that does not change the heap gives. -/
def VS (P : Program) (g : Option (Nat × Bool)) (o : Oper) (st : St) (h : Hp) (sv : SV) : Prop := (vcVd P o (chG st g) st).sem P (GG st g) h (fun y => y = sv)

theorem vcOp_V {o : Oper} {h : Hp} {K : St → Hp → Prop} (hE : isE o.op = false) : vcOp P cfg ops o st h K ↔ ∃ g, gdO ops o = some g ∧ okG st g ∧ putC st o.dst g ∧ ∃ sv, VS P g o st h sv ∧ K (putS st o.dst g sv) h := by
  unfold vcOp gdO
  cases hg : o.guard with
  | none =>
    simp only [hE, cond_false, Option.some.injEq, exists_eq_left', okG, true_and]
    constructor
    · intro H
      obtain ⟨sv, h1, h2⟩ := VD.pick (show (vcVd P o [] st).sem P (fun p => p) h _ from H)
      rw [put_iff] at h2
      exact ⟨h2.1, sv, h1, h2.2⟩
    · rintro ⟨h1, sv, h2, h3⟩
      exact VD.mono (fun _ b o hb => hb) (fun p q f => f) (fun x hx => by rw [hx]; exact put_iff.2 ⟨h1, h3⟩) h2
  | some q =>
    obtain ⟨j, p⟩ := q
    simp only
    cases hj : (ops[j]?).bind (·.dst) with
    | none => simp
    | some s =>
      simp only [Option.map_some, Option.some.injEq, exists_eq_left', okG, hE, cond_false]
      cases hok : okGd st 8 s with
      | false => simp
      | true =>
        simp only [cond_true, true_and]
        constructor
        · intro H
          obtain ⟨sv, h1, h2⟩ := VD.pick (show (vcVd P o (chain st 8 s p) st).sem P (fun q => condP st 8 s p → q) h _ from H)
          rw [put_iff] at h2
          exact ⟨h2.1, sv, h1, h2.2⟩
        · rintro ⟨h1, sv, h2, h3⟩
          exact VD.mono (fun _ b o hb => hb) (fun p q f g c => f (g c)) (fun x hx => by rw [hx]; exact put_iff.2 ⟨h1, h3⟩) h2

/-- What an operation that may change the heap asks, its guard apart. -/
theorem vcOp_E {o : Oper} {h : Hp} {K : St → Hp → Prop} (hE : isE o.op = true) : vcOp P cfg ops o st h K ↔ ∃ g, gdO ops o = some g ∧ okG st g ∧
    (coG st g → vcE P cfg o (chG st g) st h fun sv b h' => putC ⟨st.n, st.t, st.g, b⟩ o.dst none ∧ K (putS ⟨st.n, st.t, st.g, b⟩ o.dst none sv) h') ∧
    (¬ coG st g → putC st o.dst none ∧ K (putS st o.dst none (.t (.one (.v undef)))) h) := by
  unfold vcOp gdO
  cases hg : o.guard with
  | none =>
    simp only [hE, cond_true, Option.some.injEq, exists_eq_left', okG, coG, chG, true_and, not_true_eq_false, false_implies, true_implies, and_true, put_iff]
  | some q =>
    obtain ⟨j, p⟩ := q
    simp only
    cases hj : (ops[j]?).bind (·.dst) with
    | none => simp
    | some s =>
      simp only [Option.map_some, Option.some.injEq, exists_eq_left', okG, coG, chG, hE, cond_true]
      cases hok : okGd st 8 s with
      | false => simp
      | true => simp only [cond_true, true_and, put_iff]

/-- The boxes that an operation leaves. -/
def Bx (o : Oper) (b b' : List Box) : Prop := isStore o.op = true ∨ ∀ (i : Nat) (x : Box), b[i]? = some x → b'[i]? = some x
theorem newBox_mono {o : Oper} {st : St} {h : Hp} {ty : TypeId} {cs : List TV} {K K' : SV → List Box → Hp → Prop} (hk : ∀ sv b h', Bx o st.b b → K sv b h' → K' sv b h') (H : newBox cfg o st h ty cs K) : newBox cfg o st h ty cs K' := by
  unfold newBox at *
  rcases Bool.eq_false_or_eq_true (allOneT cs) with h1 | h1
  · rw [h1] at H ⊢
    simp only [cond_true] at *
    rcases Bool.eq_false_or_eq_true (isPub cfg o.dst) with h2 | h2
    · rw [h2] at H ⊢; simp only [cond_true] at *; exact fun b hb => hk _ _ _ (.inr fun i x hx => hx) (H b hb)
    · rw [h2] at H ⊢
      simp only [cond_false] at *
      refine hk _ _ _ (.inr fun i x hx => ?_) H
      rw [List.getElem?_append_left (List.getElem?_eq_some_iff.1 hx).1]
      exact hx
  · rw [h1] at H; exact H.elim
theorem res_mono {s : Sh} {v : Value} {K K' : SV → Prop} (hk : ∀ x, K x → K' x) (H : res s v K) : res s v K' := exS_mono (fun x hx => ⟨hx.1, hk _ hx.2⟩) H

theorem vcE_mono {o : Oper} {st : St} {ch : List (Nat × Bool)} {h : Hp} {K K' : SV → List Box → Hp → Prop} (hk : ∀ sv b h', Bx o st.b b → K sv b h' → K' sv b h') (H : vcE P cfg o ch st h K) : vcE P cfg o ch st h K' := by
  obtain ⟨dst, op, ty, pos, af, gd⟩ := o
  have same : ∀ sv h', K sv st.b h' → K' sv st.b h' := fun sv h' => hk sv st.b h' (.inr fun i x hx => hx)
  have hsem : ∀ m sh, (SemOK P m h fun v h' => res sh v fun x => K x st.b h') → SemOK P m h fun v h' => res sh v fun x => K' x st.b h' := by
    intro m sh H w hs
    obtain ⟨v, w', h', h1, h2, h3, h4⟩ := H w hs
    exact ⟨v, w', h', h1, h2, h3, res_mono (fun x hx => same _ _ hx) h4⟩
  have hcall : ∀ f vs sh, (CallOK P f vs h fun v h' => res sh v fun x => K x st.b h') → CallOK P f vs h fun v h' => res sh v fun x => K' x st.b h' := by
    intro f vs sh H w hs
    exact (H w hs).mono fun e w' ⟨v, h', h1, h2, h3, h4⟩ => ⟨v, h', h1, h2, h3, res_mono (fun x hx => same _ _ hx) h4⟩
  cases op with
  | alloc T =>
    simp only [vcE] at *
    split at H
    · exact newBox_mono hk H
    · exact H.elim
  | box T x =>
    simp only [vcE] at *
    split at H
    · exact newBox_mono hk H
    · exact H.elim
  | buildSlice T n parts =>
    simp only [vcE] at *
    rcases hu : P.underlying T with _ | d'
    · rw [hu] at H; exact H.elim
    · rcases hp : partsL st ch parts.toList with _ | ps
      · rw [hu, hp] at H; cases d' <;> exact H.elim
      · rw [hu, hp] at H
        cases d' with
        | slice e =>
          simp only at *
          rcases hz : zeroL P e with _ | z
          · rw [hz] at H; exact H.elim
          · rw [hz] at H
            simp only at *
            rcases Bool.eq_false_or_eq_true (Nat.ble 1 (szT P e) && Nat.beq z.length (szT P e) && Nat.ble (n * szT P e) 4096) with hc | hc
            · rw [hc] at H ⊢
              simp only [cond_true] at *
              rcases hf : fillL (fun i => some (i * szT P e, szT P e)) ((List.replicate n z).flatten) ps with _ | cs
              · rw [hf] at H; exact H.elim
              · rw [hf] at H
                simp only at *
                rcases Bool.eq_false_or_eq_true (allOneT cs) with ho | ho
                · rw [ho] at H ⊢; exact fun b hb => same _ _ (H b hb)
                · rw [ho] at H; exact H.elim
            · rw [hc] at H; exact H.elim
        | _ => exact H.elim
  | store T x y =>
    simp only [vcE] at *
    split at H
    · rename_i i o' y' e1 e2
      rcases hb : st.b[i]? with _ | bx
      · rw [hb] at H; exact H.elim
      · rw [hb] at H
        simp only at *
        rcases Bool.eq_false_or_eq_true (Nat.ble 1 (szT P T) && Nat.beq y'.cells.length (szT P T) && Nat.ble (o' + y'.cells.length) bx.c.length && allOneT y'.cells) with hc | hc
        · rw [hc] at H ⊢; exact hk _ _ _ (.inl rfl) H
        · rw [hc] at H; exact H.elim
    · rename_i b o' y' e1 e2
      rcases Bool.eq_false_or_eq_true (Nat.ble 1 (szT P T) && Nat.beq y'.cells.length (szT P T) && allOneT y'.cells) with hc | hc
      · rw [hc] at H ⊢
        simp only [cond_true] at *
        obtain ⟨c, e, h1, h2, h3⟩ := H
        exact ⟨c, e, h1, h2, same _ _ h3⟩
      · rw [hc] at H; exact H.elim
    · exact H.elim
  | call c =>
    obtain ⟨callee, args, ts⟩ := c
    cases callee with
    | invoke r m => exact H.elim
    | value f =>
      cases f with
      | func g =>
        simp only [vcE] at *
        split at H
        · split at H
          · exact hcall _ _ _ H
          · intro w hs
            obtain ⟨v, w', h', h1, h2, h3, h4⟩ := H w hs
            exact ⟨v, w', h', h1, h2, h3, res_mono (fun x hx => same _ _ hx) h4⟩
          · exact H.elim
        · exact H.elim
      | tmp t =>
        simp only [vcE] at *
        split at H
        · obtain ⟨f, pre, post, h1, h2, h3⟩ := H
          exact ⟨f, pre, post, h1, h2, hcall _ _ _ h3⟩
        · exact H.elim
      | _ => exact H.elim
    | builtin b =>
      simp only [vcE] at *
      split at H
      · split at H
        · exact hsem _ _ H
        · exact hsem _ _ H
        · exact hsem _ _ H
        · exact hsem _ _ H
        · exact H.elim
      · exact H.elim
  | makeMap T r =>
    cases r with
    | some r => exact H.elim
    | none => exact hsem _ _ H
  | makeSlice T l c =>
    simp only [vcE] at *
    split at H
    · exact hsem _ _ H
    · exact H.elim
  | mapUpdate T m k x =>
    simp only [vcE] at *
    split at H
    · intro w hs
      obtain ⟨w', h', h1, h2, h3, h4⟩ := H w hs
      exact ⟨w', h', h1, h2, h3, same _ _ h4⟩
    · exact H.elim
  | range T x =>
    simp only [vcE] at *
    split at H
    · intro w hs
      obtain ⟨v, w', h', h1, h2, h3, h4⟩ := H w hs
      exact ⟨v, w', h', h1, h2, h3, same _ _ h4⟩
    · exact H.elim
  | next it s =>
    simp only [vcE] at *
    split at H
    · exact hsem _ _ H
    · exact H.elim
  | _ => exact H.elim

/-- The slots that an operation looks at: its guard's, its operands'. -/
theorem opTmps_guard {o : Oper} {g : Option (Nat × Bool)} (hg : gdO ops o = some g) {s : Nat} {p : Bool} (e : g = some (s, p)) : s ∈ opTmps ops o := by
  subst e
  unfold gdO at hg
  unfold opTmps
  cases hq : o.guard with
  | none => rw [hq] at hg; simp at hg
  | some q =>
    rw [hq] at hg
    simp only [Option.map_eq_some_iff] at hg
    obtain ⟨s', hs, rfl, rfl⟩ := hg
    simp [hs]
theorem opTmps_operand {o : Oper} {x : Operand} {t : Nat} (hx : x ∈ o.op.operands.toList) (e : x = .tmp t) : t ∈ opTmps ops o := by
  subst e
  unfold opTmps
  rw [List.mem_append]
  right
  rw [List.mem_filterMap]
  exact ⟨_, hx, rfl⟩

structure Apart (ops : Array Oper) (x y : Oper) : Prop where
  xy : ∀ d, x.dst = some d → d ∉ opTmps ops y
  yx : ∀ d, y.dst = some d → d ∉ opTmps ops x
  ne : ∀ d e, x.dst = some d → y.dst = some e → d ≠ e
theorem apartO_spec {x y : Oper} (h : apartO ops x y = true) : Apart ops x y := by
  simp only [apartO, Bool.and_eq_true] at h
  obtain ⟨⟨h1, h2⟩, h3⟩ := h
  refine ⟨fun d e hm => ?_, fun d e hm => ?_, fun d e hd he => ?_⟩
  · rw [e] at h1; simp only [dstOut] at h1; rw [memN_iff.2 hm] at h1; simp at h1
  · rw [e] at h2; simp only [dstOut] at h2; rw [memN_iff.2 hm] at h2; simp at h2
  · rw [hd, he] at h3
    simp only [dstNe, Bool.not_eq_true'] at h3
    exact Nat.ne_of_beq_eq_false h3

theorem agr_put {st : St} {dst : Option Nat} {g : Option (Nat × Bool)} {x : SV} : dst = none ∧ putS st dst g x = st ∨ ∃ d, dst = some d ∧ Agr d st (putS st dst g x) := by
  cases dst with
  | none => exact .inl ⟨rfl, rfl⟩
  | some d => exact .inr ⟨d, rfl, putS_agr⟩

/-- An operation apart from another one is told the same behind it. -/
theorem VS_put {x y : Oper} (A : Apart ops x y) (W : WF st) {gx gy : Option (Nat × Bool)} (hy : gdO ops y = some gy) (hc : putC st x.dst gx) {v : SV} {h : Hp} :
    (okG (putS st x.dst gx v) gy ↔ okG st gy) ∧ (∀ u, VS P gy y (putS st x.dst gx v) h u ↔ VS P gy y st h u) ∧ (hrV P y (putS st x.dst gx v) (chG (putS st x.dst gx v) gy) = hrV P y st (chG st gy)) ∧ coG (putS st x.dst gx v) gy = coG st gy ∧ chG (putS st x.dst gx v) gy = chG st gy := by
  rcases agr_put (st := st) (dst := x.dst) (g := gx) (x := v) with ⟨_, e⟩ | ⟨d, hd, AG⟩
  · rw [e]; exact ⟨Iff.rfl, fun _ => Iff.rfl, rfl, rfl, rfl⟩
  · have hg := (hc d hd).2.1
    have hs : ∀ s p, gy = some (s, p) → s ≠ d := fun s p e he => A.xy d hd (he ▸ opTmps_guard hy e)
    have ho : ∀ z ∈ y.op.operands.toList, z ≠ .tmp d := fun z hz he => A.xy d hd (opTmps_operand hz he)
    refine ⟨by rw [AG.okG W hg hs], fun u => ?_, ?_, AG.coG W hg hs, AG.chG W hg hs⟩
    · unfold VS; rw [AG.chG W hg hs, AG.vd ho, AG.GG W hg hs]
    · unfold hrV; rw [AG.chG W hg hs, AG.vd ho]

theorem putC_put {x y : Oper} (A : Apart ops x y) {gx gy : Option (Nat × Bool)} (hx : gdO ops x = some gx) (hy : gdO ops y = some gy) {v : SV} (h1 : putC st x.dst gx) : putC (putS st x.dst gx v) y.dst gy ↔ putC st y.dst gy := by
  constructor
  · intro h d hd
    obtain ⟨a, b, c⟩ := h d hd
    cases hxd : x.dst with
    | none => rw [hxd] at a b; exact ⟨a, b, c⟩
    | some e =>
      rw [hxd] at a b
      cases gx with
      | none => exact ⟨a, b, c⟩
      | some q =>
        obtain ⟨s, p⟩ := q
        simp only [putS] at a b
        refine ⟨a, ?_, c⟩
        cases hq : Nat.beq d s with
        | true => rw [hq] at b; simp at b
        | false => rw [hq] at b; exact b
  · intro h d hd
    obtain ⟨a, b, c⟩ := h d hd
    cases hxd : x.dst with
    | none => exact ⟨a, b, c⟩
    | some e =>
      cases gx with
      | none => exact ⟨a, b, c⟩
      | some q =>
        obtain ⟨s, p⟩ := q
        refine ⟨a, ?_, c⟩
        have : d ≠ s := fun he => A.yx d hd (he ▸ opTmps_guard hx rfl)
        simp only [putS, beq_ne this, cond_false]
        exact b

theorem putS_comm {x y : Oper} (A : Apart ops x y) {gx gy : Option (Nat × Bool)} {u v : SV} : putS (putS st x.dst gx u) y.dst gy v = putS (putS st y.dst gy v) x.dst gx u := by
  cases hx : x.dst with
  | none => rfl
  | some d =>
    cases hy : y.dst with
    | none => rfl
    | some e =>
      have hne := A.ne d e hx hy
      have ht : ∀ (a b : Sl) (i : Nat), (bif Nat.beq i e then a else bif Nat.beq i d then b else st.t i) = bif Nat.beq i d then b else bif Nat.beq i e then a else st.t i := by
        intro a b i
        cases h1 : Nat.beq i e with
        | true =>
          have := Nat.eq_of_beq_eq_true h1
          have h2 : Nat.beq i d = false := beq_ne (fun h => hne (h.symm.trans this))
          simp [h2]
        | false => simp
      have hgg : ∀ (s s' k : Nat), (bif Nat.beq k s then true else bif Nat.beq k s' then true else st.g k) = bif Nat.beq k s' then true else bif Nat.beq k s then true else st.g k := by
        intro s s' k
        cases Nat.beq k s <;> cases Nat.beq k s' <;> rfl
      cases gx with
      | none => cases gy with
        | none => simp only [putS]; congr 1; funext i; exact ht _ _ i
        | some q => simp only [putS]; congr 1; funext i; exact ht _ _ i
      | some q => cases gy with
        | none => simp only [putS]; congr 1; funext i; exact ht _ _ i
        | some q' => simp only [putS]; congr 1; · funext i; exact ht _ _ i
                     · funext k; exact hgg _ _ k

theorem hrO_eq {o : Oper} {g : Option (Nat × Bool)} (hg : gdO ops o = some g) (st : St) : hrO P ops o st = hrV P o st (chG st g) := by
  unfold gdO at hg
  unfold hrO
  cases hq : o.guard with
  | none => rw [hq] at hg; simp only [Option.some.injEq] at hg; subst hg; rfl
  | some q =>
    rw [hq] at hg
    simp only [Option.map_eq_some_iff] at hg
    obtain ⟨s, hs, rfl⟩ := hg
    simp only [hs]; rfl

/-- Two operations that do not change the heap go either way. -/
theorem swapVV {j i : Oper} (A : Apart ops j i) (W : WF st) (hj : isE j.op = false) (hi : isE i.op = false) {h : Hp} {F : Bool → St → Prop}
    (H : vcOp P cfg ops j st h fun s _ => vcOp P cfg ops i s h fun s2 _ => F (hrO P ops j st) s2) : vcOp P cfg ops i st h fun s _ => vcOp P cfg ops j s h fun s2 _ => F (hrO P ops j s) s2 := by
  obtain ⟨gj, hgj, okj, pj, svj, vj, H⟩ := (vcOp_V hj).1 H
  obtain ⟨gi, hgi, oki, pi, svi, vi, H⟩ := (vcOp_V hi).1 H
  obtain ⟨e1, e2, _, _, _⟩ := VS_put (P := P) A W hgi pj (v := svj) (h := h)
  have pi' := (putC_put A hgj hgi pj).1 pi
  have A' : Apart ops i j := ⟨A.yx, A.xy, fun d e hd he => (A.ne e d he hd).symm⟩
  obtain ⟨f1, f2, f3, _, _⟩ := VS_put (P := P) A' W hgj pi' (v := svi) (h := h)
  refine (vcOp_V hi).2 ⟨gi, hgi, e1.1 oki, pi', svi, (e2 _).1 vi, ?_⟩
  refine (vcOp_V hj).2 ⟨gj, hgj, f1.2 okj, (putC_put A' hgi hgj pi').2 pj, svj, (f2 _).2 vj, ?_⟩
  rw [putS_comm A', hrO_eq hgj, f3, ← hrO_eq hgj]
  exact H

/-- An operation that has run once sees the same with more boxes and more of a heap, as far as it looks. -/
theorem VS_more {o : Oper} {g : Option (Nat × Bool)} {e : Oper} {h h' : Hp} {u : SV} {n : Nat} {t : Nat → Sl} {gg : Nat → Bool} {b b' : List Box} (hb : Bx e b b') (hs : isStore e.op = true → readsM o.op = false)
    (hh : hrV P o ⟨n, t, gg, b⟩ (chG ⟨n, t, gg, b⟩ g) = true → h.le h') (H : VS P g o ⟨n, t, gg, b⟩ h u) :
    VS P g o ⟨n, t, gg, b'⟩ h' u ∧ hrV P o ⟨n, t, gg, b'⟩ (chG ⟨n, t, gg, b'⟩ g) = hrV P o ⟨n, t, gg, b⟩ (chG ⟨n, t, gg, b⟩ g) := by
  have ec : ∀ (k s : Nat) (p : Bool), chain ⟨n, t, gg, b'⟩ k s p = chain ⟨n, t, gg, b⟩ k s p := by
    intro k
    induction k with
    | zero => intro s p; rfl
    | succ k ih => intro s p; simp only [chain]; cases t s <;> simp [ih]
  have ecG : chG ⟨n, t, gg, b'⟩ g = chG ⟨n, t, gg, b⟩ g := by cases g <;> simp [chG, ec]
  have eco : ∀ (k s : Nat) (p : Bool), condP ⟨n, t, gg, b'⟩ k s p = condP ⟨n, t, gg, b⟩ k s p := by
    intro k
    induction k with
    | zero => intro s p; rfl
    | succ k ih => intro s p; simp only [condP]; split <;> first | rfl | rw [ih]
  have eGG : GG ⟨n, t, gg, b'⟩ g = GG ⟨n, t, gg, b⟩ g := by cases g <;> funext p <;> simp [GG, eco]
  have evd : vcVd P o (chG ⟨n, t, gg, b⟩ g) ⟨n, t, gg, b'⟩ = vcVd P o (chG ⟨n, t, gg, b⟩ g) ⟨n, t, gg, b⟩ := by
    have hev : ∀ ch x, (⟨n, t, gg, b'⟩ : St).ev ch x = (⟨n, t, gg, b⟩ : St).ev ch x := fun ch x => rfl
    have hparts : ∀ ch l, partsL ⟨n, t, gg, b'⟩ ch l = partsL ⟨n, t, gg, b⟩ ch l := by
      intro ch l
      induction l with
      | nil => rfl
      | cons q l ih => obtain ⟨i, x⟩ := q; simp only [partsL, hev, ih]
    have hevs : ∀ ch l, (⟨n, t, gg, b'⟩ : St).evs ch l = (⟨n, t, gg, b⟩ : St).evs ch l := by
      intro ch l
      induction l with
      | nil => rfl
      | cons q l ih => simp only [St.evs, hev, ih]
    obtain ⟨dst, op, ty, pos, af, gd⟩ := o
    cases op with
    | load T x =>
      have hb' : ∀ (i : Nat) (x : Box), b[i]? = some x → b'[i]? = some x := by
        rcases hb with hb | hb
        · have := hs hb; simp [readsM] at this
        · exact hb
      unfold VS at H
      simp only [vcVd] at H ⊢
      rw [hev]
      split
      · rename_i i o' e1
        rw [e1] at H
        simp only at H
        rcases hbi : b[i]? with _ | bx
        · rw [hbi] at H; exact H.elim
        · rw [hb' i bx hbi]
      · rfl
      · rfl
    | build T ps => simp only [vcVd, hparts]
    | call c =>
      obtain ⟨callee, args, ts⟩ := c
      cases callee with
      | builtin bb => cases bb <;> first | rfl | simp only [vcVd, hevs] | simp only [vcVd, hev]
      | _ => rfl
    | _ => rfl
  unfold VS hrV at *
  rw [ecG, eGG, evd]
  exact ⟨VD.mono hh (GG_mono _ g) (fun x hx => hx) H, rfl⟩

theorem okG_box {st : St} {b' : List Box} {g : Option (Nat × Bool)} : okG ⟨st.n, st.t, st.g, b'⟩ g ↔ okG st g := by
  have : ∀ k s, okGd ⟨st.n, st.t, st.g, b'⟩ k s = okGd st k s := by
    intro k
    induction k with
    | zero => intro s; rfl
    | succ k ih => intro s; simp only [okGd]; split <;> simp_all
  cases g <;> simp [okG, this]

/-- An operation that may change the heap goes ahead of one that does not, if that sees the same behind it. -/
theorem swapVE {j e : Oper} (A : Apart ops j e) (W : WF st) (hj : isE j.op = false) (he : isE e.op = true) (hst : isStore e.op = true → readsM j.op = false) {h : Hp} {F : Bool → St → Hp → Prop}
    (H : vcOp P cfg ops j st h fun s _ => vcOp P cfg ops e s h fun s2 h2 => (hrO P ops j st = true → h.le h2) ∧ F (hrO P ops j st) s2 h2) :
    vcOp P cfg ops e st h fun s h2 => vcOp P cfg ops j s h2 fun s2 h3 => F (hrO P ops j s) s2 h3 := by
  obtain ⟨gj, hgj, okj, pj, svj, vj, H⟩ := (vcOp_V hj).1 H
  obtain ⟨ge, hge, oke, H1, H2⟩ := (vcOp_E he).1 H
  obtain ⟨e1, _, _, e4, e5⟩ := VS_put (P := P) A W hge pj (v := svj) (h := h)
  have A' : Apart ops e j := ⟨A.yx, A.xy, fun d e' hd he => (A.ne e' d he hd).symm⟩
  -- the put of e, with no guard
  have hpute : ∀ b, putC ⟨(putS st j.dst gj svj).n, (putS st j.dst gj svj).t, (putS st j.dst gj svj).g, b⟩ e.dst none → putC st e.dst none := by
    intro b hp d hd
    obtain ⟨a1, a2, a3⟩ := hp d hd
    refine ⟨?_, ?_, a3⟩
    · cases hjd : j.dst <;> rw [hjd] at a1 <;> (try cases gj) <;> exact a1
    · cases hjd : j.dst with
      | none => rw [hjd] at a2; exact a2
      | some dj =>
        rw [hjd] at a2
        cases gj with
        | none => exact a2
        | some q =>
          obtain ⟨s, p⟩ := q
          simp only [putS] at a2
          cases hq : Nat.beq d s with
          | true => rw [hq] at a2; simp at a2
          | false => rw [hq] at a2; exact a2
  have hcomm : ∀ b sv, putS (putS ⟨st.n, st.t, st.g, b⟩ e.dst none sv) j.dst gj svj = putS ⟨(putS st j.dst gj svj).n, (putS st j.dst gj svj).t, (putS st j.dst gj svj).g, b⟩ e.dst none sv := by
    intro b sv
    have : (⟨(putS st j.dst gj svj).n, (putS st j.dst gj svj).t, (putS st j.dst gj svj).g, b⟩ : St) = putS ⟨st.n, st.t, st.g, b⟩ j.dst gj svj := by
      cases j.dst with
      | none => rfl
      | some d => cases gj <;> rfl
    rw [this]
    exact putS_comm A'
  -- the other one behind it
  have hbehind : ∀ b h2 sv, Bx e st.b b → putC st e.dst none → (hrO P ops j st = true → h.le h2) → F (hrO P ops j st) (putS ⟨(putS st j.dst gj svj).n, (putS st j.dst gj svj).t, (putS st j.dst gj svj).g, b⟩ e.dst none sv) h2 →
      vcOp P cfg ops j (putS ⟨st.n, st.t, st.g, b⟩ e.dst none sv) h2 fun s2 h3 => F (hrO P ops j (putS ⟨st.n, st.t, st.g, b⟩ e.dst none sv)) s2 h3 := by
    intro b h2 sv hbx hpe hle hF
    have hpe' : putC ⟨st.n, st.t, st.g, b⟩ e.dst none := hpe
    obtain ⟨m1, m2⟩ := VS_more (P := P) (g := gj) (o := j) (n := st.n) (t := st.t) (gg := st.g) (b := st.b) (b' := b) (h := h) (h' := h2) hbx hst (by rw [← hrO_eq hgj] ; exact hle) vj
    -- e's slot is apart from what j looks at
    have key : (okG (putS ⟨st.n, st.t, st.g, b⟩ e.dst none sv) gj ↔ okG ⟨st.n, st.t, st.g, b⟩ gj) ∧ (∀ u, VS P gj j (putS ⟨st.n, st.t, st.g, b⟩ e.dst none sv) h2 u ↔ VS P gj j ⟨st.n, st.t, st.g, b⟩ h2 u) ∧
        hrV P j (putS ⟨st.n, st.t, st.g, b⟩ e.dst none sv) (chG (putS ⟨st.n, st.t, st.g, b⟩ e.dst none sv) gj) = hrV P j ⟨st.n, st.t, st.g, b⟩ (chG ⟨st.n, st.t, st.g, b⟩ gj) := by
      obtain ⟨k1, k2, k3, _, _⟩ := VS_put (P := P) (st := ⟨st.n, st.t, st.g, b⟩) A' W hgj hpe' (v := sv) (h := h2)
      exact ⟨k1, k2, k3⟩
    obtain ⟨k1, k2, k3⟩ := key
    refine (vcOp_V hj).2 ⟨gj, hgj, k1.2 (okG_box.2 okj), ?_, svj, (k2 _).2 m1, ?_⟩
    · intro d hd
      obtain ⟨a1, a2, a3⟩ := pj d hd
      refine ⟨?_, ?_, a3⟩
      · cases hed : e.dst <;> exact a1
      · cases hed : e.dst <;> exact a2
    · rw [hcomm, hrO_eq hgj, k3, m2, ← hrO_eq hgj]
      exact hF
  refine (vcOp_E he).2 ⟨ge, hge, e1.1 oke, fun hc => ?_, fun hc => ?_⟩
  · have := H1 (by rw [e4]; exact hc)
    rw [e5] at this
    have hloc : vcE P cfg e (chG st ge) (putS st j.dst gj svj) h (fun sv b h' => putC ⟨(putS st j.dst gj svj).n, (putS st j.dst gj svj).t, (putS st j.dst gj svj).g, b⟩ e.dst none ∧ ((hrO P ops j st = true → h.le h') ∧ F (hrO P ops j st) (putS ⟨(putS st j.dst gj svj).n, (putS st j.dst gj svj).t, (putS st j.dst gj svj).g, b⟩ e.dst none sv) h')) =
        vcE P cfg e (chG st ge) st h (fun sv b h' => putC ⟨(putS st j.dst gj svj).n, (putS st j.dst gj svj).t, (putS st j.dst gj svj).g, b⟩ e.dst none ∧ ((hrO P ops j st = true → h.le h') ∧ F (hrO P ops j st) (putS ⟨(putS st j.dst gj svj).n, (putS st j.dst gj svj).t, (putS st j.dst gj svj).g, b⟩ e.dst none sv) h')) := by
      rcases agr_put (st := st) (dst := j.dst) (g := gj) (x := svj) with ⟨_, eq⟩ | ⟨d, hd, AG⟩
      · rw [eq]
      · exact AG.vcE (fun z hz hze => A.xy d hd (opTmps_operand hz hze))
    rw [hloc] at this
    refine vcE_mono ?_ this
    rintro sv b h' hbx ⟨q1, q2, q3⟩
    exact ⟨hpute b q1, hbehind b h' sv hbx (hpute b q1) q2 q3⟩
  · obtain ⟨q1, q2, q3⟩ := H2 (by rw [e4]; exact hc)
    have hpe := hpute (putS st j.dst gj svj).b q1
    have hbb : (putS st j.dst gj svj).b = st.b := by cases j.dst with | none => rfl | some d => cases gj <;> rfl
    refine ⟨hpe, hbehind st.b h (.t (.one (.v undef))) (.inr fun i x hx => hx) hpe q2 ?_⟩
    have : (⟨(putS st j.dst gj svj).n, (putS st j.dst gj svj).t, (putS st j.dst gj svj).g, st.b⟩ : St) = putS st j.dst gj svj := by rw [← hbb]
    rw [this]
    exact q3
end
end Go.Vc
