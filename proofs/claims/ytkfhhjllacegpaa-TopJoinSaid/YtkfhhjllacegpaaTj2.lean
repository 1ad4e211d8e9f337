/-
  Laws and contracts on which the statement's proof stands, part 2. Conditions: those stated at each.
-/
import Derived.Laws.OwnMore
import Derived.RowKit3
import Derived.OpenShut
import Derived.ChangeSame
import Derived.ProofKit
import Derived.JoinedCond
import Derived.Test.YtkfhhjllacegpaaProg
import Derived.Laws.StructEq
import Derived.Laws.Slices
import Derived.Laws.Externs
import Derived.Laws.Strings2
import Derived.Laws.CopyRow
import Derived.Laws.IdiomStrings
import Derived.Laws.Shifts
import Derived.Laws.MathBits
import Derived.Laws.Cover3
import Derived.WalkSmall
import Derived.Test.YtkfhhjllacegpaaTj1
/-
  The framework of this prover's proofs, part H: code and functions. Conditions: none.
-/
set_option linter.unusedVariables false
namespace Go.Vc
open Go

section
variable {P : Program} {cfg : Cfg} {w0 : World} {h0 : Hp}

theorem dsts_sub {o : Oper} {l : List Oper} {i : Nat} (hi : i ∈ dstL o.dst) : i ∈ dstsL (o :: l) := by
  simp only [dstsL]
  cases hd : o.dst with
  | none => rw [hd] at hi; simp [dstL] at hi
  | some d => rw [hd] at hi; simp [dstL] at hi; simp [hi]
theorem dsts_tail {o : Oper} {l : List Oper} {i : Nat} (hi : i ∈ dstsL l) : i ∈ dstsL (o :: l) := by
  simp only [dstsL]
  cases o.dst <;> simp [hi]

theorem vcOps_ok (hP : NoNG P) {ops : Array Oper} {Q : Exit → Act → World → Prop} : ∀ (l : List Oper) {st : St} {h : Hp} {a : Act} {w : World} {K : St → Hp → Prop}, Rel w0 h0 st h a w → vcOps P cfg ops l st h K →
    (∀ st' h' a' w', K st' h' → Rel w0 h0 st' h' a' w' → Ev (dstsL l) st st' → Q .normal a' w') → wpList P ops Q l a w
  | [], st, h, a, w, K, R, H, hn => hn st h a w H R (Ev.refl _ _)
  | o :: l, st, h, a, w, K, R, H, hn => by
    refine vcOp_ok hP R (show vcOp P cfg ops o st h _ from H) ?_
    intro st' h' a' w' hk R' E'
    refine vcOps_ok hP l R' hk ?_
    intro st2 h2 a2 w2 hk2 R2 E2
    exact hn st2 h2 a2 w2 hk2 R2 ((E'.mono fun i hi => dsts_sub hi).trans (E2.mono fun i hi => dsts_tail hi))

theorem noGd {ρ : Nat → Option Nat} {st : St} {h : Hp} {a : Act} {w : World} (R : RelR ρ w0 h0 st h a w) (hg : st.g = (fun _ => false)) (i s : Nat) (p : Bool) (x : SV) : st.t i ≠ .gd s p x := by
  intro e
  have := R.gd i s p x e
  rw [hg] at this
  simp at this

theorem endR_ok {st0 st : St} {h : Hp} {a : Act} {w : World} {D : List Nat} (R0 : ∀ i s p x, st0.t i ≠ .gd s p x) (R : Rel w0 h0 st h a w) (E : Ev D st0 st) : Rel w0 h0 (endR D st) h a w ∧ (endR D st).g = (fun _ => false) ∧ Ev D st0 (endR D st) := by
  obtain ⟨ρ, R⟩ := R
  have hno : ∀ i s p x, (endR D st).t i ≠ .gd s p x := by
    intro i s p x e
    simp only [endR] at e
    split at e
    · simp at e
    · rename_i s' p' x' hi
      cases hm : memN i D with
      | true => rw [hm] at e; simp at e
      | false =>
        have : i ∉ D := by intro hd; rw [memN_iff.2 hd] at hm; simp at hm
        rw [E.t i this] at hi
        exact R0 i _ _ _ hi
  refine ⟨⟨ρ, R.n, R.d, fun i => ?_, fun i s p x e => (hno i s p x e).elim, R.sub, R.F, R.box, R.dom, R.inj⟩, rfl, E.n, fun i hi => ?_, E.b⟩
  · have hr := R.fr i
    simp only [endR]
    split
    · rename_i x hx; rw [hx] at hr; exact hr
    · rename_i s p x hx
      cases hm : memN i D with
      | true => exact trivial
      | false =>
        have : i ∉ D := by intro hd; rw [memN_iff.2 hd] at hm; simp at hm
        rw [E.t i this] at hx
        exact (R0 i _ _ _ hx).elim
  · have e := E.t i hi
    simp only [endR]
    split
    · rename_i x hx; rw [← e, hx]
    · rename_i s p x hx; rw [e] at hx; exact (R0 i _ _ _ hx).elim

def toEx : Exit → Option Ex
  | .normal => some .nrm
  | .exit id => some (.ext id)
  | .ret => some .ret
  | _ => none

/-- What the wp of a piece of code is to end in. -/
def Post (w0 : World) (h0 : Hp) (D : List Nat) (st : St) (Q : Ex → St → Hp → Prop) (e : Exit) (a : Act) (w : World) : Prop :=
  ∃ x st' h', toEx e = some x ∧ Q x st' h' ∧ Rel w0 h0 st' h' a w ∧ st'.g = (fun _ => false) ∧ Ev D st st'

theorem wp_loop_n {c : Code} {Q : Exit → Act → World → Prop} {a : Act} {w : World} (I : Nat → Act → World → Prop) (n : Nat) (h1 : I n a w)
    (round : ∀ n a w, I n a w → c.wp P (Exit.then (fun a' w' => ∃ m, m < n ∧ I m a' w') Q) a w) : (Code.loop c).wp P Q a w := by
  intro b k cs
  have key : ∀ n a w, I n a w → ∃ e a' w', Q e a' w' ∧ Arrives P (lone (b.at a (.code c :: .inLoop c :: k)) cs w) b k cs e a' w' := by
    intro n
    induction n using Nat.strongRecOn with
    | _ n ih =>
      intro a w hI
      obtain ⟨e, a₁, w₁, hq, harr⟩ := round n a w hI b (.inLoop c :: k) cs
      cases e with
      | normal =>
        obtain ⟨m, hlt, hI₁⟩ := hq
        obtain ⟨e₂, a₂, w₂, hq₂, harr₂⟩ := ih m hlt a₁ w₁ hI₁
        exact ⟨e₂, a₂, w₂, hq₂, .of_steps (Steps.trans harr (.one step_inLoop)) harr₂⟩
      | exit id => exact ⟨_, a₁, w₁, hq, .pass (x := .inLoop c) rfl (fun _ _ => .inl (by simp)) harr⟩
      | goto l => exact ⟨_, a₁, w₁, hq, .pass (x := .inLoop c) rfl (fun _ _ => .inl (by simp)) harr⟩
      | ret => exact ⟨_, a₁, w₁, hq, .pass (x := .inLoop c) rfl (fun _ _ => .inl (by simp)) harr⟩
      | panic ch => exact ⟨_, a₁, w₁, hq, .pass (x := .inLoop c) rfl (fun _ _ => .inl (by simp)) harr⟩
      | outgrown => exact ⟨_, a₁, w₁, hq, .pass (x := .inLoop c) rfl (fun _ _ => .inl (by simp)) harr⟩
  obtain ⟨e, a', w', hq, harr⟩ := key n a w h1
  exact ⟨e, a', w', hq, .of_steps (.one step_loop) harr⟩

theorem twals_length (l : List TW) : (twals l).length = l.length := by induction l <;> simp_all [twals]

theorem slotVals_len {st : St} : ∀ {l : List Nat} {vs : List Value}, slotVals st l = some vs → vs.length = l.length
  | [], vs, H => by simp [slotVals] at H; simp [← H]
  | s :: l, vs, H => by
    simp only [slotVals] at H
    split at H
    · rename_i x vs' hx hl
      simp only [Option.some.injEq] at H
      subst H
      simp [slotVals_len hl]
    · simp at H

theorem setSlots_ok {ρ : Nat → Option Nat} {tm : Array Value} {st : St} (hst : ∀ i x, st.t i = .s (.t x) → tm.getD i undef = x.val) : ∀ (slots : List Nat) (xs : List TW) (t : Nat → Sl),
    (∀ i, (t i).ok ρ tm (tm.getD i undef)) → slotVals st slots = some (twals xs) → ∀ i, (setSlots t slots xs i).ok ρ tm (tm.getD i undef)
  | [], xs, t, ht, _ => by intro i; simpa [setSlots] using ht i
  | s :: l, [], t, ht, H => by intro i; simpa [setSlots] using ht i
  | s :: l, x :: xs, t, ht, H => by
    simp only [slotVals] at H
    split at H
    · rename_i y vs' hy hl
      simp only [Option.some.injEq, twals, List.cons.injEq] at H
      refine setSlots_ok hst l xs _ ?_ (by rw [hl, H.2])
      intro i
      cases hb : Nat.beq i s with
      | true =>
        have := Nat.eq_of_beq_eq_true hb
        subst this
        have e := hst i y hy
        simp only [cond_true, Sl.ok, SV.ok]
        rw [e, H.1]
      | false => exact ht i
    · simp at H

theorem setSlots_other : ∀ (slots : List Nat) (xs : List TW) (t : Nat → Sl) (i : Nat), i ∉ slots → setSlots t slots xs i = t i
  | [], xs, t, i, _ => by simp [setSlots]
  | s :: l, [], t, i, _ => by simp [setSlots]
  | s :: l, x :: xs, t, i, hi => by
    simp only [List.mem_cons, not_or] at hi
    simp only [setSlots]
    rw [setSlots_other l xs _ i hi.2]
    have : Nat.beq i s = false := by cases hq : Nat.beq i s <;> simp_all
    simp [this]
theorem setSlots_nogd : ∀ (slots : List Nat) (xs : List TW) (t : Nat → Sl), (∀ i s p x, t i ≠ .gd s p x) → ∀ i s p x, setSlots t slots xs i ≠ .gd s p x
  | [], xs, t, ht => by simpa [setSlots] using ht
  | s :: l, [], t, ht => by simpa [setSlots] using ht
  | s :: l, x :: xs, t, ht => by
    simp only [setSlots]
    refine setSlots_nogd l xs _ ?_
    intro i s' p y
    cases hb : Nat.beq i s with
    | true => simp
    | false => exact ht i s' p y

theorem subN_spec {l d : List Nat} (H : subN l d = true) : ∀ i, i ∈ l → i ∈ d := by
  induction l with
  | nil => simp
  | cons x l ih =>
    simp only [subN, Bool.and_eq_true] at H
    intro i hi
    rcases List.mem_cons.1 hi with rfl | hi
    · exact memN_iff.1 H.1
    · exact ih H.2 i hi

theorem setBoxes_spec : ∀ (bxs : List (Nat × List Sh1)) (ys : List (List TV)) (b : List Box) (j : Nat), (setBoxes b bxs ys)[j]? = b[j]? ∨ (∃ x y, b[j]? = some x ∧ (setBoxes b bxs ys)[j]? = some y ∧ y.ty = x.ty ∧ x.st < y.st ∧ (lookN j bxs).isSome = true)
  | [], ys, b, j => by left; simp [setBoxes]
  | (i, s) :: l, [], b, j => by left; simp [setBoxes]
  | (i, s) :: l, y :: ys, b, j => by
    simp only [setBoxes]
    cases hb : b[i]? with
    | none =>
      simp only
      rcases setBoxes_spec l ys b j with h | ⟨u, v, h1, h2, h3, h4, h5⟩
      · exact .inl h
      · refine .inr ⟨u, v, h1, h2, h3, h4, ?_⟩
        simp only [lookN]
        cases hq : Nat.beq j i <;> simp [h5]
    | some bx =>
      simp only
      rcases setBoxes_spec l ys (setAt b i ⟨bx.ty, y, bx.st + 1⟩) j with h | ⟨u, v, h1, h2, h3, h4, h5⟩
      · rw [setAt_get] at h
        split at h
        · rename_i e
          obtain ⟨rfl, _⟩ := e
          right
          refine ⟨bx, _, (by first | exact hb | rfl), h, rfl, by simp, ?_⟩
          simp [lookN]
        · exact .inl h
      · rw [setAt_get] at h1
        split at h1
        · rename_i e
          obtain ⟨rfl, _⟩ := e
          simp only [Option.some.injEq] at h1
          subst h1
          refine .inr ⟨bx, v, (by first | exact hb | rfl), h2, h3, by simp at h4; omega, by simp [lookN]⟩
        · refine .inr ⟨u, v, h1, h2, h3, h4, ?_⟩
          simp only [lookN]
          cases hq : Nat.beq j i <;> simp [h5]

theorem setBoxes_len : ∀ (bxs : List (Nat × List Sh1)) (ys : List (List TV)) (b : List Box), (setBoxes b bxs ys).length = b.length
  | [], ys, b => by simp [setBoxes]
  | (i, s) :: l, [], b => by simp [setBoxes]
  | (i, s) :: l, y :: ys, b => by
    simp only [setBoxes]
    cases hb : b[i]? with
    | none => simp only; exact setBoxes_len l ys b
    | some bx => simp only; rw [setBoxes_len l ys _, setAt_length]

theorem exLL_elim : ∀ {l : List (Nat × List Sh1)} {K : List (List TV) → Prop}, exLL l K → ∃ ys, K ys ∧ ys.length = l.length ∧ ∀ (k : Nat) (q : Nat × List Sh1) (y : List TV), l[k]? = some q → ys[k]? = some y → y.length = q.2.length
  | [], K, H => ⟨[], H, rfl, by simp⟩
  | (i, s) :: l, K, H => by
    obtain ⟨x, H, hx⟩ := exL_elim (show exL s _ from H)
    obtain ⟨xs, H, e, hl⟩ := exLL_elim H
    refine ⟨x :: xs, H, by simp [e], fun k q y h1 h2 => ?_⟩
    cases k with
    | zero => simp at h1 h2; subst h1; subst h2; exact hx
    | succ k => exact hl k q y (by simpa using h1) (by simpa using h2)
theorem ex0L_elim' : ∀ {l : List Sh0} {K : List TW → Prop}, ex0L l K → ∃ x, K x ∧ x.length = l.length
  | [], K, H => ⟨[], H, rfl⟩
  | s :: l, K, H => by
    obtain ⟨x, H⟩ := ex0_elim (show ex0 s _ from H)
    obtain ⟨xs, H, e⟩ := ex0L_elim' H
    exact ⟨x :: xs, H, by simp [e]⟩

/-- A loop's head: from a frame that fits, whose slots and boxes hold what goes round. -/
theorem loopSt_rel {st st' : St} {h : Hp} {a : Act} {w : World} {D slots : List Nat} {bxs : List (Nat × List Sh1)} {xs : List TW} {ys : List (List TV)}
    (hg0 : ∀ i s p x, st.t i ≠ .gd s p x) (hbnd : ∀ i j o, i ∉ D → st.t i = .s (.bp j o) → j < st.b.length) (hsub : ∀ i, i ∈ slots → i ∈ D)
    (R : Rel w0 h0 st' h a w) (hg' : st'.g = (fun _ => false)) (hn : st'.n = st.n) (ht : ∀ i, i ∉ D → st'.t i = st.t i)
    (hlb : st.b.length ≤ st'.b.length) (hty : ∀ (j : Nat) (x y : Box), st.b[j]? = some x → st'.b[j]? = some y → y.ty = x.ty)
    (hsame : ∀ (j : Nat) (x y : Box), (lookN j bxs).isSome = false → st.b[j]? = some x → st'.b[j]? = some y → tvals y.c = tvals x.c)
    (hbi : ∀ (k : Nat) (q : Nat × List Sh1), bxs[k]? = some q → q.1 < st.b.length)
    (hv : loopVals st' slots bxs = some (twals xs ++ tvalsL ys)) (hxl : xs.length = slots.length) (hyl : ys.length = bxs.length)
    (hylen : ∀ (k : Nat) (q : Nat × List Sh1) (y : List TV) (x : Box), bxs[k]? = some q → ys[k]? = some y → st'.b[q.1]? = some x → y.length = x.c.length)
    (hg : st.g = (fun _ => false)) : Rel w0 h0 (loopSt st D slots bxs xs ys) h a w := by
  obtain ⟨ρ, R⟩ := R
  have hsv : slotVals st' slots = some (twals xs) ∧ boxVals st' bxs = some (tvalsL ys) := by
    unfold loopVals at hv
    split at hv
    · rename_i u v hu hv'
      simp only [Option.some.injEq] at hv
      have hl := slotVals_len hu
      obtain ⟨e1, e2⟩ := List.append_inj hv (by rw [hl, twals_length, hxl])
      exact ⟨by rw [hu, e1], by rw [hv', e2]⟩
    · simp at hv
  -- the boxes of the head against the frame's
  have key : ∀ (j : Nat) (x y : Box), (setBoxes st.b bxs ys)[j]? = some x → st'.b[j]? = some y → tvals x.c = tvals y.c ∧ x.ty = y.ty := by
    have : ∀ (l : List (Nat × List Sh1)) (zs : List (List TV)) (b : List Box), boxVals st' l = some (tvalsL zs) → zs.length = l.length →
        (∀ (k : Nat) (q : Nat × List Sh1) (y : List TV) (x : Box), l[k]? = some q → zs[k]? = some y → st'.b[q.1]? = some x → y.length = x.c.length) →
        (∀ (k : Nat) (q : Nat × List Sh1), l[k]? = some q → q.1 < b.length) →
        (∀ (j : Nat) (x y : Box), b[j]? = some x → st'.b[j]? = some y → (tvals x.c = tvals y.c ∨ (lookN j l).isSome = true) ∧ x.ty = y.ty) →
        ∀ (j : Nat) (x y : Box), (setBoxes b l zs)[j]? = some x → st'.b[j]? = some y → tvals x.c = tvals y.c ∧ x.ty = y.ty := by
      intro l
      induction l with
      | nil => intro zs b _ _ _ _ hb j x y hx hy; obtain ⟨h1, h2⟩ := hb j x y (by simpa [setBoxes] using hx) hy; exact ⟨h1.resolve_right (by simp [lookN]), h2⟩
      | cons q l ih =>
        obtain ⟨i, s⟩ := q
        intro zs b H hl hlen hbi hb
        cases zs with
        | nil => simp at hl
        | cons z zs =>
          simp only [boxVals] at H
          split at H
          · rename_i bx vs hbx hvs
            simp only [Option.some.injEq, tvalsL] at H
            have hylen := hlen 0 (i, s) z bx rfl rfl hbx
            have hsp := List.append_inj H (by simp [tvals_length, hylen])
            have hib : i < b.length := hbi 0 (i, s) rfl
            obtain ⟨b0, hb0⟩ : ∃ b0, b[i]? = some b0 := ⟨b[i], by simp [hib]⟩
            simp only [setBoxes, hb0]
            refine ih zs _ (by rw [hvs, hsp.2]) (by simpa using hl) (fun k q y' x h1 h2 h3 => hlen (k + 1) q y' x (by simpa using h1) (by simpa using h2) h3)
              (fun k q hq => by rw [setAt_length]; exact hbi (k + 1) q (by simpa using hq)) ?_
            intro j x y hx hy
            rw [setAt_get] at hx
            split at hx
            · rename_i e
              obtain ⟨rfl, _⟩ := e
              rw [hbx] at hy
              obtain rfl := Option.some.inj hy
              simp only [Option.some.injEq] at hx
              subst hx
              exact ⟨.inl hsp.1.symm, (hb j b0 bx hb0 hbx).2⟩
            · rename_i e
              obtain ⟨h1, h2⟩ := hb j x y hx hy
              refine ⟨?_, h2⟩
              rcases h1 with h1 | h1
              · exact .inl h1
              · simp only [lookN] at h1
                cases hq : Nat.beq j i with
                | true =>
                  have := Nat.eq_of_beq_eq_true hq
                  subst this
                  exact (e ⟨rfl, hib⟩).elim
                | false => rw [hq] at h1; exact .inr h1
          · simp at H
    refine this bxs ys st.b hsv.2 hyl hylen hbi ?_
    intro j x y hx hy
    refine ⟨?_, (hty j x y hx hy).symm⟩
    cases hq : (lookN j bxs).isSome with
    | true => exact .inr rfl
    | false => exact .inl (hsame j x y hq hx hy).symm
  refine ⟨fun i => if i < st.b.length then ρ i else none, ?_, R.d, ?_, ?_, R.sub, R.F, ?_, ?_, ?_⟩
  · rw [R.n, hn]; rfl
  · have hst : ∀ i x, st'.t i = .s (.t x) → a.tmps.getD i undef = x.val := by
      intro i x hx
      have := R.fr i
      rw [hx] at this
      exact this
    refine setSlots_ok (st := st') hst slots xs _ ?_ hsv.1
    intro i
    cases hm : memN i D with
    | true => exact trivial
    | false =>
      have hi : i ∉ D := by intro hd; rw [memN_iff.2 hd] at hm; simp at hm
      have hr := R.fr i
      rw [ht i hi] at hr
      simp only [cond_false]
      cases hs : st.t i with
      | gd s p x => exact (hg0 i s p x hs).elim
      | s x =>
        rw [hs] at hr
        cases x with
        | bp j o =>
          obtain ⟨b, h1, h2⟩ := hr
          exact ⟨b, by simp [hbnd i j o hi hs, h1], h2⟩
        | _ => exact hr
  · intro i s p x e
    refine (setSlots_nogd slots xs _ ?_ i s p x e).elim
    intro i s p x
    cases hm : memN i D with
    | true => simp
    | false => exact hg0 i s p x
  · intro i bx hbx
    have hil : i < st.b.length := by
      have := (List.getElem?_eq_some_iff.1 hbx).1
      simpa [loopSt, setBoxes_len] using this
    obtain ⟨by', hby⟩ : ∃ y, st'.b[i]? = some y := ⟨st'.b[i]'(by omega), by simp [show i < st'.b.length by omega]⟩
    obtain ⟨b, h1, h2, h3, h4⟩ := R.box i by' hby
    obtain ⟨k1, k2⟩ := key i bx by' hbx hby
    exact ⟨b, by simp [hil, h1], by rw [k1, k2]; exact h2, h3, h4⟩
  · intro i b hi
    split at hi
    · rename_i hl; simpa [loopSt, setBoxes_len] using hl
    · simp at hi
  · intro i j b hi hj
    split at hi
    · split at hj
      · exact R.inj i j b hi hj
      · simp at hj
    · simp at hi

theorem sameB_spec : ∀ (l m : List Box) (bxs : List (Nat × List Sh1)) (k : Nat), sameB k l m bxs = true → l.length ≤ m.length ∧ ∀ (j : Nat) (x y : Box), (lookN (k + j) bxs).isSome = false → l[j]? = some x → m[j]? = some y → x.st = y.st
  | [], m, bxs, k, _ => ⟨by simp, by simp⟩
  | x :: l, [], bxs, k, H => by simp [sameB] at H
  | x :: l, y :: m, bxs, k, H => by
    simp only [sameB, Bool.and_eq_true, Bool.or_eq_true] at H
    obtain ⟨h1, h2⟩ := sameB_spec l m bxs (k + 1) H.2
    refine ⟨by simp; exact h1, fun j u v hj hu hv => ?_⟩
    cases j with
    | zero =>
      simp at hu hv hj
      subst hu; subst hv
      rcases H.1 with h | h
      · rw [hj] at h; simp at h
      · exact Nat.eq_of_beq_eq_true h
    | succ j => exact h2 j u v (by rw [show k + 1 + j = k + (j + 1) by omega]; exact hj) (by simpa using hu) (by simpa using hv)

theorem chkLens_spec {st : St} : ∀ {l : List (Nat × List Sh1)}, chkLens st l = true → ∀ (k : Nat) (q : Nat × List Sh1), l[k]? = some q → ∃ bx, st.b[q.1]? = some bx ∧ bx.c.length = q.2.length
  | [], _, k, q, hq => by simp at hq
  | (i, s) :: l, H, k, q, hq => by
    simp only [chkLens, Bool.and_eq_true] at H
    cases k with
    | zero =>
      simp at hq
      subst hq
      cases hb : st.b[i]? with
      | none => rw [hb] at H; simp at H
      | some bx => rw [hb] at H; exact ⟨bx, rfl, Nat.eq_of_beq_eq_true H.1⟩
    | succ k => exact chkLens_spec H.2 k q (by simpa using hq)

theorem boxMono_len {b b' : List Box} (H : BoxMono b b') : b.length ≤ b'.length := by
  rcases Nat.lt_or_ge b'.length b.length with h | h
  · obtain ⟨x, hx⟩ : ∃ x, b[b'.length]? = some x := ⟨b[b'.length], by simp [h]⟩
    obtain ⟨y, hy, _⟩ := H _ _ hx
    have := (List.getElem?_eq_some_iff.1 hy).1
    omega
  · exact h

theorem loopSt_ev {st : St} {D slots : List Nat} {bxs : List (Nat × List Sh1)} {xs : List TW} {ys : List (List TV)} (hsub : ∀ i, i ∈ slots → i ∈ D) : Ev D st (loopSt st D slots bxs xs ys) := by
  refine ⟨rfl, fun i hi => ?_, ?_⟩
  · simp only [loopSt]
    rw [setSlots_other _ _ _ _ (fun h => hi (hsub i h))]
    have : memN i D = false := by cases hm : memN i D with | true => exact (hi (memN_iff.1 hm)).elim | false => rfl
    simp [this]
  · intro i x hx
    rcases setBoxes_spec bxs ys st.b i with h | ⟨u, v, h1, h2, h3, h4, h5⟩
    · exact ⟨x, by simp only [loopSt]; rw [h, hx], rfl, Nat.le_refl _, fun _ => rfl⟩
    · rw [hx] at h1
      obtain rfl := Option.some.inj h1
      exact ⟨v, h2, h3, by omega, fun e => by omega⟩

/-- An operation in a round is what it is outside of it. -/
theorem opwp_in {l n : Nat} {o : Oper} {a : Act} {w : World} {N : Act → World → Prop} {Q : Exit → Act → World → Prop} (hnd : ∀ c, o.op ≠ .defer c) (H : o.wp P a w N (fun _ _ _ => False)) : o.wpIn (Fence.wide.inRound l) n P a w N Q := by
  unfold Oper.wp at H
  refine ⟨fun _ _ => trivial, ?_⟩
  rw [Oper.semAt_eq _ _ _ hnd]
  cases hr : (execOp a.eval o).run P w with
  | ok v w' =>
    rw [hr] at H
    cases v with
    | value v => exact H
    | skip => exact H
    | defer d => exact H
    | enter f args =>
      refine ⟨fun h => (by cases h), CallsIn.inRound l ((callsIn_wide.2 H).mono ?_)⟩
      intro e w' he
      cases e with
      | returned v => exact he
      | panicked ch => exact he.elim
      | outgrown => obtain ⟨_, _, h⟩ := he; exact h.elim
    | row r args =>
      refine ⟨fun h => (by cases h), fun c cs _ => ?_⟩
      obtain ⟨v, w2, h1, h2⟩ := H c cs
      exact ⟨v, w2, h1, stepsIn_wide.2 h2⟩
    | _ => exact H.elim
  | halt q w' =>
    rw [hr] at H
    cases q with
    | panic v => exact H.elim
    | _ => exact H.elim
theorem vcOps_in (hP : NoNG P) {l0 n : Nat} {ops : Array Oper} {Q : Exit → Act → World → Prop} : ∀ (l : List Oper), flatO l = true → ∀ {st : St} {h : Hp} {a : Act} {w : World} {K : St → Hp → Prop}, Rel w0 h0 st h a w → vcOps P cfg ops l st h K →
    (∀ st' h' a' w', K st' h' → Rel w0 h0 st' h' a' w' → Ev (dstsL l) st st' → Q .normal a' w') → wpListIn (Fence.wide.inRound l0) n P ops Q l a w
  | [], _, st, h, a, w, K, R, H, hn => hn st h a w H R (Ev.refl _ _)
  | o :: l, hf, st, h, a, w, K, R, H, hn => by
    simp only [flatO, Bool.and_eq_true] at hf
    have hnd : ∀ c, o.op ≠ .defer c := by
      intro c e
      rw [e] at hf
      cases hf.1
    have key := vcOp_gen (Q := fun _ _ _ => False) hP R (show vcOp P cfg ops o st h _ from H) (N := wpListIn (Fence.wide.inRound l0) n P ops Q l) ?_
    · unfold wpListIn
      split
      · rename_i hw
        rw [if_pos hw] at key
        rcases key with h1 | ⟨_, _, _, h1⟩
        · exact opwp_in hnd h1
        · exact h1.elim
      · rename_i hw
        rw [if_neg hw] at key
        exact ⟨fun _ _ => trivial, key⟩
    · intro st' h' a' w' hk R' E'
      refine vcOps_in hP l hf.2 R' hk ?_
      intro st2 h2 a2 w2 hk2 R2 E2
      exact hn st2 h2 a2 w2 hk2 R2 ((E'.mono fun i hi => dsts_sub hi).trans (E2.mono fun i hi => dsts_tail hi))
theorem vcC_in (hP : NoNG P) {l0 n : Nat} : ∀ (c : Code), flatC c = true → ∀ {st : St} {h : Hp} {a : Act} {w : World} {Q : Ex → St → Hp → Prop}, vcC P cfg c st h Q → st.g = (fun _ => false) → Rel w0 h0 st h a w → c.wpIn (Fence.wide.inRound l0) n P (Post w0 h0 (dstsC c) st Q) a w := by
  intro c
  induction c with
  | skip => intro _ st h a w Q H hg R; exact wpIn_skip ⟨.nrm, st, h, rfl, H, R, hg, Ev.refl _ _⟩
  | region id ops draw =>
    intro hf st h a w Q H hg R
    simp only [flatC, Bool.and_eq_true, Bool.not_eq_true'] at hf
    obtain ⟨hd, hf⟩ := hf
    subst hd
    simp only [vcC, cond_false] at H
    refine wpIn_region_list (vcOps_in hP ops.toList hf R H ?_)
    intro st' h' a' w' hk R' E'
    obtain ⟨ρ, R0⟩ := R
    obtain ⟨k1, k2, k3⟩ := endR_ok (noGd R0 hg) R' E'
    exact ⟨.nrm, _, h', rfl, hk, k1, k2, k3⟩
  | seq x y ihx ihy =>
    intro hf st h a w Q H hg R
    simp only [flatC, Bool.and_eq_true] at hf
    refine wpIn_seq (wpIn_mono (ihx hf.1 H hg R) ?_)
    rintro e a' w' ⟨ex, st', h', he, hq, R', hg', E'⟩
    have hD : ∀ i, i ∈ dstsC x → i ∈ dstsC (.seq x y) := fun i hi => by simp [dstsC, hi]
    have hD' : ∀ i, i ∈ dstsC y → i ∈ dstsC (.seq x y) := fun i hi => by simp [dstsC, hi]
    cases e with
    | normal =>
      simp only [toEx, Option.some.injEq] at he
      subst he
      refine wpIn_mono (ihy hf.2 hq hg' R') ?_
      rintro e a2 w2 ⟨ex, st2, h2, he, hq, R2, hg2, E2⟩
      exact ⟨ex, st2, h2, he, hq, R2, hg2, (E'.mono hD).trans (E2.mono hD')⟩
    | exit id => simp only [toEx, Option.some.injEq] at he; subst he; exact ⟨_, st', h', rfl, hq, R', hg', E'.mono hD⟩
    | ret => simp only [toEx, Option.some.injEq] at he; subst he; exact ⟨_, st', h', rfl, hq, R', hg', E'.mono hD⟩
    | goto l => simp [toEx] at he
    | panic ch => simp [toEx] at he
    | outgrown => simp [toEx] at he
  | cond c x y ihx ihy =>
    intro hf st h a w Q H hg R
    simp only [flatC, Bool.and_eq_true] at hf
    simp only [vcC] at H
    split at H
    · rename_i t ht
      obtain ⟨ρ, R0⟩ := R
      have hc : a.eval c = .bool t := sv_cases_t ht (ev_ok R0 (fun _ _ hm => by simp at hm) c)
      refine wpIn_cond_split hc (fun e => ?_) (fun e => ?_)
      · refine wpIn_mono (ihx hf.1 (H.1 e) hg ⟨ρ, R0⟩) ?_
        rintro e a2 w2 ⟨ex, st2, h2, he, hq, R2, hg2, E2⟩
        exact ⟨ex, st2, h2, he, hq, R2, hg2, E2.mono fun i hi => by simp [dstsC, hi]⟩
      · refine wpIn_mono (ihy hf.2 (H.2 e) hg ⟨ρ, R0⟩) ?_
        rintro e a2 w2 ⟨ex, st2, h2, he, hq, R2, hg2, E2⟩
        exact ⟨ex, st2, h2, he, hq, R2, hg2, E2.mono fun i hi => by simp [dstsC, hi]⟩
    · exact H.elim
  | block id x ihx =>
    intro hf st h a w Q H hg R
    simp only [flatC] at hf
    refine wpIn_block (wpIn_mono (ihx hf H hg R) ?_)
    rintro e a' w' ⟨ex, st', h', he, hq, R', hg', E'⟩
    cases e with
    | normal => simp only [toEx, Option.some.injEq] at he; subst he; exact ⟨_, st', h', rfl, hq, R', hg', E'⟩
    | exit i =>
      simp only [toEx, Option.some.injEq] at he
      subst he
      simp only at hq
      simp only [Exit.inBlock]
      cases hb : Nat.beq i id with
      | true =>
        rw [hb] at hq
        rw [if_pos (Nat.eq_of_beq_eq_true hb)]
        exact ⟨_, st', h', rfl, hq, R', hg', E'⟩
      | false =>
        rw [hb] at hq
        rw [if_neg (Nat.ne_of_beq_eq_false hb)]
        exact ⟨_, st', h', rfl, hq, R', hg', E'⟩
    | ret => simp only [toEx, Option.some.injEq] at he; subst he; exact ⟨_, st', h', rfl, hq, R', hg', E'⟩
    | goto l => simp [toEx] at he
    | panic ch => simp [toEx] at he
    | outgrown => simp [toEx] at he
  | exit id => intro _ st h a w Q H hg R; exact wpIn_exit ⟨_, st, h, rfl, H, R, hg, Ev.refl _ _⟩
  | ret => intro _ st h a w Q H hg R; exact wpIn_ret ⟨_, st, h, rfl, H, R, hg, Ev.refl _ _⟩
  | _ => intro hf; cases hf

theorem asgR_spec {c : Code} {q d : Nat} (h : asgR c = some (q, d)) : ∃ id ops o, c = .region id ops false ∧ ops.toList = [o] ∧ o.dst = some d ∧ o.op = .assign (.tmp q) ∧ o.guard = none := by
  unfold asgR at h
  split at h
  · rename_i id ops
    split at h
    · rename_i o ho
      split at h
      · rename_i d' q' h1 h2 h3
        cases h
        exact ⟨id, ops, o, rfl, ho, h1, h2, h3⟩
      · cases h
    · cases h
  · cases h
theorem newCells_none {h h' : Hp} {w W : World} (hs : Sub h w) (hs' : Sub h' W) (hn : newCells h h') {b : Nat} {o : Obj} (hb : w.heap.size ≤ b) (ho : W.heap[b]? = some o) (hc : o.isCells = false) : h' b = none := by
  cases e : h' b with
  | none => rfl
  | some o' =>
    have h1 := hs' b o' e
    rw [ho] at h1
    cases h1
    have h2 : h b = none := by
      cases e2 : h b with
      | none => rfl
      | some o2 =>
        have := (Array.getElem?_eq_some_iff.1 (hs b o2 e2)).1
        omega
    rw [hn b o e h2] at hc
    cases hc
/-- What the rounds know goes through the turn of a block that is no cells. -/
theorem grown_known {h h' : Hp} {w W W' : World} {row : Option Nat} (hs : Sub h w) (hs' : Sub h' W) (hn : newCells h h') (hF : Fr h h' w W) (hg : W.grownBy W' row) (hr : ∀ r, row = some r → w.heap.size ≤ r ∧ ∃ o : Obj, W.heap[r]? = some o ∧ o.isCells = false) : Sub h' W' ∧ Fr h h' w W' := by
  have key : ∀ b, b < W.heap.size → (w.heap.size ≤ b → h' b ≠ none) → W'.heap[b]? = W.heap[b]? := by
    intro b hb hk
    refine hg.block b hb fun e => ?_
    obtain ⟨h1, o, h2, h3⟩ := hr b e.symm
    exact hk h1 (newCells_none hs hs' hn h1 h2 h3)
  refine ⟨fun b o ho => ?_, ⟨hg.os.trans hF.os, hg.tape.trans hF.tape, hg.output.trans hF.output, Nat.le_trans hF.size hg.size, fun b hb hn2 => ?_⟩⟩
  · have h1 := hs' b o ho
    rw [key b (Array.getElem?_eq_some_iff.1 h1).1 (fun _ => by rw [ho]; simp)]
    exact h1
  · obtain ⟨k1, k2⟩ := hF.keep b hb hn2
    exact ⟨(key b (Nat.lt_of_lt_of_le hb hF.size) (fun h => by omega)).trans k1, k2⟩
theorem zip_one (p : Tmp) (v : Value) (tm : Array Value) : (#[p].zip #[v]).foldl (fun t (p, v) => t.setIfInBounds p v) tm = tm.setIfInBounds p v := by
  rw [← Array.foldl_toList, Array.toList_zip]; rfl
theorem rangeFunc_ok (hP : NoNG P) {g : Operand} {ps : Array Tmp} {asg body : Code} {st : St} {h : Hp} {a : Act} {w : World} {Q : Ex → St → Hp → Prop} {fv : Value} {p d : Nat} {sh : Sh0} (e1 : (st.ev [] g).val? = some fv) (e2 : ps.toList = [p]) (e3 : asgR asg = some (p, d)) (hfl : flatC body = true) (hp : p < st.n) (hd : d < st.n)
    (H : ∃ (hc : Hp) (good : Value → Prop) (xs : List Value) (I : List Value → Hp → Prop), SeqOK P fv hc good xs ∧ I [] h ∧ (∀ l h', I l h' → hc.le h' ∧ newCells h h') ∧
          (∀ l h' x, good x → l.length < xs.length → I l h' → ex0 sh fun y => x = y.val ∧ vcC P cfg body (roundSt st p d y) h' fun e _ h2 => match e with
            | .nrm => I (l ++ [x]) h2
            | e => newCells h h2 ∧ (l ++ [x] <+: xs → Q e st h2)) ∧
          ∀ h', I xs h' → Q .nrm st h')
    (hg : st.g = (fun _ => false)) (R : Rel w0 h0 st h a w) : (Code.rangeFunc g ps asg body).wp P (Post w0 h0 (dstsC (Code.rangeFunc g ps asg body)) st Q) a w := by
  obtain ⟨hcp, good, xs, I, ⟨hcells, gf, lb, fn, rfl, hfn, hnm, hbd, hseq⟩, hI0, hIc, hround, hdone⟩ := H
  obtain ⟨id, ops, o, rfl, ho1, ho2, ho3, ho4⟩ := asgR_spec e3
  obtain ⟨ρ, R0⟩ := R
  have hgv : a.eval g = .func (.func gf) #[] lb := val_ok R0 (ch := []) (fun _ _ hm => by simp at hm) e1
  have hent : ∀ args w, (callFunc gf args).run P w = .ok (.enter gf args) w := by
    intro args w
    have h1 : fn.name ≠ "runtime.NumGoroutine" := by simpa using hnm
    cases hb : fn.body with
    | none => rw [hb] at hbd; cases hbd
    | some c => simp [callFunc, hfn, h1, hb, mark]
  have hsw := R0.sub
  have hcw : Sub hcp w := fun b o hb => hsw b o ((hIc [] h hI0).1 b o hb)
  have hps : ps = #[p] := by cases ps; simp at e2; subst e2; rfl
  let I' : List { v : Value // good v } → World → Prop := fun pre W => ∃ h', Sub h' W ∧ Fr h h' w W ∧ I (pre.map (·.1)) h'
  let Ix : Code → List { v : Value // good v } → World → Prop := fun c pre W => ∃ h', Sub h' W ∧ Fr h h' w W ∧ newCells h h' ∧ ((c = .ret ∧ (pre.map (·.1) <+: xs → Q .ret st h')) ∨ ∃ i, c = .exit i ∧ (pre.map (·.1) <+: xs → Q (.ext i) st h'))
  have relOf : ∀ {W : World} {h' : Hp} (D : Nat), w.heap.size ≤ D → Sub h' W → Fr h h' w W → newCells h h' → W.heap[D]? = some (.deferred (some [])) → RelR ρ w0 h0 st h' { a with defers := { target := .collected D, args := #[] } :: a.defers } W := by
    intro W h' D hD hs hF hn hW
    have R1 := R0.step hs hF
    refine ⟨R1.n, ⟨?_, ?_⟩, R1.fr, R1.gd, R1.sub, R1.F, R1.box, R1.dom, R1.inj⟩
    · refine List.nodup_cons.2 ⟨fun hm => ?_, R0.d.1⟩
      obtain ⟨D', e, k1, _⟩ := R0.d.2 _ hm
      have : D = D' := by simpa using congrArg Deferred.target e
      subst this
      have := (Array.getElem?_eq_some_iff.1 k1).1
      omega
    · intro x hx
      rcases List.mem_cons.1 hx with rfl | hx
      · exact ⟨D, rfl, hW, newCells_none hsw hs hn hD hW rfl, Nat.le_trans R0.F.size hD⟩
      · exact R1.d.2 x hx
  refine (wpIn_wide (n := 3)).1 (wpIn_rangeFunc_ownG (w0 := w) rfl (by decide) hgv trivial hent (hseq w hcw) (fun k1 k2 hA => k2 (k1 hA)) ?_ (RowKit.Below.refl _ _) ?_ I' Ix ?_ ?_ ⟨h, hsw, Fr.refl h w, hI0⟩ (fun x => Act.put { tmps := a.tmps.setIfInBounds p x.1, defers := [] } (some d) x.1) ?_ ?_ ?_ ?_)
  · intro W l ob ob' _ hl hnc _ hA b o' hb
    have h1 := hA b o' hb
    by_cases hbl : b = l
    · subst hbl
      rw [hl] at h1
      cases h1
      rw [hcells b ob hb] at hnc
      cases hnc
    · rw [World.putObj_heap_other hbl]
      exact h1
  · intro x; rw [hps]; rfl
  · intro pre W W' row hi hg' hr
    obtain ⟨h', k1, k2, k3⟩ := hi
    obtain ⟨m1, m2⟩ := grown_known hsw k1 (hIc _ h' k3).2 k2 hg' hr
    exact ⟨h', m1, m2, k3⟩
  · intro c pre W W' row hi hg' hr
    obtain ⟨h', k1, k2, k3, k4⟩ := hi
    obtain ⟨m1, m2⟩ := grown_known hsw k1 k3 k2 hg' hr
    exact ⟨h', m1, m2, k3, k4⟩
  · intro l x W K hK
    rw [hps, zip_one]
    refine wpIn_region_list ?_
    rw [ho1]
    unfold wpListIn
    rw [if_pos (wanted_none ho4 _)]
    refine ⟨fun _ _ => trivial, ?_⟩
    have hnd : ∀ c, o.op ≠ .defer c := by intro c; rw [ho3]; simp
    rw [Oper.semAt_eq _ _ _ hnd]
    have hsz : p < a.tmps.size := by rw [R0.n]; exact hp
    have hev : (⟨a.tmps.setIfInBounds p x.1, []⟩ : Act).eval (.tmp p) = x.1 := by
      show (a.tmps.setIfInBounds p x.1).getD p undef = x.1
      simp [Array.getD_eq_getD_getElem?, hsz]
    have hrun : (execOp (⟨a.tmps.setIfInBounds p x.1, []⟩ : Act).eval o).run P W = .ok (.value x.1) W := by
      unfold execOp
      rw [ho3]
      simp [hev]
    rw [hrun, Oper.uponIn_value, ho2]
    exact hK
  · intro l pre x W hi hlt
    obtain ⟨h', k1, k2, k3⟩ := hi
    have hlt' : (pre.map (·.1)).length < xs.length := by rw [List.length_map]; exact hlt
    obtain ⟨y, hy, hvc⟩ := ex0_elim (hround (pre.map (·.1)) h' x.1 x.2 hlt' k3)
    have hsz : a.tmps.size = st.n := R0.n
    have hRel : Rel W h' (roundSt st p d y) h' (Act.put { tmps := a.tmps.setIfInBounds p x.1, defers := [] } (some d) x.1) W := by
      refine ⟨fun _ => none, ?_, ⟨List.nodup_nil, fun d hd => by cases hd⟩, fun i => ?_, fun i s q z e => ?_, k1, Fr.refl h' W, fun i bx hb => by simp [roundSt] at hb, fun i b hb => by simp at hb, fun i j b hb => by simp at hb⟩
      · show ((a.tmps.setIfInBounds p x.1).setIfInBounds d x.1).size = st.n
        simp [hsz]
      · show (roundSt st p d y).t i |>.ok _ _ (((a.tmps.setIfInBounds p x.1).setIfInBounds d x.1).getD i undef)
        simp only [roundSt]
        by_cases hid : i = d
        · subst hid
          have e : Nat.beq i i = true := Nat.beq_refl i
          rw [e]
          show _ = _
          rw [← hy]
          simp [Array.getD_eq_getD_getElem?, hsz, hd]
        · have e : Nat.beq i d = false := by
            cases e : Nat.beq i d with
            | false => rfl
            | true => exact absurd (Nat.eq_of_beq_eq_true e) hid
          rw [e]
          simp only [cond_false]
          by_cases hip : i = p
          · subst hip
            have e : Nat.beq i i = true := Nat.beq_refl i
            rw [e]
            show _ = _
            rw [← hy]
            have hdi : d ≠ i := fun e => hid e.symm
            simp [Array.getD_eq_getD_getElem?, hsz, hp, hdi]
          · have e : Nat.beq i p = false := by
              cases e : Nat.beq i p with
              | false => rfl
              | true => exact absurd (Nat.eq_of_beq_eq_true e) hip
            rw [e]
            simp only [cond_false]
            have hr := R0.fr i
            have hdi : d ≠ i := fun e => hid e.symm
            have hpi : p ≠ i := fun e => hip e.symm
            have hv : ((a.tmps.setIfInBounds p x.1).setIfInBounds d x.1).getD i undef = a.tmps.getD i undef := by
              simp [Array.getD_eq_getD_getElem?, hdi, hpi]
            rw [hv]
            cases hs : st.t i with
            | gd s q z => exact (noGd R0 hg i s q z hs).elim
            | s z =>
              rw [hs] at hr
              cases z with
              | bp j ob => exact trivial
              | _ => exact hr
      · simp only [roundSt] at e
        cases c1 : Nat.beq i d with
        | true => rw [c1] at e; cases e
        | false =>
          rw [c1] at e
          cases c2 : Nat.beq i p with
          | true => rw [c2] at e; cases e
          | false =>
            rw [c2] at e
            simp only [cond_false] at e
            cases hs : st.t i with
            | gd s q z => exact (noGd R0 hg i s q z hs).elim
            | s z =>
              rw [hs] at e
              cases z <;> simp [noBp] at e
    refine wpIn_mono (vcC_in hP body hfl hvc rfl hRel) ?_
    rintro e a2 W2 ⟨ex, st2, h2, he, hq, ⟨ρ2, R2⟩, hg2, E2⟩
    have hFF := k2.trans R2.F
    have hnc := (hIc _ h' k3).2
    have hkeep : KeepsFrom w.heap.size W W2 := ⟨R2.F.size, fun k ob hk hob hnc' => by
      have h1 := newCells_none hsw k1 hnc hk hob hnc'
      rw [(R2.F.keep k (Array.getElem?_eq_some_iff.1 hob).1 h1).1]
      exact hob⟩
    cases e with
    | normal =>
      simp only [toEx, Option.some.injEq] at he
      subst he
      have hi2 : I ((pre ++ [x]).map (·.1)) h2 := by rw [List.map_append]; exact hq
      exact ⟨hkeep, fun _ b ob hb => R2.sub b ob ((hIc _ h2 hi2).1 b ob hb), h2, R2.sub, hFF, hi2⟩
    | exit i => simp only [toEx, Option.some.injEq] at he; subst he; exact ⟨hkeep, h2, R2.sub, hFF, hq.1, .inr ⟨i, rfl, fun hp => hq.2 (by rw [List.map_append] at hp; exact hp)⟩⟩
    | ret => simp only [toEx, Option.some.injEq] at he; subst he; exact ⟨hkeep, h2, R2.sub, hFF, hq.1, .inl ⟨rfl, fun hp => hq.2 (by rw [List.map_append] at hp; exact hp)⟩⟩
    | goto l => simp [toEx] at he
    | panic ch => simp [toEx] at he
    | outgrown => simp [toEx] at he
  · intro D pre W hD hS hi hW
    obtain ⟨h', k1, k2, k3⟩ := hi
    rw [hS] at k3
    exact ⟨.nrm, st, h', rfl, hdone h' k3, ⟨ρ, relOf D hD k1 k2 (hIc _ h' k3).2 hW⟩, hg, Ev.refl _ _⟩
  · intro D c pre W hD hpre hi hW
    obtain ⟨h', k1, k2, k3, k4⟩ := hi
    have hR := relOf D hD k1 k2 k3 hW
    rcases k4 with ⟨rfl, hq⟩ | ⟨i, rfl, hq⟩
    · exact wpIn_ret ⟨_, st, h', rfl, hq hpre, ⟨ρ, hR⟩, hg, Ev.refl _ _⟩
    · exact wpIn_exit ⟨_, st, h', rfl, hq hpre, ⟨ρ, hR⟩, hg, Ev.refl _ _⟩

theorem vcC_ok (hP : NoNG P) (hm : P.follows .mixedOrders = true) : ∀ (c : Code) {st : St} {h : Hp} {a : Act} {w : World} {Q : Ex → St → Hp → Prop}, vcC P cfg c st h Q → st.g = (fun _ => false) → Rel w0 h0 st h a w → c.wp P (Post w0 h0 (dstsC c) st Q) a w := by
  intro c
  induction c with
  | skip => intro st h a w Q H hg R; exact wp_skip ⟨.nrm, st, h, rfl, H, R, hg, Ev.refl _ _⟩
  | region id ops draw =>
    intro st h a w Q H hg R
    simp only [vcC] at H
    cases draw with
    | true =>
      simp only [cond_true] at H
      split at H
      · rename_i l hl
        rcases Bool.eq_false_or_eq_true (chkOrd P cfg ops (befM ops.toList []) [] l && allIn ops.size l) with hc | hc
        · rw [hc] at H
          simp only [cond_true] at H
          simp only [Bool.and_eq_true] at hc
          refine wp_draw hP hm hc.1 hc.2 R H ?_
          intro st' h' a' w' hk R' E'
          obtain ⟨ρ, R0⟩ := R
          obtain ⟨k1, k2, k3⟩ := endR_ok (noGd R0 hg) R' E'
          exact ⟨.nrm, _, h', rfl, hk, k1, k2, k3⟩
        · rw [hc] at H; exact H.elim
      · exact H.elim
    | false =>
      simp only [cond_false] at H
      refine wp_region_list (vcOps_ok hP ops.toList R H ?_)
      intro st' h' a' w' hk R' E'
      obtain ⟨ρ, R0⟩ := R
      obtain ⟨k1, k2, k3⟩ := endR_ok (noGd R0 hg) R' E'
      exact ⟨.nrm, _, h', rfl, hk, k1, k2, k3⟩
  | seq x y ihx ihy =>
    intro st h a w Q H hg R
    refine wp_seq (wp_mono (ihx H hg R) ?_)
    rintro e a' w' ⟨ex, st', h', he, hq, R', hg', E'⟩
    have hD : ∀ i, i ∈ dstsC x → i ∈ dstsC (.seq x y) := fun i hi => by simp [dstsC, hi]
    have hD' : ∀ i, i ∈ dstsC y → i ∈ dstsC (.seq x y) := fun i hi => by simp [dstsC, hi]
    cases e with
    | normal =>
      simp only [toEx, Option.some.injEq] at he
      subst he
      refine wp_mono (ihy hq hg' R') ?_
      rintro e a2 w2 ⟨ex, st2, h2, he, hq, R2, hg2, E2⟩
      exact ⟨ex, st2, h2, he, hq, R2, hg2, (E'.mono hD).trans (E2.mono hD')⟩
    | exit id => simp only [toEx, Option.some.injEq] at he; subst he; exact ⟨_, st', h', rfl, hq, R', hg', E'.mono hD⟩
    | ret => simp only [toEx, Option.some.injEq] at he; subst he; exact ⟨_, st', h', rfl, hq, R', hg', E'.mono hD⟩
    | goto l => simp [toEx] at he
    | panic ch => simp [toEx] at he
    | outgrown => simp [toEx] at he
  | cond c x y ihx ihy =>
    intro st h a w Q H hg R
    simp only [vcC] at H
    split at H
    · rename_i t ht
      obtain ⟨ρ, R0⟩ := R
      have hc : a.eval c = .bool t := sv_cases_t ht (ev_ok R0 (fun _ _ hm => by simp at hm) c)
      refine wp_cond_split hc (fun e => ?_) (fun e => ?_)
      · refine wp_mono (ihx (H.1 e) hg ⟨ρ, R0⟩) ?_
        rintro e a2 w2 ⟨ex, st2, h2, he, hq, R2, hg2, E2⟩
        exact ⟨ex, st2, h2, he, hq, R2, hg2, E2.mono fun i hi => by simp [dstsC, hi]⟩
      · refine wp_mono (ihy (H.2 e) hg ⟨ρ, R0⟩) ?_
        rintro e a2 w2 ⟨ex, st2, h2, he, hq, R2, hg2, E2⟩
        exact ⟨ex, st2, h2, he, hq, R2, hg2, E2.mono fun i hi => by simp [dstsC, hi]⟩
    · exact H.elim
  | block id x ihx =>
    intro st h a w Q H hg R
    refine wp_block (wp_mono (ihx H hg R) ?_)
    rintro e a' w' ⟨ex, st', h', he, hq, R', hg', E'⟩
    cases e with
    | normal => simp only [toEx, Option.some.injEq] at he; subst he; exact ⟨_, st', h', rfl, hq, R', hg', E'⟩
    | exit i =>
      simp only [toEx, Option.some.injEq] at he
      subst he
      simp only at hq
      simp only [Exit.inBlock]
      cases hb : Nat.beq i id with
      | true =>
        rw [hb] at hq
        rw [if_pos (Nat.eq_of_beq_eq_true hb)]
        exact ⟨_, st', h', rfl, hq, R', hg', E'⟩
      | false =>
        rw [hb] at hq
        rw [if_neg (Nat.ne_of_beq_eq_false hb)]
        exact ⟨_, st', h', rfl, hq, R', hg', E'⟩
    | ret => simp only [toEx, Option.some.injEq] at he; subst he; exact ⟨_, st', h', rfl, hq, R', hg', E'⟩
    | goto l => simp [toEx] at he
    | panic ch => simp [toEx] at he
    | outgrown => simp [toEx] at he
  | loop x ihx =>
    intro st h a w Q H hg R
    simp only [vcC] at H
    split at H
    · exact H.elim
    · rename_i slots shs bxs hann
      split at H
      · exact H.elim
      · exact H.elim
      · rename_i vs0 hv0 hchk
        simp only [Bool.and_eq_true] at hchk
        obtain ⟨⟨hc1, hc2⟩, hc3⟩ := hchk
        have hshs := Nat.eq_of_beq_eq_true hc1
        have hlens := chkLens_spec hc2
        have hsub := subN_spec hc3
        obtain ⟨I, μ, hI0, hround⟩ := H
        have hR := R
        obtain ⟨ρ, R0⟩ := R
        have hg0 := noGd R0 hg
        have hbnd : ∀ i j o, i ∉ dstsC x → st.t i = .s (.bp j o) → j < st.b.length := by
          intro i j o _ hi
          have hr := R0.fr i
          rw [hi] at hr
          obtain ⟨b, h1, _⟩ := hr
          exact R0.dom j b h1
        have hbi : ∀ (k : Nat) (q : Nat × List Sh1), bxs[k]? = some q → q.1 < st.b.length := by
          intro k q hq
          obtain ⟨bx, hbx, _⟩ := hlens k q hq
          exact (List.getElem?_eq_some_iff.1 hbx).1
        let Inv : Nat → Act → World → Prop := fun n a w => ∃ vs h' xs ys, n = μ vs h' ∧ I vs h' ∧ Rel w0 h0 (loopSt st (dstsC x) slots bxs xs ys) h' a w ∧
          vcC P cfg x (loopSt st (dstsC x) slots bxs xs ys) h' fun e st' h'' => match e with
            | .nrm => match loopVals st' slots bxs with
              | some vs' => bif (sameB 0 st.b st'.b bxs && chkLens st' bxs) then (I vs' h'' ∧ μ vs' h'' < μ vs h') else False
              | none => False
            | e => Q e st' h''
        -- from a frame that fits to the head
        have head : ∀ st' h' a w vs, Rel w0 h0 st' h' a w → st'.g = (fun _ => false) → st'.n = st.n → (∀ i, i ∉ dstsC x → st'.t i = st.t i) → st.b.length ≤ st'.b.length →
            (∀ (j : Nat) (x y : Box), st.b[j]? = some x → st'.b[j]? = some y → y.ty = x.ty) → (∀ (j : Nat) (x y : Box), (lookN j bxs).isSome = false → st.b[j]? = some x → st'.b[j]? = some y → tvals y.c = tvals x.c) →
            (∀ (k : Nat) (q : Nat × List Sh1) (y : Box), bxs[k]? = some q → st'.b[q.1]? = some y → y.c.length = q.2.length) →
            loopVals st' slots bxs = some vs → I vs h' → Inv (μ vs h') a w := by
          intro st' h' a w vs R' hg' hn' ht' hlb' hty' hsame' hlen' hv' hI'
          obtain ⟨xs, hx, hxl⟩ := ex0L_elim' (hround vs h' hI')
          obtain ⟨ys, ⟨hvs, hvc⟩, hyl, hylen⟩ := exLL_elim hx
          refine ⟨vs, h', xs, ys, rfl, hI', ?_, hvc⟩
          refine loopSt_rel hg0 hbnd hsub R' hg' hn' ht' hlb' hty' hsame' hbi (by rw [hv', hvs]) (by rw [hxl, hshs]) hyl ?_ hg
          intro k q y bx h1 h2 h3
          rw [hylen k q y h1 h2, hlen' k q bx h1 h3]
        refine wp_loop_n Inv (μ vs0 h) ?_ ?_
        · refine head st h a w vs0 hR hg rfl (fun _ _ => rfl) (Nat.le_refl _) (fun j u v h1 h2 => by rw [h1] at h2; obtain rfl := Option.some.inj h2; rfl) (fun j u v _ h1 h2 => by rw [h1] at h2; obtain rfl := Option.some.inj h2; rfl) ?_ hv0 hI0
          intro k q y h1 h2
          obtain ⟨bx, hbx, hl⟩ := hlens k q h1
          rw [hbx] at h2
          obtain rfl := Option.some.inj h2
          exact hl
        · rintro n a w ⟨vs, h', xs, ys, rfl, hI', hRl, hvc⟩
          refine wp_mono (ihx hvc hg hRl) ?_
          have hE0 : Ev (dstsC x) st (loopSt st (dstsC x) slots bxs xs ys) := loopSt_ev hsub
          rintro e a2 w2 ⟨ex, st2, h2, he, hq, R2, hg2, E2⟩
          cases e with
          | normal =>
            simp only [toEx, Option.some.injEq] at he
            subst he
            simp only at hq
            split at hq
            · rename_i vs' hv'
              cases hsB' : (sameB 0 st.b st2.b bxs && chkLens st2 bxs) with
              | false => rw [hsB'] at hq; exact hq.elim
              | true =>
                rw [hsB'] at hq
                simp only [cond_true] at hq
                simp only [Bool.and_eq_true] at hsB'
                obtain ⟨hsB, hcl⟩ := hsB'
                have hE := hE0.trans E2
                refine ⟨μ vs' h2, hq.2, head st2 h2 a2 w2 vs' R2 hg2 hE.n hE.t (boxMono_len hE.b) ?_ ?_ ?_ hv' hq.1⟩
                · intro j u v h1 h2
                  obtain ⟨y, hy, ht, _⟩ := hE.b j u h1
                  rw [h2] at hy
                  obtain rfl := Option.some.inj hy
                  exact ht
                · intro j u v hl h1 h2
                  have hs := (sameB_spec _ _ _ 0 hsB).2 j u v (by rw [Nat.zero_add]; exact hl) h1 h2
                  obtain ⟨y, hy, _, _, hst⟩ := hE.b j u h1
                  rw [h2] at hy
                  obtain rfl := Option.some.inj hy
                  rw [hst hs.symm]
                · intro k q y h1 h2
                  obtain ⟨bx, hbx, hl⟩ := chkLens_spec hcl k q h1
                  rw [hbx] at h2
                  obtain rfl := Option.some.inj h2
                  exact hl
            · exact hq.elim
          | exit id => simp only [toEx, Option.some.injEq] at he; subst he; exact ⟨_, st2, h2, rfl, hq, R2, hg2, hE0.trans E2⟩
          | ret => simp only [toEx, Option.some.injEq] at he; subst he; exact ⟨_, st2, h2, rfl, hq, R2, hg2, hE0.trans E2⟩
          | goto l => simp [toEx] at he
          | panic ch => simp [toEx] at he
          | outgrown => simp [toEx] at he
  | exit id => intro st h a w Q H hg R; exact wp_exit ⟨_, st, h, rfl, H, R, hg, Ev.refl _ _⟩
  | ret => intro st h a w Q H hg R; exact wp_ret ⟨_, st, h, rfl, H, R, hg, Ev.refl _ _⟩
  | rangeFunc g ps asg body _ _ =>
    intro st h a w Q H hg R
    simp only [vcC] at H
    split at H
    · rename_i fv p q d rr sh bb e1 e2 e3 e4
      rcases Bool.eq_false_or_eq_true (flatC body && Nat.beq q p && Nat.blt p st.n && Nat.blt d st.n) with hc | hc
      · rw [hc] at H
        simp only [cond_true] at H
        simp only [Bool.and_eq_true] at hc
        obtain ⟨⟨⟨hfl, hqp⟩, hp⟩, hd⟩ := hc
        obtain rfl := Nat.eq_of_beq_eq_true hqp
        exact rangeFunc_ok hP e1 e2 e3 hfl (Nat.le_of_ble_eq_true hp) (Nat.le_of_ble_eq_true hd) H hg R
      · rw [hc] at H; exact H.elim
    · exact H.elim
  | _ => intros; rename_i H _ _; exact H.elim
end
end Go.Vc
/-
  The framework of this prover's proofs, part I: a function's condition gives its call. Conditions: none.
-/
set_option linter.unusedVariables false
namespace Go.Vc
open Go

section
variable {P : Program} {cfg : Cfg} {w0 : World} {h0 : Hp}

def resOne (tm : Array Value) : ResultVar → Sem Value
  | .tmp t => pure (tm.getD t undef)
  | .cell c t => do loadVar t (← asAddr (tm.getD c undef))
def tupV : List Value → Value
  | [v] => v
  | vs => .tuple vs.toArray

theorem resV_ok {ρ : Nat → Option Nat} {st : St} {h : Hp} {a : Act} {w : World} (R : RelR ρ w0 h0 st h a w) : ∀ {l : List ResultVar} {vs : List Value}, resV P st l = some vs →
    (l.mapM (resOne a.tmps)).run P w = .ok vs w
  | [], vs, H => by simp [resV] at H; simp [← H]
  | .tmp t :: l, vs, H => by
    simp only [resV] at H
    split at H
    · rename_i v vs' hv hl
      simp only [Option.some.injEq] at H
      subst H
      have e : a.tmps.getD t undef = v := val_ok R (fun _ _ hm => by simp at hm) hv
      have ih := resV_ok R hl
      simp only [List.mapM_cons, Sem.run_bind, resOne, Sem.run_pure, Result.andThen_ok, e, ih]
    · simp at H
  | .cell c T :: l, vs, H => by
    simp only [resV] at H
    split at H
    · rename_i i vs' hc hl
      split at H
      · rename_i bx hbx
        cases hb : Nat.beq bx.c.length (szT P T) with
        | false => rw [hb] at H; simp at H
        | true =>
          rw [hb] at H
          have hlen := Nat.eq_of_beq_eq_true hb
          obtain ⟨b, h1, h2, h3, h4⟩ := R.box i bx hbx
          have hr := R.fr c
          rw [hc] at hr
          obtain ⟨b', k1, k2⟩ := hr
          rw [h1] at k1
          obtain rfl := Option.some.inj k1
          have ih := resV_ok R hl
          have e : (asAddr (a.tmps.getD c undef)).run P w = .ok ⟨b, 0, none⟩ w := by rw [k2]; rfl
          have hcell : ∀ j v, (tvals bx.c)[j]? = some v → w.cell? ((⟨b, 0, none⟩ : Addr).add j) = some v := by
            intro j v hj
            rw [addr_add]
            simp [World.cell?, h2, hj]
          cases hA : isAggT P T with
          | true =>
            rw [hA] at H
            simp only [cond_true, Option.some.injEq] at H
            subst H
            have hrun := run_loadVar_agg (P := P) (w := w) (b := b) (o := 0) (l := tvals bx.c) hA (by rw [tvals_length, hlen]) hcell
            simp only [List.mapM_cons, Sem.run_bind, resOne, e, Sem.run_pure, Result.andThen_ok, hrun, ih]
          | false =>
            rw [hA] at H
            simp only [cond_true, cond_false] at H
            split at H
            · rename_i v hv
              cases hS : (P.underlying T).isSome with
              | false => rw [hS] at H; simp at H
              | true =>
              rw [hS] at H
              simp only [cond_true, Option.some.injEq] at H
              subst H
              obtain ⟨d, hd⟩ := Option.isSome_iff_exists.1 hS
              have hc0 : w.cell? ⟨b, 0, none⟩ = some v.val := by
                have := hcell 0 v.val (by rw [hv]; rfl)
                rwa [addr_add] at this
              have hrun := run_loadVar_one (P := P) (w := w) hA hd hc0
              simp only [List.mapM_cons, Sem.run_bind, resOne, e, Sem.run_pure, Result.andThen_ok, hrun, ih]
            · simp at H
      · simp at H
    · simp at H

theorem vcRes_ok {st : St} {h : Hp} : ∀ {l : List ResultVar} {K : List Value → Prop}, vcRes P st h l K → ∃ vs, K vs ∧ ∀ {ρ : Nat → Option Nat} {a : Act} {w : World}, RelR ρ w0 h0 st h a w → (l.mapM (resOne a.tmps)).run P w = .ok vs w
  | [], K, H => ⟨[], H, fun _ => by simp⟩
  | r :: l, K, H => by
    simp only [vcRes] at H
    split at H
    · rename_i v hv
      obtain ⟨vs, hk, ih⟩ := vcRes_ok H
      refine ⟨_, hk, fun {ρ a w} R => ?_⟩
      have h1 := resV_ok (P := P) R hv
      have h2 : (resOne a.tmps r).run P w = .ok v w := by
        simp only [List.mapM_cons, List.mapM_nil, Sem.run_bind] at h1
        cases hr : (resOne a.tmps r).run P w with
        | ok v' w' =>
          rw [hr] at h1
          simp [Result.andThen_ok] at h1
          rw [h1.1, h1.2]
        | halt q w' => rw [hr] at h1; simp [Result.andThen] at h1
      simp only [List.mapM_cons, Sem.run_bind, h2, Result.andThen_ok, ih R, Sem.run_pure]
    · split at H
      · rename_i c T _
        split at H
        · rename_i b o hc
          cases hA : isAggT P T with
          | true => rw [hA] at H; exact H.elim
          | false =>
            cases hS : (P.underlying T).isSome with
            | false => rw [hA, hS] at H; exact H.elim
            | true =>
              rw [hA, hS] at H
              simp only [Bool.not_false, Bool.and_true, cond_true] at H
              obtain ⟨x, hx, H⟩ := ex1_elim H
              obtain ⟨vs, hk, ih⟩ := vcRes_ok H
              refine ⟨_, hk, fun {ρ a w} R => ?_⟩
              have hr := R.fr c
              rw [hc] at hr
              have e : (asAddr (a.tmps.getD c undef)).run P w = .ok ⟨b, o, none⟩ w := by
                rw [show a.tmps.getD c undef = .pointer (some ⟨b, o, none⟩) from hr]; rfl
              obtain ⟨d, hd⟩ := Option.isSome_iff_exists.1 hS
              have hc0 : w.cell? ⟨b, o, none⟩ = some x.val := cell_cell hx R.sub
              have hrun := run_loadVar_one (P := P) (w := w) hA hd hc0
              simp only [List.mapM_cons, Sem.run_bind, resOne, e, Sem.run_pure, Result.andThen_ok, hrun, ih R]
        · exact H.elim
      · exact H.elim
theorem results_ok {a : Act} {w : World} {fn : Func} {vs : List Value} (h1 : (fn.results.toList.mapM (resOne a.tmps)).run P w = .ok vs w) :
    (results fn a.tmps).run P w = .ok (tupV vs) w := by
  have h2 : results fn a.tmps = (do let vs ← fn.results.mapM (resOne a.tmps); pure (if h : vs.size = 1 then vs[0] else .tuple vs)) := rfl
  rw [h2, Array.mapM_eq_mapM_toList]
  simp only [Sem.run_bind, Sem.run_map, h1, Result.andThen_ok, Sem.run_pure]
  match vs with
  | [] => rfl
  | [v] => rfl
  | u :: v :: l => simp [tupV]

/-- The marks of the loops are taken away: the results stay. -/
theorem leaves_marks {ρ : Nat → Option Nat} {st : St} {h : Hp} {fn : Func} {vs : List Value} {n : Nat} {K : Ending → World → Prop} (H : ∀ {ρ : Nat → Option Nat} {a : Act} {w : World}, RelR ρ w0 h0 st h a w → (fn.results.toList.mapM (resOne a.tmps)).run P w = .ok vs w) (hK : ∀ W, Sub h W → Fr h0 h w0 W → K (.returned (tupV vs)) W) :
    ∀ (ds : List Deferred) {a : Act} {w : World}, RelR ρ w0 h0 st h a w → a.defers = ds → LeavesInM Fence.wide n P fn a.tmps K ds .returning w
  | [], a, w, R, _ => ⟨_, results_ok (H R), hK w R.sub R.F⟩
  | d :: ds, a, w, R, hd => by
    have hm := R.d
    rw [hd] at hm
    obtain ⟨D, e, k1, k2, k3⟩ := hm.2 d List.mem_cons_self
    refine ⟨by simp, .inl ⟨D, w.putObj D (.deferred none), by rw [e], run_takeDeferred k1, ?_⟩⟩
    have hsz : (w.putObj D (.deferred none)).heap.size = w.heap.size := by simp [World.putObj]
    have hoth : ∀ b, b ≠ D → (w.putObj D (.deferred none)).heap[b]? = w.heap[b]? := fun b hb => World.putObj_heap_other hb
    have R' : RelR ρ w0 h0 st h { a with defers := ds } (w.putObj D (.deferred none)) := by
      refine ⟨R.n, ⟨(List.nodup_cons.1 hm.1).2, ?_⟩, R.fr, R.gd, ?_, ⟨R.F.os, R.F.tape, R.F.output, by rw [hsz]; exact R.F.size, ?_⟩, ?_, R.dom, R.inj⟩
      · intro x hx
        obtain ⟨D', e', j1, j2, j3⟩ := hm.2 x (List.mem_cons_of_mem _ hx)
        refine ⟨D', e', ?_, j2, j3⟩
        rw [hoth D' (fun e2 => ?_)]
        · exact j1
        · subst e2
          rw [← e] at e'
          subst e'
          exact (List.nodup_cons.1 hm.1).1 hx
      · intro b o hb
        rw [hoth b (fun e2 => by subst e2; rw [k2] at hb; cases hb)]
        exact R.sub b o hb
      · intro b hb hn
        rw [hoth b (fun e2 => by subst e2; omega)]
        exact R.F.keep b hb hn
      · intro i bx hb
        obtain ⟨b, j1, j2, j3, j4⟩ := R.box i bx hb
        refine ⟨b, j1, ?_, j3, j4⟩
        rw [hoth b (fun e2 => by subst e2; rw [k1] at j2; cases j2)]
        exact j2
    exact leaves_marks (a := { a with defers := ds }) H hK ds R' rfl

theorem argSlots_ok (args : List TW) (n : Nat) (i : Nat) : (argSlots args i).ok (fun _ => none) ((args.map TW.val).toArray ++ Array.replicate n undef) (((args.map TW.val).toArray ++ Array.replicate n undef).getD i undef) := by
  have : ∀ (args : List TW) (i : Nat), argSlots args i = .s .any ∨ ∃ x, args[i]? = some x ∧ argSlots args i = .s (.t x) := by
    intro args
    induction args with
    | nil => intro i; left; simp [argSlots]
    | cons x l ih =>
      intro i
      cases i with
      | zero => right; exact ⟨x, rfl, rfl⟩
      | succ i => simpa [argSlots] using ih i
  rcases this args i with h | ⟨x, h1, h2⟩
  · rw [h]; exact trivial
  · rw [h2]
    have hl := (List.getElem?_eq_some_iff.1 h1).1
    simp only [Sl.ok, SV.ok, Array.getD_eq_getD_getElem?, Array.getElem?_append, List.size_toArray, List.length_map]
    rw [if_pos hl]
    simp [h1]

/-- THE FRAMEWORK's THEOREM: what a function's text asks, computed from it, gives its contract. -/
theorem vcFn_ok (hP : NoNG P) (hm : P.follows .mixedOrders = true) {f : FuncId} {fn : Func} (hf : P.funcs[f]? = some fn) {args : List TW} {h : Hp} {R : Value → Hp → Prop} (hn : args.length ≤ fn.ntmps) (H : vcFn P cfg fn args h R) : CallOK P f (args.map TW.val) h R := by
  intro w hs
  unfold vcFn at H
  split at H
  · exact H.elim
  · rename_i c hb
    refine (callsIn_wide (n := 3)).1 (callsIn_of_wp_marks hf hb trivial (wpIn_wide.2 ?_))
    have hR0 : Rel w h ⟨fn.ntmps, argSlots args, fun _ => false, []⟩ h { tmps := (args.map TW.val).toArray ++ Array.replicate (fn.ntmps - (args.map TW.val).toArray.size) undef, defers := [] } w := by
      refine ⟨fun _ => none, ?_, ⟨List.nodup_nil, fun d hd => by cases hd⟩, argSlots_ok args _, ?_, hs, Fr.refl h w, ?_, ?_, ?_⟩
      · simp; omega
      · intro i s p x e
        have : ∀ (args : List TW) (i : Nat), argSlots args i ≠ .gd s p x := by
          intro args
          induction args with
          | nil => intro i; simp [argSlots]
          | cons y l ih => intro i; cases i <;> simp [argSlots]; exact ih _
        exact (this args i e).elim
      · intro i bx hbx; simp at hbx
      · intro i b hb; simp at hb
      · intro i j b hb; simp at hb
    refine wp_mono (vcC_ok hP hm c H rfl hR0) ?_
    rintro e a' w' ⟨ex, st', h', he, hq, ⟨ρ, R'⟩, hg', E'⟩
    have fin : (vcRes P st' h' fn.results.toList fun vs => match vs with
        | [v] => R v h'
        | vs => R (.tuple vs.toArray) h') → LeavesInM Fence.wide 3 P fn a'.tmps (fun e w' => ∃ v h', e = .returned v ∧ Sub h' w' ∧ Fr h h' w w' ∧ R v h') a'.defers .returning w' := by
      intro hx
      obtain ⟨vs, hk, hv⟩ := vcRes_ok hx
      refine leaves_marks hv (fun W k1 k2 => ⟨_, h', rfl, k1, k2, ?_⟩) _ R' rfl
      match vs, hk with
      | [], hk => exact hk
      | [v], hk => exact hk
      | u :: v :: l, hk => exact hk
    cases e with
    | normal => simp only [toEx, Option.some.injEq] at he; subst he; exact fin hq
    | ret => simp only [toEx, Option.some.injEq] at he; subst he; exact fin hq
    | exit id => simp only [toEx, Option.some.injEq] at he; subst he; exact hq.elim
    | goto l => simp [toEx] at he
    | panic ch => simp [toEx] at he
    | outgrown => simp [toEx] at he

/-- A condition in words that the kernel finds to be the function's. -/
theorem call_of (hP : NoNG P) (hm : P.follows .mixedOrders = true) {f : FuncId} {fn : Func} (hf : P.funcs[f]? = some fn) (args : List TW) {vs : List Value} {h : Hp} {R : Value → Hp → Prop} (hn : Nat.ble args.length fn.ntmps = true) (hv : vs = args.map TW.val) {V : Prop} (hV : V = vcFn P cfg fn args h R) (H : V) : CallOK P f vs h R := by
  subst hv
  exact vcFn_ok hP hm hf (Nat.le_of_ble_eq_true hn) (hV ▸ H)

theorem CallOK.mono {f : FuncId} {vs : List Value} {h : Hp} {R R' : Value → Hp → Prop} (H : CallOK P f vs h R) (hr : ∀ v h', R v h' → R' v h') : CallOK P f vs h R' :=
  fun w hs => (H w hs).mono fun e w' ⟨v, h', h1, h2, h3, h4⟩ => ⟨v, h', h1, h2, h3, hr _ _ h4⟩
theorem SemOK.mono {m : Sem Value} {h : Hp} {R R' : Value → Hp → Prop} (H : SemOK P m h R) (hr : ∀ v h', R v h' → R' v h') : SemOK P m h R' :=
  fun w hs => let ⟨v, w', h', h1, h2, h3, h4⟩ := H w hs; ⟨v, w', h', h1, h2, h3, hr _ _ h4⟩
end
end Go.Vc
/-
  The framework, part J: rows and slices in what is known of a heap; what 'append' asks and gives; from a call's condition to a law's walk. No program in sight. Conditions: none.
-/
namespace Go.Vc
open Go
set_option linter.unusedVariables false

theorem Hp.le_refl (h : Hp) : h.le h := fun _ _ e => e
theorem Hp.le_trans {a b c : Hp} (x : a.le b) (y : b.le c) : a.le c := fun i o e => y i o (x i o e)
theorem Hp.le_set {a b : Hp} (x : a.le b) {i : Nat} (hi : b i = none) (o : Obj) : a.le (b.set i o) := fun j p e => by
  have := x j p e
  unfold Hp.set
  split
  · rename_i he; subst he; rw [hi] at this; cases this
  · exact this
theorem Hp.none_of_le {a b : Hp} (x : a.le b) {i : Nat} (hi : b i = none) : a i = none := by
  cases e : a i with
  | none => rfl
  | some o => rw [x i o e] at hi; cases hi

/-- A row of cells behind an address (no cell: any address). -/
def HasRow (h : Hp) (a : Option Addr) (xs : List Value) : Prop := xs = [] ∨ ∃ b o, a = some ⟨b, o, none⟩ ∧ h.row b o xs.length = some xs

theorem Hp.row_le {h h' : Hp} (hl : h.le h') {b o n : Nat} {xs : List Value} (e : h.row b o n = some xs) : h'.row b o n = some xs := by
  unfold Hp.row at e ⊢
  cases hb : h b with
  | none => rw [hb] at e; cases e
  | some ob => rw [hb] at e; rw [hl b ob hb]; exact e
theorem Hp.cell_le {h h' : Hp} (hl : h.le h') {b o : Nat} {x : Value} (e : h.cell b o = some x) : h'.cell b o = some x := by
  unfold Hp.cell at e ⊢
  cases hb : h b with
  | none => rw [hb] at e; cases e
  | some ob => rw [hb] at e; rw [hl b ob hb]; exact e
theorem HasRow.le {h h' : Hp} (hl : h.le h') {a : Option Addr} {xs : List Value} (H : HasRow h a xs) : HasRow h' a xs := by
  rcases H with rfl | ⟨b, o, rfl, e⟩
  · exact .inl rfl
  · exact .inr ⟨b, o, rfl, Hp.row_le hl e⟩
theorem Hp.row_spec {h : Hp} {b o n : Nat} {xs : List Value} : h.row b o n = some xs ↔ ∃ c t f, h b = some (.cells c t f) ∧ o + n ≤ c.size ∧ xs = (c.toList.drop o).take n := by
  unfold Hp.row
  cases hb : h b with
  | none => simp
  | some ob =>
    cases ob with
    | cells c t f =>
      by_cases hle : o + n ≤ c.size
      · simp [hle]; exact ⟨fun e => e.symm, fun e => e.symm⟩
      · simp [hle]
    | _ => simp
/-- A cell of a row. -/
theorem Hp.row_cell {h : Hp} {b o n : Nat} {xs : List Value} (e : h.row b o n = some xs) {i : Nat} {x : Value} (hx : xs[i]? = some x) : h.cell b (o + i) = some x := by
  obtain ⟨c, t, f, hb, hle, rfl⟩ := Hp.row_spec.1 e
  unfold Hp.cell
  rw [hb]
  rw [List.getElem?_take] at hx
  split at hx
  · simpa using hx
  · cases hx
/-- A row of a row. -/
theorem Hp.row_sub {h : Hp} {b o n : Nat} {xs : List Value} (e : h.row b o n = some xs) {i k : Nat} (hi : i + k ≤ n) : h.row b (o + i) k = some ((xs.drop i).take k) := by
  obtain ⟨c, t, f, hb, hle, rfl⟩ := Hp.row_spec.1 e
  refine Hp.row_spec.2 ⟨c, t, f, hb, by omega, ?_⟩
  rw [List.drop_take, List.take_take, List.drop_drop]
  congr 1
  omega
theorem Hp.row_length {h : Hp} {b o n : Nat} {xs : List Value} (e : h.row b o n = some xs) : xs.length = n := by
  obtain ⟨c, t, f, hb, hle, rfl⟩ := Hp.row_spec.1 e
  rw [List.length_take, List.length_drop, Array.length_toList]
  omega
/-- A new block is a row. -/
theorem row_new (h : Hp) (b : Nat) (xs : List Value) (t : TypeId) : (h.set b (cellsO xs t)).row b 0 xs.length = some xs :=
  Hp.row_spec.2 ⟨xs.toArray, t, (0, 0), by simp [Hp.set], by simp, by simp⟩
theorem HasRow.new (h : Hp) (b : Nat) (xs : List Value) (t : TypeId) : HasRow (h.set b (cellsO xs t)) (some ⟨b, 0, none⟩) xs := .inr ⟨b, 0, rfl, row_new h b xs t⟩

/-- A slice that can be appended to: its block is known whole. -/
def OwnS (h : Hp) (e : TypeId) (sz : Nat) (a : Option Addr) (n c : Nat) (xs : List Value) : Prop :=
  xs.length = n * sz ∧ ((a = none ∧ n = 0 ∧ c = 0) ∨ ∃ g cur, a = some ⟨g, 0, none⟩ ∧ h g = some (.cells cur e (0, 0)) ∧ n ≤ c ∧ c ≤ maxLen ∧ cur.size = c * sz ∧ cur.toList.take (n * sz) = xs)
theorem OwnS.nil (h : Hp) (e : TypeId) (sz : Nat) : OwnS h e sz none 0 0 [] := ⟨by simp, .inl ⟨rfl, rfl, rfl⟩⟩
theorem OwnS.new (h : Hp) (b : Nat) (e : TypeId) {sz n : Nat} (xs : List Value) (hl : xs.length = n * sz) (hn : n ≤ maxLen) : OwnS (h.set b (cellsO xs e)) e sz (some ⟨b, 0, none⟩) n n xs :=
  ⟨hl, .inr ⟨b, xs.toArray, rfl, by simp [Hp.set], Nat.le_refl _, hn, by simpa using hl, by rw [← hl]; simp⟩⟩
theorem OwnS.row {h : Hp} {e : TypeId} {sz n c : Nat} {a : Option Addr} {xs : List Value} (H : OwnS h e sz a n c xs) : HasRow h a xs := by
  rcases H with ⟨hl, ⟨rfl, rfl, rfl⟩ | ⟨g, cur, rfl, hg, hn, hc, hs, ht⟩⟩
  · exact .inl (List.eq_nil_of_length_eq_zero (by simpa using hl))
  · refine .inr ⟨g, 0, rfl, Hp.row_spec.2 ⟨cur, e, (0, 0), hg, ?_, ?_⟩⟩
    · rw [hl, hs, Nat.zero_add]; exact Nat.mul_le_mul_right _ hn
    · rw [hl]; simpa using ht.symm
theorem OwnS.keep {h h' : Hp} {e : TypeId} {sz n c : Nat} {a : Option Addr} {xs : List Value} (H : OwnS h e sz a n c xs) (hk : ∀ g o, a = some ⟨g, 0, none⟩ → h g = some o → h' g = some o) : OwnS h' e sz a n c xs := by
  refine ⟨H.1, ?_⟩
  rcases H.2 with h1 | ⟨g, cur, rfl, hg, h2⟩
  · exact .inl h1
  · exact .inr ⟨g, cur, rfl, hk g _ rfl hg, h2⟩
theorem OwnS.le {h h' : Hp} (hl : h.le h') {e : TypeId} {sz n c : Nat} {a : Option Addr} {xs : List Value} (H : OwnS h e sz a n c xs) : OwnS h' e sz a n c xs := H.keep fun g o _ hg => hl g o hg

/-- What the type table says of a slice type. -/
structure ElT (P : Program) (t e : TypeId) (sz bytes : Nat) : Prop where
  sl : P.underlying t = some (.slice e)
  el : ∃ i z, P.info? e = some i ∧ i.zero = some z ∧ i.size = sz ∧ i.bytes = bytes ∧ z.cells.size = sz
  pos : 0 < sz
def elChk (P : Program) (e : TypeId) (sz bytes : Nat) : Bool :=
  match P.info? e with
  | some i => (match i.zero with | some z => Nat.beq i.size sz && (Nat.beq i.bytes bytes && Nat.beq z.cells.size sz) | none => false)
  | none => false
theorem ElT.of {P : Program} {t e : TypeId} {sz bytes : Nat} (h1 : P.underlying t = some (.slice e)) (h2 : elChk P e sz bytes = true) (h3 : 0 < sz) : ElT P t e sz bytes := by
  refine ⟨h1, ?_, h3⟩
  unfold elChk at h2
  split at h2
  · rename_i i hi
    split at h2
    · rename_i z hz
      simp only [Bool.and_eq_true, Nat.beq_eq] at h2
      exact ⟨i, z, hi, hz, h2.1, h2.2.1, h2.2.2⟩
    · cases h2
  · cases h2
section
variable {P : Program}
theorem HasRow.cells {h : Hp} {w : World} (hs : Sub h w) {a : Addr} {xs : List Value} (H : HasRow h (some a) xs) : ∀ j u, xs[j]? = some u → w.cell? (a.add j) = some u := by
  intro j u hu
  rcases H with rfl | ⟨b, o, e, hr⟩
  · simp at hu
  · cases e
    have := Hp.row_cell hr hu
    have hadd : (⟨b, o, none⟩ : Addr).add j = ⟨b, o + j, none⟩ := by unfold Addr.add; split <;> simp_all
    rw [hadd]
    exact cell_cell this hs
theorem setRow_Sub {h : Hp} {w : World} (hs : Sub h w) {g : Nat} {cs old : Array Value} {t : TypeId} {fz : Nat × Nat} (hg : h g = some (.cells old t fz)) : Sub (h.set g (.cells cs t fz)) (w.setRow g cs) := by
  intro b o hb
  have hw := hs g _ hg
  unfold Hp.set at hb
  split at hb
  · rename_i he; subst he
    simp only [Option.some.injEq] at hb; subst hb
    exact setRow_heap w b old cs t fz hw
  · rename_i hne
    rw [setRow_other w g b cs hne]
    exact hs b o hb
theorem setRow_Fr {h : Hp} {w : World} {g : Nat} {cs old : Array Value} {t : TypeId} {fz : Nat × Nat} (hg : h g = some (.cells old t fz)) : Fr h (h.set g (.cells cs t fz)) w (w.setRow g cs) := by
  refine ⟨rfl, rfl, rfl, by simp, fun b hb hn => ?_⟩
  have hne : b ≠ g := fun e => by subst e; rw [hg] at hn; cases hn
  exact ⟨setRow_other w g b cs hne, by simp [Hp.set, hne, hn]⟩
theorem drew_alloc_Sub {h : Hp} {w : World} (hs : Sub h w) (o : Obj) : Sub (h.set w.heap.size o) (w.drew.alloc o) := Sub.pushSet (w := w.drew) hs o
theorem drew_alloc_Fr (h : Hp) (w : World) (o : Obj) : Fr h (h.set w.heap.size o) w (w.drew.alloc o) :=
  let f := Fr.pushSet h w.drew o; ⟨f.os, f.tape, f.output, f.size, f.keep⟩

/-- 'append(s, x...)', s known whole: what comes of it is known whole; all else is as it was. -/
theorem sem_append {h : Hp} {t ty e : TypeId} {sz bytes : Nat} (T : ElT P t e sz bytes) {a : Option Addr} {n c : Nat} {xs : List Value} (H : OwnS h e sz a n c xs)
    {a2 : Option Addr} {m c2 : Nat} {news : List Value} (H2 : HasRow h a2 news) (hl : news.length = m * sz) (h1 : ∀ u ∈ news, u.oneCell' = true)
    (hb : (n + m) * bytes ≤ 140737488355328) (hm : n + m ≤ 140737488355328) {K : Value → Hp → Prop}
    (hK : ∀ a' c' h', OwnS h' e sz a' (n + m) c' (xs ++ news) → (∀ b o, h b = some o → a ≠ some ⟨b, 0, none⟩ → h' b = some o) → (∀ g, a' = some ⟨g, 0, none⟩ → a = a' ∨ h g = none) → (a' = none → a = none) → (∀ b, h b = none → a' ≠ some ⟨b, 0, none⟩ → h' b = none) → K (vsl a' (n + m) c') h') :
    SemOK P (Builtin.append_ #[t, t] ty #[vsl a n c, vsl a2 m c2]) h K := by
  intro w hs
  obtain ⟨i, z, hi, hz, rfl, rfl, hzs⟩ := T.el
  have hlen : (xs ++ news).length = (n + m) * i.size := by rw [List.length_append, H.1, hl, Nat.add_mul]
  have h63 : n + m ≤ maxLen := by simp only [maxLen]; omega
  by_cases hm0 : m = 0
  · subst hm0
    have hn : news = [] := List.eq_nil_of_length_eq_zero (by simpa using hl)
    subst hn
    refine ⟨vsl a n c, w, h, ?_, hs, Fr.refl h w, ?_⟩
    · have hf : (Builtin.firstCells i.size 0 (.slice a2 0 c2)).run P w = .ok #[] w := by
        cases a2 with
        | none => exact run_firstCells_none w i.size 0 0 c2
        | some ad => exact run_firstCells_some w i.size 0 ad 0 c2 [] (by simp) (by simp)
      rcases H.2 with ⟨rfl, rfl, rfl⟩ | ⟨g, cur, rfl, hg, hnc, hcm, hcs, ht⟩
      · simp [Builtin.append_, run_underlying T.sl, sizeOf, typeInfo, hi, Builtin.lenOf, hf]
      · simp [Builtin.append_, run_underlying T.sl, sizeOf, typeInfo, hi, Builtin.lenOf, hf, hnc, storeCells]
    · have := hK a c h (by simpa using H) (fun b o hb _ => hb) (fun g _ => .inl rfl) (fun e => e) (fun b hb _ => hb)
      simpa using this
  · have hnn : news ≠ [] := fun e => by
      subst e
      have h0 : m * i.size = 0 := by simpa using hl.symm
      rcases Nat.mul_eq_zero.1 h0 with h2 | h2
      · exact hm0 h2
      · have := T.pos; omega
    obtain ⟨b2, o2, rfl, hr2⟩ := (show ∃ b o, a2 = some ⟨b, o, none⟩ ∧ h.row b o news.length = some news from H2.resolve_left hnn)
    have hnews := HasRow.cells hs (a := ⟨b2, o2, none⟩) H2
    have grown : ∀ old, old < n + m → OwnS (h.set w.heap.size (.cells (xs.toArray ++ news.toArray ++ Builtin.zeroCells z.cells (grownCap w (n + m) old e - (n + m))) e (0, 0))) e i.size (some ⟨w.heap.size, 0, none⟩) (n + m) (grownCap w (n + m) old e) (xs ++ news) := by
      intro old ho
      have hge := grownCap_ge w (n + m) old e
      have hcm : grownCap w (n + m) old e ≤ maxLen := grownCap_le_maxLen w (n + m) old e h63
      refine ⟨hlen, .inr ⟨w.heap.size, _, rfl, Hp.set_same _ _ _, hge, hcm, ?_, ?_⟩⟩
      · simp only [Array.size_append, List.size_toArray, size_zeroCells, hzs, H.1, hl, ← Nat.add_mul]
        congr 1
        omega
      · simp only [Array.toList_append, List.append_assoc]
        rw [← List.append_assoc, ← hlen]
        exact List.take_left
    have hno : h w.heap.size = none := Sub.none hs
    have oldk : ∀ (O : Obj) (b : Nat) (o : Obj), h b = some o → (h.set w.heap.size O) b = some o := by
      intro O b o hb
      have : b ≠ w.heap.size := fun e => by subst e; rw [hno] at hb; cases hb
      simp [Hp.set, this, hb]
    have newk : ∀ (O : Obj) (b : Nat), h b = none → some ⟨w.heap.size, 0, none⟩ ≠ some (⟨b, 0, none⟩ : Addr) → (h.set w.heap.size O) b = none := by
      intro O b hb hne
      have : b ≠ w.heap.size := fun e => hne (by rw [e])
      simp [Hp.set, this, hb]
    rcases H.2 with ⟨rfl, rfl, rfl⟩ | ⟨g, cur, rfl, hg, hnc, hcm, hcs, htake⟩
    · have hx : xs = [] := List.eq_nil_of_length_eq_zero (by simpa using H.1)
      subst hx
      have hr := run_append_nil (P := P) w t ty e i z T.sl hi hz ⟨b2, o2, none⟩ m c2 news hl hnews (by omega) (by omega) (by simp only [Nat.zero_add] at hb; omega)
      have hgr := grown 0 (by omega)
      simp only [Nat.zero_add, List.nil_append, Array.empty_append] at hgr hK ⊢
      exact ⟨_, _, _, hr, drew_alloc_Sub hs _, drew_alloc_Fr h w _, hK _ _ _ hgr (fun b o hb _ => oldk _ b o hb) (fun g e => .inr (by simp only [Option.some.injEq, Addr.mk.injEq, and_true] at e; rw [← e]; exact hno)) (by simp) (fun b hb hne => newk _ b hb hne)⟩
    · have hw := hs g _ hg
      by_cases hroom : n + m ≤ c
      · have hfit : n * i.size + news.length ≤ cur.size := by rw [hl, hcs, ← Nat.add_mul]; exact Nat.mul_le_mul_right _ hroom
        have hr := run_append_room (P := P) w t ty e i T.sl hi g n c cur hw ⟨b2, o2, none⟩ m c2 news hl hnews h1 hroom hfit
        refine ⟨_, _, _, hr, setRow_Sub hs hg, setRow_Fr hg, hK _ _ _ ⟨hlen, .inr ⟨g, _, rfl, Hp.set_same _ _ _, hroom, hcm, ?_, ?_⟩⟩ ?_ (fun g' e => .inl rfl) (fun e => e) ?_⟩
        · simp only [List.size_toArray, List.length_append, List.length_take, List.length_drop, Array.length_toList]
          omega
        · simp only
          rw [htake, ← hlen]
          exact List.take_left
        · intro b o hb hne
          have : b ≠ g := fun e => hne (by rw [e])
          simp [Hp.set, this, hb]
        · intro b hb hne
          have : b ≠ g := fun e => hne (by rw [e])
          simp [Hp.set, this, hb]
      · have holds : ∀ j u, xs[j]? = some u → w.cell? ((⟨g, 0, none⟩ : Addr).add j) = some u := HasRow.cells hs (a := ⟨g, 0, none⟩) H.row
        have hr := run_append_grow (P := P) w t ty e i z T.sl hi hz ⟨g, 0, none⟩ n c xs H.1 holds ⟨b2, o2, none⟩ m c2 news hl hnews (by omega) (by omega) (growslice_fits (by omega) hb)
        have hgr := grown c (by omega)
        exact ⟨_, _, _, hr, drew_alloc_Sub hs _, drew_alloc_Fr h w _, hK _ _ _ hgr (fun b o hb _ => oldk _ b o hb) (fun g e => .inr (by simp only [Option.some.injEq, Addr.mk.injEq, and_true] at e; rw [← e]; exact hno)) (fun e => by cases e) (fun b hb hne => newk _ b hb hne)⟩
end
end Go.Vc
/-
  The framework, part K: from a call's condition to a law's row: what came in reads behind the call as ahead of it, if no block that was there has turned. No program in sight. Conditions: none.
-/
namespace Go.Vc
open Go Go.RowKit Go.ChangeShapes Go.WideShapes Go.ChangeAt
set_option linter.unusedVariables false

def hpOf (w : World) : Hp := fun b => w.heap[b]?
structure Kept (w w' : World) : Prop where
  os : w'.os = w.os
  output : w'.output = w.output
  size : w.heap.size ≤ w'.heap.size
  heap : ∀ (b : Nat) (o : Obj), w.heap[b]? = some o → w'.heap[b]? = some o

section
variable {P : Program}
theorem calls_law {f : FuncId} {args : List Value} {W : World} (H : CallOK P f args (hpOf W) fun v h' => v = vb true ∧ (hpOf W).le h') :
    Calls P f args.toArray W fun e W' => e = .returned (.bool true) ∧ Kept W W' := by
  refine (H W fun b o hb => hb).mono ?_
  rintro e W' ⟨v, h', rfl, hs, hF, rfl, hle⟩
  exact ⟨rfl, hF.os, hF.output, hF.size, fun b o hb => hs b o (hle b o hb)⟩

theorem mapM_kept {α β : Type} {f g : α → Option β} : ∀ {l : List α} {ys : List β}, l.mapM f = some ys → (∀ x ∈ l, ∀ y ∈ ys, f x = some y → g x = some y) → l.mapM g = some ys
  | [], ys, h, hg => by simpa using h
  | x :: l, ys, h, hg => by
    rw [List.mapM_cons] at h ⊢
    simp only [Option.bind_eq_bind, Option.bind_eq_some_iff, Option.pure_def, Option.some.injEq] at h ⊢
    obtain ⟨y, hy, zs, hzs, rfl⟩ := h
    exact ⟨y, hg x (by simp) y (by simp) hy, zs, mapM_kept hzs (fun x' hx y' hy' => hg x' (by simp [hx]) y' (by simp [hy'])), rfl⟩

theorem length_mapM {α β : Type} {f : α → Option β} : ∀ {l : List α} {ys : List β}, l.mapM f = some ys → ys.length = l.length
  | [], ys, h => by simp at h; subst h; rfl
  | x :: l, ys, h => by
    rw [List.mapM_cons] at h
    simp only [Option.bind_eq_bind, Option.bind_eq_some_iff, Option.pure_def, Option.some.injEq] at h
    obtain ⟨y, hy, zs, hzs, rfl⟩ := h
    simp [length_mapM hzs]

theorem Kept.cell {w w' : World} (K : Kept w w') {a : Addr} {v : Value} (h : w.cell? a = some v) : w'.cell? a = some v := by
  unfold World.cell? at h ⊢
  cases hb : w.heap[a.block]? with
  | none => rw [hb] at h; cases h
  | some o => rw [K.heap _ _ hb]; rw [hb] at h; exact h
theorem Kept.cells {w w' : World} (K : Kept w w') {base : Nat} {a : Addr} {n : Nat} {cs : List Value} (h : w.cells? base a n = some cs) : w'.cells? base a n = some cs := by
  unfold World.cells? at h ⊢
  split at h
  · rename_i hb
    rw [if_pos hb]
    exact mapM_kept h fun _ _ _ _ e => K.cell e
  · cases h

/-- Elements of slices take room; the table's types are closed. -/
def tyOK (P : Program) (N : Nat) (t : TypeId) : Bool :=
  match P.underlying t with
  | some (.slice e) => Nat.blt 0 (P.cellsOf e) && Nat.blt e N
  | some (.pointer e) => Nat.blt e N
  | some (.array _ e) => Nat.blt e N
  | some (.map _ e) => Nat.blt e N
  | some (.struct fs) => fs.toList.all fun f => Nat.blt f.type N
  | _ => true
structure slicesBig (P : Program) : Prop where
  ty : ∀ t, t < P.types.size → tyOK P P.types.size t = true
  gl : ∀ (g : Nat) (t : TypeId), (P.globals[g]?).map (·.type) = some t → t < P.types.size
theorem slicesBig_of {P : Program} (h1 : ((List.range P.types.size).all (tyOK P P.types.size)) = true) (h2 : (P.globals.toList.all fun g => Nat.blt g.type P.types.size) = true) : slicesBig P where
  ty t ht := List.all_eq_true.1 h1 t (List.mem_range.2 ht)
  gl g t hg := by
    cases hb : P.globals[g]? with
    | none => rw [hb] at hg; cases hg
    | some x =>
      rw [hb] at hg
      simp only [Option.map_some, Option.some.injEq] at hg
      subst hg
      have := List.all_eq_true.1 h2 x (by have := Array.mem_of_getElem? hb; simpa using this)
      exact Nat.le_of_ble_eq_true this

theorem mem_row_mk {a : Addr} {n i : Nat} (hi : i < n) : MemPlace.cell a.block (a.off + i) ∈ MemPlace.row a n := by
  unfold MemPlace.row
  exact List.mem_map.2 ⟨i, List.mem_range.2 hi, rfl⟩

/-- WHAT WAS READ READS SO BEHIND THE CALL. -/
theorem trod_kept {H : Type} {enc : TypeId × Value → H} (hS : slicesBig P) {w w' : World} (K : Kept w w') {base : Nat} {sp : Nat → Bool} :
    ∀ {fuel : Nat} {t : TypeId} {cs : List Value} {d : DataW H} {ps : List MemPlace}, t < P.types.size → DataW.trod enc P w base (fun _ => true) true fuel t cs = some (d, ps) →
      (∀ p ∈ ps, sp p.block = true) → DataW.trod enc P w' base sp true fuel t cs = some (d, ps) := by
  intro fuel
  induction fuel with
  | zero => intro t cs d ps ht h; simp [DataW.trod] at h
  | succ fuel ih =>
    intro t cs d ps ht h hp
    have htk := hS.ty t ht
    unfold tyOK at htk
    unfold DataW.trod at h ⊢
    split at h
    case h_6 => -- pointer
      rename_i e a hu
      rw [hu] at htk
      dsimp only at htk
      simp only [Option.map_eq_some_iff, Option.bind_eq_some_iff] at h ⊢
      obtain ⟨x, ⟨cs', hc, hx⟩, he⟩ := h
      have he2 := he
      simp only [Prod.mk.injEq] at he2
      obtain ⟨rfl, rfl⟩ := he2
      exact ⟨x, ⟨cs', K.cells hc, ih (Nat.le_of_ble_eq_true htk) hx fun p hpx => hp p (List.mem_append_right _ hpx)⟩, rfl⟩
    case h_8 => -- slice
      rename_i e a len cap hu
      rw [hu] at htk
      simp only [Bool.and_eq_true] at htk
      split at h
      · rename_i hc
        rw [if_pos hc]
        simp only [Option.bind_eq_some_iff, Option.map_eq_some_iff, if_true] at h
        obtain ⟨elems, he, rest, hr, hx⟩ := h
        simp only [Prod.mk.injEq] at hx
        obtain ⟨rfl, rfl⟩ := hx
        have hel : elems.length = len := by have := length_mapM he; simpa using this
        have hrl : rest.length = cap - len := by have := length_mapM hr; simpa using this
        have one : ∀ (i : Nat) (y : DataW H × List MemPlace), y ∈ elems ++ rest → ((w.cells? base (a.add (i * P.cellsOf e)) (P.cellsOf e)).bind (DataW.trod enc P w base (fun _ => true) true fuel e)) = some y →
            ((w'.cells? base (a.add (i * P.cellsOf e)) (P.cellsOf e)).bind (DataW.trod enc P w' base sp true fuel e)) = some y := by
          intro i y hy h1
          simp only [Option.bind_eq_some_iff] at h1 ⊢
          obtain ⟨cs', h2, h3⟩ := h1
          exact ⟨cs', K.cells h2, ih (Nat.le_of_ble_eq_true htk.2) h3 fun p hpy => hp p (List.mem_append_right _ (List.mem_flatMap.2 ⟨y, hy, hpy⟩))⟩
        simp only [Option.bind_eq_some_iff, Option.map_eq_some_iff]
        refine ⟨elems, mapM_kept he fun i _ y hy h1 => one i y (List.mem_append_left _ hy) h1, rest, ?_, rfl⟩
        by_cases hz : cap = 0
        · have h0 : rest = [] := List.eq_nil_of_length_eq_zero (by omega)
          subst h0
          subst hz
          split <;> simp
        · have hsp : sp a.block = true := by
            have h0 : 0 < (elems.length + rest.length) * P.cellsOf e := Nat.mul_pos (by omega) (Nat.le_of_ble_eq_true htk.1)
            exact hp _ (List.mem_append_left _ (mem_row_mk h0))
          rw [if_pos hsp]
          exact mapM_kept hr fun j _ y hy h1 => one (len + j) y (List.mem_append_right _ hy) h1
      · cases h
    case h_9 => -- struct
      rename_i fs hu
      rw [hu] at htk
      dsimp only at htk
      split at h
      · rename_i hc
        rw [if_pos hc]
        simp only [Option.map_eq_some_iff] at h ⊢
        obtain ⟨xs, hx, he⟩ := h
        have he2 := he
        simp only [Prod.mk.injEq] at he2
        obtain ⟨rfl, rfl⟩ := he2
        exact ⟨xs, mapM_kept hx fun f hf y hy h1 => ih (Nat.le_of_ble_eq_true (List.all_eq_true.1 htk f hf)) h1 fun p hpy => hp p (List.mem_flatMap.2 ⟨y, hy, hpy⟩), rfl⟩
      · cases h
    case h_10 => -- array
      rename_i n e hu
      rw [hu] at htk
      dsimp only at htk
      split at h
      · rename_i hc
        rw [if_pos hc]
        simp only [Option.map_eq_some_iff] at h ⊢
        obtain ⟨xs, hx, he⟩ := h
        have he2 := he
        simp only [Prod.mk.injEq] at he2
        obtain ⟨rfl, rfl⟩ := he2
        exact ⟨xs, mapM_kept hx fun f _ y hy h1 => ih (Nat.le_of_ble_eq_true htk) h1 fun p hpy => hp p (List.mem_flatMap.2 ⟨y, hy, hpy⟩), rfl⟩
      · cases h
    case h_12 => -- interface
      simp only at h ⊢
      exact h
    case h_14 => -- map
      rename_i k e b hu
      rw [hu] at htk
      dsimp only at htk
      split at h
      · rename_i es clock hb
        rw [K.heap _ _ hb]
        simp only
        split at h
        · rename_i hc
          rw [if_pos hc]
          simp only [Option.bind_eq_some_iff] at h ⊢
          obtain ⟨entries, hx, hrest⟩ := h
          refine ⟨entries, ?_, hrest⟩
          split at hrest
          · simp only [Option.some.injEq, Prod.mk.injEq] at hrest
            obtain ⟨rfl, rfl⟩ := hrest
            refine mapM_kept hx fun f _ y hy h1 => ?_
            simp only [Option.bind_eq_some_iff] at h1 ⊢
            obtain ⟨key, hk, h2⟩ := h1
            refine ⟨key, hk, ?_⟩
            split at h2
            · rename_i hf
              rw [if_pos hf]
              simp only [Option.map_eq_some_iff] at h2 ⊢
              obtain ⟨z, hz, rfl⟩ := h2
              exact ⟨z, ih (Nat.le_of_ble_eq_true htk) hz fun p hpy => hp p (List.mem_cons_of_mem _ (List.mem_flatMap.2 ⟨_, hy, hpy⟩)), rfl⟩
            · cases h2
          · cases hrest
        · cases h
      · cases h
    all_goals first | (cases h; done) | (simp_all; done)

theorem trodAll_kept {H : Type} {enc : TypeId × Value → H} (hS : slicesBig P) {w w' : World} (K : Kept w w') {base : Nat} {sp : Nat → Bool} :
    ∀ {ts : List TypeId} {vs : List Value} {ds : List (DataW H)} {ps : List MemPlace}, (∀ t ∈ ts, t < P.types.size) → DataW.TrodAll enc P w base (fun _ => true) true ts vs ds ps →
      (∀ p ∈ ps, sp p.block = true) → DataW.TrodAll enc P w' base sp true ts vs ds ps
  | [], [], [], ps, _, h, hp => h
  | t :: ts, v :: vs, d :: ds, ps, ht, h, hp => by
    obtain ⟨p, q, ⟨fuel, h1⟩, h2, rfl⟩ := h
    exact ⟨p, q, ⟨fuel, trod_kept hS K (ht t (by simp)) h1 fun x hx => hp x (List.mem_append_left _ hx)⟩, trodAll_kept hS K (fun x hx => ht x (by simp [hx])) h2 (fun x hx => hp x (List.mem_append_right _ hx)), rfl⟩
  | [], _ :: _, _, _, _, h, _ => by simp [DataW.TrodAll] at h
  | [], [], _ :: _, _, _, h, _ => by simp [DataW.TrodAll] at h
  | _ :: _, [], _, _, _, h, _ => by simp [DataW.TrodAll] at h
  | _ :: _, _ :: _, [], _, _, h, _ => by simp [DataW.TrodAll] at h
theorem trodVars_kept {H : Type} {enc : TypeId × Value → H} (hS : slicesBig P) {w w' : World} (K : Kept w w') {sp : Nat → Bool} :
    ∀ {ns : List String} {ds : List (DataW H)} {ps : List MemPlace}, DataW.TrodVars enc P w (fun _ => true) ns ds ps →
      (∀ p ∈ ps, sp p.block = true) → DataW.TrodVars enc P w' sp ns ds ps
  | [], [], ps, h, hp => h
  | n :: ns, d :: ds, ps, h, hp => by
    obtain ⟨g, t, cs, fuel, p, q, hn, ht, hv, h1, h2, rfl⟩ := h
    refine ⟨g, t, cs, fuel, p, q, hn, ht, ?_, trod_kept hS K (hS.gl g t ht) h1 fun x hx => hp x (List.mem_append_left _ (List.mem_append_right _ hx)), trodVars_kept hS K h2 (fun x hx => hp x (List.mem_append_right _ hx)), rfl⟩
    unfold World.var? at hv ⊢
    rw [hn] at hv ⊢
    simp only [Option.bind_some] at hv ⊢
    cases hb : w.heap[g]? with
    | none => rw [hb] at hv; cases hv
    | some o => rw [K.heap _ _ hb]; rw [hb] at hv; exact hv
  | [], _ :: _, _, h, _ => by simp [DataW.TrodVars] at h
  | _ :: _, [], _, h, _ => by simp [DataW.TrodVars] at h

/-- A LAW's ROW, from what its walk gave: true, and no block that was there has turned. -/
theorem law_post {H : Type} {enc : TypeId × Value → H} (hS : slicesBig P) {f : Func} {s : ChangeSpec} {apart fresh handsOn again : Bool} {W W' : World} {args : Array Value} {ds gs : List (DataW H)} {before : List MemPlace}
    (hW : DataW.Whole enc P f.params.toList s.vars apart W args.toList ds gs before) (K : Kept W W') (hts : (f.params.toList.all fun t => Nat.blt t P.types.size) = true) {tb : TypeId} (hr : f.resultTypes = #[tb]) (hb : P.underlying tb = some .bool)
    (hs : s.fn H (ds ++ gs) = { results := [.lit (.bool true)], args := ds, vars := gs }) :
    s.post enc P f apart fresh handsOn again W args (vb true) W' := by
  have hlt : ∀ p ∈ before, p.block < W.heap.size := fun p hp => hW.lt p hp
  have hW0 := hW
  obtain ⟨pa, pv, hA, hV, rfl, hz, hn⟩ := hW
  have hres : ∀ (b : Nat) (sp : Nat → Bool) (hd : Bool), DataW.TrodAll enc P W' b sp hd f.resultTypes.toList ((vb true).resultList f.resultTypes.size) [.lit (.bool true)] [] := by
    intro b sp hd
    rw [hr]
    exact trodAll_cons_mk (shut_bool hb _) trodAll_mk0
  have hargs : ∀ sp : Nat → Bool, (∀ p ∈ pa ++ pv, sp p.block = true) → DataW.TrodAll enc P W' 0 sp true f.params.toList args.toList ds pa := fun sp hp => trodAll_kept hS K (fun t ht => Nat.le_of_ble_eq_true (List.all_eq_true.1 hts t ht)) hA fun p h => hp p (List.mem_append_left _ h)
  have hvars : ∀ sp : Nat → Bool, (∀ p ∈ pa ++ pv, sp p.block = true) → DataW.TrodVars enc P W' sp s.vars gs pv := fun sp hp => trodVars_kept hS K hV fun p h => hp p (List.mem_append_right _ h)
  have hold : ∀ p ∈ pa ++ pv, (fun b => decide (b < W.heap.size)) p.block = true := fun p hp => by simpa using hlt p hp
  have hall : ∀ p ∈ pa ++ pv, (fun _ : Nat => true) p.block = true := fun _ _ => rfl
  refine ⟨ds, gs, pa ++ pv, [], pa, pv, hW0, ?_, ?_, ?_, ⟨K.os, K.output, fun i hi => ?_⟩, fun _ => ⟨?_, _, gs, ([] ++ pa) ++ pv, ⟨[] ++ pa, pv, trodAll_append (hargs _ hall) (hres _ _ _), hvars _ hall, rfl, ?_, ?_⟩, ?_⟩⟩
  · rw [hs]; exact hres _ _ _
  · rw [hs]; exact hargs _ hold
  · rw [hs]; exact hvars _ hold
  · cases hb : W.heap[i]? with
    | none => simp at hb; omega
    | some o => rw [K.heap _ _ hb]; cases o <;> simp
  · intro j t r h1 h2
    exact ok_one hr rfl (okWide_bool_mk hb _) j t r h1 h2
  · intro b off hp
    have h1 := hz b off (by simpa using hp)
    have h2 := hlt (.cell b off) (by simpa using hp)
    unfold World.frozen? at h1 ⊢
    cases hb : W.heap[b]? with
    | none => simp [MemPlace.block] at hb h2; omega
    | some o => rw [hb] at h1; rw [K.heap _ _ hb]; exact h1
  · intro ha
    simpa using hn ha
  · intro p hp _
    simpa using hp
end
end Go.Vc
/-
  This seat's program meets the two conditions of the framework's theorem. Conditions: none.
-/
namespace Go.Proofs.Ytkfhhjllacegpaa
open Go Go.Vc
theorem noNG : NoNG Try.prog := by
  have h : (Try.prog.funcs.all fun fn => !(fn.name == "runtime.NumGoroutine")) = true := by kernel_rfl
  intro f fn hf
  rw [Array.all_eq_true] at h
  obtain ⟨hlt, he⟩ := Array.getElem?_eq_some_iff.mp hf
  have := h f hlt
  rw [he] at this
  simpa using this
theorem mixed : Try.prog.follows .mixedOrders = true := by kernel_rfl
theorem big : slicesBig Try.prog := slicesBig_of (by kernel_rfl) (by kernel_rfl)
theorem elInt : ElT Try.prog 48 3 1 8 := .of (by kernel_rfl) (by kernel_rfl) (by decide)
end Go.Proofs.Ytkfhhjllacegpaa
/-
  What functions of the program ask, in words: each is what the framework reckons from the loaded code (the kernel holds the two together), and gives the function's call. Conditions: none.
-/
namespace Go.Proofs.Ytkfhhjllacegpaa
open Go Go.Vc
set_option maxRecDepth 100000
set_option linter.unusedVariables false
/-- What 'penstock/expr.Arity' asks. -/
def VC_expr_Arity (u_op : Int) (h : Hp) (R : Value → Hp → Prop) : Prop :=
  (((bif (decide ((u_op : Int) = 1)) then true else (decide ((u_op : Int) = 2))) = true → R (vi 0) h) ∧ ((bif (decide ((u_op : Int) = 1)) then true else (decide ((u_op : Int) = 2))) = false → (((bif (bif (decide ((u_op : Int) = 3)) then true else (decide ((u_op : Int) = 4))) then true else (decide ((u_op : Int) = 5))) = true → R (vi 1) h) ∧ ((bif (bif (decide ((u_op : Int) = 3)) then true else (decide ((u_op : Int) = 4))) then true else (decide ((u_op : Int) = 5))) = false → (((bif (decide ((u_op : Int) ≥ 6)) then (decide ((u_op : Int) ≤ 12)) else false) = true → R (vi 2) h) ∧ ((bif (decide ((u_op : Int) ≥ 6)) then (decide ((u_op : Int) ≤ 12)) else false) = false → R (vi (-1)) h))))))
theorem ok_expr_Arity {u_op : Int} {h : Hp} {R : Value → Hp → Prop} (H : VC_expr_Arity u_op h R) : CallOK Try.prog 9 [(vi u_op)] h R :=
  call_of (cfg := ⟨[], [], []⟩) noNG mixed Try.func9 [.one (.v (vi u_op))] (by kernel_rfl) rfl (by kernel_rfl) H

/-- What 'penstock/expr.field' asks. -/
def VC_expr_field (u_eTime : Int) (u_eKKind : Int) (u_eKN : Int) (u_eAKind : Int) (u_eAN : Int) (u_eBKind : Int) (u_eBN : Int) (u_n : Int) (h : Hp) (R : Value → Hp → Prop) : Prop :=
  (CallOK Try.prog 6 [(vi u_eTime)] h fun v1 h2 => ∃ (x3 : Int) (x4 : Int), v1 = (vag [(vi x3), (vi x4)]) ∧ (∃ (x5 : Int) (x6 : Int), (Rd Try.prog (Instr.index 54 (vag [(vi x3), (vi x4), (vi u_eKKind), (vi u_eKN), (vi u_eAKind), (vi u_eAN), (vi u_eBKind), (vi u_eBN)]) (vi u_n)) h2 (vag [(vi x5), (vi x6)])) ∧ R (vag [(vi x5), (vi x6)]) h2))
theorem ok_expr_field {u_eTime : Int} {u_eKKind : Int} {u_eKN : Int} {u_eAKind : Int} {u_eAN : Int} {u_eBKind : Int} {u_eBN : Int} {u_n : Int} {h : Hp} {R : Value → Hp → Prop} (H : VC_expr_field u_eTime u_eKKind u_eKN u_eAKind u_eAN u_eBKind u_eBN u_n h R) : CallOK Try.prog 14 [(vag [(vi u_eTime), (vi u_eKKind), (vi u_eKN), (vi u_eAKind), (vi u_eAN), (vi u_eBKind), (vi u_eBN)]), (vi u_n)] h R :=
  call_of (cfg := ⟨[], [], [(1, [0, 1, 3, 4, 5, 6, 7, 8, 10, 2, 9, 11, 12])]⟩) noNG mixed Try.func14 [.ag [.v (vi u_eTime), .v (vi u_eKKind), .v (vi u_eKN), .v (vi u_eAKind), .v (vi u_eAN), .v (vi u_eBKind), .v (vi u_eBN)], .one (.v (vi u_n))] (by kernel_rfl) rfl (by kernel_rfl) H

/-- What 'penstock/expr.Eval' asks. -/
def VC_expr_Eval (u_la : Option Addr) (u_ln u_lc : Nat) (u_eTime : Int) (u_eKKind : Int) (u_eKN : Int) (u_eAKind : Int) (u_eAN : Int) (u_eBKind : Int) (u_eBN : Int) (h : Hp) (R : Value → Hp → Prop) : Prop :=
  (SemOK Try.prog (Instr.makeSlice 42 (vi ((u_ln : Nat) : Int)) (vi ((u_ln : Nat) : Int))) h fun v1 h2 => ∃ (a3 : Option Addr) (n3 c3 : Nat), v1 = (vsl a3 n3 c3) ∧ (∃ (I5 : List Value → Hp → Prop) (m6 : List Value → Hp → Nat), I5 [(vi 0)] h2 ∧ ∀ (vs7 : List Value) (h8 : Hp), I5 vs7 h8 → ∃ (x9 : Int), vs7 = [(vi x9)] ∧ (((decide ((x9 : Int) < ((u_ln : Nat) : Int))) = true → (let J83 : Hp → Prop := fun (h84 : Hp) => (∃ (x85 : Int), (IsW x85 (x9 + 1)) ∧ (I5 [(vi x85)] h84 ∧ m6 [(vi x85)] h84 < m6 vs7 h8)); (∃ (b12 o13 : Nat), (u_la = some ⟨b12, o13, none⟩ ∧ (0 : Int) ≤ x9 ∧ x9 < ((u_ln : Nat) : Int)) ∧ (∃ (x14 : Int) (x15 : Int) (x16 : Int) (x17 : Int) (x18 : Int) (x19 : Int), (Hp.row h8 b12 (o13 + x9.toNat * 6) 6 = some [(vi x14), (vi x15), (vi x16), (vi x17), (vi x18), (vi x19)]) ∧ (((decide ((x14 : Int) = 1)) = true → (∃ (b20 o21 : Nat), (a3 = some ⟨b20, o21, none⟩ ∧ (0 : Int) ≤ x9 ∧ x9 < ((n3 : Nat) : Int)) ∧ (Hp.store h8 b20 (o21 + x9.toNat * 2) [(vi x18), (vi x19)] fun h22 => (J83 h22)))) ∧ ((decide ((x14 : Int) = 1)) = false → (((decide ((x14 : Int) = 2)) = true → (CallOK Try.prog 14 [(vag [(vi u_eTime), (vi u_eKKind), (vi u_eKN), (vi u_eAKind), (vi u_eAN), (vi u_eBKind), (vi u_eBN)]), (vi x17)] h8 fun v24 h25 => ∃ (x26 : Int) (x27 : Int), v24 = (vag [(vi x26), (vi x27)]) ∧ (∃ (b28 o29 : Nat), (a3 = some ⟨b28, o29, none⟩ ∧ (0 : Int) ≤ x9 ∧ x9 < ((n3 : Nat) : Int)) ∧ (Hp.store h25 b28 (o29 + x9.toNat * 2) [(vi x26), (vi x27)] fun h30 => (J83 h30))))) ∧ ((decide ((x14 : Int) = 2)) = false → (((decide ((x14 : Int) = 3)) = true → (∃ (b32 o33 : Nat), (a3 = some ⟨b32, o33, none⟩ ∧ (0 : Int) ≤ x15 ∧ x15 < ((n3 : Nat) : Int)) ∧ (∃ (x34 : Int) (x35 : Int), (Hp.row h8 b32 (o33 + x15.toNat * 2) 2 = some [(vi x34), (vi x35)]) ∧ (CallOK Try.prog 15 [(vag [(vi x34), (vi x35)])] h8 fun v36 h37 => ∃ (x38 : Int) (x39 : Int), v36 = (vag [(vi x38), (vi x39)]) ∧ (∃ (b40 o41 : Nat), (a3 = some ⟨b40, o41, none⟩ ∧ (0 : Int) ≤ x9 ∧ x9 < ((n3 : Nat) : Int)) ∧ (Hp.store h37 b40 (o41 + x9.toNat * 2) [(vi x38), (vi x39)] fun h42 => (J83 h42))))))) ∧ ((decide ((x14 : Int) = 3)) = false → (((decide ((x14 : Int) = 4)) = true → (∃ (b44 o45 : Nat), (a3 = some ⟨b44, o45, none⟩ ∧ (0 : Int) ≤ x15 ∧ x15 < ((n3 : Nat) : Int)) ∧ (∃ (x46 : Int) (x47 : Int), (Hp.row h8 b44 (o45 + x15.toNat * 2) 2 = some [(vi x46), (vi x47)]) ∧ (CallOK Try.prog 16 [(vag [(vi x46), (vi x47)])] h8 fun v48 h49 => ∃ (x50 : Int) (x51 : Int), v48 = (vag [(vi x50), (vi x51)]) ∧ (∃ (b52 o53 : Nat), (a3 = some ⟨b52, o53, none⟩ ∧ (0 : Int) ≤ x9 ∧ x9 < ((n3 : Nat) : Int)) ∧ (Hp.store h49 b52 (o53 + x9.toNat * 2) [(vi x50), (vi x51)] fun h54 => (J83 h54))))))) ∧ ((decide ((x14 : Int) = 4)) = false → (((decide ((x14 : Int) = 5)) = true → (∃ (b56 o57 : Nat), (a3 = some ⟨b56, o57, none⟩ ∧ (0 : Int) ≤ x15 ∧ x15 < ((n3 : Nat) : Int)) ∧ (∃ (x58 : Int), (Hp.cell h8 b56 (o57 + x15.toNat * 2) = some (vi x58)) ∧ (CallOK Try.prog 17 [(vb (decide ((x58 : Int) = 0)))] h8 fun v59 h60 => ∃ (x61 : Int) (x62 : Int), v59 = (vag [(vi x61), (vi x62)]) ∧ (∃ (b63 o64 : Nat), (a3 = some ⟨b63, o64, none⟩ ∧ (0 : Int) ≤ x9 ∧ x9 < ((n3 : Nat) : Int)) ∧ (Hp.store h60 b63 (o64 + x9.toNat * 2) [(vi x61), (vi x62)] fun h65 => (J83 h65))))))) ∧ ((decide ((x14 : Int) = 5)) = false → (∃ (b67 o68 : Nat), (a3 = some ⟨b67, o68, none⟩ ∧ (0 : Int) ≤ x15 ∧ x15 < ((n3 : Nat) : Int)) ∧ (∃ (x69 : Int) (x70 : Int), (Hp.row h8 b67 (o68 + x15.toNat * 2) 2 = some [(vi x69), (vi x70)]) ∧ (∃ (b71 o72 : Nat), (a3 = some ⟨b71, o72, none⟩ ∧ (0 : Int) ≤ x16 ∧ x16 < ((n3 : Nat) : Int)) ∧ (∃ (x73 : Int) (x74 : Int), (Hp.row h8 b71 (o72 + x16.toNat * 2) 2 = some [(vi x73), (vi x74)]) ∧ (CallOK Try.prog 11 [(vi x14), (vag [(vi x69), (vi x70)]), (vag [(vi x73), (vi x74)])] h8 fun v75 h76 => ∃ (x77 : Int) (x78 : Int), v75 = (vag [(vi x77), (vi x78)]) ∧ (∃ (b79 o80 : Nat), (a3 = some ⟨b79, o80, none⟩ ∧ (0 : Int) ≤ x9 ∧ x9 < ((n3 : Nat) : Int)) ∧ (Hp.store h76 b79 (o80 + x9.toNat * 2) [(vi x77), (vi x78)] fun h81 => (J83 h81)))))))))))))))))))))) ∧ ((decide ((x9 : Int) < ((u_ln : Nat) : Int))) = false → (∃ (x86 : Int), (IsW x86 (((n3 : Nat) : Int) - 1)) ∧ (∃ (b87 o88 : Nat), (a3 = some ⟨b87, o88, none⟩ ∧ (0 : Int) ≤ x86 ∧ x86 < ((n3 : Nat) : Int)) ∧ (∃ (x89 : Int) (x90 : Int), (Hp.row h8 b87 (o88 + x86.toNat * 2) 2 = some [(vi x89), (vi x90)]) ∧ R (vag [(vi x89), (vi x90)]) h8)))))))
theorem ok_expr_Eval {u_la : Option Addr} {u_ln u_lc : Nat} {u_eTime : Int} {u_eKKind : Int} {u_eKN : Int} {u_eAKind : Int} {u_eAN : Int} {u_eBKind : Int} {u_eBN : Int} {h : Hp} {R : Value → Hp → Prop} (H : VC_expr_Eval u_la u_ln u_lc u_eTime u_eKKind u_eKN u_eAKind u_eAN u_eBKind u_eBN h R) : CallOK Try.prog 4 [(vsl u_la u_ln u_lc), (vag [(vi u_eTime), (vi u_eKKind), (vi u_eKN), (vi u_eAKind), (vi u_eAN), (vi u_eBKind), (vi u_eBN)])] h R :=
  call_of (cfg := ⟨[], [(3, ([13], [.one (.int .i64)], []))], [(6, [0, 1, 2, 3, 4, 5, 6, 7, 8, 9, 10, 11, 12, 13, 14, 15, 16])]⟩) noNG mixed Try.func4 [.one (.v (vsl u_la u_ln u_lc)), .ag [.v (vi u_eTime), .v (vi u_eKKind), .v (vi u_eKN), .v (vi u_eAKind), .v (vi u_eAN), .v (vi u_eBKind), .v (vi u_eBN)]] (by kernel_rfl) rfl (by kernel_rfl) H

/-- What 'penstock/expr.join' asks. -/
def VC_expr_join (u_a : Int) (u_b : Int) (h : Hp) (R : Value → Hp → Prop) : Prop :=
  (((decide ((u_a : Int) = 0)) = true → R (vtup [(vi u_b), (vb true)]) h) ∧ ((decide ((u_a : Int) = 0)) = false → (let J3 : Bool → Prop := fun (p4 : Bool) => ((p4 = true → R (vtup [(vi u_a), (vb true)]) h) ∧ (p4 = false → R (vtup [(vi 0), (vb false)]) h)); (((decide ((u_b : Int) = 0)) = true → (J3 (decide ((u_b : Int) = 0)))) ∧ ((decide ((u_b : Int) = 0)) = false → (J3 (decide ((u_a : Int) = u_b))))))))
/-- What 'penstock/expr.Cut' asks. -/
def VC_expr_Cut (u_la : Option Addr) (u_ln u_lc : Nat) (u_end : Int) (h : Hp) (R : Value → Hp → Prop) : Prop :=
  (∃ (b1 o2 : Nat), (u_la = some ⟨b1, o2, none⟩ ∧ (0 : Int) ≤ u_end ∧ u_end < ((u_ln : Nat) : Int)) ∧ (∃ (x3 : Int), (Hp.cell h b1 (o2 + u_end.toNat * 6) = some (vi x3)) ∧ (CallOK Try.prog 9 [(vi x3)] h fun v4 h5 => ∃ (x6 : Int), v4 = (vi x6) ∧ (∃ (I8 : List Value → Hp → Prop) (m9 : List Value → Hp → Nat), I8 [(vi u_end), (vi x6)] h5 ∧ ∀ (vs10 : List Value) (h11 : Hp), I8 vs10 h11 → ∃ (x12 : Int) (x13 : Int), vs10 = [(vi x12), (vi x13)] ∧ (((decide ((x13 : Int) > 0)) = true → (∃ (x16 : Int), (IsW x16 (x12 - 1)) ∧ (∃ (b17 o18 : Nat), (u_la = some ⟨b17, o18, none⟩ ∧ (0 : Int) ≤ x16 ∧ x16 < ((u_ln : Nat) : Int)) ∧ (∃ (x19 : Int), (Hp.cell h11 b17 (o18 + x16.toNat * 6) = some (vi x19)) ∧ (CallOK Try.prog 9 [(vi x19)] h11 fun v20 h21 => ∃ (x22 : Int), v20 = (vi x22) ∧ (∃ (x23 : Int), (IsW x23 (x22 - 1)) ∧ (∃ (x24 : Int), (IsW x24 (x13 + x23)) ∧ (I8 [(vi x16), (vi x24)] h21 ∧ m9 [(vi x16), (vi x24)] h21 < m9 vs10 h11)))))))) ∧ ((decide ((x13 : Int) > 0)) = false → (∃ (x25 : Int), (IsW x25 (u_end + 1)) ∧ (∃ (a26 : Option Addr) (n26 c26 : Nat), (Rd Try.prog (Instr.sliceAt 22 (vsl u_la u_ln u_lc) (some (vi x12)) (some (vi x25)) none) h11 (vsl a26 n26 c26)) ∧ (CallOK Try.prog 18 [(vsl a26 n26 c26)] h11 fun v27 h28 => ∃ (a29 : Option Addr) (n29 c29 : Nat), v27 = (vsl a29 n29 c29) ∧ (∃ (I31 : List Value → Hp → Prop) (m32 : List Value → Hp → Nat), I31 [(vi 0)] h28 ∧ ∀ (vs33 : List Value) (h34 : Hp), I31 vs33 h34 → ∃ (x35 : Int), vs33 = [(vi x35)] ∧ (((decide ((x35 : Int) < ((n29 : Nat) : Int))) = true → (let J70 : Hp → Prop := fun (h71 : Hp) => (∃ (x72 : Int), (IsW x72 (x35 + 1)) ∧ (I31 [(vi x72)] h71 ∧ m32 [(vi x72)] h71 < m32 vs33 h34)); (∃ (b38 o39 : Nat), (a29 = some ⟨b38, o39, none⟩ ∧ (0 : Int) ≤ x35 ∧ x35 < ((n29 : Nat) : Int)) ∧ (∃ (x40 : Int), (Hp.cell h34 b38 (o39 + x35.toNat * 6) = some (vi x40)) ∧ (CallOK Try.prog 9 [(vi x40)] h34 fun v41 h42 => ∃ (x43 : Int), v41 = (vi x43) ∧ (let J53 : Hp → Prop := fun (h54 : Hp) => (∃ (b55 o56 : Nat), (a29 = some ⟨b55, o56, none⟩ ∧ (0 : Int) ≤ x35 ∧ x35 < ((n29 : Nat) : Int)) ∧ (∃ (x57 : Int), (Hp.cell h54 b55 (o56 + x35.toNat * 6) = some (vi x57)) ∧ (CallOK Try.prog 9 [(vi x57)] h54 fun v58 h59 => ∃ (x60 : Int), v58 = (vi x60) ∧ (((decide ((x60 : Int) > 1)) = true → (∃ (b61 o62 : Nat), (a29 = some ⟨b61, o62, none⟩ ∧ (0 : Int) ≤ x35 ∧ x35 < ((n29 : Nat) : Int)) ∧ (∃ (x63 : Int), (Hp.cell h59 b61 ((o62 + x35.toNat * 6) + 2) = some (vi x63)) ∧ (∃ (x64 : Int), (IsW x64 (x63 - x12)) ∧ (∃ (b65 o66 : Nat), (a29 = some ⟨b65, o66, none⟩ ∧ (0 : Int) ≤ x35 ∧ x35 < ((n29 : Nat) : Int)) ∧ (Hp.store h59 b65 ((o66 + x35.toNat * 6) + 2) [(vi x64)] fun h67 => (J70 h67))))))) ∧ ((decide ((x60 : Int) > 1)) = false → (J70 h59)))))); (((decide ((x43 : Int) > 0)) = true → (∃ (b44 o45 : Nat), (a29 = some ⟨b44, o45, none⟩ ∧ (0 : Int) ≤ x35 ∧ x35 < ((n29 : Nat) : Int)) ∧ (∃ (x46 : Int), (Hp.cell h42 b44 ((o45 + x35.toNat * 6) + 1) = some (vi x46)) ∧ (∃ (x47 : Int), (IsW x47 (x46 - x12)) ∧ (∃ (b48 o49 : Nat), (a29 = some ⟨b48, o49, none⟩ ∧ (0 : Int) ≤ x35 ∧ x35 < ((n29 : Nat) : Int)) ∧ (Hp.store h42 b48 ((o49 + x35.toNat * 6) + 1) [(vi x47)] fun h50 => (J53 h50))))))) ∧ ((decide ((x43 : Int) > 0)) = false → (J53 h42))))))))) ∧ ((decide ((x35 : Int) < ((n29 : Nat) : Int))) = false → R (vsl a29 n29 c29) h34))))))))))))
theorem ok_expr_Cut {u_la : Option Addr} {u_ln u_lc : Nat} {u_end : Int} {h : Hp} {R : Value → Hp → Prop} (H : VC_expr_Cut u_la u_ln u_lc u_end h R) : CallOK Try.prog 13 [(vsl u_la u_ln u_lc), (vi u_end)] h R :=
  call_of (cfg := ⟨[], [(2, ([5, 6], [.one (.int .i64), .one (.int .i64)], [])), (7, ([37], [.one (.int .i64)], []))], []⟩) noNG mixed Try.func13 [.one (.v (vsl u_la u_ln u_lc)), .one (.v (vi u_end))] (by kernel_rfl) rfl (by kernel_rfl) H

/-- What 'penstock/expr.Join' asks. -/
def VC_expr_Join (u_op : Int) (u_xa : Option Addr) (u_xn u_xc : Nat) (u_ya : Option Addr) (u_yn u_yc : Nat) (h : Hp) (R : Value → Hp → Prop) : Prop :=
  (CallOK Try.prog 18 [(vsl u_xa u_xn u_xc)] h fun v1 h2 => ∃ (a3 : Option Addr) (n3 c3 : Nat), v1 = (vsl a3 n3 c3) ∧ (∃ (x4 : Int), (IsW x4 (((u_xn : Nat) : Int) - 1)) ∧ (∃ (I6 : List Value → Hp → Prop) (m7 : List Value → Hp → Nat), I6 [(vsl a3 n3 c3), (vi 0)] h2 ∧ ∀ (vs8 : List Value) (h9 : Hp), I6 vs8 h9 → ∃ (a10 : Option Addr) (n10 c10 : Nat) (x11 : Int), vs8 = [(vsl a10 n10 c10), (vi x11)] ∧ (((decide ((x11 : Int) < ((u_yn : Nat) : Int))) = true → (∃ (b14 o15 : Nat), (u_ya = some ⟨b14, o15, none⟩ ∧ (0 : Int) ≤ x11 ∧ x11 < ((u_yn : Nat) : Int)) ∧ (∃ (x16 : Int) (x17 : Int) (x18 : Int) (x19 : Int) (x20 : Int) (x21 : Int), (Hp.row h9 b14 (o15 + x11.toNat * 6) 6 = some [(vi x16), (vi x17), (vi x18), (vi x19), (vi x20), (vi x21)]) ∧ (CallOK Try.prog 9 [(vi x16)] h9 fun v22 h23 => ∃ (x24 : Int), v22 = (vi x24) ∧ (let J28 : Int → Prop := fun (x38 : Int) => (CallOK Try.prog 9 [(vi x16)] h23 fun v39 h40 => ∃ (x41 : Int), v39 = (vi x41) ∧ (let J45 : Int → Prop := fun (x48 : Int) => (∀ (b49 : Nat), h40 b49 = none → let h50 : Hp := Hp.set h40 b49 (cellsO [(vi x16), (vi x38), (vi x48), (vi x19), (vi x20), (vi x21)] 28); (SemOK Try.prog (Builtin.append_ #[22, 22] 22 #[(vsl a10 n10 c10), (vsl (some (⟨b49, 0, none⟩ : Addr)) 1 1)]) h50 fun v51 h52 => ∃ (a53 : Option Addr) (n53 c53 : Nat), v51 = (vsl a53 n53 c53) ∧ (∃ (x55 : Int), (IsW x55 (x11 + 1)) ∧ (I6 [(vsl a53 n53 c53), (vi x55)] h52 ∧ m7 [(vsl a53 n53 c53), (vi x55)] h52 < m7 vs8 h9)))); (((decide ((x41 : Int) > 1)) = true → (∃ (x42 : Int), (IsW x42 (x18 + ((u_xn : Nat) : Int))) ∧ (J45 x42))) ∧ ((decide ((x41 : Int) > 1)) = false → (J45 x18))))); (((decide ((x24 : Int) > 0)) = true → (∃ (x25 : Int), (IsW x25 (x17 + ((u_xn : Nat) : Int))) ∧ (J28 x25))) ∧ ((decide ((x24 : Int) > 0)) = false → (J28 x17)))))))) ∧ ((decide ((x11 : Int) < ((u_yn : Nat) : Int))) = false → (CallOK Try.prog 9 [(vi u_op)] h9 fun v56 h57 => ∃ (x58 : Int), v56 = (vi x58) ∧ (let J62 : Int → Prop := fun (x65 : Int) => (∀ (b66 : Nat), h57 b66 = none → let h67 : Hp := Hp.set h57 b66 (cellsO [(vi u_op), (vi x4), (vi x65), (vi 0), (vi 0), (vi 0)] 28); (SemOK Try.prog (Builtin.append_ #[22, 22] 22 #[(vsl a10 n10 c10), (vsl (some (⟨b66, 0, none⟩ : Addr)) 1 1)]) h67 fun v68 h69 => ∃ (a70 : Option Addr) (n70 c70 : Nat), v68 = (vsl a70 n70 c70) ∧ R (vsl a70 n70 c70) h69)); (((decide ((x58 : Int) > 1)) = true → (∃ (x59 : Int), (IsW x59 (((n10 : Nat) : Int) - 1)) ∧ (J62 x59))) ∧ ((decide ((x58 : Int) > 1)) = false → (J62 0))))))))))
theorem ok_expr_Join {u_op : Int} {u_xa : Option Addr} {u_xn u_xc : Nat} {u_ya : Option Addr} {u_yn u_yc : Nat} {h : Hp} {R : Value → Hp → Prop} (H : VC_expr_Join u_op u_xa u_xn u_xc u_ya u_yn u_yc h R) : CallOK Try.prog 5 [(vi u_op), (vsl u_xa u_xn u_xc), (vsl u_ya u_yn u_yc)] h R :=
  call_of (cfg := ⟨[], [(4, ([7, 20], [.one (.slice), .one (.int .i64)], []))], []⟩) noNG mixed Try.func5 [.one (.v (vi u_op)), .one (.v (vsl u_xa u_xn u_xc)), .one (.v (vsl u_ya u_yn u_yc))] (by kernel_rfl) rfl (by kernel_rfl) H

/-- What 'slices.Clone[[]penstock/api.Node,penstock/api.Node]' asks. -/
def VC_slices_Clone_api_Node_api_Node (u_sa : Option Addr) (u_sn u_sc : Nat) (h : Hp) (R : Value → Hp → Prop) : Prop :=
  (∃ (p1 : Bool), (Rd Try.prog ((eqGuard .eql 22 (.tmp 3) (.const (vsl none 0 0)) (vsl u_sa u_sn u_sc) (vsl none 0 0) >>= fun _ => binOp .eql 22 (vsl u_sa u_sn u_sc) (vsl none 0 0))) h (vb p1)) ∧ ((p1 = true → R (vsl none 0 0) h) ∧ (p1 = false → (∀ (b3 : Nat), h b3 = none → let h4 : Hp := Hp.set h b3 (cellsO [] 28); (SemOK Try.prog (Builtin.append_ #[22, 22] 22 #[(vsl (some (⟨b3, 0, none⟩ : Addr)) 0 0), (vsl u_sa u_sn u_sc)]) h4 fun v5 h6 => ∃ (a7 : Option Addr) (n7 c7 : Nat), v5 = (vsl a7 n7 c7) ∧ R (vsl a7 n7 c7) h6)))))
theorem ok_slices_Clone_api_Node_api_Node {u_sa : Option Addr} {u_sn u_sc : Nat} {h : Hp} {R : Value → Hp → Prop} (H : VC_slices_Clone_api_Node_api_Node u_sa u_sn u_sc h R) : CallOK Try.prog 18 [(vsl u_sa u_sn u_sc)] h R :=
  call_of (cfg := ⟨[], [], []⟩) noNG mixed Try.func18 [.one (.v (vsl u_sa u_sn u_sc))] (by kernel_rfl) rfl (by kernel_rfl) H

end Go.Proofs.Ytkfhhjllacegpaa
/-
  What functions of the program ask, in words: each is what the framework reckons from the loaded code (the kernel holds the two together), and gives the function's call. Conditions: none.
-/
namespace Go.Proofs.Ytkfhhjllacegpaa
open Go Go.Vc
set_option maxRecDepth 100000
set_option linter.unusedVariables false
/-- What 'penstock/penstockref.Arity' asks. -/
def VC_R_Arity (u_op : Int) (h : Hp) (R : Value → Hp → Prop) : Prop :=
  (((bif (decide ((u_op : Int) = 1)) then true else (decide ((u_op : Int) = 2))) = true → R (vi 0) h) ∧ ((bif (decide ((u_op : Int) = 1)) then true else (decide ((u_op : Int) = 2))) = false → (((bif (decide ((u_op : Int) ≥ 3)) then (decide ((u_op : Int) ≤ 5)) else false) = true → R (vi 1) h) ∧ ((bif (decide ((u_op : Int) ≥ 3)) then (decide ((u_op : Int) ≤ 5)) else false) = false → (((bif (decide ((u_op : Int) ≥ 6)) then (decide ((u_op : Int) ≤ 12)) else false) = true → R (vi 2) h) ∧ ((bif (decide ((u_op : Int) ≥ 6)) then (decide ((u_op : Int) ≤ 12)) else false) = false → R (vi (-1)) h))))))
end Go.Proofs.Ytkfhhjllacegpaa
/-
  What functions of the program ask, in words: each is what the framework reckons from the loaded code (the kernel holds the two together), and gives the function's call. Conditions: none.
-/
namespace Go.Proofs.Ytkfhhjllacegpaa
open Go Go.Vc
set_option maxRecDepth 100000
set_option linter.unusedVariables false
/-- What 'penstock/value.Truth' asks. -/
def VC_value_Truth (u_is : Bool) (h : Hp) (R : Value → Hp → Prop) : Prop :=
  ((u_is = true → R (vag [(vi 2), (vi 1)]) h) ∧ (u_is = false → R (vag [(vi 2), (vi 0)]) h))
theorem ok_value_Truth {u_is : Bool} {h : Hp} {R : Value → Hp → Prop} (H : VC_value_Truth u_is h R) : CallOK Try.prog 17 [(vb u_is)] h R :=
  call_of (cfg := ⟨[], [], []⟩) noNG mixed Try.func17 [.one (.v (vb u_is))] (by kernel_rfl) rfl (by kernel_rfl) H

/-- What 'penstock/value.numbers' asks. -/
def VC_value_numbers (u_aKind : Int) (u_aN : Int) (u_bKind : Int) (u_bN : Int) (h : Hp) (R : Value → Hp → Prop) : Prop :=
  R (vb (bif (decide ((u_aKind : Int) = 1)) then (decide ((u_bKind : Int) = 1)) else false)) h
theorem ok_value_numbers {u_aKind : Int} {u_aN : Int} {u_bKind : Int} {u_bN : Int} {h : Hp} {R : Value → Hp → Prop} (H : VC_value_numbers u_aKind u_aN u_bKind u_bN h R) : CallOK Try.prog 22 [(vag [(vi u_aKind), (vi u_aN)]), (vag [(vi u_bKind), (vi u_bN)])] h R :=
  call_of (cfg := ⟨[], [], []⟩) noNG mixed Try.func22 [.ag [.v (vi u_aKind), .v (vi u_aN)], .ag [.v (vi u_bKind), .v (vi u_bN)]] (by kernel_rfl) rfl (by kernel_rfl) H

/-- What 'penstock/value.Do' asks. -/
def VC_value_Do (u_op : Int) (u_aKind : Int) (u_aN : Int) (u_bKind : Int) (u_bN : Int) (h : Hp) (R : Value → Hp → Prop) : Prop :=
  (((decide ((u_op : Int) = 9)) = true → (CallOK Try.prog 21 [(vag [(vi u_aKind), (vi u_aN)]), (vag [(vi u_bKind), (vi u_bN)])] h fun v1 h2 => ∃ (x3 : Int) (x4 : Int), v1 = (vag [(vi x3), (vi x4)]) ∧ R (vag [(vi x3), (vi x4)]) h2)) ∧ ((decide ((u_op : Int) = 9)) = false → (((decide ((u_op : Int) = 10)) = true → (CallOK Try.prog 16 [(vag [(vi u_aKind), (vi u_aN)])] h fun v5 h6 => ∃ (x7 : Int) (x8 : Int), v5 = (vag [(vi x7), (vi x8)]) ∧ (CallOK Try.prog 16 [(vag [(vi u_bKind), (vi u_bN)])] h6 fun v9 h10 => ∃ (x11 : Int) (x12 : Int), v9 = (vag [(vi x11), (vi x12)]) ∧ (CallOK Try.prog 21 [(vag [(vi x7), (vi x8)]), (vag [(vi x11), (vi x12)])] h10 fun v13 h14 => ∃ (x15 : Int) (x16 : Int), v13 = (vag [(vi x15), (vi x16)]) ∧ (CallOK Try.prog 16 [(vag [(vi x15), (vi x16)])] h14 fun v17 h18 => ∃ (x19 : Int) (x20 : Int), v17 = (vag [(vi x19), (vi x20)]) ∧ R (vag [(vi x19), (vi x20)]) h18))))) ∧ ((decide ((u_op : Int) = 10)) = false → (CallOK Try.prog 22 [(vag [(vi u_aKind), (vi u_aN)]), (vag [(vi u_bKind), (vi u_bN)])] h fun v22 h23 => ∃ (p24 : Bool), v22 = (vb p24) ∧ (((!p24) = true → (CallOK Try.prog 23 [] h23 fun v25 h26 => ∃ (x27 : Int) (x28 : Int), v25 = (vag [(vi x27), (vi x28)]) ∧ R (vag [(vi x27), (vi x28)]) h26)) ∧ ((!p24) = false → (((decide ((u_op : Int) = 6)) = true → (∃ (x30 : Int), (IsW x30 (u_aN + u_bN)) ∧ (CallOK Try.prog 6 [(vi x30)] h23 fun v31 h32 => ∃ (x33 : Int) (x34 : Int), v31 = (vag [(vi x33), (vi x34)]) ∧ R (vag [(vi x33), (vi x34)]) h32))) ∧ ((decide ((u_op : Int) = 6)) = false → (((decide ((u_op : Int) = 7)) = true → (∃ (x35 : Int), (IsW x35 (u_aN - u_bN)) ∧ (CallOK Try.prog 6 [(vi x35)] h23 fun v36 h37 => ∃ (x38 : Int) (x39 : Int), v36 = (vag [(vi x38), (vi x39)]) ∧ R (vag [(vi x38), (vi x39)]) h37))) ∧ ((decide ((u_op : Int) = 7)) = false → (((decide ((u_op : Int) = 8)) = true → (∃ (x40 : Int), (IsW x40 (u_aN * u_bN)) ∧ (CallOK Try.prog 6 [(vi x40)] h23 fun v41 h42 => ∃ (x43 : Int) (x44 : Int), v41 = (vag [(vi x43), (vi x44)]) ∧ R (vag [(vi x43), (vi x44)]) h42))) ∧ ((decide ((u_op : Int) = 8)) = false → (((decide ((u_op : Int) = 11)) = true → (CallOK Try.prog 17 [(vb (decide ((u_aN : Int) < u_bN)))] h23 fun v45 h46 => ∃ (x47 : Int) (x48 : Int), v45 = (vag [(vi x47), (vi x48)]) ∧ R (vag [(vi x47), (vi x48)]) h46)) ∧ ((decide ((u_op : Int) = 11)) = false → (((decide ((u_op : Int) = 12)) = true → (CallOK Try.prog 17 [(vb (decide ((u_aN : Int) = u_bN)))] h23 fun v49 h50 => ∃ (x51 : Int) (x52 : Int), v49 = (vag [(vi x51), (vi x52)]) ∧ R (vag [(vi x51), (vi x52)]) h50)) ∧ ((decide ((u_op : Int) = 12)) = false → (CallOK Try.prog 23 [] h23 fun v54 h55 => ∃ (x56 : Int) (x57 : Int), v54 = (vag [(vi x56), (vi x57)]) ∧ R (vag [(vi x56), (vi x57)]) h55))))))))))))))))))
theorem ok_value_Do {u_op : Int} {u_aKind : Int} {u_aN : Int} {u_bKind : Int} {u_bN : Int} {h : Hp} {R : Value → Hp → Prop} (H : VC_value_Do u_op u_aKind u_aN u_bKind u_bN h R) : CallOK Try.prog 11 [(vi u_op), (vag [(vi u_aKind), (vi u_aN)]), (vag [(vi u_bKind), (vi u_bN)])] h R :=
  call_of (cfg := ⟨[], [], [(5, [0, 2, 1, 3, 4, 5, 6])]⟩) noNG mixed Try.func11 [.one (.v (vi u_op)), .ag [.v (vi u_aKind), .v (vi u_aN)], .ag [.v (vi u_bKind), .v (vi u_bN)]] (by kernel_rfl) rfl (by kernel_rfl) H

/-- What 'penstock/value.And' asks. -/
def VC_value_And (u_aKind : Int) (u_aN : Int) (u_bKind : Int) (u_bN : Int) (h : Hp) (R : Value → Hp → Prop) : Prop :=
  (CallOK Try.prog 17 [(vb false)] h fun v1 h2 => ∃ (x3 : Int) (x4 : Int), v1 = (vag [(vi x3), (vi x4)]) ∧ (∃ (p5 : Bool), (Rd Try.prog ((eqGuard .eql 24 (.tmp 8) (.tmp 9) (vag [(vi u_aKind), (vi u_aN)]) (vag [(vi x3), (vi x4)]) >>= fun _ => binOp .eql 24 (vag [(vi u_aKind), (vi u_aN)]) (vag [(vi x3), (vi x4)]))) h2 (vb p5)) ∧ (∃ (p6 : Bool), (p5 = false → Rd Try.prog ((eqGuard .eql 24 (.tmp 12) (.tmp 13) (vag [(vi u_bKind), (vi u_bN)]) (vag [(vi x3), (vi x4)]) >>= fun _ => binOp .eql 24 (vag [(vi u_bKind), (vi u_bN)]) (vag [(vi x3), (vi x4)]))) h2 (vb p6)) ∧ (((bif p5 then true else p6) = true → R (vag [(vi x3), (vi x4)]) h2) ∧ ((bif p5 then true else p6) = false → (((bif (decide ((u_aKind : Int) = 2)) then (decide ((u_bKind : Int) = 2)) else false) = true → (CallOK Try.prog 17 [(vb true)] h2 fun v7 h8 => ∃ (x9 : Int) (x10 : Int), v7 = (vag [(vi x9), (vi x10)]) ∧ R (vag [(vi x9), (vi x10)]) h8)) ∧ ((bif (decide ((u_aKind : Int) = 2)) then (decide ((u_bKind : Int) = 2)) else false) = false → (CallOK Try.prog 23 [] h2 fun v12 h13 => ∃ (x14 : Int) (x15 : Int), v12 = (vag [(vi x14), (vi x15)]) ∧ R (vag [(vi x14), (vi x15)]) h13))))))))
theorem ok_value_And {u_aKind : Int} {u_aN : Int} {u_bKind : Int} {u_bN : Int} {h : Hp} {R : Value → Hp → Prop} (H : VC_value_And u_aKind u_aN u_bKind u_bN h R) : CallOK Try.prog 21 [(vag [(vi u_aKind), (vi u_aN)]), (vag [(vi u_bKind), (vi u_bN)])] h R :=
  call_of (cfg := ⟨[], [], []⟩) noNG mixed Try.func21 [.ag [.v (vi u_aKind), .v (vi u_aN)], .ag [.v (vi u_bKind), .v (vi u_bN)]] (by kernel_rfl) rfl (by kernel_rfl) H

/-- What 'penstock/value.Not' asks. -/
def VC_value_Not (u_aKind : Int) (u_aN : Int) (h : Hp) (R : Value → Hp → Prop) : Prop :=
  (((decide ((u_aKind : Int) ≠ 2)) = true → (CallOK Try.prog 23 [] h fun v1 h2 => ∃ (x3 : Int) (x4 : Int), v1 = (vag [(vi x3), (vi x4)]) ∧ R (vag [(vi x3), (vi x4)]) h2)) ∧ ((decide ((u_aKind : Int) ≠ 2)) = false → (CallOK Try.prog 17 [(vb (decide ((u_aN : Int) = 0)))] h fun v6 h7 => ∃ (x8 : Int) (x9 : Int), v6 = (vag [(vi x8), (vi x9)]) ∧ R (vag [(vi x8), (vi x9)]) h7)))
theorem ok_value_Not {u_aKind : Int} {u_aN : Int} {h : Hp} {R : Value → Hp → Prop} (H : VC_value_Not u_aKind u_aN h R) : CallOK Try.prog 16 [(vag [(vi u_aKind), (vi u_aN)])] h R :=
  call_of (cfg := ⟨[], [], []⟩) noNG mixed Try.func16 [.ag [.v (vi u_aKind), .v (vi u_aN)]] (by kernel_rfl) rfl (by kernel_rfl) H

/-- What 'penstock/value.Neg' asks. -/
def VC_value_Neg (u_aKind : Int) (u_aN : Int) (h : Hp) (R : Value → Hp → Prop) : Prop :=
  (((decide ((u_aKind : Int) ≠ 1)) = true → (CallOK Try.prog 23 [] h fun v1 h2 => ∃ (x3 : Int) (x4 : Int), v1 = (vag [(vi x3), (vi x4)]) ∧ R (vag [(vi x3), (vi x4)]) h2)) ∧ ((decide ((u_aKind : Int) ≠ 1)) = false → (∃ (x6 : Int), (IsW x6 (-u_aN)) ∧ (CallOK Try.prog 6 [(vi x6)] h fun v7 h8 => ∃ (x9 : Int) (x10 : Int), v7 = (vag [(vi x9), (vi x10)]) ∧ R (vag [(vi x9), (vi x10)]) h8))))
theorem ok_value_Neg {u_aKind : Int} {u_aN : Int} {h : Hp} {R : Value → Hp → Prop} (H : VC_value_Neg u_aKind u_aN h R) : CallOK Try.prog 15 [(vag [(vi u_aKind), (vi u_aN)])] h R :=
  call_of (cfg := ⟨[], [], []⟩) noNG mixed Try.func15 [.ag [.v (vi u_aKind), .v (vi u_aN)]] (by kernel_rfl) rfl (by kernel_rfl) H

end Go.Proofs.Ytkfhhjllacegpaa
/-
  What functions of the program ask, in words: each is what the framework reckons from the loaded code (the kernel holds the two together), and gives the function's call. Conditions: none.
-/
namespace Go.Proofs.Ytkfhhjllacegpaa
open Go Go.Vc
set_option maxRecDepth 100000
set_option linter.unusedVariables false
/-- What 'penstock/value.Null' asks. -/
def VC_value_Null  (h : Hp) (R : Value → Hp → Prop) : Prop :=
  R (vag [(vi 0), (vi 0)]) h
theorem ok_value_Null  {h : Hp} {R : Value → Hp → Prop} (H : VC_value_Null  h R) : CallOK Try.prog 23 [] h R :=
  call_of (cfg := ⟨[], [], []⟩) noNG mixed Try.func23 [] (by kernel_rfl) rfl (by kernel_rfl) H

/-- What 'penstock/value.Number' asks. -/
def VC_value_Number (u_n : Int) (h : Hp) (R : Value → Hp → Prop) : Prop :=
  (((bif (decide ((u_n : Int) < (-1000000000))) then true else (decide ((u_n : Int) > 1000000000))) = true → R (vag [(vi 0), (vi 0)]) h) ∧ ((bif (decide ((u_n : Int) < (-1000000000))) then true else (decide ((u_n : Int) > 1000000000))) = false → R (vag [(vi 1), (vi u_n)]) h))
theorem ok_value_Number {u_n : Int} {h : Hp} {R : Value → Hp → Prop} (H : VC_value_Number u_n h R) : CallOK Try.prog 6 [(vi u_n)] h R :=
  call_of (cfg := ⟨[], [], []⟩) noNG mixed Try.func6 [.one (.v (vi u_n))] (by kernel_rfl) rfl (by kernel_rfl) H

end Go.Proofs.Ytkfhhjllacegpaa
/-
  The framework, part L: slices of the call's own, slices of ints. No program in sight. Conditions: none.
-/
namespace Go.Vc
open Go
set_option linter.unusedVariables false

theorem isW {e : Int} (h : InR e) : IsW e e := (IntWalk.i64_in _ (by unfold InR at h; exact h)).symm
instance (z : Int) : Decidable (InR z) := by unfold InR; infer_instance

/-- A slice that the call itself made, over what was there when it began (h0), of which nothing has turned. -/
structure OwnV (h0 h : Hp) (e : TypeId) (sz : Nat) (a : Option Addr) (n c : Nat) (xs : List Value) : Prop where
  le : h0.le h
  own : OwnS h e sz a n c xs
  new : ∀ g, a = some ⟨g, 0, none⟩ → h0 g = none
theorem OwnV.nil {h0 h : Hp} (hl : h0.le h) (e : TypeId) (sz : Nat) : OwnV h0 h e sz none 0 0 [] := ⟨hl, OwnS.nil h e sz, by simp⟩
theorem OwnV.mk_new {h0 h : Hp} (hl : h0.le h) {b : Nat} (hb : h b = none) (e : TypeId) {sz n : Nat} (xs : List Value) (hx : xs.length = n * sz) (hn : n ≤ maxLen) :
    OwnV h0 (h.set b (cellsO xs e)) e sz (some ⟨b, 0, none⟩) n n xs :=
  ⟨Hp.le_set hl hb _, OwnS.new h b e xs hx hn, fun g hg => by simp only [Option.some.injEq, Addr.mk.injEq, and_true] at hg; subst hg; exact Hp.none_of_le hl hb⟩
theorem OwnV.row {h0 h : Hp} {e : TypeId} {sz n c : Nat} {a : Option Addr} {xs : List Value} (O : OwnV h0 h e sz a n c xs) : HasRow h a xs := O.own.row
theorem OwnV.mono {h0 h h' : Hp} (hl : h.le h') {e : TypeId} {sz n c : Nat} {a : Option Addr} {xs : List Value} (O : OwnV h0 h e sz a n c xs) : OwnV h0 h' e sz a n c xs := ⟨Hp.le_trans O.le hl, O.own.le hl, O.new⟩
theorem OwnV.set {h0 h : Hp} {b : Nat} (hb : h b = none) (o : Obj) {e : TypeId} {sz n c : Nat} {a : Option Addr} {xs : List Value} (O : OwnV h0 h e sz a n c xs) : OwnV h0 (h.set b o) e sz a n c xs := O.mono (Hp.le_set (Hp.le_refl h) hb o)
section
variable {P : Program}
theorem OwnV.append {h0 h : Hp} {t ty e : TypeId} {sz bytes : Nat} (T : ElT P t e sz bytes) {a : Option Addr} {n c : Nat} {xs : List Value} (O : OwnV h0 h e sz a n c xs)
    {a2 : Option Addr} {m c2 : Nat} {news : List Value} (H2 : HasRow h a2 news) (hl : news.length = m * sz) (h1 : ∀ u ∈ news, u.oneCell' = true)
    (hb : (n + m) * bytes ≤ 140737488355328) (hm : n + m ≤ 140737488355328) {K : Value → Hp → Prop}
    (hK : ∀ a' c' h', OwnV h0 h' e sz a' (n + m) c' (xs ++ news) → (∀ b o, h b = some o → a ≠ some ⟨b, 0, none⟩ → h' b = some o) → (∀ g, a' = some ⟨g, 0, none⟩ → a = a' ∨ h g = none) → K (vsl a' (n + m) c') h') :
    SemOK P (Builtin.append_ #[t, t] ty #[vsl a n c, vsl a2 m c2]) h K := by
  refine sem_append T O.own H2 hl h1 hb hm fun a' c' h' o1 o2 o3 _ _ => hK a' c' h' ⟨?_, o1, ?_⟩ o2 o3
  · intro b o hb
    refine o2 b o (O.le b o hb) fun e => ?_
    rw [O.new b e] at hb
    cases hb
  · intro g hg
    rcases o3 g hg with e | e
    · exact O.new g (e.trans hg)
    · exact Hp.none_of_le O.le e
end

/-- A slice of ints. -/
def SlI (h : Hp) (a : Option Addr) (n : Nat) (l : List Int) : Prop := n = l.length ∧ HasRow h a (l.map vi)
theorem SlI.le {h h' : Hp} (hl : h.le h') {a : Option Addr} {n : Nat} {l : List Int} (H : SlI h a n l) : SlI h' a n l := ⟨H.1, H.2.le hl⟩
theorem OwnV.sli {h0 h : Hp} {e : TypeId} {n c : Nat} {a : Option Addr} {l : List Int} (O : OwnV h0 h e 1 a n c (l.map vi)) : SlI h a n l := ⟨by have := O.own.1; simpa using this.symm, O.row⟩
theorem one_ints (l : List Int) : ∀ u ∈ l.map vi, u.oneCell' = true := by
  intro u hu
  obtain ⟨x, _, rfl⟩ := List.mem_map.1 hu
  rfl
/-- An element of a slice of ints. -/
theorem SlI.get {h : Hp} {a : Option Addr} {n : Nat} {l : List Int} (H : SlI h a n l) {i : Nat} (hi : i < n) : ∃ b o, a = some ⟨b, o, none⟩ ∧ h.cell b (o + i * 1) = some (vi (l.getD i 0)) := by
  obtain ⟨rfl, h1 | ⟨b, o, rfl, hr⟩⟩ := H
  · have : l.length = 0 := by simpa using congrArg List.length h1
    omega
  · refine ⟨b, o, rfl, ?_⟩
    rw [Nat.mul_one]
    refine Hp.row_cell hr ?_
    rw [List.getElem?_map, List.getD_eq_getElem?_getD, List.getElem?_eq_getElem hi]
    rfl
/-- The int that stands at a place of what goes round a loop. -/
def vint (l : List Value) (i : Nat) : Int := match l[i]? with | some (.int _ x) => x | _ => 0

/-- The numbers of (lo, lo + n] of which p holds, in order. -/
def upto (p : Int → Bool) (lo : Int) : Nat → List Int
  | 0 => []
  | n + 1 => upto p lo n ++ (if p (lo + (n + 1 : Nat)) then [lo + (n + 1 : Nat)] else [])
theorem upto_cons (p : Int → Bool) (lo : Int) : ∀ n, upto p lo (n + 1) = (if p (lo + 1) then [lo + 1] else []) ++ upto p (lo + 1) n
  | 0 => by simp [upto]
  | n + 1 => by
    have e : lo + ((n + 1 + 1 : Nat) : Int) = lo + 1 + ((n + 1 : Nat) : Int) := by omega
    show upto p lo (n + 1) ++ (if p (lo + ((n + 1 + 1 : Nat) : Int)) then [lo + ((n + 1 + 1 : Nat) : Int)] else []) = _ ++ (upto p (lo + 1) n ++ (if p (lo + 1 + ((n + 1 : Nat) : Int)) then [lo + 1 + ((n + 1 : Nat) : Int)] else []))
    rw [e, upto_cons p lo n, List.append_assoc]
theorem upto_skip (p : Int → Bool) : ∀ (k : Nat) (lo : Int) (n : Nat), (∀ x, lo < x → x ≤ lo + k → p x = false) → upto p lo (k + n) = upto p (lo + k) n
  | 0, lo, n, h => by simp
  | k + 1, lo, n, h => by
    rw [show k + 1 + n = (k + n) + 1 by omega, upto_cons, h (lo + 1) (by omega) (by omega), upto_skip p k (lo + 1) n fun x h1 h2 => h x (by omega) (by omega)]
    simp only [Bool.false_eq_true, if_false, List.nil_append]
    congr 1
    omega
theorem upto_length (p : Int → Bool) (lo : Int) : ∀ n, (upto p lo n).length ≤ n
  | 0 => Nat.le_refl _
  | n + 1 => by
    rw [upto, List.length_append]
    have := upto_length p lo n
    split <;> simp <;> omega
end Go.Vc
/-
  The framework, part M: what reads only: two structs compared, a slice of a slice. No program in sight. Conditions: none.
-/
namespace Go.Vc
open Go
set_option linter.unusedVariables false

def leafEq : TypeDesc → List Value → List Value → Option Bool
  | .int _, [.int k a], [.int k' b] => bif k == k' then some (decide (a = b)) else none
  | .bool, [.bool a], [.bool b] => some (a == b)
  | .string, [.string a], [.string b] => some (a == b)
  | _, _, _ => none
def andO : Option Bool → Option Bool → Option Bool
  | some a, some b => some (a && b)
  | _, _ => none
section
variable (P : Program)
def cutF (f : Field) (xs : List Value) : List Value := (xs.drop f.offset).take (bif isAggT P f.type then szT P f.type else 1)
/-- Two values of a type, cell by cell. -/
def eqFl : Nat → TypeId → List Value → List Value → Option Bool
  | 0, _, _, _ => none
  | d + 1, t, xs, ys =>
    match P.underlying t with
    | some (.struct fs) => bif P.stoodInHeld t then none else fs.toList.foldr (fun f acc => bif f.name == "_" then none else andO (eqFl d f.type (cutF P f xs) (cutF P f ys)) acc) (some true)
    | some u => leafEq u xs ys
    | none => none
end
section
variable {P : Program}
def valT (P : Program) (t : TypeId) (xs : List Value) : Value := bif isAggT P t then .agg xs.toArray else xs.headD undef
theorem run_isAgg' {t : TypeId} {u : TypeDesc} (h : P.underlying t = some u) (w : World) : (isAgg t).run P w = .ok (isAggT P t) w := by
  simp only [isAgg, Sem.run_bind, run_underlying h, Result.andThen_ok, isAggT, h]
  cases u <;> simp
theorem run_part' {t : TypeId} {u : TypeDesc} (h : P.underlying t = some u) {xs : List Value} {off : Nat} (hb : isAggT P t = false → off < xs.length) (w : World) :
    (part t xs.toArray off).run P w = .ok (valT P t ((xs.drop off).take (bif isAggT P t then szT P t else 1))) w := by
  have hi : ∃ i, P.info? t = some i := by
    unfold Program.underlying at h
    split at h <;> first | (rename_i hi; exact ⟨_, hi⟩) | cases h
  obtain ⟨i, hi⟩ := hi
  unfold part
  simp only [Sem.run_bind, run_isAgg' h, Result.andThen_ok]
  cases hA : isAggT P t with
  | true =>
    simp [valT, hA, sizeOf, typeInfo, hi, szT, Program.cellsOf, List.extract_eq_take_drop]
  | false =>
    have := hb hA
    simp only [Bool.false_eq_true, if_false]
    have e : xs.toArray[off]? = some xs[off] := by simp [this]
    rw [e]
    simp [valT, hA, List.take_one, this]
theorem eqFl_ok : ∀ (d : Nat) {t : TypeId} {xs ys : List Value} {b : Bool}, eqFl P d t xs ys = some b → ∀ (k : Nat) (w : World), (Op.equalIn (d + k) t (valT P t xs) (valT P t ys)).run P w = .ok b w
  | 0, t, xs, ys, b, h, k, w => by simp [eqFl] at h
  | d + 1, t, xs, ys, b, h, k, w => by
    have IH := fun {t : TypeId} {xs ys : List Value} {b : Bool} h => @eqFl_ok d t xs ys b h
    unfold eqFl at h
    rw [show d + 1 + k = (d + k) + 1 by omega]
    split at h
    · rename_i fs hu
      cases hp : P.stoodInHeld t with
      | true => rw [hp] at h; cases h
      | false =>
        rw [hp] at h
        simp only [cond_false] at h
        have hA : isAggT P t = true := by simp [isAggT, hu]
        have hF : P.underlying t = some (.struct (P.fieldsOf t)) := by simp [Program.fieldsOf, hu]
        have hfs : P.fieldsOf t = fs := by simp [Program.fieldsOf, hu]
        simp only [valT, hA, cond_true]
        rw [run_equalIn_struct w (d + k) t _ _ hF hp, hfs]
        generalize fs.toList = l at h
        clear hF hfs hu
        induction l generalizing b w with
        | nil => simp only [List.foldr_nil, Option.some.injEq] at h; subst h; simp [Op.eqFields]
        | cons f l ih =>
          simp only [List.foldr_cons] at h
          cases hn : (f.name == "_") with
          | true => rw [hn] at h; cases h
          | false =>
            rw [hn] at h
            simp only [cond_false] at h
            have hne : f.name ≠ "_" := by simpa using hn
            cases h1 : eqFl P d f.type (cutF P f xs) (cutF P f ys) with
            | none => rw [h1] at h; simp [andO] at h
            | some b1 =>
              cases h2 : List.foldr (fun f acc => bif f.name == "_" then none else andO (eqFl P d f.type (cutF P f xs) (cutF P f ys)) acc) (some true) l with
              | none => rw [h1, h2] at h; simp [andO] at h
              | some b2 =>
                rw [h1, h2] at h
                simp only [andO, Option.some.injEq] at h
                subst h
                have hu' : ∃ u, P.underlying f.type = some u := by
                  cases d with
                  | zero => simp [eqFl] at h1
                  | succ d =>
                    unfold eqFl at h1
                    split at h1
                    · rename_i hu; exact ⟨_, hu⟩
                    · rename_i hu; exact ⟨_, hu⟩
                    · cases h1
                obtain ⟨u, hu'⟩ := hu'
                have hlen : ∀ zs : List Value, (∃ zs', eqFl P d f.type (cutF P f zs) zs' = some b1) ∨ (∃ zs', eqFl P d f.type zs' (cutF P f zs) = some b1) → isAggT P f.type = false → f.offset < zs.length := by
                  intro zs hz hA'
                  rcases Nat.lt_or_ge f.offset zs.length with hh | hh
                  · exact hh
                  · have hnil : cutF P f zs = [] := by simp [cutF, List.drop_eq_nil_of_le hh]
                    exfalso
                    have nl : ∀ zs', eqFl P d f.type [] zs' ≠ some b1 ∧ eqFl P d f.type zs' [] ≠ some b1 := by
                      intro zs'
                      cases d with
                      | zero => simp [eqFl]
                      | succ d =>
                        unfold eqFl
                        rw [hu']
                        cases u with
                        | struct fs => simp [isAggT, hu'] at hA'
                        | _ => constructor <;> (cases zs' <;> simp [leafEq])
                    rw [hnil] at hz
                    rcases hz with ⟨z, hz⟩ | ⟨z, hz⟩
                    · exact (nl z).1 hz
                    · exact (nl z).2 hz
                have p1 := run_part' hu' (xs := xs) (off := f.offset) (hlen xs (.inl ⟨_, h1⟩)) w
                have p2 := run_part' hu' (xs := ys) (off := f.offset) (hlen ys (.inr ⟨_, h1⟩)) w
                have e := IH h1 k w
                simp only [cutF] at e
                simp only [Op.eqFields, hne, ne_eq, not_false_eq_true, if_true, Sem.run_bind, p1, p2, Result.andThen_ok, e]
                cases b1 with
                | false => simp
                | true =>
                  have := @ih b2
                  first | simpa using this w h2 | simpa using this h2 w
    · rename_i u hns hu
      unfold leafEq at h
      split at h
      · rename_i kt k1 a k2 b'
        cases hk : (k1 == k2) with
        | false => rw [hk] at h; cases h
        | true =>
          rw [hk] at h
          simp only [cond_true, Option.some.injEq] at h
          have : k1 = k2 := eq_of_beq hk
          subst this
          subst h
          have hA : isAggT P t = false := by simp [isAggT, hu]
          simp only [valT, hA, cond_false, List.headD_cons]
          rw [run_equalIn_int w (d + k) t _ _ _ _ hu]
          rfl
      · simp only [Option.some.injEq] at h
        subst h
        have hA : isAggT P t = false := by simp [isAggT, hu]
        simp only [valT, hA, cond_false, List.headD_cons]
        rw [run_equalIn_bool' w (d + k) t _ _ hu]
      · simp only [Option.some.injEq] at h
        subst h
        have hA : isAggT P t = false := by simp [isAggT, hu]
        simp only [valT, hA, cond_false, List.headD_cons]
        rw [run_equalIn_string w (d + k) t _ _ hu, beq_toListBytes]
      · cases h
    · cases h
/-- '==' of two structs. -/
theorem rd_eql {h : Hp} {t : TypeId} {x y : Operand} {xs ys : List Value} {b : Bool} (h1 : eqFl P 8 t xs ys = some b) (hA : isAggT P t = true) (h2 : P.eqGuardType P.depth t = false) :
    Rd P (eqGuard .eql t x y (vag xs) (vag ys) >>= fun _ => binOp .eql t (vag xs) (vag ys)) h (vb b) := by
  intro w _
  have e := eqFl_ok 8 h1 9992 w
  simp only [valT, hA, cond_true] at e
  rw [Sem.run_bind, run_eqGuard_agg w .eql t x y _ _ h2, Result.andThen_ok, run_eql_struct, e]
  rfl
theorem rd_neq {h : Hp} {t : TypeId} {x y : Operand} {xs ys : List Value} {b : Bool} (h1 : eqFl P 8 t xs ys = some b) (hA : isAggT P t = true) (h2 : P.eqGuardType P.depth t = false) :
    Rd P (eqGuard .neq t x y (vag xs) (vag ys) >>= fun _ => binOp .neq t (vag xs) (vag ys)) h (vb (!b)) := by
  intro w _
  have e := eqFl_ok 8 h1 9992 w
  simp only [valT, hA, cond_true] at e
  rw [Sem.run_bind, run_eqGuard_agg w .neq t x y _ _ h2, Result.andThen_ok, run_neq_struct, e]
  rfl
end
end Go.Vc
/-
  The framework, part N: slices of any elements, cut. No program in sight. Conditions: none.
-/
namespace Go.Vc
open Go
set_option linter.unusedVariables false

/-- A slice whose elements are known by their cells. -/
def SlP {α : Type} (enc : α → List Value) (h : Hp) (a : Option Addr) (n : Nat) (l : List α) : Prop := n = l.length ∧ HasRow h a (l.flatMap enc)
theorem flatMap_length {α : Type} {enc : α → List Value} {sz : Nat} (he : ∀ x, (enc x).length = sz) : ∀ l : List α, (l.flatMap enc).length = l.length * sz
  | [] => by simp
  | x :: l => by simp [flatMap_length he l, he x, Nat.add_mul, Nat.add_comm]
theorem flatMap_drop {α : Type} {enc : α → List Value} {sz : Nat} (he : ∀ x, (enc x).length = sz) : ∀ (i : Nat) (l : List α), (l.flatMap enc).drop (i * sz) = (l.drop i).flatMap enc
  | 0, l => by simp
  | i + 1, [] => by simp
  | i + 1, x :: l => by
    have e : (enc x ++ l.flatMap enc).drop sz = l.flatMap enc := by
      have := List.drop_left (l₁ := enc x) (l₂ := l.flatMap enc)
      rw [he] at this
      exact this
    rw [List.flatMap_cons, Nat.add_mul, Nat.one_mul, Nat.add_comm, ← List.drop_drop, e, flatMap_drop he i l]
    rfl
theorem flatMap_take {α : Type} {enc : α → List Value} {sz : Nat} (he : ∀ x, (enc x).length = sz) : ∀ (i : Nat) (l : List α), (l.flatMap enc).take (i * sz) = (l.take i).flatMap enc
  | 0, l => by simp
  | i + 1, [] => by simp
  | i + 1, x :: l => by
    rw [List.flatMap_cons, List.take_append, List.take_of_length_le (by rw [he, Nat.add_mul]; omega), he, List.take_succ_cons, List.flatMap_cons, show (i + 1) * sz - sz = i * sz by rw [Nat.add_mul]; omega, flatMap_take he i l]
theorem SlP.le {α : Type} {enc : α → List Value} {h h' : Hp} (hl : h.le h') {a : Option Addr} {n : Nat} {l : List α} (H : SlP enc h a n l) : SlP enc h' a n l := ⟨H.1, H.2.le hl⟩
section
variable {α : Type} {enc : α → List Value} {sz : Nat} {h : Hp} {a : Option Addr} {n : Nat} {l : List α}
theorem SlP.get (he : ∀ x, (enc x).length = sz) (hz : 0 < sz) (H : SlP enc h a n l) {i : Nat} {x : α} (hx : l[i]? = some x) : ∃ b o, a = some ⟨b, o, none⟩ ∧ h.row b (o + i * sz) sz = some (enc x) := by
  have hi : i < l.length := (List.getElem?_eq_some_iff.1 hx).1
  have hlen := flatMap_length he l
  rcases H.2 with h1 | ⟨b, o, rfl, hr⟩
  · rw [h1] at hlen
    have h2 : 1 * sz ≤ l.length * sz := Nat.mul_le_mul_right _ (by omega)
    simp only [List.length_nil] at hlen
    omega
  · refine ⟨b, o, rfl, ?_⟩
    have h3 : i * sz + sz ≤ (l.flatMap enc).length := by
      rw [hlen]
      have : (i + 1) * sz ≤ l.length * sz := Nat.mul_le_mul_right _ hi
      rw [Nat.add_mul] at this
      omega
    rw [Hp.row_sub hr h3, flatMap_drop he]
    have h4 := flatMap_take he 1 (l.drop i)
    rw [Nat.one_mul] at h4
    rw [h4, show (l.drop i).take 1 = [x] by
      rw [List.drop_eq_getElem_cons hi]
      have : l[i] = x := by rw [List.getElem?_eq_getElem hi] at hx; exact Option.some.inj hx
      simp [this]]
    simp
theorem SlP.cell (he : ∀ x, (enc x).length = sz) (hz : 0 < sz) (H : SlP enc h a n l) {i j : Nat} {x : α} {v : Value} (hx : l[i]? = some x) (hv : (enc x)[j]? = some v) : ∃ b o, a = some ⟨b, o, none⟩ ∧ h.cell b (o + i * sz + j) = some v := by
  obtain ⟨b, o, e, hr⟩ := H.get he hz hx
  exact ⟨b, o, e, Hp.row_cell hr hv⟩
theorem SlP.take (he : ∀ x, (enc x).length = sz) (H : SlP enc h a n l) {i : Nat} (hi : i ≤ n) : SlP enc h a i (l.take i) := by
  refine ⟨by rw [List.length_take, ← H.1]; omega, ?_⟩
  rw [← flatMap_take he]
  rcases H.2 with h1 | ⟨b, o, rfl, hr⟩
  · rw [h1]; exact .inl (by simp)
  · refine .inr ⟨b, o, rfl, ?_⟩
    have hlen := flatMap_length he l
    have h3 : i * sz ≤ (l.flatMap enc).length := by rw [hlen]; exact Nat.mul_le_mul_right _ (by rw [← H.1]; exact hi)
    have := Hp.row_sub hr (i := 0) (k := i * sz) (by omega)
    rw [List.length_take, Nat.min_eq_left h3]
    simpa using this
/-- The address behind a cut's beginning. -/
def cutA (a : Option Addr) (i c sz : Nat) : Option Addr := if c = i then a else a.map (·.add (i * sz))
theorem SlP.drop (he : ∀ x, (enc x).length = sz) (H : SlP enc h a n l) {i c : Nat} (hi : i ≤ n) (hc : n ≤ c) : SlP enc h (cutA a i c sz) (n - i) (l.drop i) := by
  refine ⟨by rw [List.length_drop, ← H.1], ?_⟩
  rw [← flatMap_drop he]
  rcases H.2 with h1 | ⟨b, o, rfl, hr⟩
  · rw [h1]; exact .inl (by simp)
  · have hlen := flatMap_length he l
    rcases Nat.eq_or_lt_of_le hi with h2 | h2
    · refine .inl (List.drop_eq_nil_of_le ?_)
      rw [hlen, ← H.1, h2]
      exact Nat.le_refl _
    · refine .inr ⟨b, o + i * sz, ?_, ?_⟩
      · have : c ≠ i := by omega
        simp only [cutA, if_neg this, Option.map_some, Addr.add]
        split
        · rename_i h0; rw [h0]; rfl
        · rfl
      · have h3 : i * sz ≤ (l.flatMap enc).length := by rw [hlen]; exact Nat.mul_le_mul_right _ (by rw [← H.1]; exact hi)
        have := Hp.row_sub hr (i := i * sz) (k := (l.flatMap enc).length - i * sz) (by omega)
        rw [List.length_drop]
        rw [this, List.take_of_length_le (by rw [List.length_drop]; exact Nat.le_refl _)]
theorem OwnV.slp {h0 : Hp} {e : TypeId} {c : Nat} (he : ∀ x, (enc x).length = sz) (hz : 0 < sz) (O : OwnV h0 h e sz a n c (l.flatMap enc)) : SlP enc h a n l := by
  refine ⟨?_, O.row⟩
  have := O.own.1
  rw [flatMap_length he] at this
  exact (Nat.eq_of_mul_eq_mul_right hz this).symm
end
section
variable {P : Program}
theorem rd_slice_h {h : Hp} {t e : TypeId} (ht : P.underlying t = some (.slice e)) (hi : (P.info? e).isSome = true) {a : Option Addr} {n c : Nat} {x : Int} (h0 : 0 ≤ x) (h1 : x ≤ c) : Rd P (Instr.sliceAt t (vsl a n c) none (some (vi x)) none) h (vsl a x.toNat c) := by
  intro w _
  have he : P.elem t = e := by simp [Program.elem, ht]
  obtain ⟨i, hi⟩ := Option.isSome_iff_exists.1 hi
  rw [run_sliceAt_slice w t _ _ _ _ (by rw [he]; exact ht), run_slice_h w t a n c (by rw [he]; exact ht) _ x h0 h1, he]
  simp [sizeOf, typeInfo, hi, sliced]
  intro _
  cases a <;> simp [Addr.add]
theorem rd_slice_l {h : Hp} {t e : TypeId} (ht : P.underlying t = some (.slice e)) (hi : (P.info? e).isSome = true) {a : Option Addr} {n c : Nat} {x : Int} (h0 : 0 ≤ x) (h1 : x ≤ n) :
    Rd P (Instr.sliceAt t (vsl a n c) (some (vi x)) none none) h (vsl (cutA a x.toNat c (szT P e)) (n - x.toNat) (c - x.toNat)) := by
  intro w _
  have he : P.elem t = e := by simp [Program.elem, ht]
  obtain ⟨i, hi⟩ := Option.isSome_iff_exists.1 hi
  rw [run_sliceAt_slice w t _ _ _ _ (by rw [he]; exact ht), run_slice_l w t a n c (by rw [he]; exact ht) _ x h0 h1, he]
  simp [sizeOf, typeInfo, hi, sliced, cutA, szT, Program.cellsOf]
theorem rd_slice_lh {h : Hp} {t e : TypeId} (ht : P.underlying t = some (.slice e)) (hi : (P.info? e).isSome = true) {a : Option Addr} {n c : Nat} {x y : Int} (h0 : 0 ≤ x) (h1 : x ≤ y) (h2 : y ≤ c) :
    Rd P (Instr.sliceAt t (vsl a n c) (some (vi x)) (some (vi y)) none) h (vsl (cutA a x.toNat c (szT P e)) (y.toNat - x.toNat) (c - x.toNat)) := by
  intro w _
  have he : P.elem t = e := by simp [Program.elem, ht]
  obtain ⟨i, hi⟩ := Option.isSome_iff_exists.1 hi
  rw [run_sliceAt_slice w t _ _ _ _ (by rw [he]; exact ht), run_slice_lh w t a n c (by rw [he]; exact ht) _ _ x y h0 h1 h2, he]
  simp [sizeOf, typeInfo, hi, sliced, cutA, szT, Program.cellsOf]
end
end Go.Vc
/-
  Contracts: package value: what a value is, numbers, '=='. Conditions: none.
-/
namespace Go.Proofs.Ytkfhhjllacegpaa
open Go Go.Vc
set_option linter.unusedVariables false

/-- A value's cells: its kind, its number. -/
def encV (v : Int × Int) : List Value := [vi v.1, vi v.2]
theorem encV_len (v : Int × Int) : (encV v).length = 2 := rfl
theorem one_vals (l : List (Int × Int)) : ∀ u ∈ l.flatMap encV, u.oneCell' = true := by
  intro u hu
  obtain ⟨v, _, hv⟩ := List.mem_flatMap.1 hu
  simp [encV] at hv
  rcases hv with rfl | rfl <;> rfl
def numV (n : Int) : Int × Int := if n < -1000000000 ∨ n > 1000000000 then (0, 0) else (1, n)
theorem value_Number_ok {n : Int} {h : Hp} {R : Value → Hp → Prop} (hK : R (vag (encV (numV n))) h) : CallOK Try.prog 6 [vi n] h R := by
  refine ok_value_Number ?_
  unfold VC_value_Number
  refine ⟨fun e => ?_, fun e => ?_⟩
  · simp [Bool.cond_eq_ite] at e
    have : numV n = (0, 0) := by unfold numV; rw [if_pos (by omega)]
    rw [this] at hK
    exact hK
  · simp [Bool.cond_eq_ite] at e
    have : numV n = (1, n) := by unfold numV; rw [if_neg (by omega)]
    rw [this] at hK
    exact hK
theorem value_Null_ok {h : Hp} {R : Value → Hp → Prop} (hK : R (vag (encV (0, 0))) h) : CallOK Try.prog 23 [] h R := ok_value_Null hK
theorem eqFl_V (a b c d : Int) : eqFl Try.prog 8 24 [vi a, vi b] [vi c, vi d] = some (decide (a = c) && (decide (b = d) && true)) := by kernel_rfl
theorem dec_V (a b : Int × Int) : (decide (a.1 = b.1) && (decide (a.2 = b.2) && true)) = decide (a = b) := by
  obtain ⟨a1, a2⟩ := a
  obtain ⟨b1, b2⟩ := b
  rw [Bool.eq_iff_iff]
  simp [Prod.ext_iff]
/-- '==' and '!=' of two values. -/
theorem rd_eqV {h : Hp} {x y : Operand} {a b : Int × Int} : Rd Try.prog (eqGuard .eql 24 x y (vag (encV a)) (vag (encV b)) >>= fun _ => binOp .eql 24 (vag (encV a)) (vag (encV b))) h (vb (decide (a = b))) := by
  rw [← dec_V]
  exact rd_eql (eqFl_V _ _ _ _) (by kernel_rfl) (by kernel_rfl)
theorem rd_neqV {h : Hp} {x y : Operand} {a b : Int × Int} : Rd Try.prog (eqGuard .neq 24 x y (vag (encV a)) (vag (encV b)) >>= fun _ => binOp .neq 24 (vag (encV a)) (vag (encV b))) h (vb (!decide (a = b))) := by
  rw [← dec_V]
  exact rd_neq (eqFl_V _ _ _ _) (by kernel_rfl) (by kernel_rfl)

def smallV (v : Int × Int) : Prop := -1000000000 ≤ v.2 ∧ v.2 ≤ 1000000000
def goodV (v : Int × Int) : Prop := (v.1 = 0 ∧ v.2 = 0) ∨ (v.1 = 1 ∧ -1000000000 ≤ v.2 ∧ v.2 ≤ 1000000000) ∨ (v.1 = 2 ∧ (v.2 = 0 ∨ v.2 = 1))
instance (v : Int × Int) : Decidable (goodV v) := by unfold goodV; infer_instance
theorem goodV.small {v : Int × Int} (h : goodV v) : smallV v := by
  unfold goodV at h
  unfold smallV
  omega
end Go.Proofs.Ytkfhhjllacegpaa
/-
  An error, told by its number. Conditions: none.
-/
namespace Go.Proofs.Ytkfhhjllacegpaa
open Go Go.Vc
/-- The error of a number; nought: none. -/
def errV (f : Int) : Option (TypeId × Value) := if f = 0 then none else some (47, vi f)
theorem errV_none {f : Int} : (errV f).isNone = decide (f = 0) := by
  unfold errV
  by_cases h : f = 0 <;> simp [h]
theorem errV_some {f : Int} : (errV f).isSome = !decide (f = 0) := by
  unfold errV
  by_cases h : f = 0 <;> simp [h]
end Go.Proofs.Ytkfhhjllacegpaa
/-
  The framework, part P: what some operations that only read give (greatest, bits, '=='); stores into slices of the call's own; a heap without one block. No program in sight. Conditions: none.
-/
namespace Go.Vc
open Go
set_option linter.unusedVariables false
set_option linter.unusedSimpArgs false

section
variable {P : Program} {h : Hp}
theorem rd_max {ts : Array TypeId} {t : TypeId} {a b : Int} : Rd P (Builtin.max_ ts t #[vi a, vi b]) h (vi (max a b)) := by
  intro w _
  simp [Builtin.max_, Builtin.max2]
  by_cases h : a < b <;> simp [h] <;> omega
theorem rd_eqB {t : TypeId} {x y : Operand} {a b : Bool} (ht : P.underlying t = some .bool) : Rd P (eqGuard .eql t x y (vb a) (vb b) >>= fun _ => binOp .eql t (vb a) (vb b)) h (vb (a == b)) := by
  intro w _
  rw [eqGuard_at_bool]
  simp only [binOp, Sem.run_bind, Sem.run_pure, Result.andThen_ok]
  show ((Op.equalIn 10000 t (vb a) (vb b)).run P w).andThen _ = _
  rw [run_equalIn_bool' w 9999 t _ _ ht]
  rfl
theorem rd_neB {t : TypeId} {x y : Operand} {a b : Bool} (ht : P.underlying t = some .bool) : Rd P (eqGuard .neq t x y (vb a) (vb b) >>= fun _ => binOp .neq t (vb a) (vb b)) h (vb (a != b)) := by
  intro w _
  rw [eqGuard_at_bool]
  simp only [binOp, Sem.run_bind, Sem.run_pure, Result.andThen_ok]
  show ((Op.equalIn 10000 t (vb a) (vb b)).run P w).andThen _ = _
  rw [run_equalIn_bool' w 9999 t _ _ ht]
  rfl
theorem bytes_ext {a b : ByteArray} (h : a.toList = b.toList) : a = b := by
  rw [ByteArray.toList_eq, ByteArray.toList_eq] at h
  exact ByteArray.ext (Array.ext' h)
theorem beq_bytes (a b : ByteArray) : (a.toList == b.toList) = decide (a = b) := by
  by_cases h : a = b
  · subst h; simp
  · have : ¬ a.toList = b.toList := fun e => h (bytes_ext e)
    simp [h, this]
theorem rd_eqS {t : TypeId} {x y : Operand} {a b : ByteArray}  : Rd P (eqGuard .eql t x y (vs a) (vs b) >>= fun _ => binOp .eql t (vs a) (vs b)) h (vb (decide (a = b))) := by
  intro w _
  simp [binOp, eqGuard, Op.stringOp, beq_bytes]
theorem rd_neS {t : TypeId} {x y : Operand} {a b : ByteArray}  : Rd P (eqGuard .neq t x y (vs a) (vs b) >>= fun _ => binOp .neq t (vs a) (vs b)) h (vb (!decide (a = b))) := by
  intro w _
  simp [binOp, eqGuard, Op.stringOp, beq_bytes]
theorem rd_and1023 {t : TypeId} {a : Int} : Rd P (binOp .and t (vi a) (vi 1023)) h (vi (a % 1024)) := by
  intro w _
  have h127 : (BitVec.ofInt 64 1023).toNat = 2 ^ 10 - 1 := by decide
  have key : (BitVec.ofInt 64 a &&& BitVec.ofInt 64 1023).toNat = (a % ((2 ^ 64 : Nat) : Int)).toNat % 2 ^ 10 := by
    rw [BitVec.toNat_and, BitVec.toNat_ofInt, h127, Nat.and_two_pow_sub_one_eq_mod]
  have e : bits .and .i64 a 1023 = a % 1024 := by
    show IntKind.i64.wrap ((BitVec.ofInt 64 a &&& BitVec.ofInt 64 1023).toNat : Nat) = a % 1024
    rw [key, IntKind.wrap_i64]
    omega
  simp [binOp, intBits_and, e]
/-- An index into parts, out of any number. -/
theorem tmod_part {a p : Int} (hp : 1 ≤ p) : 0 ≤ Int.tmod (a % 1024) p ∧ Int.tmod (a % 1024) p < p := by
  have h0 : 0 ≤ a % 1024 := Int.emod_nonneg _ (by decide)
  exact ⟨Int.tmod_nonneg _ h0, Int.tmod_lt_of_pos _ (by omega)⟩
end

/-- A heap without one block. -/
def Hp.del (h : Hp) (g : Nat) : Hp := fun i => if i = g then none else h i
theorem Hp.del_le (h : Hp) (g : Nat) : (h.del g).le h := fun b o e => by
  unfold Hp.del at e
  split at e
  · cases e
  · exact e
theorem Hp.del_mono {h h' : Hp} (l : h.le h') (g : Nat) : (h.del g).le (h'.del g) := fun b o e => by
  unfold Hp.del at e ⊢
  split at e
  · cases e
  · rename_i hb; rw [if_neg hb]; exact l b o e
theorem Hp.del_set (h : Hp) (g : Nat) (o : Obj) : (h.set g o).del g = h.del g := by
  funext i
  unfold Hp.del Hp.set
  split <;> simp_all
theorem Hp.del_le_set (h : Hp) (g : Nat) (o : Obj) : (h.del g).le (h.set g o) := by
  have := Hp.del_le (h.set g o) g
  rwa [Hp.del_set] at this
theorem HasRow.del {h : Hp} {a : Option Addr} {xs : List Value} (H : HasRow h a xs) {g : Nat} (hg : ∀ b o, a = some ⟨b, o, none⟩ → b ≠ g) : HasRow (h.del g) a xs := by
  rcases H with rfl | ⟨b, o, rfl, e⟩
  · exact .inl rfl
  · refine .inr ⟨b, o, rfl, ?_⟩
    unfold Hp.row Hp.del at *
    rw [if_neg (hg b o rfl)]
    exact e
theorem OwnS.at0 {h : Hp} {e : TypeId} {sz n c : Nat} {a : Option Addr} {xs : List Value} (H : OwnS h e sz a n c xs) : ∀ b o, a = some ⟨b, o, none⟩ → o = 0 := by
  rintro b o rfl
  rcases H.2 with ⟨h1, _⟩ | ⟨g, cur, h1, _⟩
  · cases h1
  · cases h1; rfl
theorem OwnV.ne {h0 h : Hp} {e : TypeId} {sz n c : Nat} {a : Option Addr} {xs : List Value} (O : OwnV h0 h e sz a n c xs) {g : Nat} (hg : h0 g ≠ none) : ∀ b o, a = some ⟨b, o, none⟩ → b ≠ g := by
  intro b o ha hb
  subst hb
  have := O.own.at0 b o ha
  subst this
  exact hg (O.new b ha)
theorem OwnV.del_sli {h0 h : Hp} {e : TypeId} {n c : Nat} {a : Option Addr} {l : List Int} (O : OwnV h0 h e 1 a n c (l.map vi)) {g : Nat} (hg : h0 g ≠ none) : SlI (h.del g) a n l :=
  ⟨O.sli.1, O.row.del (O.ne hg)⟩
/-- What is known behind a change of h, of what was there ahead of the call. -/
theorem OwnV.trans {h0 h1 h : Hp} (l : h0.le h1) {e : TypeId} {sz n c : Nat} {a : Option Addr} {xs : List Value} (O : OwnV h1 h e sz a n c xs) : OwnV h0 h e sz a n c xs :=
  ⟨Hp.le_trans l O.le, O.own, fun g hg => Hp.none_of_le l (O.new g hg)⟩

theorem setL_length {α : Type} (l : List α) (o : Nat) (vs : List α) (h : o + vs.length ≤ l.length) : (setL l o vs).length = l.length := by
  unfold setL
  simp
  omega
theorem setL_take {α : Type} (l : List α) (o : Nat) (vs : List α) (m : Nat) (h : o + vs.length ≤ m) (hm : m ≤ l.length) : (setL l o vs).take m = setL (l.take m) o vs := by
  unfold setL
  have h1 : (l.take m).take o = l.take o := by rw [List.take_take]; congr 1; omega
  have h2 : (l.take m).drop (o + vs.length) = (l.drop (o + vs.length)).take (m - (o + vs.length)) := List.drop_take ..
  have h3 : (l.take o ++ vs).length = o + vs.length := by simp; omega
  rw [h1, h2, List.take_append, h3, List.take_of_length_le (by rw [h3]; exact h)]
theorem setL_one {α : Type} (l : List α) (o : Nat) (v : α) (h : o < l.length) : setL l o [v] = l.set o v := by
  unfold setL
  rw [List.set_eq_take_append_cons_drop, if_pos h]
  simp
/-- A store into a slice of the call's own. -/
theorem OwnV.store {h0 h : Hp} {e : TypeId} {sz n c : Nat} {a : Option Addr} {xs : List Value} (O : OwnV h0 h e sz a n c xs) {j : Nat} {vs : List Value} (hv : 0 < vs.length) (hj : j + vs.length ≤ n * sz) {K : Hp → Prop} {b o : Nat} (ha : a = some ⟨b, o, none⟩)
    (hK : ∀ ob, OwnV h0 (h.set b ob) e sz a n c (setL xs j vs) → K (h.set b ob)) : h.store b (o + j) vs K := by
  obtain rfl := O.own.at0 b o ha
  obtain ⟨hl, h1⟩ := O.own
  rcases h1 with ⟨h1, h2, h3⟩ | ⟨g, cur, h1, hg, hn, hc, hs, ht⟩
  · rw [h1] at ha; cases ha
  · rw [h1] at ha
    cases ha
    have hcur : n * sz ≤ cur.size := by rw [hs]; exact Nat.mul_le_mul_right _ hn
    refine ⟨cur, e, hg, by omega, ?_⟩
    rw [Nat.zero_add]
    refine hK _ ⟨?_, ⟨?_, .inr ⟨b, _, h1, by simp [Hp.set]; rfl, hn, hc, ?_, ?_⟩⟩, O.new⟩
    · intro i p hp
      have hne : i ≠ b := fun hib => by rw [hib, O.new b h1] at hp; cases hp
      simp [Hp.set, hne, O.le i p hp]
    · rw [setL_length _ _ _ (by omega)]; exact hl
    · show (setL cur.toList j vs).length = _
      have h9 : cur.toList.length = cur.size := Array.length_toList
      rw [setL_length _ _ _ (by omega), h9]; exact hs
    · show (setL cur.toList j vs).take (n * sz) = _
      rw [setL_take _ _ _ _ hj (by rw [Array.length_toList]; exact hcur), ht]
theorem OwnV.store_i {h0 h : Hp} {e : TypeId} {n c : Nat} {a : Option Addr} {l : List Int} (O : OwnV h0 h e 1 a n c (l.map vi)) {i : Nat} {x : Int} (hi : i < n) {K : Hp → Prop} {b o : Nat} (ha : a = some ⟨b, o, none⟩)
    (hK : ∀ ob, OwnV h0 (h.set b ob) e 1 a n c ((l.set i x).map vi) → K (h.set b ob)) : h.store b (o + i * 1) [vi x] K := by
  rw [Nat.mul_one]
  refine O.store (by simp) (by simp; omega) ha fun ob O' => hK ob ?_
  have hl : i < l.length := by have := O.sli.1; omega
  rw [setL_one _ _ _ (by simpa using hl), ← List.map_set] at O'
  exact O'
/-- A block whose cells are known. -/
theorem cell_cells {h : Hp} {b : Nat} {l : List Value} {t : TypeId} (hb : h b = some (cellsO l t)) {o : Nat} {v : Value} (hv : l[o]? = some v) : h.cell b o = some v := by
  unfold Hp.cell
  rw [hb]
  simpa using hv
theorem row_cells' {h : Hp} {b : Nat} {l : List Value} {t : TypeId} (hb : h b = some (cellsO l t)) {o n : Nat} (hn : o + n ≤ l.length) : h.row b o n = some ((l.drop o).take n) := by
  unfold Hp.row
  rw [hb]
  simp [hn]
theorem store_cells {h : Hp} {b : Nat} {l : List Value} {t : TypeId} (hb : h b = some (cellsO l t)) {o : Nat} {vs : List Value} (ho : o + vs.length ≤ l.length) {K : Hp → Prop} (hK : K (h.set b (cellsO (setL l o vs) t))) : h.store b o vs K := by
  refine ⟨_, _, hb, by simpa using ho, ?_⟩
  simpa using hK
theorem OwnS.set {h : Hp} {e : TypeId} {sz n c : Nat} {a : Option Addr} {xs : List Value} (O : OwnS h e sz a n c xs) {g : Nat} (hg : a ≠ some ⟨g, 0, none⟩) (ob : Obj) : OwnS (h.set g ob) e sz a n c xs :=
  O.keep fun b o ha hb => by
    have : b ≠ g := fun e => hg (by rw [← e]; exact ha)
    simp [Hp.set, this, hb]
theorem OwnS.not_at {h : Hp} {e : TypeId} {sz n c : Nat} {a : Option Addr} {xs : List Value} (O : OwnS h e sz a n c xs) {g : Nat} (hg : h g = none) : a ≠ some ⟨g, 0, none⟩ := by
  intro ha
  rcases O.2 with ⟨h1, _⟩ | ⟨g', cur, h1, h2, _⟩
  · rw [h1] at ha; cases ha
  · rw [h1] at ha; cases ha; rw [hg] at h2; cases h2
theorem Hp.ne_of {h : Hp} {b g : Nat} {o : Obj} (hb : h b = some o) (hg : h g = none) : b ≠ g := fun e => by subst e; rw [hb] at hg; cases hg
theorem HasRow.of_del {h : Hp} {g : Nat} {a : Option Addr} {xs : List Value} (H : HasRow (h.del g) a xs) : HasRow h a xs := H.le (Hp.del_le h g)
section
variable {P : Program}
/-- append([]T(nil), l...): a slice of the call's own, with the same elements. -/
theorem sem_clone {h : Hp} {t ty e : TypeId} {sz bytes : Nat} (T : ElT P t e sz bytes) {a2 : Option Addr} {m c2 : Nat} {news : List Value} (H : HasRow h a2 news) (hl : news.length = m * sz) (h1 : ∀ u ∈ news, u.oneCell' = true)
    (hb : m * bytes ≤ 140737488355328) (hm : m ≤ 140737488355328) {K : Value → Hp → Prop} (hK : ∀ a' c' h', OwnV h h' e sz a' m c' news → K (vsl a' m c') h') :
    SemOK P (Builtin.append_ #[t, t] ty #[vsl none 0 0, vsl a2 m c2]) h K := by
  refine OwnV.append T (OwnV.nil (Hp.le_refl h) e sz) H hl h1 (by simpa using hb) (by simpa using hm) fun a' c' h' O _ _ => ?_
  rw [Nat.zero_add, List.nil_append] at *
  exact hK a' c' h' O
end
end Go.Vc
/-
  Contracts: package value. Conditions: none.
-/
namespace Go.Proofs.Ytkfhhjllacegpaa
open Go Go.Vc
set_option linter.unusedVariables false

def w64 (x : Int) : Int := IntKind.i64.wrap x
theorem w64_isW (x : Int) : IsW (w64 x) x := rfl
theorem w64_in {x : Int} (h : InR x) : w64 x = x := (isW h).symm
def truthV (b : Bool) : Int × Int := (2, if b then 1 else 0)
def andV (a b : Int × Int) : Int × Int := if a = (2, 0) ∨ b = (2, 0) then (2, 0) else if a.1 = 2 ∧ b.1 = 2 then (2, 1) else (0, 0)
def notV (a : Int × Int) : Int × Int := if a.1 = 2 then truthV (decide (a.2 = 0)) else (0, 0)
def negV (a : Int × Int) : Int × Int := if a.1 = 1 then numV (w64 (-a.2)) else (0, 0)
def doV (op : Int) (a b : Int × Int) : Int × Int :=
  if op = 9 then andV a b else if op = 10 then notV (andV (notV a) (notV b)) else if a.1 = 1 ∧ b.1 = 1 then
    (if op = 6 then numV (w64 (a.2 + b.2)) else if op = 7 then numV (w64 (a.2 - b.2)) else if op = 8 then numV (w64 (a.2 * b.2)) else if op = 11 then truthV (decide (a.2 < b.2)) else if op = 12 then truthV (decide (a.2 = b.2)) else (0, 0))
  else (0, 0)
def cmpI (x y : Int) : Int := if x < y then -1 else if x > y then 1 else 0
def cmpV (a b : Int × Int) : Int := if cmpI a.1 b.1 ≠ 0 then cmpI a.1 b.1 else cmpI a.2 b.2

theorem value_Truth_ok {b : Bool} {h : Hp} {R : Value → Hp → Prop} (hK : R (vag (encV (truthV b))) h) : CallOK Try.prog 17 [vb b] h R := by
  refine ok_value_Truth ?_
  unfold VC_value_Truth
  cases b with
  | true => exact ⟨fun _ => hK, fun e => by cases e⟩
  | false => exact ⟨fun e => by (cases e), fun _ => hK⟩
theorem value_numbers_ok {a b : Int × Int} {h : Hp} {R : Value → Hp → Prop} (hK : R (vb (decide (a.1 = 1 ∧ b.1 = 1))) h) : CallOK Try.prog 22 [vag (encV a), vag (encV b)] h R := by
  refine ok_value_numbers ?_
  unfold VC_value_numbers
  have : (bif (decide (a.1 = 1)) then (decide (b.1 = 1)) else false) = decide (a.1 = 1 ∧ b.1 = 1) := by
    by_cases h1 : a.1 = 1 <;> by_cases h2 : b.1 = 1 <;> simp [h1, h2]
  rw [this]
  exact hK
theorem value_And_ok {a b : Int × Int} {h : Hp} {R : Value → Hp → Prop} (hK : R (vag (encV (andV a b))) h) : CallOK Try.prog 21 [vag (encV a), vag (encV b)] h R := by
  refine ok_value_And ?_
  unfold VC_value_And
  refine value_Truth_ok ⟨_, _, rfl, _, rd_eqV (a := a) (b := (2, 0)), _, fun _ => rd_eqV (a := b) (b := (2, 0)), fun e => ?_, fun e => ⟨fun e2 => ?_, fun e2 => ?_⟩⟩
  · have : a = (2, 0) ∨ b = (2, 0) := by simpa [Bool.cond_eq_ite] using e
    unfold andV at hK
    rw [if_pos this] at hK
    exact hK
  all_goals have h1 : ¬ (a = (2, 0) ∨ b = (2, 0)) := by simpa [Bool.cond_eq_ite] using e
  all_goals unfold andV at hK
  all_goals rw [if_neg h1] at hK
  · rw [if_pos (by simpa [Bool.cond_eq_ite] using e2)] at hK
    exact value_Truth_ok ⟨_, _, rfl, hK⟩
  · rw [if_neg (by simpa [Bool.cond_eq_ite] using e2)] at hK
    exact value_Null_ok ⟨_, _, rfl, hK⟩
theorem value_Not_ok {a : Int × Int} {h : Hp} {R : Value → Hp → Prop} (hK : R (vag (encV (notV a))) h) : CallOK Try.prog 16 [vag (encV a)] h R := by
  refine ok_value_Not ?_
  unfold VC_value_Not
  unfold notV at hK
  refine ⟨fun e => ?_, fun e => ?_⟩
  · rw [if_neg (by simpa using e)] at hK
    exact value_Null_ok ⟨_, _, rfl, hK⟩
  · rw [if_pos (by simpa using e)] at hK
    exact value_Truth_ok ⟨_, _, rfl, hK⟩
theorem value_Neg_ok {a : Int × Int} {h : Hp} {R : Value → Hp → Prop} (hK : R (vag (encV (negV a))) h) : CallOK Try.prog 15 [vag (encV a)] h R := by
  refine ok_value_Neg ?_
  unfold VC_value_Neg
  unfold negV at hK
  refine ⟨fun e => ?_, fun e => ?_⟩
  · rw [if_neg (by simpa using e)] at hK
    exact value_Null_ok ⟨_, _, rfl, hK⟩
  · rw [if_pos (by simpa using e)] at hK
    exact ⟨_, w64_isW _, value_Number_ok ⟨_, _, rfl, hK⟩⟩
theorem value_Do_ok {op : Int} {a b : Int × Int} {h : Hp} {R : Value → Hp → Prop} (hK : R (vag (encV (doV op a b))) h) : CallOK Try.prog 11 [vi op, vag (encV a), vag (encV b)] h R := by
  refine ok_value_Do ?_
  unfold VC_value_Do
  unfold doV at hK
  refine ⟨fun e => ?_, fun e => ?_⟩
  · rw [if_pos (of_decide_eq_true e)] at hK
    exact value_And_ok ⟨_, _, rfl, hK⟩
  rw [if_neg (of_decide_eq_false e)] at hK
  refine ⟨fun e => ?_, fun e => ?_⟩
  · rw [if_pos (of_decide_eq_true e)] at hK
    exact value_Not_ok ⟨_, _, rfl, value_Not_ok ⟨_, _, rfl, value_And_ok ⟨_, _, rfl, value_Not_ok ⟨_, _, rfl, hK⟩⟩⟩⟩
  rw [if_neg (of_decide_eq_false e)] at hK
  refine value_numbers_ok ⟨_, rfl, fun e => ?_, fun e => ?_⟩
  · rw [if_neg (by simp at e; omega)] at hK
    exact value_Null_ok ⟨_, _, rfl, hK⟩
  rw [if_pos (by simpa using e)] at hK
  refine ⟨fun e => ?_, fun e => ?_⟩
  · rw [if_pos (of_decide_eq_true e)] at hK
    exact ⟨_, w64_isW _, value_Number_ok ⟨_, _, rfl, hK⟩⟩
  rw [if_neg (of_decide_eq_false e)] at hK
  refine ⟨fun e => ?_, fun e => ?_⟩
  · rw [if_pos (of_decide_eq_true e)] at hK
    exact ⟨_, w64_isW _, value_Number_ok ⟨_, _, rfl, hK⟩⟩
  rw [if_neg (of_decide_eq_false e)] at hK
  refine ⟨fun e => ?_, fun e => ?_⟩
  · rw [if_pos (of_decide_eq_true e)] at hK
    exact ⟨_, w64_isW _, value_Number_ok ⟨_, _, rfl, hK⟩⟩
  rw [if_neg (of_decide_eq_false e)] at hK
  refine ⟨fun e => ?_, fun e => ?_⟩
  · rw [if_pos (of_decide_eq_true e)] at hK
    exact value_Truth_ok ⟨_, _, rfl, hK⟩
  rw [if_neg (of_decide_eq_false e)] at hK
  refine ⟨fun e => ?_, fun e => ?_⟩
  · rw [if_pos (of_decide_eq_true e)] at hK
    exact value_Truth_ok ⟨_, _, rfl, hK⟩
  rw [if_neg (of_decide_eq_false e)] at hK
  exact value_Null_ok ⟨_, _, rfl, hK⟩
end Go.Proofs.Ytkfhhjllacegpaa
/-
  What functions of the program ask, in words: each is what the framework reckons from the loaded code (the kernel holds the two together), and gives the function's call. Conditions: none.
-/
namespace Go.Proofs.Ytkfhhjllacegpaa
open Go Go.Vc
set_option maxRecDepth 100000
set_option linter.unusedVariables false
/-- What 'penstock/penstockref.ValueFault' asks. -/
def VC_R_ValueFault (u_vKind : Int) (u_vN : Int) (h : Hp) (R : Value → Hp → Prop) : Prop :=
  (((bif (bif (bif (decide ((u_vKind : Int) = 0)) then (decide ((u_vN : Int) = 0)) else false) then true else (bif (bif (decide ((u_vKind : Int) = 1)) then (decide ((u_vN : Int) ≥ (-1000000000))) else false) then (decide ((u_vN : Int) ≤ 1000000000)) else false)) then true else (bif (decide ((u_vKind : Int) = 2)) then (bif (decide ((u_vN : Int) = 0)) then true else (decide ((u_vN : Int) = 1))) else false)) = true → R (vi 0) h) ∧ ((bif (bif (bif (decide ((u_vKind : Int) = 0)) then (decide ((u_vN : Int) = 0)) else false) then true else (bif (bif (decide ((u_vKind : Int) = 1)) then (decide ((u_vN : Int) ≥ (-1000000000))) else false) then (decide ((u_vN : Int) ≤ 1000000000)) else false)) then true else (bif (decide ((u_vKind : Int) = 2)) then (bif (decide ((u_vN : Int) = 0)) then true else (decide ((u_vN : Int) = 1))) else false)) = false → R (vi 3) h))
end Go.Proofs.Ytkfhhjllacegpaa
/-
  The framework, part Q: strings as lists of bytes: an index, a cut, two put together; slices of strings. No program in sight. Conditions: none.
-/
namespace Go.Vc
open Go
set_option linter.unusedVariables false
set_option linter.unusedSimpArgs false

/-- A string of bytes. -/
def bs (l : List UInt8) : ByteArray := ⟨l.toArray⟩
theorem bs_size (l : List UInt8) : (bs l).size = l.length := by simp [bs, ByteArray.size]
theorem bs_inj {l m : List UInt8} : bs l = bs m ↔ l = m := by
  constructor
  · intro h
    have := congrArg (fun b => b.data.toList) h
    simpa [bs] using this
  · rintro rfl; rfl
theorem bs_of (s : ByteArray) : s = bs s.data.toList := by simp [bs]
theorem bs_extract (l : List UInt8) (i j : Nat) : (bs l).extract i j = bs ((l.drop i).take (j - i)) := by
  apply ByteArray.ext
  rw [ByteArray.data_extract]
  simp [bs, List.extract_eq_take_drop]
theorem bs_append (l m : List UInt8) : bs l ++ bs m = bs (l ++ m) := by
  apply ByteArray.ext
  simp [bs]
section
variable {P : Program} {h : Hp}
theorem rd_idx {t : TypeId} (ht : P.underlying t = some .string) {l : List UInt8} {i : Int} (h0 : 0 ≤ i) (h1 : i < l.length) : Rd P (Instr.index t (vs (bs l)) (vi i)) h (vk .u8 ((l.getD i.toNat 0).toNat : Nat)) := by
  intro w _
  have h2 : i < (bs l).size := by rw [bs_size]; exact h1
  rw [run_index_string w t _ _ _ ht, dif_pos ⟨h0, h2⟩]
  have h3 : i.toNat < l.length := by omega
  have : (bs l)[i.toNat]'(by omega) = l.getD i.toNat 0 := by
    rw [List.getD_eq_getElem?_getD, List.getElem?_eq_getElem h3]
    simp [bs, ByteArray.getElem_eq_getElem_data]
  rw [this]
theorem rd_cut {t : TypeId} (ht : P.underlying t = some .string) {l : List UInt8} {i j : Int} (h0 : 0 ≤ i) (h1 : i ≤ j) (h2 : j ≤ l.length) : Rd P (Instr.sliceAt t (vs (bs l)) (some (vi i)) (some (vi j)) none) h (vs (bs ((l.drop i.toNat).take (j.toNat - i.toNat)))) := by
  intro w _
  rw [run_sliceAt_string w t _ _ _ _ ht, run_slice_string w t _ _ _ i j ht h0 h1 (by rw [bs_size]; exact h2), bs_extract]
theorem rd_cat {t : TypeId} {x y : Operand} {l m : List UInt8} (hl : l.length + m.length ≤ maxLen) : Rd P (eqGuard .add t x y (vs (bs l)) (vs (bs m)) >>= fun _ => binOp .add t (vs (bs l)) (vs (bs m))) h (vs (bs (l ++ m))) := by
  intro w _
  rw [eqGuard_add]
  have h1 : ¬ (((bs l).size + (bs m).size : Nat) : Int) > IntKind.i64.max := by
    rw [bs_size, bs_size, IntKind.max_i64]
    simp only [maxLen] at hl
    omega
  simp only [binOp, Op.stringOp, Sem.run_bind, Sem.run_pure, Result.andThen_ok]
  rw [if_neg h1, bs_append]
  rfl
theorem rd_eqBs {t : TypeId} {x y : Operand} {a b : List UInt8} : Rd P (eqGuard .eql t x y (vs (bs a)) (vs (bs b)) >>= fun _ => binOp .eql t (vs (bs a)) (vs (bs b))) h (vb (decide (a = b))) := by
  have := rd_eqS (P := P) (h := h) (t := t) (x := x) (y := y) (a := bs a) (b := bs b)
  rwa [show decide (bs a = bs b) = decide (a = b) from decide_eq_decide.2 bs_inj] at this
theorem rd_neBs {t : TypeId} {x y : Operand} {a b : List UInt8} : Rd P (eqGuard .neq t x y (vs (bs a)) (vs (bs b)) >>= fun _ => binOp .neq t (vs (bs a)) (vs (bs b))) h (vb (!decide (a = b))) := by
  have := rd_neS (P := P) (h := h) (t := t) (x := x) (y := y) (a := bs a) (b := bs b)
  rwa [show decide (bs a = bs b) = decide (a = b) from decide_eq_decide.2 bs_inj] at this
/-- A function without a body that finds the first place of a byte. -/
theorem ext_indexByte {f : FuncId} {fn : Func} (hf : P.funcs[f]? = some fn) (hname : (fn.name == "runtime.NumGoroutine") = false) (hb : fn.body.isNone = true) (hn : Extern.findNext fn = none) (he : Extern.find fn = some Extern.BytealgIndexByte.indexByte)
    {s : ByteArray} {c : Int} {K : Value → Hp → Prop} (hK : K (vi (firstIdx s c.toNat.toUInt8)) h) : ExtOK P f [vs s, vk .u8 c] h K := by
  intro w hs
  refine ⟨_, w, h, ?_, hs, Fr.refl h w, hK⟩
  rw [run_callFunc_extern hf hname hb hn he]
  show ((Extern.BytealgIndexByte.indexByte #[.string s, .int .u8 c]).run P w).andThen _ = _
  rw [run_indexByte_string]
  rfl
end
/-- A word's cell. -/
def encB (l : List UInt8) : List Value := [vs (bs l)]
theorem encB_len (l : List UInt8) : (encB l).length = 1 := rfl
theorem one_encB (l : List (List UInt8)) : ∀ u ∈ l.flatMap encB, u.oneCell' = true := by
  intro u hu
  obtain ⟨x, _, hx⟩ := List.mem_flatMap.1 hu
  simp [encB] at hx
  subst hx
  rfl
abbrev SlB := @SlP (List UInt8) encB
theorem SlP.get1 {h : Hp} {a : Option Addr} {n : Nat} {l : List (List UInt8)} (H : SlB h a n l) {i : Nat} (hi : i < n) : ∃ b o, a = some ⟨b, o, none⟩ ∧ h.cell b (o + i * 1) = some (vs (bs (l.getD i []))) := by
  have hl := H.1
  have hx : l[i]? = some (l.getD i []) := by rw [List.getD_eq_getElem?_getD, List.getElem?_eq_getElem (by omega)]; rfl
  obtain ⟨b, o, e, hr⟩ := H.get encB_len (by decide) hx
  exact ⟨b, o, e, Hp.row_cell hr (i := 0) rfl⟩
end Go.Vc
/-
  More of byte strings: cut at one end. No program in sight. Conditions: none.
-/
namespace Go.Vc
open Go
set_option linter.unusedVariables false
variable {P : Program} {h : Hp}
theorem rd_cutH {t : TypeId} (ht : P.underlying t = some .string) {l : List UInt8} {j : Int} (h0 : 0 ≤ j) (h2 : j ≤ l.length) : Rd P (Instr.sliceAt t (vs (bs l)) none (some (vi j)) none) h (vs (bs (l.take j.toNat))) := by
  intro w _
  rw [run_sliceAt_string w t _ _ _ _ ht, run_slice_string_h w t (bs l) ht .i64 j h0 (by rw [bs_size]; exact h2), bs_extract]
  simp
theorem rd_cutL {t : TypeId} (ht : P.underlying t = some .string) {l : List UInt8} {i : Int} (h0 : 0 ≤ i) (h2 : i ≤ l.length) : Rd P (Instr.sliceAt t (vs (bs l)) (some (vi i)) none none) h (vs (bs (l.drop i.toNat))) := by
  intro w _
  rw [run_sliceAt_string w t _ _ _ _ ht, run_slice_string_l w t (bs l) ht .i64 i h0 (by rw [bs_size]; exact h2), bs_extract, bs_size]
  rw [List.take_of_length_le (by simp)]
/-- The first of a slice of one's own: one's own too. -/
theorem OwnS.cut {e : TypeId} {sz n c m : Nat} {a : Option Addr} {xs : List Value} (O : OwnS h e sz a n c xs) (hm : m ≤ n) : OwnS h e sz a m c (xs.take (m * sz)) := by
  obtain ⟨hl, O⟩ := O
  have h1 : m * sz ≤ n * sz := Nat.mul_le_mul_right _ hm
  refine ⟨by rw [List.length_take]; omega, ?_⟩
  rcases O with ⟨ha, hn, hc⟩ | ⟨g, cur, ha, hg, h2, h3, h4, h5⟩
  · exact .inl ⟨ha, by omega, hc⟩
  · refine .inr ⟨g, cur, ha, hg, by omega, h3, h4, ?_⟩
    rw [← h5, List.take_take, Nat.min_eq_left h1]
theorem OwnV.cut {h0 : Hp} {e : TypeId} {sz n c m : Nat} {a : Option Addr} {xs : List Value} (O : OwnV h0 h e sz a n c xs) (hm : m ≤ n) : OwnV h0 h e sz a m c (xs.take (m * sz)) := ⟨O.le, O.own.cut hm, O.new⟩
theorem OwnS.cap {e : TypeId} {sz n c : Nat} {a : Option Addr} {xs : List Value} (O : OwnS h e sz a n c xs) : n ≤ c := by
  rcases O.2 with ⟨ha, hn, hc⟩ | ⟨g, cur, ha, hg, h2, h3, h4, h5⟩ <;> omega
theorem flatMap_vi (l : List Int) : l.flatMap (fun x => [vi x]) = l.map vi := by
  induction l with
  | nil => rfl
  | cons x l ih => rw [List.flatMap_cons, ih]; rfl
theorem SlI.slp {a : Option Addr} {n : Nat} {l : List Int} (S : SlI h a n l) : SlP (fun x => [vi x]) h a n l := ⟨S.1, by rw [flatMap_vi]; exact S.2⟩
theorem SlI.of_slp {a : Option Addr} {n : Nat} {l : List Int} (S : SlP (fun x => [vi x]) h a n l) : SlI h a n l := ⟨S.1, by rw [← flatMap_vi]; exact S.2⟩
theorem SlI.take {a : Option Addr} {n i : Nat} {l : List Int} (S : SlI h a n l) (hi : i ≤ n) : SlI h a i (l.take i) := .of_slp (S.slp.take (sz := 1) (fun _ => rfl) hi)
theorem SlI.drop {a : Option Addr} {n i c : Nat} {l : List Int} (S : SlI h a n l) (hi : i ≤ n) (hc : n ≤ c) : SlI h (cutA a i c 1) (n - i) (l.drop i) := .of_slp (S.slp.drop (sz := 1) (fun _ => rfl) hi hc)
/-- '&&' and '||' of what is decided. -/
theorem cand (p q : Prop) [Decidable p] [Decidable q] : (bif decide p then decide q else false) = decide (p ∧ q) := by
  by_cases h : p <;> simp [h]
theorem cor (p q : Prop) [Decidable p] [Decidable q] : (bif decide p then true else decide q) = decide (p ∨ q) := by
  by_cases h : p <;> simp [h]
theorem cnot (p : Prop) [Decidable p] : (!decide p) = decide (¬ p) := by
  by_cases h : p <;> simp [h]
theorem bor_false {a b : Bool} (h : (bif a then true else b) = false) : a = false ∧ b = false := by
  cases a
  · exact ⟨rfl, h⟩
  · cases h
end Go.Vc
/-
  The framework, part R: blocks whose fields are slices of their own; what they have, and what a change of them leaves as it was. No program in sight. Conditions: none.
-/
namespace Go.Vc
open Go
set_option linter.unusedVariables false

/-- A field: a value, or a slice of its own. -/
inductive Fld where
  | v (x : Value) | s (e : TypeId) (sz : Nat) (a : Option Addr) (n c : Nat) (xs : List Value)
def Fld.val : Fld → Value
  | .v x => x
  | .s _ _ a n c _ => vsl a n c
/-- Whose block it is. -/
def Fld.at (f : Fld) (b : Nat) : Prop := match f with
  | .v _ => False
  | .s _ _ a _ _ _ => a = some ⟨b, 0, none⟩
def Fld.own (h : Hp) : Fld → Prop
  | .v _ => True
  | .s e sz a n c xs => OwnS h e sz a n c xs
theorem Fld.at_al {h : Hp} {f : Fld} {b : Nat} (O : f.own h) (hb : f.at b) : h b ≠ none := by
  cases f with
  | v x => exact hb.elim
  | s e sz a n c xs =>
    rcases O.2 with ⟨h1, _⟩ | ⟨g, cur, h1, h2, _⟩
    · rw [h1] at hb; cases hb
    · rw [h1] at hb; cases hb; rw [h2]; simp
theorem Fld.own_keep {h h' : Hp} {f : Fld} (O : f.own h) (hk : ∀ b, f.at b → ∀ o, h b = some o → h' b = some o) : f.own h' := by
  cases f with
  | v x => trivial
  | s e sz a n c xs => exact OwnS.keep O fun g o ha ho => hk g ha o ho
/-- A block of fields. -/
structure Rec (h : Hp) (g : Nat) (t : TypeId) (fs : List Fld) : Prop where
  blk : h g = some (cellsO (fs.map Fld.val) t)
  own : ∀ (j : Nat) (f : Fld), fs[j]? = some f → f.own h
  ne : ∀ (j : Nat) (f : Fld), fs[j]? = some f → ¬ f.at g
  dj : ∀ (j k : Nat) (f f' : Fld) (b : Nat), fs[j]? = some f → fs[k]? = some f' → f.at b → f'.at b → j = k
/-- What it has. -/
def ftR (g : Nat) (fs : List Fld) : Nat → Prop := fun b => b = g ∨ ∃ (j : Nat) (f : Fld), fs[j]? = some f ∧ f.at b
theorem Rec.al {h : Hp} {g : Nat} {t : TypeId} {fs : List Fld} (R : Rec h g t fs) : ∀ b, ftR g fs b → h b ≠ none := by
  rintro b (rfl | ⟨j, f, hf, hb⟩)
  · rw [R.blk]; simp
  · exact Fld.at_al (R.own j f hf) hb
/-- It is kept where what it has is kept. -/
theorem Rec.keep {h h' : Hp} {g : Nat} {t : TypeId} {fs : List Fld} (R : Rec h g t fs) (hk : ∀ b, ftR g fs b → ∀ o, h b = some o → h' b = some o) : Rec h' g t fs where
  blk := hk g (.inl rfl) _ R.blk
  own := fun j f hf => Fld.own_keep (R.own j f hf) fun b hb o ho => hk b (.inr ⟨j, f, hf, hb⟩) o ho
  ne := R.ne
  dj := R.dj
theorem Rec.le {h h' : Hp} (hl : h.le h') {g : Nat} {t : TypeId} {fs : List Fld} (R : Rec h g t fs) : Rec h' g t fs := R.keep fun b _ o ho => hl b o ho

/-- What a change of what F has leaves: all else is as it was; what is had now was had, or was not there. -/
structure Mut (F : Nat → Prop) (h : Hp) (F' : Nat → Prop) (h' : Hp) : Prop where
  keep : ∀ b o, ¬ F b → h b = some o → h' b = some o
  new : ∀ b, F' b → F b ∨ h b = none
theorem Mut.trans {F G F' : Nat → Prop} {h k h' : Hp} (x : Mut F h G k) (y : Mut G k F' h') : Mut F h F' h' where
  keep := fun b o hb ho => y.keep b o (fun hg => by
    rcases x.new b hg with h1 | h1
    · exact hb h1
    · rw [ho] at h1; cases h1) (x.keep b o hb ho)
  new := fun b hb => by
    rcases y.new b hb with h1 | h1
    · exact x.new b h1
    · by_cases hF : F b
      · exact .inl hF
      · right
        cases ho : h b with
        | none => rfl
        | some o => rw [x.keep b o hF ho] at h1; cases h1
theorem Mut.of_le {F : Nat → Prop} {h h' : Hp} (hl : h.le h') : Mut F h F h' := ⟨fun b o _ ho => hl b o ho, fun b hb => .inl hb⟩
/-- What was there ahead of all stays. -/
theorem Mut.old {F F' : Nat → Prop} {h0 h h' : Hp} (M : Mut F h F' h') (hl : h0.le h) (hd : ∀ b, F b → h0 b = none) : h0.le h' ∧ ∀ b, F' b → h0 b = none :=
  ⟨fun b o ho => M.keep b o (fun hF => by rw [hd b hF] at ho; cases ho) (hl b o ho), fun b hb => by
    rcases M.new b hb with h1 | h1
    · exact hd b h1
    · exact Hp.none_of_le hl h1⟩
/-- What is had elsewhere stays. -/
theorem Mut.apart {F F' G : Nat → Prop} {h h' : Hp} (M : Mut F h F' h') (hG : ∀ b, G b → h b ≠ none) (hd : ∀ b, F b → ¬ G b) : (∀ b, G b → ∀ o, h b = some o → h' b = some o) ∧ ∀ b, F' b → ¬ G b :=
  ⟨fun b hb o ho => M.keep b o (fun hF => hd b hF hb) ho, fun b hb hg => by
    rcases M.new b hb with h1 | h1
    · exact hd b h1 hg
    · exact hG b hg h1⟩

theorem map_set {α β : Type} (f : α → β) (l : List α) (i : Nat) (x : α) : (l.set i x).map f = (l.map f).set i (f x) := by rw [List.map_set]
/-- A field is put in the place of another one: a value, or a slice of its own that is new or was that field's. -/
theorem Rec.put {h h' : Hp} {g : Nat} {t : TypeId} {fs : List Fld} (R : Rec h g t fs) {j : Nat} {f f' : Fld} (hf : fs[j]? = some f) (hk : ∀ b o, h b = some o → ¬ f.at b → h' b = some o) (O : f'.own h') (hn : ∀ b, f'.at b → f.at b ∨ h b = none) {K : Hp → Prop}
    (hK : ∀ h'', h'' = h'.set g (cellsO ((fs.set j f').map Fld.val) t) → Rec h'' g t (fs.set j f') → Mut (ftR g fs) h (ftR g (fs.set j f')) h'' → K h'') {o : Nat} (ho : o = j) : h'.store g o [f'.val] K := by
  subst ho
  have hj : o < fs.length := (List.getElem?_eq_some_iff.1 hf).1
  have hg' : h' g = some (cellsO (fs.map Fld.val) t) := hk g _ R.blk (R.ne o f hf)
  refine store_cells hg' (by rw [List.length_map]; simp; omega) ?_
  rw [setL_one _ _ _ (by simpa using hj), ← map_set]
  have hng : ¬ f'.at g := fun e => by
    rcases hn g e with h1 | h1
    · exact R.ne o f hf h1
    · rw [R.blk] at h1; cases h1
  have key : ∀ k fk, (fs.set o f')[k]? = some fk → (k = o ∧ fk = f') ∨ (k ≠ o ∧ fs[k]? = some fk) := by
    intro k fk h1
    by_cases hko : k = o
    · subst hko
      rw [List.getElem?_set_self hj] at h1
      exact .inl ⟨rfl, (Option.some.inj h1).symm⟩
    · rw [List.getElem?_set_ne (fun e => hko e.symm)] at h1
      exact .inr ⟨hko, h1⟩
  refine hK _ rfl ⟨Hp.set_same _ _ _, ?_, ?_, ?_⟩ ⟨?_, ?_⟩
  · intro k fk h1
    rcases key k fk h1 with ⟨rfl, rfl⟩ | ⟨hko, h2⟩
    · exact Fld.own_keep O fun b hb p hp => (Hp.set_other h' _ (fun e => hng (by rw [← e]; exact hb))).trans hp
    · refine Fld.own_keep (R.own k fk h2) fun b hb p hp => (Hp.set_other h' _ (fun e => R.ne k fk h2 (by rw [← e]; exact hb))).trans (hk b p hp fun hb' => hko ?_)
      exact R.dj k o fk f b h2 hf hb hb'
  · intro k fk h1
    rcases key k fk h1 with ⟨rfl, rfl⟩ | ⟨hko, h2⟩
    · exact hng
    · exact R.ne k fk h2
  · intro k m fk fm b h1 h2 hb1 hb2
    have one : ∀ m fm, m ≠ o → fs[m]? = some fm → f'.at b → fm.at b → False := by
      intro m fm hmo h2 hb1 hb2
      rcases hn b hb1 with h3 | h3
      · exact hmo (R.dj m o fm f b h2 hf hb2 h3)
      · exact Fld.at_al (R.own m fm h2) hb2 h3
    rcases key k fk h1 with ⟨rfl, rfl⟩ | ⟨hko, h1'⟩
    · rcases key m fm h2 with ⟨rfl, rfl⟩ | ⟨hmo, h2'⟩
      · rfl
      · exact (one m fm hmo h2' hb1 hb2).elim
    · rcases key m fm h2 with ⟨rfl, rfl⟩ | ⟨hmo, h2'⟩
      · exact (one k fk hko h1' hb2 hb1).elim
      · exact R.dj k m fk fm b h1' h2' hb1 hb2
  · intro b p hb hp
    have h1 : b ≠ g := fun e => hb (.inl e)
    exact (Hp.set_other h' _ h1).trans (hk b p hp fun e => hb (.inr ⟨o, f, hf, e⟩))
  · rintro b (rfl | ⟨k, fk, h1, hb⟩)
    · exact .inl (.inl rfl)
    · rcases key k fk h1 with ⟨rfl, rfl⟩ | ⟨hko, h2⟩
      · rcases hn b hb with h3 | h3
        · exact .inl (.inr ⟨k, f, hf, h3⟩)
        · exact .inr h3
      · exact .inl (.inr ⟨k, fk, h2, hb⟩)
/-- What a slice of its own has is another thing. -/
theorem Rec.inner {h : Hp} {g : Nat} {t : TypeId} {fs : List Fld} (R : Rec h g t fs) {j : Nat} {e : TypeId} {sz n c : Nat} {a : Option Addr} {xs ys : List Value} (hf : fs[j]? = some (.s e sz a n c xs)) {b : Nat} (ha : a = some ⟨b, 0, none⟩) {ob : Obj} (O' : OwnS (h.set b ob) e sz a n c ys) :
    Rec (h.set b ob) g t (fs.set j (.s e sz a n c ys)) ∧ Mut (ftR g fs) h (ftR g (fs.set j (.s e sz a n c ys))) (h.set b ob) := by
  have O : OwnS h e sz a n c xs := R.own j _ hf
  have hj : j < fs.length := (List.getElem?_eq_some_iff.1 hf).1
  have hbg : b ≠ g := fun e => R.ne j _ hf (by rw [e] at ha; exact ha)
  have hkeep : ∀ b' p, b' ≠ b → h b' = some p → (h.set b ob) b' = some p := fun b' p hne hp => (Hp.set_other h _ hne).trans hp
  have hval : (fs.set j (.s e sz a n c ys)).map Fld.val = fs.map Fld.val := by
    rw [map_set]
    apply List.ext_getElem?
    intro k
    by_cases hk : k = j
    · subst hk
      rw [List.getElem?_set_self (by simpa using hj), List.getElem?_map, hf]
      rfl
    · rw [List.getElem?_set_ne (fun e => hk e.symm)]
  have key : ∀ k fk, (fs.set j (.s e sz a n c ys))[k]? = some fk → (k = j ∧ fk = .s e sz a n c ys) ∨ (k ≠ j ∧ fs[k]? = some fk) := by
    intro k fk h1
    by_cases hko : k = j
    · subst hko
      rw [List.getElem?_set_self hj] at h1
      exact .inl ⟨rfl, (Option.some.inj h1).symm⟩
    · rw [List.getElem?_set_ne (fun e => hko e.symm)] at h1
      exact .inr ⟨hko, h1⟩
  have same : ∀ b', (Fld.s e sz a n c ys).at b' ↔ (Fld.s e sz a n c xs).at b' := fun _ => Iff.rfl
  have old : ∀ (k : Nat) (fk : Fld), (fs.set j (.s e sz a n c ys))[k]? = some fk → ∃ f0 : Fld, fs[k]? = some f0 ∧ ∀ b', fk.at b' ↔ f0.at b' := by
    intro k fk h1
    rcases key k fk h1 with ⟨rfl, rfl⟩ | ⟨_, h2⟩
    · exact ⟨_, hf, same⟩
    · exact ⟨fk, h2, fun _ => Iff.rfl⟩
  refine ⟨⟨?_, ?_, ?_, ?_⟩, ?_, ?_⟩
  · rw [hval]; exact hkeep g _ (fun e => hbg e.symm) R.blk
  · intro k fk h1
    rcases key k fk h1 with ⟨rfl, rfl⟩ | ⟨hko, h2⟩
    · exact O'
    · exact Fld.own_keep (R.own k fk h2) fun b' hb' p hp => hkeep b' p (fun e => hko (R.dj k j fk _ b' h2 hf hb' (by subst e; exact ha))) hp
  · intro k fk h1
    obtain ⟨f0, h2, h3⟩ := old k fk h1
    rw [h3]; exact R.ne k f0 h2
  · intro k m fk fm b' h1 h2 hb1 hb2
    obtain ⟨f1, q1, q2⟩ := old k fk h1
    obtain ⟨f2, q3, q4⟩ := old m fm h2
    exact R.dj k m f1 f2 b' q1 q3 ((q2 b').1 hb1) ((q4 b').1 hb2)
  · intro b' p hb' hp
    exact hkeep b' p (fun e => hb' (.inr ⟨j, _, hf, by subst e; exact ha⟩)) hp
  · rintro b' (rfl | ⟨k, fk, h1, hb⟩)
    · exact .inl (.inl rfl)
    · obtain ⟨f0, h2, h3⟩ := old k fk h1
      exact .inl (.inr ⟨k, f0, h2, (h3 b').1 hb⟩)
/-- An element of a slice of its own is put. -/
theorem Rec.elem {h : Hp} {g : Nat} {t : TypeId} {fs : List Fld} (R : Rec h g t fs) {j : Nat} {e : TypeId} {sz n c : Nat} {a : Option Addr} {xs : List Value} (hf : fs[j]? = some (.s e sz a n c xs)) {i : Nat} {vs : List Value} (hv : 0 < vs.length) (hi : i + vs.length ≤ n * sz) {b o : Nat} (ha : a = some ⟨b, o, none⟩) {K : Hp → Prop}
    (hK : ∀ h', h' g = h g → Rec h' g t (fs.set j (.s e sz a n c (setL xs i vs))) → Mut (ftR g fs) h (ftR g (fs.set j (.s e sz a n c (setL xs i vs)))) h' → K h') : h.store b (o + i) vs K := by
  have O : OwnS h e sz a n c xs := R.own j _ hf
  obtain rfl := O.at0 b o ha
  have Ow : OwnV (h.del b) h e sz a n c xs := ⟨Hp.del_le h b, O, fun g' hg' => by rw [ha] at hg'; cases hg'; simp [Hp.del]⟩
  refine Ow.store hv hi ha fun ob O' => ?_
  obtain ⟨q1, q2⟩ := R.inner hf ha O'.own
  exact hK _ (Hp.set_other h _ fun e => R.ne j _ hf (by rw [e]; exact ha)) q1 q2
/-- A field is read. -/
theorem Rec.cell {h : Hp} {g : Nat} {t : TypeId} {fs : List Fld} (R : Rec h g t fs) {j : Nat} {f : Fld} (hf : fs[j]? = some f) : h.cell g j = some f.val := cell_cells R.blk (by rw [List.getElem?_map, hf]; rfl)
/-- A new block of fields. -/
theorem Rec.new {h : Hp} {g : Nat} {t : TypeId} {fs : List Fld} (hg : h g = none) (O : ∀ (j : Nat) (f : Fld), fs[j]? = some f → f.own h) (hd : ∀ (j k : Nat) (f f' : Fld) (b : Nat), fs[j]? = some f → fs[k]? = some f' → f.at b → f'.at b → j = k) : Rec (h.set g (cellsO (fs.map Fld.val) t)) g t fs where
  blk := Hp.set_same _ _ _
  own := fun j f hf => Fld.own_keep (O j f hf) fun b hb o ho => (Hp.set_other h _ (fun e => by rw [e, hg] at ho; cases ho)).trans ho
  ne := fun j f hf hb => Fld.at_al (O j f hf) hb hg
  dj := hd

section
variable {P : Program}
/-- make([]T, n). -/
theorem sem_make {h : Hp} {t e : TypeId} {sz bytes : Nat} (T : ElT P t e sz bytes) {z : List Value} (hz : (zeroL P e).map tvals = some z) {n : Nat} (hn : n ≤ 1000000) (hb : n * bytes ≤ 140737488355328) {K : Value → Hp → Prop}
    (hK : ∀ b, h b = none → K (vsl (some ⟨b, 0, none⟩) n n) (h.set b (cellsO ((List.replicate n z).flatten) e))) : SemOK P (Instr.makeSlice t (vi n) (vi n)) h K := by
  intro w hs
  obtain ⟨i, zv, hi, hiz, hsz, hby, hzs⟩ := T.el
  have hzl : z = zv.cells.toList := by
    unfold zeroL at hz
    rw [hi] at hz
    simp only [Option.bind_some, hiz, Option.map_some, Option.some.injEq] at hz
    rw [← hz, tvals_tvsOf]
  have hr := run_make (P := P) w t e i zv T.sl hi hiz .i64 .i64 n n (by omega) (by omega) (by
    rw [hby]
    have : ((bytes : Int) * (n : Int)) = ((n * bytes : Nat) : Int) := by rw [Nat.mul_comm]; exact (Int.natCast_mul _ _).symm
    omega) (by omega)
  have hm : madeCells zv.cells (n * i.size) = ((List.replicate n z).flatten).toArray := by
    rw [hzl]
    unfold madeCells
    rw [hsz, ← hzs]
    exact flat_zero zv.cells n (by rw [hzs]; exact T.pos)
  rw [Int.toNat_natCast, hm] at hr
  exact ⟨_, _, _, hr, Sub.pushSet hs _, Fr.pushSet h w _, hK _ hs.none⟩
end
end Go.Vc
/-
  The framework, part T: what some more operations give: numbers without a sign, 'copy', a slice held against nil, noughts as a text. No program in sight. Conditions: none.
-/
namespace Go.Vc
open Go
set_option linter.unusedVariables false
set_option linter.unusedSimpArgs false

section
variable {P : Program} {h : Hp}
theorem rd_mask32 {t : TypeId} {a : Nat} (ha : a < 4294967296) : Rd P (binOp .and t (vk .u64 a) (vk .u64 4294967295)) h (vk .u64 a) := by
  intro w _
  have e : bits .and .u64 (a : Int) 4294967295 = (a : Int) := by rw [and_low32 _ (by omega) (by omega)]; omega
  simp [binOp, intBits_and, e]
theorem rd_shr32 {t : TypeId} {a : Nat} (ha : a < 4294967296) : Rd P (binOp .shr t (vk .u64 a) (vk .u64 32)) h (vk .u64 0) := by
  intro w _
  simp [binOp, shift_shr_any, IntKind.bits]
  omega
theorem rd_mul64 {t : TypeId} {a b : Nat} (hab : a * b < 4294967296) : Rd P (binOp .mul t (vk .u64 a) (vk .u64 b)) h (vk .u64 (a * b : Nat)) := by
  intro w _
  simp [binOp, Op.intArith, IntKind.wrap_u64]
  omega
theorem rd_add64 {t : TypeId} {a b : Nat} (hab : a + b < 4294967296) : Rd P (binOp .add t (vk .u64 a) (vk .u64 b)) h (vk .u64 (a + b : Nat)) := by
  intro w _
  simp [binOp, Op.intArith, IntKind.wrap_u64]
  omega
theorem rd_shrI {t : TypeId} {x y : Operand} {k : Int} {j : Nat} (hj : j < 64) (hk : 0 ≤ k) : Rd P (eqGuard .shr t x y (vk .u64 k) (vi j) >>= fun _ => binOp .shr t (vk .u64 k) (vi j)) h (vk .u64 (k / 2 ^ j)) := by
  intro w _
  rw [eqGuard_shr]
  have e : min ((j : Nat) : Int).toNat IntKind.u64.bits = j := by simp only [IntKind.bits, Int.toNat_natCast]; omega
  simp only [binOp, shift_shr_any _ _ _ _ (show (0 : Int) ≤ (j : Nat) by omega), Sem.run_bind, Sem.run_pure, Result.andThen_ok, e]
theorem rd_shrU {t : TypeId} {k : Int} {j : Nat} (hj : j < 64) (hk : 0 ≤ k) : Rd P (binOp .shr t (vk .u64 k) (vk .u64 j)) h (vk .u64 (k / 2 ^ j)) := by
  intro w _
  have e : min ((j : Nat) : Int).toNat IntKind.u64.bits = j := by simp only [IntKind.bits, Int.toNat_natCast]; omega
  simp only [binOp, shift_shr_any _ _ _ _ (show (0 : Int) ≤ (j : Nat) by omega), Sem.run_pure, e]
theorem rd_and1 {t : TypeId} {a : Int} (h0 : 0 ≤ a) (h1 : a ≤ 18446744073709551615) : Rd P (binOp .and t (vk .u64 a) (vk .u64 1)) h (vk .u64 (a % 2)) := by
  intro w _
  simp [binOp, intBits_and, and_one_u64 a h0 h1]
theorem rd_remU {t : TypeId} {a : Nat} : Rd P (binOp .rem t (vk .u64 a) (vk .u64 64)) h (vk .u64 (a % 64 : Nat)) := by
  intro w _
  simp [binOp, Op.intDiv, Int.tmod_eq_emod_of_nonneg]
theorem rd_eqNilS {t e : TypeId} (ht : P.underlying t = some (.slice e)) {x y : Operand} {a : Option Addr} {n c : Nat} : Rd P (eqGuard .eql t x y (vsl a n c) (vsl none 0 0) >>= fun _ => binOp .eql t (vsl a n c) (vsl none 0 0)) h (vb a.isNone) := by
  intro w _
  simp [eqGuard, binOp, run_equal_slice_nil w t e a n c ht]
theorem rd_eqNilP {t e : TypeId} (ht : P.underlying t = some (.pointer e)) {x y : Operand} {p : Option Addr} : Rd P (eqGuard .eql t x y (vp p) (vp none) >>= fun _ => binOp .eql t (vp p) (vp none)) h (vb p.isNone) := by
  intro w _
  have := run_eql_pointer_nil (P := P) w t p (by simp [Program.pointee, ht])
  simp [eqGuard, this]
/-- 'string(b)' of bytes. -/
theorem rd_toStr {src dst e : TypeId} (hs : P.underlying src = some (.slice e)) (he : P.underlying e = some (.int .u8)) (hd : P.underlying dst = some .string) {b o c : Nat} {l : List UInt8} (H : h.row b o l.length = some (l.map fun x => vk .u8 (x.toNat : Nat))) :
    Rd P (convert src dst (vsl (some ⟨b, o, none⟩) l.length c)) h (vs (bs l)) := by
  intro w hsub
  exact run_convert_bytes_back w src dst e ⟨b, o, none⟩ c l hs he hd fun j hj => by
    have := Hp.row_cell H (i := j) (x := vk .u8 (l[j].toNat : Nat)) (by rw [List.getElem?_map, List.getElem?_eq_getElem hj]; rfl)
    rw [addr_add]
    exact cell_cell this hsub
/-- 'copy' into a slice of the call's own, of as many elements. -/
theorem sem_copy_own {dT sT ty e : TypeId} (hu : P.underlying dT = some (.slice e)) (hi : (P.info? e).map (·.size) = some 1) {a a2 : Option Addr} {n c c2 : Nat} {xs ys : List Value} (O : OwnS h e 1 a n c xs) (H : HasRow h a2 ys) (hl : ys.length = n) (h1 : ∀ u ∈ ys, u.oneCell' = true) {K : Value → Hp → Prop}
    (hK : ∀ b ob, a = some ⟨b, 0, none⟩ → OwnS (h.set b ob) e 1 a n c ys → K (vi n) (h.set b ob)) (hK0 : n = 0 → K (vi 0) h) : SemOK P (Builtin.copy_ #[dT, sT] ty #[vsl a n c, vsl a2 n c2]) h K := by
  intro w hs
  by_cases hn : n = 0
  · subst hn
    exact ⟨_, w, h, run_copy_none w dT sT ty e a a2 0 c 0 c2 hu hi (by simp), hs, Fr.refl h w, hK0 rfl⟩
  · obtain ⟨hxl, h2⟩ := O
    rcases h2 with ⟨_, h3, _⟩ | ⟨g, cur, ha, hg, hnc, hc, hcs, ht⟩
    · exact absurd h3 hn
    · subst ha
      rcases H with h4 | ⟨b2, o2, rfl, hr⟩
      · rw [h4] at hl; exact absurd hl.symm hn
      · have hcur : n ≤ cur.size := by rw [hcs, Nat.mul_one]; exact hnc
        have hrun := run_copy_row (P := P) w dT sT ty e g 0 n c ⟨b2, o2, none⟩ n c2 cur e ys hu hi (hs g _ hg) (by simp [hl]) (fun j v hj => by rw [addr_add]; exact cell_cell (Hp.row_cell hr hj) hs) (by rw [Nat.zero_add, hl]; exact hcur) h1
        refine ⟨_, _, _, hrun, setRow_Sub hs hg, setRow_Fr hg, ?_⟩
        have hv : (goInt ys.length : Value) = vi n := by rw [hl]; rfl
        rw [hv]
        refine hK g _ rfl ⟨by rw [hl, Nat.mul_one], .inr ⟨g, _, rfl, Hp.set_same _ _ _, hnc, hc, ?_, ?_⟩⟩
        · have : cur.toList.length = cur.size := Array.length_toList
          simp only [List.size_toArray, List.length_append, List.length_take, List.length_drop, this, hl]
          omega
        · rw [Nat.mul_one]
          simp only [List.take_zero, List.nil_append, Nat.zero_add]
          rw [List.take_append_of_le_length (by omega), List.take_of_length_le (by omega)]
/-- 'copy' into a block that is known. -/
theorem sem_copyG {dT sT ty e : TypeId} (hu : P.underlying dT = some (.slice e)) (hi : (P.info? e).map (·.size) = some 1) {g o dLen dCap : Nat} {a2 : Option Addr} {sLen c2 : Nat} {L ys : List Value} {t : TypeId} (hg : h g = some (cellsO L t)) (H : HasRow h a2 ys) (hl : ys.length = min sLen dLen) (hfit : o + ys.length ≤ L.length)
    (h1 : ∀ u ∈ ys, u.oneCell' = true) (hne : ys ≠ []) {K : Value → Hp → Prop} (hK : K (vi ys.length) (h.set g (cellsO (setL L o ys) t))) : SemOK P (Builtin.copy_ #[dT, sT] ty #[vsl (some ⟨g, o, none⟩) dLen dCap, vsl a2 sLen c2]) h K := by
  intro w hs
  rcases H with h4 | ⟨b2, o2, rfl, hr⟩
  · exact absurd h4 hne
  · have hrun := run_copy_row (P := P) w dT sT ty e g o dLen dCap ⟨b2, o2, none⟩ sLen c2 L.toArray t ys hu hi (hs g _ hg) hl (fun j v hj => by rw [addr_add]; exact cell_cell (Hp.row_cell hr hj) hs) (by simpa using hfit) h1
    exact ⟨_, _, _, hrun, setRow_Sub hs hg, setRow_Fr hg, hK⟩
end
theorem Hp.set_set (h : Hp) (b : Nat) (o o' : Obj) : (h.set b o).set b o' = h.set b o' := by
  funext i
  unfold Hp.set
  split <;> simp_all
/-- Noughts. -/
theorem noughts_row (m : Nat) : (List.replicate m [vk .u8 0]).flatten = (List.replicate m (0 : UInt8)).map fun x => vk .u8 (x.toNat : Nat) := by
  induction m with
  | zero => rfl
  | succ m ih => rw [List.replicate_succ, List.flatten_cons, ih, List.replicate_succ, List.map_cons]; rfl
end Go.Vc
/-
  The framework, part V: tables: a block of slices, each its own; and two holdings side by side. No program in sight. Conditions: none.
-/
namespace Go.Vc
open Go
set_option linter.unusedVariables false

/-- A row of a table: where it lies, its room, what it has. -/
abbrev TRow (α : Type) := (Option Addr × Nat) × List α
section
variable {α : Type} (enc : α → List Value) (sz : Nat) (e T : TypeId)
def rowF (r : TRow α) : Fld := .s e sz r.1.1 r.2.length r.1.2 (r.2.flatMap enc)
def rowV (r : TRow α) : Value := vsl r.1.1 r.2.length r.1.2
def tabF (R : List (TRow α)) : List Fld := R.map (rowF enc sz e)
theorem tabF_val (R : List (TRow α)) : (tabF enc sz e R).map Fld.val = R.map rowV := by
  unfold tabF
  rw [List.map_map]
  rfl
theorem tabG_at {R : List (TRow α)} (ex : List Value) {j : Nat} {r : TRow α} (hr : R[j]? = some r) : (tabF enc sz e R ++ ex.map Fld.v)[j]? = some (rowF enc sz e r) := by
  rw [List.getElem?_append_left (by rw [tabF, List.length_map]; exact (List.getElem?_eq_some_iff.1 hr).1), tabF, List.getElem?_map, hr]
  rfl
/-- A table at a block: its rows. -/
def TabAt (h : Hp) (F : Nat → Prop) (t : Nat) (L : List (List α)) : Prop := ∃ (R : List (TRow α)) (ex : List Value), R.map Prod.snd = L ∧ F = ftR t (tabF enc sz e R ++ ex.map Fld.v) ∧ Rec h t T (tabF enc sz e R ++ ex.map Fld.v)
/-- A table that is only read. -/
def TabR (h : Hp) (a : Option Addr) (n : Nat) (L : List (List α)) : Prop := ∃ R : List (TRow α), R.map Prod.snd = L ∧ n = L.length ∧ HasRow h a (R.map rowV) ∧ ∀ (j : Nat) (r : TRow α), R[j]? = some r → HasRow h r.1.1 (r.2.flatMap enc)
end
section
variable {α : Type} {enc : α → List Value} {sz : Nat} {e T : TypeId} {h : Hp} {F : Nat → Prop} {t : Nat} {L : List (List α)}
theorem TabAt.al (D : TabAt enc sz e T h F t L) : ∀ b, F b → h b ≠ none := by
  obtain ⟨R, ex, rfl, rfl, D⟩ := D
  exact D.al
theorem TabAt.keep {h' : Hp} (D : TabAt enc sz e T h F t L) (hk : ∀ b, F b → ∀ o, h b = some o → h' b = some o) : TabAt enc sz e T h' F t L := by
  obtain ⟨R, ex, rfl, rfl, D⟩ := D
  exact ⟨R, ex, rfl, rfl, D.keep hk⟩
theorem TabAt.le {h' : Hp} (D : TabAt enc sz e T h F t L) (hl : h.le h') : TabAt enc sz e T h' F t L := D.keep fun b _ o ho => hl b o ho
theorem TabAt.top (D : TabAt enc sz e T h F t L) : F t := by
  obtain ⟨R, ex, rfl, rfl, D⟩ := D
  exact .inl rfl
theorem TabAt.cell (D : TabAt enc sz e T h F t L) {j : Nat} {l : List α} (hl : L[j]? = some l) : ∃ a c, h.cell t (0 + j * 1) = some (vsl a l.length c) ∧ SlP enc h a l.length l := by
  obtain ⟨R, ex, rfl, rfl, D⟩ := D
  rw [List.getElem?_map, Option.map_eq_some_iff] at hl
  obtain ⟨r, hr, rfl⟩ := hl
  have hf := tabG_at enc sz e ex hr
  rw [Nat.zero_add, Nat.mul_one]
  have O : OwnS h e sz r.1.1 r.2.length r.1.2 (r.2.flatMap enc) := D.own j _ hf
  exact ⟨r.1.1, r.1.2, D.cell hf, rfl, O.row⟩
theorem HasRow.get1 {h : Hp} {a : Option Addr} {xs : List Value} (H : HasRow h a xs) {j : Nat} {v : Value} (hv : xs[j]? = some v) : ∃ b o, a = some ⟨b, o, none⟩ ∧ h.cell b (o + j * 1) = some v := by
  rcases H with rfl | ⟨b, o, ha, hr⟩
  · cases hv
  · refine ⟨b, o, ha, ?_⟩
    rw [Nat.mul_one]
    exact Hp.row_cell hr hv
theorem TabR.cell {a : Option Addr} {n : Nat} (D : TabR enc h a n L) {j : Nat} {l : List α} (hl : L[j]? = some l) : ∃ b o a' c', a = some ⟨b, o, none⟩ ∧ h.cell b (o + j * 1) = some (vsl a' l.length c') ∧ SlP enc h a' l.length l := by
  obtain ⟨R, rfl, hn, D, D2⟩ := D
  rw [List.getElem?_map, Option.map_eq_some_iff] at hl
  obtain ⟨r, hr, rfl⟩ := hl
  obtain ⟨b, o, ha, hc⟩ := D.get1 (j := j) (v := rowV r) (by rw [List.getElem?_map, hr]; rfl)
  exact ⟨b, o, r.1.1, r.1.2, ha, hc, rfl, D2 j r hr⟩
theorem TabR.le {h' : Hp} {a : Option Addr} {n : Nat} (D : TabR enc h a n L) (hl : h.le h') : TabR enc h' a n L := by
  obtain ⟨R, rfl, hn, D, D2⟩ := D
  exact ⟨R, rfl, hn, D.le hl, fun j r hr => (D2 j r hr).le hl⟩
theorem TabAt.r (D : TabAt enc sz e T h F t L) : TabR enc h (some ⟨t, 0, none⟩) L.length L := by
  obtain ⟨R, ex, rfl, rfl, D⟩ := D
  refine ⟨R, rfl, rfl, ?_, fun j r hr => ?_⟩
  · refine .inr ⟨t, 0, rfl, ?_⟩
    have := D.blk
    rw [List.map_append, tabF_val] at this
    rw [row_cells' this (by rw [List.length_append]; omega), List.drop_zero, List.take_left' rfl]
  · have hf := tabG_at enc sz e ex hr
    exact (D.own j _ hf : OwnS h e sz r.1.1 r.2.length r.1.2 (r.2.flatMap enc)).row
variable {P : Program}
/-- One more in a row: append, and the place in the table. -/
theorem TabAt.app {tS : TypeId} {bytes : Nat} (E : ElT P tS e sz bytes) (he : ∀ x, (enc x).length = sz) (h1 : ∀ x, ∀ u ∈ enc x, u.oneCell' = true) (D : TabAt enc sz e T h F t L) {j : Nat} {l : List α} (hl : L[j]? = some l) (hb : (l.length + 1) * bytes ≤ 140737488355328) (hb2 : l.length + 1 ≤ 140737488355328) {x : α} {a : Option Addr} {c : Nat} (hc : h.cell t (0 + j * 1) = some (vsl a l.length c)) {b : Nat} (hbn : h b = none) {ty : TypeId} {K : Value → Hp → Prop}
    (hK : ∀ a' c' h', (∀ b' o, (¬ F b' ∨ b' = t) → h b' = some o → h' b' = some o) → (∀ K2 : Hp → Prop, (∀ h'' F', TabAt enc sz e T h'' F' t (L.set j (l ++ [x])) → Mut F h F' h'' → K2 h'') → h'.store t (0 + j * 1) [vsl a' (l.length + 1) c'] K2) → K (vsl a' (l.length + 1) c') h') :
    SemOK P (Builtin.append_ #[tS, tS] ty #[vsl a l.length c, vsl (some ⟨b, 0, none⟩) 1 1]) (h.set b (cellsO (enc x) e)) K := by
  obtain ⟨R, ex, rfl, rfl, D⟩ := D
  rw [List.getElem?_map, Option.map_eq_some_iff] at hl
  obtain ⟨r, hr, rfl⟩ := hl
  have hf := tabG_at enc sz e ex hr
  rw [Nat.zero_add, Nat.mul_one, D.cell hf] at hc
  simp only [rowF, Fld.val, Option.some.injEq, Value.slice.injEq] at hc
  obtain ⟨rfl, _, rfl⟩ := hc
  have hle : h.le (h.set b (cellsO (enc x) e)) := Hp.le_set (Hp.le_refl h) hbn _
  have O : OwnS (h.set b (cellsO (enc x) e)) e sz r.1.1 r.2.length r.1.2 (r.2.flatMap enc) := (D.own j _ hf : OwnS h e sz r.1.1 r.2.length r.1.2 (r.2.flatMap enc)).le hle
  have hj : j < R.length := (List.getElem?_eq_some_iff.1 hr).1
  refine sem_append E O (HasRow.new _ _ (enc x) _) (m := 1) (by rw [he, Nat.one_mul]) (h1 x) hb hb2 fun a' c' h' O' k1 k2 _ _ => hK a' c' h' (fun b' o hb' ho => k1 b' o (hle b' o ho) fun hat => ?_) fun K2 hK2 => ?_
  · rcases hb' with h2 | rfl
    · exact h2 (.inr ⟨j, _, hf, hat⟩)
    · exact D.ne j _ hf hat
  · have e1 : tabF enc sz e (R.set j ((a', c'), r.2 ++ [x])) ++ ex.map Fld.v = (tabF enc sz e R ++ ex.map Fld.v).set j (.s e sz a' (r.2.length + 1) c' (r.2.flatMap enc ++ enc x)) := by
      rw [List.set_append_left _ _ (by rw [tabF, List.length_map]; exact hj)]
      unfold tabF
      rw [List.map_set]
      congr 2
      unfold rowF
      simp
    have e2 : (R.set j ((a', c'), r.2 ++ [x])).map Prod.snd = (R.map Prod.snd).set j (r.2 ++ [x]) := by rw [List.map_set]
    rw [Nat.zero_add, Nat.mul_one]
    refine D.put (h' := h') (j := j) (f' := .s e sz a' (r.2.length + 1) c' (r.2.flatMap enc ++ enc x)) hf (fun b' o ho hat => k1 b' o (hle b' o ho) hat) O' (fun b' hb' => ?_) (fun h'' _ R' M => by rw [← e1] at R' M; exact hK2 h'' _ ⟨_, ex, e2, rfl, R'⟩ M) rfl
    rcases k2 b' hb' with e | e
    · exact .inl (e.trans hb')
    · exact .inr (Hp.none_of_le hle e)
/-- A table of rows that are empty. -/
theorem TabAt.new {b : Nat} (hb : h b = none) (n : Nat) : TabAt enc sz e T (h.set b (cellsO ((List.replicate n [vsl none 0 0]).flatten) T)) (fun x => x = b) b (List.replicate n []) := by
  refine ⟨List.replicate n ((none, 0), []), [], by rw [List.map_replicate], ?_, ?_⟩ <;> rw [List.map_nil, List.append_nil]
  · funext x
    refine propext ⟨fun hx => .inl hx, ?_⟩
    rintro (hx | ⟨j, f, hf, hat⟩)
    · exact hx
    · rw [tabF, List.map_replicate, List.getElem?_replicate] at hf
      split at hf
      · cases hf; cases hat
      · cases hf
  · have e1 : (tabF enc sz e (List.replicate n (((none, 0), []) : TRow α))).map Fld.val = (List.replicate n [vsl none 0 0]).flatten := by
      rw [tabF_val, List.map_replicate]
      induction n with
      | zero => rfl
      | succ n ih => rw [List.replicate_succ, List.replicate_succ, List.flatten_cons, ← ih]; rfl
    have hno : ∀ (j : Nat) (f : Fld), (tabF enc sz e (List.replicate n (((none, 0), []) : TRow α)))[j]? = some f → f = .s e sz none 0 0 [] := by
      intro j f hf
      rw [tabF, List.map_replicate, List.getElem?_replicate] at hf
      split at hf
      · cases hf; rfl
      · cases hf
    rw [← e1]
    refine Rec.new hb (fun j f hf => ?_) fun j k f f' b' hf hf' hat _ => ?_
    · rw [hno j f hf]; exact OwnS.nil h e sz
    · rw [hno j f hf] at hat; cases hat
end

section
variable {α : Type} (enc : α → List Value) (T : TypeId)
/-- A table that is being put together: all of it is new. -/
def TabB (h0 h : Hp) (a : Option Addr) (c : Nat) (L : List (List α)) : Prop :=
  ∃ (R : List (TRow α)) (hd : Hp), R.map Prod.snd = L ∧ OwnV h0 h T 1 a L.length c (R.map rowV) ∧ hd.le h ∧ (∀ g, a = some ⟨g, 0, none⟩ → hd g = none) ∧ ∀ (j : Nat) (r : TRow α), R[j]? = some r → HasRow hd r.1.1 (r.2.flatMap enc)
end
section
variable {α : Type} {enc : α → List Value} {T : TypeId} {h0 h : Hp} {a : Option Addr} {c : Nat} {L : List (List α)}
theorem TabB.nil (hl : h0.le h) : TabB enc T h0 h none 0 [] :=
  ⟨[], h, rfl, OwnV.nil hl _ _, Hp.le_refl h, (fun g hg => by cases hg), (fun j r hr => by cases hr)⟩
theorem TabB.le0 (B : TabB enc T h0 h a c L) : h0.le h := by
  obtain ⟨R, hd, _, O, _⟩ := B
  exact O.le
theorem TabB.r (B : TabB enc T h0 h a c L) : TabR enc h a L.length L := by
  obtain ⟨R, hd, e, O, hl, _, hr⟩ := B
  exact ⟨R, e, rfl, O.own.row, fun j r h1 => (hr j r h1).le hl⟩
variable {P : Program}
theorem TabB.app {tS : TypeId} {bytes : Nat} (E : ElT P tS T 1 bytes) (B : TabB enc T h0 h a c L) {e : TypeId} {sz : Nat} {h1 : Hp} {a2 : Option Addr} {c2 : Nat} {l : List α} (O : OwnV h h1 e sz a2 l.length c2 (l.flatMap enc)) (hb : (L.length + 1) * bytes ≤ 140737488355328) (hb2 : L.length + 1 ≤ 140737488355328)
    {b : Nat} (hbn : h1 b = none) {ty : TypeId} {K : Value → Hp → Prop} (hK : ∀ a' c' h', TabB enc T h0 h' a' c' (L ++ [l]) → K (vsl a' (L.length + 1) c') h') :
    SemOK P (Builtin.append_ #[tS, tS] ty #[vsl a L.length c, vsl (some ⟨b, 0, none⟩) 1 1]) (h1.set b (cellsO [vsl a2 l.length c2] T)) K := by
  obtain ⟨R, hd, eR, OT, hl, hn, hr⟩ := B
  have l2 : h1.le (h1.set b (cellsO [vsl a2 l.length c2] T)) := Hp.le_set (Hp.le_refl h1) hbn _
  have OT2 : OwnV h0 (h1.set b (cellsO [vsl a2 l.length c2] T)) T 1 a L.length c (R.map rowV) := ⟨Hp.le_trans (Hp.le_trans OT.le O.le) l2, (OT.own.le O.le).le l2, OT.new⟩
  refine OwnV.append E OT2 (HasRow.new _ _ [vsl a2 l.length c2] _) (m := 1) rfl (by simp [Value.oneCell']) hb hb2 fun a' c' h' O' k1 k2 => hK a' c' h' ?_
  refine ⟨R ++ [((a2, c2), l)], fun x => if a = some ⟨x, 0, none⟩ then none else h1 x, by rw [List.map_append, eR]; rfl, ?_, ?_, ?_, ?_⟩
  · rw [List.map_append, List.length_append]; exact O'
  · intro x o ho
    simp only at ho
    split at ho
    · cases ho
    · rename_i hne
      exact k1 x o (l2 x o ho) hne
  · intro g hg
    simp only
    split
    · rfl
    · rename_i hne
      rcases k2 g hg with e1 | e1
      · exact absurd (e1.trans hg) hne
      · exact Hp.none_of_le l2 e1
  · intro j r hj
    rcases Nat.lt_or_ge j R.length with h3 | h3
    · rw [List.getElem?_append_left h3] at hj
      refine (hr j r hj).le fun x o ho => ?_
      split
      · rename_i he
        rw [hn x he] at ho; cases ho
      · exact O.le x o (hl x o ho)
    · rw [List.getElem?_append_right h3, List.getElem?_singleton] at hj
      split at hj
      · cases hj
        refine (O.own.keep fun g o hg ho => ?_ : OwnS _ e sz a2 l.length c2 (l.flatMap enc)).row
        split
        · rename_i he
          have q := O.new g hg
          rcases OT.own.2 with ⟨q1, _⟩ | ⟨g', cur, q1, q2, _⟩
          · rw [q1] at he; cases he
          · rw [q1] at he; cases he; rw [q2] at q; cases q
        · exact ho
      · cases hj
end

theorem setL_app_l {β : Type} (a b : List β) (k : Nat) (vs : List β) (h : k + vs.length ≤ a.length) : setL (a ++ b) k vs = setL a k vs ++ b := by
  unfold setL
  rw [List.take_append_of_le_length (by omega), List.drop_append_of_le_length (by omega)]
  simp
theorem setL_app_r {β : Type} (a b : List β) (k : Nat) (vs : List β) : setL (a ++ b) (a.length + k) vs = a ++ setL b k vs := by
  unfold setL
  rw [show a.length + k + vs.length = a.length + (k + vs.length) by omega, List.take_length_add_append, List.drop_length_add_append]
  simp
/-- Cells of one of many are put. -/
theorem setL_flat {α : Type} {enc : α → List Value} {sz : Nat} (he : ∀ x, (enc x).length = sz) {k : Nat} {vs : List Value} (hk : k + vs.length ≤ sz) : ∀ (l : List α) (i : Nat) (x x' : α), l[i]? = some x → enc x' = setL (enc x) k vs → setL (l.flatMap enc) (i * sz + k) vs = (l.set i x').flatMap enc
  | [], i, x, x', h, _ => by cases h
  | y :: l, 0, x, x', h, hx => by
    cases h
    rw [List.flatMap_cons, List.set_cons_zero, List.flatMap_cons, Nat.zero_mul, Nat.zero_add, setL_app_l _ _ _ _ (by rw [he]; exact hk), hx]
  | y :: l, i + 1, x, x', h, hx => by
    rw [List.flatMap_cons, List.set_cons_succ, List.flatMap_cons, show (i + 1) * sz + k = (enc y).length + (i * sz + k) by rw [he, Nat.succ_mul]; omega, setL_app_r, setL_flat he hk l i x x' h hx]
/-- A slice of one's own, element by element. -/
def Vec {α : Type} (enc : α → List Value) (sz : Nat) (T : TypeId) (h0 h : Hp) (a : Option Addr) (c : Nat) (l : List α) : Prop := OwnV h0 h T sz a l.length c (l.flatMap enc)
section
variable {α : Type} {enc : α → List Value} {sz : Nat} {T : TypeId} {h0 h : Hp} {a : Option Addr} {c : Nat} {l : List α}
theorem Vec.le0 (V : Vec enc sz T h0 h a c l) : h0.le h := OwnV.le V
theorem Vec.slp (he : ∀ x, (enc x).length = sz) (hz : 0 < sz) (V : Vec enc sz T h0 h a c l) : SlP enc h a l.length l := OwnV.slp he hz V
/-- Cells of an element are put. -/
theorem Vec.put (he : ∀ x, (enc x).length = sz) (V : Vec enc sz T h0 h a c l) {i : Nat} {x x' : α} (hx : l[i]? = some x) {k : Nat} {vs : List Value} (hv : 0 < vs.length) (hk : k + vs.length ≤ sz) (hx' : enc x' = setL (enc x) k vs) :
    ∃ b o, a = some ⟨b, o, none⟩ ∧ ∀ K : Hp → Prop, (∀ h', Vec enc sz T h0 h' a c (l.set i x') → K h') → h.store b (o + i * sz + k) vs K := by
  have hi : i < l.length := (List.getElem?_eq_some_iff.1 hx).1
  have hb : (i + 1) * sz ≤ l.length * sz := Nat.mul_le_mul_right _ hi
  rw [Nat.succ_mul] at hb
  rcases V.own.2 with ⟨ha, hn, _⟩ | ⟨g, cur, ha, _⟩
  · omega
  · refine ⟨g, 0, ha, fun K hK => ?_⟩
    rw [Nat.add_assoc]
    refine OwnV.store V (j := i * sz + k) hv (by omega) ha fun ob V' => hK _ ?_
    unfold Vec
    rw [← setL_flat he hk l i x x' hx hx', List.length_set]
    exact V'
theorem Vec.keep0 {h1 : Hp} (V : Vec enc sz T h0 h a c l) (hl : h.le h1) : Vec enc sz T h0 h1 a c l := ⟨Hp.le_trans V.le0 hl, (OwnV.own V).le hl, OwnV.new V⟩
variable {P : Program}
/-- One more: append. -/
theorem Vec.app {t ty : TypeId} {bytes : Nat} (E : ElT P t T sz bytes) (he : ∀ x, (enc x).length = sz) (h1 : ∀ x, ∀ u ∈ enc x, u.oneCell' = true) (V : Vec enc sz T h0 h a c l) (hb : (l.length + 1) * bytes ≤ 140737488355328) (hb2 : l.length + 1 ≤ 140737488355328) {x : α} {b : Nat} (hbn : h b = none) {K : Value → Hp → Prop}
    (hK : ∀ a' c' h', Vec enc sz T h0 h' a' c' (l ++ [x]) → K (vsl a' (l ++ [x]).length c') h') : SemOK P (Builtin.append_ #[t, t] ty #[vsl a l.length c, vsl (some ⟨b, 0, none⟩) 1 1]) (h.set b (cellsO (enc x) T)) K := by
  refine OwnV.append E (OwnV.set hbn _ V) (HasRow.new _ _ (enc x) _) (m := 1) (by rw [he, Nat.one_mul]) (h1 x) hb hb2 fun a' c' h' O' _ _ => ?_
  have := hK a' c' h' (by
    unfold Vec
    rw [List.length_append, List.flatMap_append, List.flatMap_singleton]
    exact O')
  rw [List.length_append] at this
  exact this
theorem Vec.make {t : TypeId} {bytes : Nat} (E : ElT P t T sz bytes) {z : List Value} (hz : (zeroL P T).map tvals = some z) {x : α} (hx : enc x = z) (hzl : z.length = sz) {n : Nat} (hn : n ≤ 1000000) (hb : n * bytes ≤ 140737488355328) {K : Value → Hp → Prop}
    (hK : ∀ a h', Vec enc sz T h h' a n (List.replicate n x) → K (vsl a n n) h') : SemOK P (Instr.makeSlice t (vi n) (vi n)) h K := by
  refine sem_make E hz hn hb fun b hb => hK _ _ ?_
  unfold Vec
  have e : (List.replicate n x).flatMap enc = (List.replicate n z).flatten := by rw [List.flatMap_replicate, hx]
  rw [e, List.length_replicate]
  exact OwnV.mk_new (Hp.le_refl h) hb _ _ (by rw [List.length_flatten]; simp [hzl]) (by simp only [maxLen]; omega)
end

/-- What has blocks of its own, and is kept where they are. -/
structure Fp (P : Hp → (Nat → Prop) → Prop) : Prop where
  al : ∀ {h F}, P h F → ∀ b, F b → h b ≠ none
  keep : ∀ {h h' F}, P h F → (∀ b, F b → ∀ o, h b = some o → h' b = some o) → P h' F
/-- Both that have, each its own, all new. -/
structure Both (h0 h : Hp) (F1 F2 : Nat → Prop) (P Q : Hp → (Nat → Prop) → Prop) : Prop where
  le : h0.le h
  n1 : ∀ b, F1 b → h0 b = none
  n2 : ∀ b, F2 b → h0 b = none
  d : ∀ b, F1 b → ¬ F2 b
  p : P h F1
  q : Q h F2
theorem Both.left {h0 h h' : Hp} {F1 F2 F' : Nat → Prop} {P P' Q : Hp → (Nat → Prop) → Prop} (fq : Fp Q) (T : Both h0 h F1 F2 P Q) (D : P' h' F') (M : Mut F1 h F' h') : Both h0 h' F' F2 P' Q := by
  obtain ⟨l, nn⟩ := M.old T.le T.n1
  obtain ⟨k, d⟩ := M.apart (fq.al T.q) T.d
  exact ⟨l, nn, T.n2, d, D, fq.keep T.q k⟩
theorem Both.right {h0 h h' : Hp} {F1 F2 F' : Nat → Prop} {P Q Q' : Hp → (Nat → Prop) → Prop} (fp : Fp P) (T : Both h0 h F1 F2 P Q) (D : Q' h' F') (M : Mut F2 h F' h') : Both h0 h' F1 F' P Q' := by
  obtain ⟨l, nn⟩ := M.old T.le T.n2
  obtain ⟨k, d⟩ := M.apart (fp.al T.p) (fun b hb hb' => T.d b hb' hb)
  exact ⟨l, T.n1, nn, fun b hb hb' => d b hb' hb, fp.keep T.p k, D⟩
theorem Both.le_ {h0 h h' : Hp} {F1 F2 : Nat → Prop} {P Q : Hp → (Nat → Prop) → Prop} (fp : Fp P) (fq : Fp Q) (T : Both h0 h F1 F2 P Q) (l : h.le h') : Both h0 h' F1 F2 P Q :=
  ⟨Hp.le_trans T.le l, T.n1, T.n2, T.d, fp.keep T.p fun b _ o ho => l b o ho, fq.keep T.q fun b _ o ho => l b o ho⟩
end Go.Vc
/-
  Events: how they lie, how they are compared; which may be; the contract of a value that may be, as the document has it. Conditions: none.
-/
namespace Go.Proofs.Ytkfhhjllacegpaa
open Go Go.Vc
set_option linter.unusedVariables false
set_option maxRecDepth 100000

/-- An event: its time, K, A, B. -/
abbrev EvL := Int × (Int × Int) × (Int × Int) × (Int × Int)
def encE (e : EvL) : List Value := [vi e.1, vi e.2.1.1, vi e.2.1.2, vi e.2.2.1.1, vi e.2.2.1.2, vi e.2.2.2.1, vi e.2.2.2.2]
theorem encE_len (e : EvL) : (encE e).length = 7 := rfl
theorem one_encE (e : EvL) : ∀ u ∈ encE e, u.oneCell' = true := by
  intro u hu
  simp [encE] at hu
  rcases hu with rfl | rfl | rfl | rfl | rfl | rfl | rfl <;> rfl
theorem one_evs (l : List EvL) : ∀ u ∈ l.flatMap encE, u.oneCell' = true := by
  intro u hu
  obtain ⟨v, _, hv⟩ := List.mem_flatMap.1 hu
  exact one_encE v u hv
theorem eqFl_E (a b c d e f g a' b' c' d' e' f' g' : Int) : eqFl Try.prog 8 26 [vi a, vi b, vi c, vi d, vi e, vi f, vi g] [vi a', vi b', vi c', vi d', vi e', vi f', vi g'] =
    some (decide (a = a') && ((decide (b = b') && (decide (c = c') && true)) && ((decide (d = d') && (decide (e = e') && true)) && ((decide (f = f') && (decide (g = g') && true)) && true)))) := by kernel_rfl
theorem dec_E (x y : EvL) : (decide (x.1 = y.1) && ((decide (x.2.1.1 = y.2.1.1) && (decide (x.2.1.2 = y.2.1.2) && true)) && ((decide (x.2.2.1.1 = y.2.2.1.1) && (decide (x.2.2.1.2 = y.2.2.1.2) && true)) && ((decide (x.2.2.2.1 = y.2.2.2.1) && (decide (x.2.2.2.2 = y.2.2.2.2) && true)) && true)))) = decide (x = y) := by
  obtain ⟨x1, ⟨x2, x3⟩, ⟨x4, x5⟩, ⟨x6, x7⟩⟩ := x
  obtain ⟨y1, ⟨y2, y3⟩, ⟨y4, y5⟩, ⟨y6, y7⟩⟩ := y
  rw [Bool.eq_iff_iff]
  simp [and_assoc]
theorem rd_neqE {h : Hp} {x y : Operand} {a b : EvL} : Rd Try.prog (eqGuard .neq 26 x y (vag (encE a)) (vag (encE b)) >>= fun _ => binOp .neq 26 (vag (encE a)) (vag (encE b))) h (vb (!decide (a = b))) := by
  rw [← dec_E]
  exact rd_neq (eqFl_E _ _ _ _ _ _ _ _ _ _ _ _ _ _) (by kernel_rfl) (by kernel_rfl)

def chkV (v : Int × Int) : Int := if ¬ goodV v ∨ v.1 = 2 then 3 else if v.2 < -1000 ∨ v.2 > 1000 then 1 else 0
def chkL : List (Int × Int) → Int
  | [] => 0
  | v :: l => if chkV v = 0 then chkL l else chkV v
/-- What is wrong with an event; 0: nothing. -/
def chkE (e : EvL) : Int := if e.1 < 0 ∨ e.1 > 9999 then 1 else chkL [e.2.1, e.2.2.1, e.2.2.2]
theorem chkV_2 (v : Int × Int) : 0 ≤ chkV v := by unfold chkV; split <;> (try split) <;> decide
theorem chkL_2 : ∀ l : List (Int × Int), 0 ≤ chkL l
  | [] => Int.le_refl 0
  | v :: l => by
    rw [chkL]
    split
    · exact chkL_2 l
    · exact chkV_2 v
theorem chkE_2 (e : EvL) : 0 ≤ chkE e := by
  unfold chkE
  split
  · decide
  · exact chkL_2 _
theorem drop_get {α : Type} {l : List α} {i : Nat} (h : i < l.length) : l.drop i = l[i] :: l.drop (i + 1) := List.drop_eq_getElem_cons h
end Go.Proofs.Ytkfhhjllacegpaa
/-
  The plain law of expressions: which may be, what they are worth, of which kind they are, what is cut out of them and put together. No program in sight. Conditions: none.
-/
namespace Go.Proofs.Ytkfhhjllacegpaa
open Go Go.Vc
set_option linter.unusedVariables false

structure Nd where
  op : Int
  x : Int
  y : Int
  n : Int
  v : Int × Int
deriving DecidableEq
def arI (op : Int) : Int := if op = 1 ∨ op = 2 then 0 else if 3 ≤ op ∧ op ≤ 5 then 1 else if 6 ≤ op ∧ op ≤ 12 then 2 else -1
/-- What is wrong with a node as it stands. -/
def nodeF (n : Nd) : Int :=
  if arI n.op < 0 then 3 else if (n.op ≠ 1 ∧ n.v ≠ (0, 0)) ∨ (n.op ≠ 2 ∧ n.n ≠ 0) ∨ (arI n.op < 2 ∧ n.y ≠ 0) ∨ (arI n.op < 1 ∧ n.x ≠ 0) then 3 else if n.op = 2 ∧ (n.n < 0 ∨ n.n > 3) then 1 else if ¬ goodV n.v then 3 else 0
/-- Those that are nobody's yet, the last one ahead: a node takes its own. -/
def popN (n : Nd) (st : List Int) : Option (List Int) :=
  if arI n.op = 0 then some st else if arI n.op = 1 then
    match st with
    | a :: s => if a = n.x then some s else none
    | [] => none
  else
    match st with
    | b :: a :: s => if a = n.x ∧ b = n.y then some s else none
    | _ => none
def chkGo (st : List Int) (i : Nat) : List Nd → Int
  | [] => if st.length = 1 then 0 else 3
  | n :: l => if nodeF n ≠ 0 then nodeF n else match popN n st with
    | none => 3
    | some s => chkGo (i :: s) (i + 1) l
def exprF (l : List Nd) : Int := if l.length > 40 then 2 else chkGo [] 0 l
theorem nodeF_2 (n : Nd) : 0 ≤ nodeF n := by unfold nodeF; split <;> (try split) <;> (try split) <;> (try split) <;> decide
theorem chkGo_2 : ∀ (l : List Nd) (st : List Int) (i : Nat), 0 ≤ chkGo st i l
  | [], st, i => by rw [chkGo]; split <;> decide
  | n :: l, st, i => by
    rw [chkGo]
    split
    · exact nodeF_2 n
    · split
      · decide
      · exact chkGo_2 l _ _
theorem exprF_2 (l : List Nd) : 0 ≤ exprF l := by
  unfold exprF
  split
  · decide
  · exact chkGo_2 _ _ _

/-- Nodes f up to e are one expression, its root the last. -/
inductive Blk (l : List Nd) : Nat → Nat → Prop where
  | leaf {i : Nat} {n : Nd} : l[i]? = some n → arI n.op = 0 → Blk l i (i + 1)
  | one {f i : Nat} {n : Nd} : Blk l f i → l[i]? = some n → arI n.op = 1 → n.x = (i : Int) - 1 → Blk l f (i + 1)
  | two {f g i : Nat} {n : Nd} : Blk l f g → Blk l g i → l[i]? = some n → arI n.op = 2 → n.x = (g : Int) - 1 → n.y = (i : Int) - 1 → Blk l f (i + 1)
theorem Blk.lt {l : List Nd} {f e : Nat} (B : Blk l f e) : f < e ∧ e ≤ l.length := by
  induction B with
  | leaf h _ => exact ⟨Nat.lt_succ_self _, (List.getElem?_eq_some_iff.1 h).1⟩
  | one _ h _ _ ih => exact ⟨by omega, (List.getElem?_eq_some_iff.1 h).1⟩
  | two _ _ h _ _ _ ih1 ih2 => exact ⟨by omega, (List.getElem?_eq_some_iff.1 h).1⟩
/-- What stands open: expressions, one behind the other. -/
inductive Stk (l : List Nd) : List Int → Nat → Prop where
  | nil : Stk l [] 0
  | push {s : List Int} {f e : Nat} : Stk l s f → Blk l f e → Stk l (((e : Int) - 1) :: s) e
theorem arI_range {op : Int} (h : 0 ≤ arI op) : arI op = 0 ∨ arI op = 1 ∨ arI op = 2 := by
  unfold arI at *
  split <;> (try split) <;> (try split) <;> simp_all
theorem nodeF_ar {n : Nd} (h : nodeF n = 0) : 0 ≤ arI n.op := by
  unfold nodeF at h
  split at h
  · cases h
  · omega
theorem popN_stk {l : List Nd} {st s : List Int} {i : Nat} {n : Nd} (hn : l[i]? = some n) (h0 : nodeF n = 0) (S : Stk l st i) (h : popN n st = some s) : Stk l ((i : Int) :: s) (i + 1) := by
  have key : ∀ {f : Nat} {s : List Int}, Stk l s f → Blk l f (i + 1) → Stk l ((i : Int) :: s) (i + 1) := by
    intro f s S B
    have := Stk.push S B
    rw [show ((i + 1 : Nat) : Int) - 1 = i by omega] at this
    exact this
  unfold popN at h
  rcases arI_range (nodeF_ar h0) with h1 | h1 | h1
  · rw [if_pos h1] at h
    cases h
    exact key S (.leaf hn h1)
  · rw [if_neg (by omega), if_pos h1] at h
    cases S with
    | nil => cases h
    | push S B =>
      simp only at h
      split at h
      · rename_i hx
        cases h
        exact key S (.one B hn h1 hx.symm)
      · cases h
  · rw [if_neg (by omega), if_neg (by omega)] at h
    cases S with
    | nil => cases h
    | push S B =>
      cases S with
      | nil => cases h
      | push S B' =>
        simp only at h
        split at h
        · rename_i hx
          cases h
          exact key S (.two B' B hn h1 hx.1.symm hx.2.symm)
        · cases h
theorem chkGo_ok (l : List Nd) : ∀ (r : List Nd) (st : List Int) (i : Nat), l.drop i = r → i ≤ l.length → Stk l st i → chkGo st i r = 0 → (∀ n ∈ r, nodeF n = 0) ∧ ∃ z, Stk l [z] l.length
  | [], st, i, hr, hi, S, h => by
    have : i = l.length := by
      have := congrArg List.length hr
      simp at this
      omega
    subst this
    rw [chkGo] at h
    split at h
    · rename_i h1
      match st, h1 with
      | [z], _ => exact ⟨by simp, z, S⟩
    · cases h
  | n :: r, st, i, hr, hi, S, h => by
    have hlt : i < l.length := by
      have := congrArg List.length hr
      simp at this
      omega
    have hn : l[i]? = some n := by
      have := congrArg List.head? hr
      rw [List.head?_drop] at this
      exact this
    have hr' : l.drop (i + 1) = r := by
      rw [← List.drop_drop, hr]; rfl
    rw [chkGo] at h
    split at h
    · rename_i h1; exact absurd h h1
    · rename_i h1
      have h0 : nodeF n = 0 := by simpa using h1
      split at h
      · cases h
      · rename_i s hs
        obtain ⟨q1, q2⟩ := chkGo_ok l r _ (i + 1) hr' hlt (popN_stk hn h0 S hs) h
        refine ⟨fun m hm => ?_, q2⟩
        rcases List.mem_cons.1 hm with rfl | hm
        · exact h0
        · exact q1 m hm
theorem stk_one {l : List Nd} {z : Int} {e : Nat} (S : Stk l [z] e) : Blk l 0 e := by
  cases S with
  | push S B =>
    cases S with
    | nil => exact B
/-- An expression that may be. -/
structure OkE (l : List Nd) : Prop where
  n : ∀ n ∈ l, nodeF n = 0
  b : Blk l 0 l.length
theorem chkGo_okE {l : List Nd} (h : chkGo [] 0 l = 0) : OkE l := by
  obtain ⟨h1, z, h2⟩ := chkGo_ok l l [] 0 rfl (Nat.zero_le _) .nil h
  exact ⟨h1, stk_one h2⟩
theorem exprF_ok {l : List Nd} (h : exprF l = 0) : OkE l ∧ l.length ≤ 40 := by
  unfold exprF at h
  split at h
  · cases h
  · exact ⟨chkGo_okE h, by omega⟩
theorem OkE.pos {l : List Nd} (O : OkE l) : 0 < l.length := O.b.lt.1

/-- Each node ends an expression. -/
theorem Blk.sub {l : List Nd} {f e : Nat} (B : Blk l f e) : ∀ i, f ≤ i → i < e → ∃ g, f ≤ g ∧ Blk l g (i + 1) := by
  induction B with
  | @leaf j n h h0 => intro i h1 h2; obtain rfl : i = j := by omega
                      exact ⟨i, Nat.le_refl _, .leaf h h0⟩
  | @one f j n B h h0 hx ih =>
    intro i h1 h2
    by_cases hij : i = j
    · subst hij; exact ⟨f, Nat.le_refl _, .one B h h0 hx⟩
    · exact ih i h1 (by omega)
  | @two f g j n B B' h h0 hx hy ih1 ih2 =>
    intro i h1 h2
    have := B.lt
    by_cases hij : i = j
    · subst hij; exact ⟨f, Nat.le_refl _, .two B B' h h0 hx hy⟩
    · by_cases hg : i < g
      · exact ih1 i h1 hg
      · obtain ⟨k, hk, hb⟩ := ih2 i (by omega) (by omega)
        exact ⟨k, by omega, hb⟩
/-- What a node looks at stands ahead of it. -/
structure WfN (i : Nat) (n : Nd) : Prop where
  a : 0 ≤ arI n.op
  f : n.op = 2 → 0 ≤ n.n ∧ n.n ≤ 3
  x : 1 ≤ arI n.op → 0 ≤ n.x ∧ n.x < i
  y : 2 ≤ arI n.op → 0 ≤ n.y ∧ n.y < i
def WfL (l : List Nd) : Prop := ∀ (i : Nat) (n : Nd), l[i]? = some n → WfN i n
theorem nodeF_f {n : Nd} (h : nodeF n = 0) (h2 : n.op = 2) : 0 ≤ n.n ∧ n.n ≤ 3 := by
  unfold nodeF at h
  split at h
  · cases h
  · split at h
    · cases h
    · split at h
      · cases h
      · omega
theorem OkE.wf {l : List Nd} (O : OkE l) : WfL l := by
  intro i n hn
  have hlt := (List.getElem?_eq_some_iff.1 hn).1
  have h0 := O.n n (List.mem_of_getElem? hn)
  obtain ⟨g, _, B⟩ := O.b.sub i (Nat.zero_le _) hlt
  refine ⟨nodeF_ar h0, nodeF_f h0, fun h1 => ?_, fun h1 => ?_⟩
  · cases B with
    | leaf h ha => rw [hn] at h; cases h; omega
    | one B h ha hx => rw [hn] at h; cases h; have := B.lt; omega
    | two B B' h ha hx hy => rw [hn] at h; cases h; have := B.lt; have := B'.lt; omega
  · cases B with
    | leaf h ha => rw [hn] at h; cases h; omega
    | one B h ha hx => rw [hn] at h; cases h; omega
    | two B B' h ha hx hy => rw [hn] at h; cases h; have := B.lt; have := B'.lt; omega

/-- A node whose own stand elsewhere. -/
def shN (d : Int) (n : Nd) : Nd := { n with x := if 0 < arI n.op then n.x + d else n.x, y := if 1 < arI n.op then n.y + d else n.y }
theorem shN_op (d : Int) (n : Nd) : (shN d n).op = n.op := rfl
theorem shN_0 (n : Nd) : shN 0 n = n := by
  unfold shN
  simp
theorem shN_F {d : Int} {n : Nd} (h : nodeF n = 0) : nodeF (shN d n) = 0 := by
  have ha := nodeF_ar h
  have hy : (arI n.op < 2 ∧ (shN d n).y ≠ 0) ↔ (arI n.op < 2 ∧ n.y ≠ 0) := by
    unfold shN
    simp only
    constructor <;> (rintro ⟨h1, h2⟩; rw [if_neg (by omega)] at *; exact ⟨h1, h2⟩)
  have hx : (arI n.op < 1 ∧ (shN d n).x ≠ 0) ↔ (arI n.op < 1 ∧ n.x ≠ 0) := by
    unfold shN
    simp only
    constructor <;> (rintro ⟨h1, h2⟩; rw [if_neg (by omega)] at *; exact ⟨h1, h2⟩)
  have e : nodeF (shN d n) = nodeF n := by
    unfold nodeF
    rw [shN_op]
    simp only [hx, hy]
    rfl
  rw [e]; exact h
def seg (l : List Nd) (f e : Nat) : List Nd := (l.drop f).take (e - f)
theorem seg_snoc {l : List Nd} {f i : Nat} {n : Nd} (hf : f ≤ i) (h : l[i]? = some n) : seg l f (i + 1) = seg l f i ++ [n] := by
  unfold seg
  rw [show i + 1 - f = (i - f) + 1 by omega, List.take_add_one, List.getElem?_drop, show f + (i - f) = i by omega, h]
  rfl
theorem seg_nil {l : List Nd} {f : Nat} : seg l f f = [] := by unfold seg; simp
theorem seg_app {l : List Nd} {f g e : Nat} (h1 : f ≤ g) (h2 : g ≤ e) : seg l f e = seg l f g ++ seg l g e := by
  unfold seg
  rw [show e - f = (g - f) + (e - g) by omega, List.take_add, List.drop_drop, show f + (g - f) = g by omega]
theorem seg_all (l : List Nd) : seg l 0 l.length = l := by unfold seg; simp
theorem Blk.seg_mem {l : List Nd} {f e : Nat} : ∀ n ∈ seg l f e, n ∈ l := fun n hn => List.mem_of_mem_drop (List.mem_of_mem_take hn)
/-- An expression, elsewhere: it is one there. -/
theorem Blk.chk {l : List Nd} (hN : ∀ n ∈ l, nodeF n = 0) {f e : Nat} (B : Blk l f e) : ∀ (st : List Int) (i : Nat) (r : List Nd),
    chkGo st i ((seg l f e).map (shN ((i : Int) - f)) ++ r) = chkGo ((((i + (e - f) : Nat) : Int) - 1) :: st) (i + (e - f)) r := by
  induction B with
  | @leaf j n h h0 =>
    intro st i r
    rw [seg_snoc (Nat.le_refl _) h, seg_nil]
    simp only [List.nil_append, List.map_cons, List.map_nil, List.cons_append]
    rw [chkGo, if_neg (by simp [shN_F (hN n (List.mem_of_getElem? h))])]
    unfold popN
    rw [shN_op, if_pos h0]
    simp only
    rw [show j + 1 - j = 1 by omega, show ((i + 1 : Nat) : Int) - 1 = i by omega]
  | @one f j n B h h0 hx ih =>
    intro st i r
    have hlt := B.lt
    rw [seg_snoc (by omega) h, List.map_append, List.append_assoc, ih]
    simp only [List.map_cons, List.map_nil, List.cons_append, List.nil_append]
    rw [chkGo, if_neg (by simp [shN_F (hN n (List.mem_of_getElem? h))])]
    unfold popN
    rw [shN_op, if_neg (by omega), if_pos h0]
    have e1 : (((i + (j - f) : Nat) : Int) - 1) = (shN ((i : Int) - f) n).x := by
      unfold shN
      simp only
      rw [if_pos (by omega), hx]
      omega
    simp only
    rw [if_pos e1, show j + 1 - f = (j - f) + 1 by omega]
    simp only
    rw [show ((i + (j - f + 1) : Nat) : Int) - 1 = ((i + (j - f) : Nat) : Int) by omega, ← Nat.add_assoc]
  | @two f g j n B B' h h0 hx hy ih1 ih2 =>
    intro st i r
    have hlt := B.lt
    have hlt' := B'.lt
    rw [seg_snoc (by omega) h, seg_app (g := g) (by omega) (by omega), List.map_append, List.map_append, List.append_assoc, List.append_assoc, ih1]
    have e0 : ((i : Int) - f) = (((i + (g - f) : Nat) : Int) - g) := by omega
    have e00 : (seg l g j).map (shN ((i : Int) - f)) = (seg l g j).map (shN (((i + (g - f) : Nat) : Int) - g)) := by rw [e0]
    rw [e00, ih2]
    simp only [List.map_cons, List.map_nil, List.cons_append, List.nil_append]
    rw [chkGo, if_neg (by simp [shN_F (hN n (List.mem_of_getElem? h))])]
    unfold popN
    rw [shN_op, if_neg (by omega), if_neg (by omega)]
    have e1 : (((i + (g - f) : Nat) : Int) - 1) = (shN ((i : Int) - f) n).x := by
      unfold shN
      simp only
      rw [if_pos (by omega), hx]
      omega
    have e2 : (((i + (g - f) + (j - g) : Nat) : Int) - 1) = (shN ((i : Int) - f) n).y := by
      unfold shN
      simp only
      rw [if_pos (by omega), hy]
      omega
    simp only
    rw [if_pos ⟨e1, e2⟩]
    simp only
    rw [show i + (g - f) + (j - g) + 1 = i + (j + 1 - f) by omega, show ((i + (g - f) + (j - g) : Nat) : Int) = ((i + (j + 1 - f) : Nat) : Int) - 1 by omega]
def cutL (l : List Nd) (f e : Nat) : List Nd := (seg l f e).map (shN (-(f : Int)))
theorem cutL_chk {l : List Nd} (hN : ∀ n ∈ l, nodeF n = 0) {f e : Nat} (B : Blk l f e) : chkGo [] 0 (cutL l f e) = 0 := by
  have := B.chk hN [] 0 []
  rw [List.append_nil, show ((0 : Nat) : Int) - f = -(f : Int) by omega] at this
  unfold cutL
  rw [this]
  rfl
theorem cutL_length {l : List Nd} {f e : Nat} (B : Blk l f e) : (cutL l f e).length = e - f := by
  have := B.lt
  unfold cutL seg
  rw [List.length_map, List.length_take, List.length_drop]
  omega
theorem cutL_ok {l : List Nd} (hN : ∀ n ∈ l, nodeF n = 0) (hl : l.length ≤ 40) {f e : Nat} (B : Blk l f e) : exprF (cutL l f e) = 0 := by
  have := B.lt
  unfold exprF
  rw [if_neg (by rw [cutL_length B]; omega)]
  exact cutL_chk hN B
def joinL (op : Int) (l m : List Nd) : List Nd := l ++ m.map (shN l.length) ++ [⟨op, (l.length : Int) - 1, if 1 < arI op then ((l.length + m.length : Nat) : Int) - 1 else 0, 0, (0, 0)⟩]
theorem joinL_length (op : Int) (l m : List Nd) : (joinL op l m).length = l.length + m.length + 1 := by simp [joinL]; omega
theorem OkE.chk {l : List Nd} (O : OkE l) (st : List Int) (i : Nat) (r : List Nd) : chkGo st i (l.map (shN (i : Int)) ++ r) = chkGo ((((i + l.length : Nat) : Int) - 1) :: st) (i + l.length) r := by
  have := O.b.chk O.n st i r
  rw [seg_all, Nat.sub_zero, show ((i : Int) - (0 : Nat)) = i by omega] at this
  exact this
theorem map_sh0 (l : List Nd) : l.map (shN ((0 : Nat) : Int)) = l := by
  have : shN ((0 : Nat) : Int) = id := by funext n; exact shN_0 n
  rw [this, List.map_id]
theorem goodV0 : goodV (0, 0) := by unfold goodV; simp
theorem joinL_chk2 {op : Int} (ho : arI op = 2) {l m : List Nd} (O : OkE l) (O' : OkE m) : chkGo [] 0 (joinL op l m) = 0 := by
  have h1 := O.chk [] 0 (m.map (shN (l.length : Int)) ++ [⟨op, (l.length : Int) - 1, if 1 < arI op then ((l.length + m.length : Nat) : Int) - 1 else 0, 0, (0, 0)⟩])
  rw [map_sh0, Nat.zero_add] at h1
  unfold joinL
  rw [List.append_assoc, h1, O'.chk]
  have hF : nodeF ⟨op, (l.length : Int) - 1, if 1 < arI op then ((l.length + m.length : Nat) : Int) - 1 else 0, 0, (0, 0)⟩ = 0 := by
    unfold nodeF
    simp only
    rw [if_neg (by omega), if_neg (by rintro (⟨_, h⟩ | ⟨_, h⟩ | ⟨h, _⟩ | ⟨h, _⟩) <;> first | exact h rfl | omega), if_neg (by omega), if_neg (by simp [goodV0])]
  have hp : popN ⟨op, (l.length : Int) - 1, if 1 < arI op then ((l.length + m.length : Nat) : Int) - 1 else 0, 0, (0, 0)⟩ [((l.length + m.length : Nat) : Int) - 1, (l.length : Int) - 1] = some [] := by
    unfold popN
    rw [if_neg (by omega : ¬ arI op = 0), if_neg (by omega : ¬ arI op = 1)]
    exact if_pos ⟨rfl, by simp only; rw [if_pos (by omega)]⟩
  rw [chkGo, if_neg (fun h => h hF), hp]
  rfl
theorem joinL_chk1 {op : Int} (ho : arI op = 1) {l : List Nd} (O : OkE l) : chkGo [] 0 (joinL op l []) = 0 := by
  have h1 := O.chk [] 0 ([⟨op, (l.length : Int) - 1, if 1 < arI op then ((l.length + ([] : List Nd).length : Nat) : Int) - 1 else 0, 0, (0, 0)⟩])
  rw [map_sh0, Nat.zero_add] at h1
  unfold joinL
  rw [List.map_nil, List.append_nil, h1]
  have hF : nodeF ⟨op, (l.length : Int) - 1, if 1 < arI op then ((l.length + ([] : List Nd).length : Nat) : Int) - 1 else 0, 0, (0, 0)⟩ = 0 := by
    unfold nodeF
    simp only
    rw [if_neg (by omega), if_neg (by rw [if_neg (by omega)]; rintro (⟨_, h⟩ | ⟨_, h⟩ | ⟨_, h⟩ | ⟨h, _⟩) <;> first | exact h rfl | omega), if_neg (by omega), if_neg (by simp [goodV0])]
  have hp : popN ⟨op, (l.length : Int) - 1, if 1 < arI op then ((l.length + ([] : List Nd).length : Nat) : Int) - 1 else 0, 0, (0, 0)⟩ [(l.length : Int) - 1] = some [] := by
    unfold popN
    rw [if_neg (by omega : ¬ arI op = 0), if_pos ho]
    exact if_pos rfl
  rw [chkGo, if_neg (fun h => h hF), hp]
  rfl
end Go.Proofs.Ytkfhhjllacegpaa
/-
  The plain law of expressions, part 2: values and kinds, node by node; what they are in what is put together. No program in sight. Conditions: none.
-/
namespace Go.Proofs.Ytkfhhjllacegpaa
open Go Go.Vc
set_option linter.unusedVariables false

section
variable {β : Type} (d : β) (F : Nd → β → β → β)
/-- What each node is worth, from the first on. -/
def fwd (l : List Nd) : List β := l.foldl (fun outs n => outs ++ [F n (outs.getD n.x.toNat d) (outs.getD n.y.toNat d)]) []
def fAt (l : List Nd) (i : Nat) : β := (fwd d F l).getD i d
/-- A node looks at its own alone. -/
def Own2 : Prop := ∀ (n : Nd) (a b a' b' : β), 0 ≤ arI n.op → (1 ≤ arI n.op → a = a') → (2 ≤ arI n.op → b = b') → F n a b = F n a' b'
end
section
variable {β : Type} {d : β} {F : Nd → β → β → β}
theorem fwd_snoc (l : List Nd) (n : Nd) : fwd d F (l ++ [n]) = fwd d F l ++ [F n ((fwd d F l).getD n.x.toNat d) ((fwd d F l).getD n.y.toNat d)] := by
  unfold fwd
  rw [List.foldl_append]
  rfl
theorem fwd_nil : fwd d F [] = [] := rfl
theorem fwd_length (l : List Nd) : (fwd d F l).length = l.length := by
  have key : ∀ (l : List Nd) (o : List β), (l.foldl (fun outs n => outs ++ [F n (outs.getD n.x.toNat d) (outs.getD n.y.toNat d)]) o).length = o.length + l.length := by
    intro l
    induction l with
    | nil => intro o; rfl
    | cons n l ih => intro o; rw [List.foldl_cons, ih]; simp; omega
  have := key l []
  simpa [fwd] using this
theorem fwd_pre (l r : List Nd) : ∃ t, fwd d F (l ++ r) = fwd d F l ++ t := by
  have key : ∀ (l : List Nd) (o : List β), ∃ t, l.foldl (fun outs n => outs ++ [F n (outs.getD n.x.toNat d) (outs.getD n.y.toNat d)]) o = o ++ t := by
    intro l
    induction l with
    | nil => intro o; exact ⟨[], by simp⟩
    | cons n l ih =>
      intro o
      rw [List.foldl_cons]
      obtain ⟨t, ht⟩ := ih (o ++ [F n (o.getD n.x.toNat d) (o.getD n.y.toNat d)])
      exact ⟨_, by rw [ht, List.append_assoc]⟩
  unfold fwd
  rw [List.foldl_append]
  exact key r _
theorem fAt_pre (l r : List Nd) {i : Nat} (h : i < l.length) : fAt d F (l ++ r) i = fAt d F l i := by
  obtain ⟨t, ht⟩ := fwd_pre (d := d) (F := F) l r
  unfold fAt
  rw [ht, List.getD_eq_getElem?_getD, List.getElem?_append_left (by rw [fwd_length]; exact h), ← List.getD_eq_getElem?_getD]
theorem fAt_take (l : List Nd) {i k : Nat} (h : i < k) (hk : k ≤ l.length) : (fwd d F (l.take k)).getD i d = fAt d F l i := by
  have := fAt_pre (d := d) (F := F) (l.take k) (l.drop k) (i := i) (by rw [List.length_take]; omega)
  rw [List.take_append_drop] at this
  rw [this]
  rfl
theorem fwd_take (l : List Nd) {i : Nat} {n : Nd} (hn : l[i]? = some n) : fwd d F (l.take (i + 1)) = fwd d F (l.take i) ++ [fAt d F l i] := by
  have hlt := (List.getElem?_eq_some_iff.1 hn).1
  have e : l.take (i + 1) = l.take i ++ [n] := by rw [List.take_add_one, hn]; rfl
  have e2 : fAt d F l i = F n ((fwd d F (l.take i)).getD n.x.toNat d) ((fwd d F (l.take i)).getD n.y.toNat d) := by
    rw [← fAt_take l (Nat.lt_succ_self i) hlt, e, fwd_snoc, List.getD_eq_getElem?_getD, List.getElem?_append_right (by rw [fwd_length, List.length_take]; omega)]
    rw [fwd_length, List.length_take, Nat.min_eq_left (by omega), Nat.sub_self]
    rfl
  rw [e, fwd_snoc, ← e2]
theorem fAt_wf (hF : Own2 F) {l : List Nd} {i : Nat} {n : Nd} (hn : l[i]? = some n) (W : WfN i n) : fAt d F l i = F n (fAt d F l n.x.toNat) (fAt d F l n.y.toNat) := by
  have hlt := (List.getElem?_eq_some_iff.1 hn).1
  have e : l.take (i + 1) = l.take i ++ [n] := by rw [List.take_add_one, hn]; rfl
  rw [← fAt_take l (Nat.lt_succ_self i) hlt, e, fwd_snoc, List.getD_eq_getElem?_getD, List.getElem?_append_right (by rw [fwd_length, List.length_take]; omega)]
  rw [fwd_length, List.length_take, Nat.min_eq_left (by omega), Nat.sub_self]
  refine hF n _ _ _ _ W.a (fun h => ?_) fun h => ?_
  · have := W.x h; exact fAt_take l (by omega) (by omega)
  · have := W.y h; exact fAt_take l (by omega) (by omega)
theorem WfN.sh {i d : Nat} {n : Nd} (W : WfN i n) : WfN (d + i) (shN d n) where
  a := W.a
  f := W.f
  x := fun h => by
    have h : 1 ≤ arI n.op := h
    have := W.x h
    unfold shN
    simp only
    rw [if_pos (by omega)]
    omega
  y := fun h => by
    have h : 2 ≤ arI n.op := h
    have := W.y h
    unfold shN
    simp only
    rw [if_pos (by omega)]
    omega
theorem fAt_sh (hF : Own2 F) (hS : ∀ (k : Int) n a b, F (shN k n) a b = F n a b) {m : List Nd} (W : WfL m) (l r : List Nd) : ∀ k, k < m.length → fAt d F (l ++ m.map (shN l.length) ++ r) (l.length + k) = fAt d F m k := by
  intro k
  induction k using Nat.strongRecOn with
  | _ k ih =>
    intro hk
    have hm : m[k]? = some m[k] := List.getElem?_eq_getElem hk
    have hj : (l ++ m.map (shN l.length) ++ r)[l.length + k]? = some (shN l.length m[k]) := by
      rw [List.append_assoc, List.getElem?_append_right (by omega), show l.length + k - l.length = k by omega, List.getElem?_append_left (by simpa using hk), List.getElem?_map, hm]
      rfl
    have Wk := W k _ hm
    rw [fAt_wf hF hj Wk.sh, fAt_wf hF hm Wk, hS]
    refine hF _ _ _ _ _ Wk.a (fun h => ?_) fun h => ?_
    · have hx := Wk.x h
      have : (shN (l.length : Int) m[k]).x.toNat = l.length + m[k].x.toNat := by
        unfold shN
        simp only
        rw [if_pos (by omega)]
        omega
      rw [this]
      exact ih _ (by omega) (by omega)
    · have hy := Wk.y h
      have : (shN (l.length : Int) m[k]).y.toNat = l.length + m[k].y.toNat := by
        unfold shN
        simp only
        rw [if_pos (by omega)]
        omega
      rw [this]
      exact ih _ (by omega) (by omega)
end

def fieldV (e : EvL) (n : Int) : Int × Int := if n = 0 then numV e.1 else if n = 1 then e.2.1 else if n = 2 then e.2.2.1 else e.2.2.2
def stepF (e : EvL) (n : Nd) (a b : Int × Int) : Int × Int :=
  if n.op = 1 then n.v else if n.op = 2 then fieldV e n.n else if n.op = 3 then negV a else if n.op = 4 then notV a else if n.op = 5 then truthV (decide (a.1 = 0)) else doV n.op a b
abbrev vAt (e : EvL) (l : List Nd) (i : Nat) : Int × Int := fAt (0, 0) (stepF e) l i
def wantT (op : Int) : Int := if op = 4 ∨ op = 9 ∨ op = 10 then 2 else 1
def tyG (op : Int) : Option Int → Option Int → Option Int
  | some a, some b => if op = 5 then some 2 else if (a ≠ 0 ∧ a ≠ wantT op) ∨ (b ≠ 0 ∧ b ≠ wantT op) then none else if op = 11 ∨ op = 12 then some 2 else some (wantT op)
  | _, _ => none
def tyF (n : Nd) (a b : Option Int) : Option Int := if n.op = 1 then some n.v.1 else if n.op = 2 then some 1 else tyG n.op a (if arI n.op = 2 then b else a)
abbrev tAt (l : List Nd) (i : Nat) : Option Int := fAt none tyF l i
theorem ar0 {op : Int} (h : 0 ≤ arI op) : (arI op = 0 ↔ op = 1 ∨ op = 2) ∧ (arI op = 1 ↔ op = 3 ∨ op = 4 ∨ op = 5) ∧ (arI op = 2 ↔ 6 ≤ op ∧ op ≤ 12) := by
  unfold arI at *
  split
  · omega
  · split
    · omega
    · split
      · omega
      · rename_i h1 h2 h3; rw [if_neg h1, if_neg h2, if_neg h3] at h; cases h
theorem own_stepF (e : EvL) : Own2 (stepF e) := by
  intro n a b a' b' h ha hb
  have := ar0 h
  unfold stepF
  split
  · rfl
  · split
    · rfl
    · have h1 : 1 ≤ arI n.op := by rcases arI_range h with q | q | q <;> omega
      rw [ha h1]
      split
      · rfl
      · split
        · rfl
        · split
          · rfl
          · rw [hb (by rcases arI_range h with q | q | q <;> omega)]
theorem own_tyF : Own2 tyF := by
  intro n a b a' b' h ha hb
  have := ar0 h
  unfold tyF
  split
  · rfl
  · split
    · rfl
    · have h1 : 1 ≤ arI n.op := by rcases arI_range h with q | q | q <;> omega
      rw [ha h1]
      split
      · rename_i h2; rw [hb (by omega)]
      · rfl
theorem stepF_sh (e : EvL) (k : Int) (n : Nd) (a b : Int × Int) : stepF e (shN k n) a b = stepF e n a b := rfl
theorem tyF_op {n : Nd} (h1 : ¬ n.op = 1) (h2 : ¬ n.op = 2) (a b : Option Int) : tyF n a b = tyG n.op a (if arI n.op = 2 then b else a) := by
  unfold tyF
  rw [if_neg h1, if_neg h2]
theorem stepF_do (e : EvL) {n : Nd} (h : 6 ≤ n.op) (a b : Int × Int) : stepF e n a b = doV n.op a b := by
  unfold stepF
  rw [if_neg (by omega), if_neg (by omega), if_neg (by omega), if_neg (by omega), if_neg (by omega)]
theorem tyG_none (op : Int) (b : Option Int) : tyG op none b = none ∧ tyG op b none = none := by
  cases b <;> exact ⟨rfl, rfl⟩
/-- A node that has a kind: so do all that it has. -/
theorem Blk.ty {l : List Nd} (W : WfL l) {f e : Nat} (B : Blk l f e) : tAt l (e - 1) ≠ none → ∀ i, f ≤ i → i < e → tAt l i ≠ none := by
  induction B with
  | @leaf j n h h0 => intro ht i h1 h2; obtain rfl : i = j := by omega
                      exact ht
  | @one f j n B h h0 hx ih =>
    intro ht i h1 h2
    by_cases hij : i = j
    · subst hij; exact ht
    · have hw := W j n h
      have := ar0 hw.a
      have hlt := B.lt
      refine ih (fun hn => ht ?_) i h1 (by omega)
      rw [Nat.add_sub_cancel, tAt, fAt_wf own_tyF h hw]
      rw [tyF_op (by omega) (by omega), show n.x.toNat = j - 1 by omega, (show fAt none tyF l _ = none from hn)]
      exact (tyG_none _ _).1
  | @two f g j n B B' h h0 hx hy ih1 ih2 =>
    intro ht i h1 h2
    have hlt := B.lt
    have hlt' := B'.lt
    have hw := W j n h
    have := ar0 hw.a
    by_cases hij : i = j
    · subst hij; exact ht
    · by_cases hg : i < g
      · refine ih1 (fun hn => ht ?_) i h1 hg
        rw [Nat.add_sub_cancel, tAt, fAt_wf own_tyF h hw]
        rw [tyF_op (by omega) (by omega), show n.x.toNat = g - 1 by omega, (show fAt none tyF l _ = none from hn)]
        exact (tyG_none _ _).1
      · refine ih2 (fun hn => ht ?_) i (by omega) (by omega)
        rw [Nat.add_sub_cancel, tAt, fAt_wf own_tyF h hw]
        rw [tyF_op (by omega) (by omega), if_pos h0, show n.y.toNat = j - 1 by omega, (show fAt none tyF l _ = none from hn)]
        exact (tyG_none _ _).2
/-- The value of a whole expression; its kind. -/
def valE (e : EvL) (l : List Nd) : Int × Int := vAt e l (l.length - 1)
def typE (l : List Nd) : Int × Int := match tAt l (l.length - 1) with
  | some t => (t, 0)
  | none => (0, 3)
theorem WfL.join {op : Int} (ho : 0 ≤ arI op) {l m : List Nd} (W : WfL l) (W' : WfL m) (hl : 0 < l.length) (hm : 2 ≤ arI op → 0 < m.length) (h2 : op ≠ 2) : WfL (joinL op l m) := by
  intro i n hn
  unfold joinL at hn
  by_cases h1 : i < l.length
  · rw [List.append_assoc, List.getElem?_append_left h1] at hn
    exact W i n hn
  · rw [List.append_assoc, List.getElem?_append_right (by omega)] at hn
    by_cases h3 : i - l.length < m.length
    · rw [List.getElem?_append_left (by simpa using h3), List.getElem?_map, Option.map_eq_some_iff] at hn
      obtain ⟨n', hn', rfl⟩ := hn
      have := (W' _ _ hn').sh (d := l.length)
      rw [show l.length + (i - l.length) = i by omega] at this
      exact this
    · rw [List.getElem?_append_right (by simp; omega), List.getElem?_singleton] at hn
      split at hn
      · rename_i h4
        cases hn
        rw [List.length_map] at h4
        refine ⟨ho, fun h => absurd h h2, fun h => ?_, fun h => ?_⟩
        · simp only; omega
        · simp only at h ⊢
          have := hm h
          rw [if_pos (by omega)]
          omega
      · cases hn
theorem valE_join2 (e : EvL) {op : Int} (ho : arI op = 2) {l m : List Nd} (W : WfL l) (W' : WfL m) (hl : 0 < l.length) (hm : 0 < m.length) : valE e (joinL op l m) = doV op (valE e l) (valE e m) := by
  have ha := ar0 (op := op) (by omega)
  have WJ := WfL.join (op := op) (by omega) W W' hl (fun _ => hm) (by omega)
  unfold valE
  rw [joinL_length, show l.length + m.length + 1 - 1 = l.length + m.length by omega]
  have hj : (joinL op l m)[l.length + m.length]? = some ⟨op, (l.length : Int) - 1, if 1 < arI op then ((l.length + m.length : Nat) : Int) - 1 else 0, 0, (0, 0)⟩ := by
    unfold joinL
    rw [List.getElem?_append_right (by simp)]
    simp
  rw [vAt, fAt_wf (own_stepF e) hj (WJ _ _ hj)]
  rw [stepF_do e (by simp only; omega)]
  simp only
  rw [if_pos (by omega : 1 < arI op)]
  have e1 : ((l.length : Int) - 1).toNat = l.length - 1 := by omega
  have e2 : (((l.length + m.length : Nat) : Int) - 1).toNat = l.length + (m.length - 1) := by omega
  rw [e1, e2]
  have q1 : fAt (0, 0) (stepF e) (joinL op l m) (l.length - 1) = fAt (0, 0) (stepF e) l (l.length - 1) := by
    unfold joinL
    rw [List.append_assoc]
    exact fAt_pre _ _ (by omega)
  have q2 : fAt (0, 0) (stepF e) (joinL op l m) (l.length + (m.length - 1)) = fAt (0, 0) (stepF e) m (m.length - 1) :=
    fAt_sh (own_stepF e) (stepF_sh e) W' l _ _ (by omega)
  rw [q1, q2]
theorem valE_joinN (e : EvL) {l : List Nd} (W : WfL l) (hl : 0 < l.length) : valE e (joinL 5 l []) = truthV (decide ((valE e l).1 = 0)) := by
  have WJ := WfL.join (op := 5) (by decide) W (m := []) (by intro i n hn; cases hn) hl (fun h => absurd h (by decide)) (by decide)
  unfold valE
  rw [joinL_length, show l.length + ([] : List Nd).length + 1 - 1 = l.length by simp]
  have hj : (joinL 5 l [])[l.length]? = some ⟨5, (l.length : Int) - 1, 0, 0, (0, 0)⟩ := by
    unfold joinL
    rw [List.getElem?_append_right (by simp)]
    simp [arI]
  rw [vAt, fAt_wf (own_stepF e) hj (WJ _ _ hj)]
  have e1 : ((l.length : Int) - 1).toNat = l.length - 1 := by omega
  have q1 : fAt (0, 0) (stepF e) (joinL 5 l []) (l.length - 1) = fAt (0, 0) (stepF e) l (l.length - 1) := by
    unfold joinL
    rw [List.append_assoc]
    exact fAt_pre _ _ (by omega)
  simp only [e1, q1]
  rfl
end Go.Proofs.Ytkfhhjllacegpaa
/-
  What functions of the program ask, in words: each is what the framework reckons from the loaded code (the kernel holds the two together), and gives the function's call. Conditions: none.
-/
namespace Go.Proofs.Ytkfhhjllacegpaa
open Go Go.Vc
set_option maxRecDepth 100000
set_option linter.unusedVariables false
/-- What 'penstock/penstockref.Num' asks. -/
def VC_R_Num (u_n : Int) (h : Hp) (R : Value → Hp → Prop) : Prop :=
  (((bif (decide ((u_n : Int) < (-1000000000))) then true else (decide ((u_n : Int) > 1000000000))) = true → R (vag [(vi 0), (vi 0)]) h) ∧ ((bif (decide ((u_n : Int) < (-1000000000))) then true else (decide ((u_n : Int) > 1000000000))) = false → R (vag [(vi 1), (vi u_n)]) h))
/-- What 'penstock/penstockref.Truth' asks. -/
def VC_R_Truth (u_is : Bool) (h : Hp) (R : Value → Hp → Prop) : Prop :=
  ((u_is = true → R (vag [(vi 2), (vi 1)]) h) ∧ (u_is = false → R (vag [(vi 2), (vi 0)]) h))
end Go.Proofs.Ytkfhhjllacegpaa
/-
  Contracts: values, as the document has them. Conditions: none.
-/
namespace Go.Proofs.Ytkfhhjllacegpaa
open Go Go.Vc
set_option linter.unusedVariables false

theorem or10 (a b : Int × Int) : doV 10 a b = if (a.1 = 2 ∧ a.2 ≠ 0) ∨ (b.1 = 2 ∧ b.2 ≠ 0) then (2, 1) else if a.1 = 2 ∧ b.1 = 2 then (2, 0) else (0, 0) := by
  obtain ⟨a1, a2⟩ := a
  obtain ⟨b1, b2⟩ := b
  unfold doV andV notV truthV
  by_cases h1 : a1 = 2 <;> by_cases h2 : b1 = 2 <;> by_cases h3 : a2 = 0 <;> by_cases h4 : b2 = 0 <;> simp [h1, h2, h3, h4]
end Go.Proofs.Ytkfhhjllacegpaa
/-
  Nodes: how they lie. Conditions: none.
-/
namespace Go.Proofs.Ytkfhhjllacegpaa
open Go Go.Vc
set_option linter.unusedVariables false
set_option maxRecDepth 100000

def encN (n : Nd) : List Value := [vi n.op, vi n.x, vi n.y, vi n.n, vi n.v.1, vi n.v.2]
theorem encN_len (n : Nd) : (encN n).length = 6 := rfl
theorem one_encN (n : Nd) : ∀ u ∈ encN n, u.oneCell' = true := by
  intro u hu
  simp [encN] at hu
  rcases hu with rfl | rfl | rfl | rfl | rfl | rfl <;> rfl
theorem one_nds (l : List Nd) : ∀ u ∈ l.flatMap encN, u.oneCell' = true := by
  intro u hu
  obtain ⟨v, _, hv⟩ := List.mem_flatMap.1 hu
  exact one_encN v u hv
theorem elNd : ElT Try.prog 22 28 6 48 := .of (by kernel_rfl) (by kernel_rfl) (by decide)
end Go.Proofs.Ytkfhhjllacegpaa
/-
  Contracts: expressions, as the document has them. Conditions: those stated at each.
-/
namespace Go.Proofs.Ytkfhhjllacegpaa
open Go Go.Vc
set_option linter.unusedVariables false
set_option maxRecDepth 100000

theorem ne_pair (v : Int × Int) : (v ≠ (0, 0)) = (v.1 ≠ 0 ∨ v.2 ≠ 0) := by
  refine propext ⟨fun h => ?_, fun h e => ?_⟩
  · by_cases h1 : v.1 = 0
    · by_cases h2 : v.2 = 0
      · exact absurd (Prod.ext h1 h2) h
      · exact .inr h2
    · exact .inl h1
  · rw [e] at h; simp at h
/-- A node takes its own: what is left, and what it took. -/
theorem popN_some {n : Nd} {st s : List Int} (ha : 0 ≤ arI n.op) (h : popN n st = some s) : (s.length : Int) = st.length - arI n.op ∧ st.reverse.take s.length = s.reverse := by
  unfold popN at h
  rcases arI_range ha with h1 | h1 | h1
  · rw [if_pos h1] at h
    cases h
    refine ⟨by omega, ?_⟩
    rw [List.take_of_length_le (by simp)]
  · rw [if_neg (by omega), if_pos h1] at h
    match st, h with
    | a :: t, h =>
      simp only at h
      split at h
      · cases h
        refine ⟨by simp; omega, ?_⟩
        rw [List.reverse_cons, List.take_left' (by simp)]
      · cases h
  · rw [if_neg (by omega), if_neg (by omega)] at h
    match st, h with
    | b :: a :: t, h =>
      simp only at h
      split at h
      · cases h
        refine ⟨by simp; omega, ?_⟩
        rw [List.reverse_cons, List.reverse_cons, List.append_assoc, List.take_left' (by simp)]
      · cases h
theorem chk_none {n : Nd} {l : List Nd} {st : List Int} {i : Nat} (h0 : nodeF n = 0) (h : popN n st = none) : chkGo st i (n :: l) = 3 := by
  rw [chkGo, if_neg (fun q => q h0), h]
theorem chk_some {n : Nd} {l : List Nd} {st s : List Int} {i : Nat} (h0 : nodeF n = 0) (h : popN n st = some s) : chkGo st i (n :: l) = chkGo (i :: s) (i + 1) l := by
  rw [chkGo, if_neg (fun q => q h0), h]
theorem chk_fault {n : Nd} {l : List Nd} {st : List Int} {i : Nat} {f : Int} (h0 : nodeF n = f) (hf : f ≠ 0) : chkGo st i (n :: l) = f := by
  rw [chkGo, if_pos (by rw [h0]; exact hf), h0]
end Go.Proofs.Ytkfhhjllacegpaa
/-
  Contracts: package expr: Arity, Check. Conditions: those stated at each.
-/
namespace Go.Proofs.Ytkfhhjllacegpaa
open Go Go.Vc
set_option linter.unusedVariables false
set_option maxRecDepth 100000

theorem expr_Arity_ok {op : Int} {h : Hp} {R : Value → Hp → Prop} (hK : R (vi (arI op)) h) : CallOK Try.prog 9 [vi op] h R := by
  refine ok_expr_Arity ?_
  unfold VC_expr_Arity
  unfold arI at hK
  refine ⟨fun e => ?_, fun e => ⟨fun e2 => ?_, fun e2 => ⟨fun e3 => ?_, fun e3 => ?_⟩⟩⟩
  all_goals simp only [cand, cor] at *
  · rw [if_pos (of_decide_eq_true e)] at hK; exact hK
  · rw [if_neg (of_decide_eq_false e), if_pos (by have := of_decide_eq_true e2; omega)] at hK; exact hK
  · rw [if_neg (of_decide_eq_false e), if_neg (by have := of_decide_eq_false e2; omega), if_pos (by have := of_decide_eq_true e3; omega)] at hK; exact hK
  · rw [if_neg (of_decide_eq_false e), if_neg (by have := of_decide_eq_false e2; omega), if_neg (by have := of_decide_eq_false e3; omega)] at hK; exact hK
end Go.Proofs.Ytkfhhjllacegpaa
/-
  What functions of the program ask, in words: each is what the framework reckons from the loaded code (the kernel holds the two together), and gives the function's call. Conditions: none.
-/
namespace Go.Proofs.Ytkfhhjllacegpaa
open Go Go.Vc
set_option maxRecDepth 100000
set_option linter.unusedVariables false
end Go.Proofs.Ytkfhhjllacegpaa
/-
  Contracts: values of expressions, as the document has them. Conditions: that each node's own stand ahead of it.
-/
namespace Go.Proofs.Ytkfhhjllacegpaa
open Go Go.Vc
set_option linter.unusedVariables false
set_option maxRecDepth 100000

section
variable {a : Option Addr} {m c : Nat} {l : List Nd} {h : Hp}
end
end Go.Proofs.Ytkfhhjllacegpaa
/-
  Contracts: values and kinds of expressions, as the document has them. Conditions: that each node's own stand ahead of it.
-/
namespace Go.Proofs.Ytkfhhjllacegpaa
open Go Go.Vc
set_option linter.unusedVariables false
set_option maxRecDepth 100000

section
variable {a : Option Addr} {m c : Nat} {l : List Nd} {h : Hp}
theorem tyG_some (op a b : Int) : tyG op (some a) (some b) = if op = 5 then some 2 else if (a ≠ 0 ∧ a ≠ wantT op) ∨ (b ≠ 0 ∧ b ≠ wantT op) then none else if op = 11 ∨ op = 12 then some 2 else some (wantT op) := rfl
/-- A kind, as it is told. -/
def tyOut : Option Int → Value
  | some t => vtup [vi t, vb true]
  | none => vtup [vi 0, vb false]
end
end Go.Proofs.Ytkfhhjllacegpaa
/-
  Contracts: package expr: Eval, Type. Conditions: that each node's own stand ahead of it.
-/
namespace Go.Proofs.Ytkfhhjllacegpaa
open Go Go.Vc
set_option linter.unusedVariables false
set_option maxRecDepth 100000

theorem expr_field_ok {e : EvL} {n : Int} (hn : 0 ≤ n ∧ n ≤ 3) {h : Hp} {R : Value → Hp → Prop} (hK : R (vag (encV (fieldV e n))) h) : CallOK Try.prog 14 [vag (encE e), vi n] h R := by
  refine ok_expr_field ?_
  unfold VC_expr_field
  refine value_Number_ok ⟨_, _, rfl, ?_⟩
  have r : n = 0 ∨ n = 1 ∨ n = 2 ∨ n = 3 := by omega
  rcases r with rfl | rfl | rfl | rfl
  · exact ⟨_, _, fun w _ => by kernel_rfl, hK⟩
  · exact ⟨_, _, fun w _ => by kernel_rfl, hK⟩
  · exact ⟨_, _, fun w _ => by kernel_rfl, hK⟩
  · exact ⟨_, _, fun w _ => by kernel_rfl, hK⟩
theorem elVal : ElT Try.prog 42 24 2 16 := .of (by kernel_rfl) (by kernel_rfl) (by decide)
/-- What is known of the nodes up to one. -/
theorem outs_get {β : Type} {d : β} {F : Nd → β → β → β} {l : List Nd} {outs : List β} {i k : Nat} (ho : outs.take i = fwd d F (l.take i)) (hi : i ≤ l.length) (hk : k < i) : outs[k]? = some (fAt d F l k) := by
  have h1 : outs[k]? = (outs.take i)[k]? := by rw [List.getElem?_take, if_pos hk]
  rw [h1, ho]
  have hlen : (fwd d F (l.take i)).length = i := by rw [fwd_length, List.length_take]; omega
  rw [← fAt_take l hk hi, List.getD_eq_getElem?_getD, List.getElem?_eq_getElem (by omega)]
  rfl
theorem outs_set {β : Type} {d : β} {F : Nd → β → β → β} {l : List Nd} {outs : List β} {i : Nat} {n : Nd} (ho : outs.take i = fwd d F (l.take i)) (hn : l[i]? = some n) (hl : outs.length = l.length) : (outs.set i (fAt d F l i)).take (i + 1) = fwd d F (l.take (i + 1)) := by
  have hlt := (List.getElem?_eq_some_iff.1 hn).1
  rw [fwd_take l hn, ← ho, List.take_succ_eq_append_getElem (by rw [List.length_set]; omega), List.take_set_of_le (Nat.le_refl _), List.getElem_set_self]
section
variable {a : Option Addr} {m c : Nat} {l : List Nd} {h : Hp}
theorem expr_Eval_ok (S : SlP encN h a m l) (W : WfL l) (hl : 0 < l.length) (hm : l.length ≤ 1000000) {e : EvL} {R : Value → Hp → Prop} (hK : ∀ h', h.le h' → R (vag (encV (valE e l))) h') : CallOK Try.prog 4 [vsl a m c, vag (encE e)] h R := by
  refine ok_expr_Eval ?_
  unfold VC_expr_Eval
  obtain rfl := S.1
  refine Vec.make (enc := encV) (x := (0, 0)) elVal (z := [vi 0, vi 0]) (by kernel_rfl) rfl rfl hm (by omega) fun a3 h2 V2 => ⟨_, _, _, rfl, ?_⟩
  refine ⟨fun vs hh => ∃ (i : Nat) (outs : List (Int × Int)), vs = [vi i] ∧ i ≤ l.length ∧ outs.length = l.length ∧ outs.take i = fwd (0, 0) (stepF e) (l.take i) ∧ Vec encV 2 24 h hh a3 l.length outs, fun vs hh => l.length - (vint vs 0).toNat,
    ⟨0, _, rfl, Nat.zero_le _, by simp, rfl, V2⟩, ?_⟩
  rintro vs hh ⟨i, outs, rfl, hi, hlo, ho, V⟩
  refine ⟨i, rfl, fun q => ?_, fun q => ?_⟩
  · have hlt : i < l.length := by have := of_decide_eq_true q; omega
    have hx : l[i]? = some l[i] := List.getElem?_eq_getElem hlt
    have Wn := W _ _ hx
    have hv : vAt e l i = _ := fAt_wf (own_stepF e) hx Wn
    have hset := outs_set ho hx hlo
    obtain ⟨b, o, ha, hr⟩ := (S.le V.le0).get encN_len (by decide) hx
    generalize l[i] = n at *
    have hout : outs[i]? = some (outs[i]'(by omega)) := List.getElem?_eq_getElem (by omega)
    obtain ⟨b3, o3, ha3, hput⟩ := V.put encV_len (x' := vAt e l i) (k := 0) (vs := encV (vAt e l i)) hout (by rw [encV_len]; decide) (by rw [encV_len]; decide) rfl
    have A3 : ∀ {x : Int}, 0 ≤ x → x < l.length → a3 = some ⟨b3, o3, none⟩ ∧ (0 : Int) ≤ x ∧ x < (l.length : Nat) := fun h0 h1 => ⟨ha3, h0, h1⟩
    have rdo : ∀ {x : Int}, 0 ≤ x → x < i → hh.row b3 (o3 + x.toNat * 2) 2 = some (encV (vAt e l x.toNat)) := by
      intro x h0 h1
      obtain ⟨b', o', ha', hr'⟩ := (V.slp encV_len (by decide)).get encV_len (by decide) (outs_get ho hi (k := x.toNat) (by omega))
      rw [ha3] at ha'
      cases ha'
      exact hr'
    intro J83
    have hJ : ∀ h', Vec encV 2 24 h h' a3 l.length (outs.set i (vAt e l i)) → J83 h' := by
      intro h' V'
      exact ⟨_, isW (by unfold InR; omega), ⟨i + 1, _, rfl, by omega, by rw [List.length_set]; exact hlo, hset, V'⟩, by simp [vint]; omega⟩
    clear_value J83
    have fin : ∀ {v : Int × Int}, v = vAt e l i → hh.store b3 (o3 + i * 2) (encV v) J83 := by
      rintro v rfl
      exact hput _ hJ
    have ar := ar0 Wn.a
    have hfold : vAt e l = fAt (0, 0) (stepF e) l := rfl
    rw [← hfold] at hv
    unfold stepF at hv
    have Ai : a3 = some ⟨b3, o3, none⟩ ∧ (0 : Int) ≤ i ∧ (i : Int) < (l.length : Nat) := A3 (by omega) (by omega)
    refine ⟨b, o, ⟨ha, by omega, by omega⟩, _, _, _, _, _, _, hr, fun q => ?_, fun q1 => ⟨fun q => ?_, fun q2 => ⟨fun q => ?_, fun q3 => ⟨fun q => ?_, fun q4 => ⟨fun q => ?_, fun q5 => ?_⟩⟩⟩⟩⟩
    · rw [if_pos (of_decide_eq_true q)] at hv
      exact ⟨b3, o3, Ai, fin hv.symm⟩
    · rw [if_neg (of_decide_eq_false q1), if_pos (of_decide_eq_true q)] at hv
      exact expr_field_ok (Wn.f (of_decide_eq_true q)) ⟨_, _, rfl, b3, o3, Ai, fin hv.symm⟩
    · rw [if_neg (of_decide_eq_false q1), if_neg (of_decide_eq_false q2), if_pos (of_decide_eq_true q)] at hv
      have := of_decide_eq_true q
      have hX := Wn.x (by omega)
      exact ⟨b3, o3, A3 (by omega) (by omega), _, _, rdo hX.1 hX.2, value_Neg_ok ⟨_, _, rfl, b3, o3, Ai, fin hv.symm⟩⟩
    · rw [if_neg (of_decide_eq_false q1), if_neg (of_decide_eq_false q2), if_neg (of_decide_eq_false q3), if_pos (of_decide_eq_true q)] at hv
      have := of_decide_eq_true q
      have hX := Wn.x (by omega)
      exact ⟨b3, o3, A3 (by omega) (by omega), _, _, rdo hX.1 hX.2, value_Not_ok ⟨_, _, rfl, b3, o3, Ai, fin hv.symm⟩⟩
    · rw [if_neg (of_decide_eq_false q1), if_neg (of_decide_eq_false q2), if_neg (of_decide_eq_false q3), if_neg (of_decide_eq_false q4), if_pos (of_decide_eq_true q)] at hv
      have := of_decide_eq_true q
      have hX := Wn.x (by omega)
      exact ⟨b3, o3, A3 (by omega) (by omega), _, Hp.row_cell (rdo hX.1 hX.2) (i := 0) rfl, value_Truth_ok ⟨_, _, rfl, b3, o3, Ai, fin hv.symm⟩⟩
    · have p1 := of_decide_eq_false q1
      have p2 := of_decide_eq_false q2
      have p3 := of_decide_eq_false q3
      have p4 := of_decide_eq_false q4
      have p5 := of_decide_eq_false q5
      rw [if_neg p1, if_neg p2, if_neg p3, if_neg p4, if_neg p5] at hv
      have h2 : arI n.op = 2 := by rcases arI_range Wn.a with h | h | h <;> omega
      have hX := Wn.x (by omega)
      have hY := Wn.y (by omega)
      exact ⟨b3, o3, A3 (by omega) (by omega), _, _, rdo hX.1 hX.2, b3, o3, A3 (by omega) (by omega), _, _, rdo hY.1 hY.2, value_Do_ok ⟨_, _, rfl, b3, o3, Ai, fin hv.symm⟩⟩
  · have hge : i = l.length := by have := of_decide_eq_false q; omega
    subst hge
    obtain ⟨b', o', ha', hr'⟩ := (V.slp encV_len (by decide)).get encV_len (by decide) (outs_get ho (Nat.le_refl _) (k := l.length - 1) (by omega))
    refine ⟨_, isW (by unfold InR; omega), b', o', ⟨ha', by omega, by omega⟩, _, _, ?_, hK hh V.le0⟩
    have e1 : (((l.length : Nat) : Int) - 1).toNat = l.length - 1 := by omega
    rw [e1]
    exact hr'
def encI (x : Int) : List Value := [vi x]
theorem encI_len (x : Int) : (encI x).length = 1 := rfl
end
end Go.Proofs.Ytkfhhjllacegpaa
