/-
  The framework of this prover's proofs, part E: operations that may change the heap run as part A says. Conditions: none.
-/
import Derived.Test.YtjdheefginfjgaaVcD
set_option linter.unusedVariables false
namespace Go.Vc
open Go

theorem Hp.set_same (h : Hp) (b : Nat) (o : Obj) : h.set b o b = some o := by simp [Hp.set]
theorem Hp.set_other (h : Hp) {b i : Nat} (o : Obj) (hi : i ≠ b) : h.set b o i = h i := by simp [Hp.set, hi]

theorem Fr.refl (h : Hp) (w : World) : Fr h h w w := ⟨rfl, rfl, rfl, Nat.le_refl _, fun _ _ hb => ⟨rfl, hb⟩⟩
theorem Fr.trans {h h' h'' : Hp} {w w' w'' : World} (x : Fr h h' w w') (y : Fr h' h'' w' w'') : Fr h h'' w w'' :=
  ⟨y.os.trans x.os, y.tape.trans x.tape, y.output.trans x.output, Nat.le_trans x.size y.size, fun b hb hn =>
    let ⟨e1, n1⟩ := x.keep b hb hn
    let ⟨e2, n2⟩ := y.keep b (Nat.lt_of_lt_of_le hb x.size) n1
    ⟨e2.trans e1, n2⟩⟩

theorem Sub.lt {h : Hp} {w : World} (hs : Sub h w) {b : Nat} {o : Obj} (hb : h b = some o) : b < w.heap.size := by
  have := hs b o hb
  exact (Array.getElem?_eq_some_iff.1 this).1
theorem Sub.none {h : Hp} {w : World} (hs : Sub h w) : h w.heap.size = none := by
  cases hb : h w.heap.size with
  | none => rfl
  | some o => exact absurd (hs.lt hb) (by omega)

theorem push_get (w : World) (o : Obj) (b : Nat) : (w.alloc o).heap[b]? = if b = w.heap.size then some o else w.heap[b]? := by
  show (w.heap.push o)[b]? = _
  rw [Array.getElem?_push]
theorem Sub.push {h : Hp} {w : World} (hs : Sub h w) (o : Obj) : Sub h (w.alloc o) := by
  intro b o' hb
  rw [push_get, if_neg (by have := hs.lt hb; omega)]
  exact hs b o' hb
theorem Sub.pushSet {h : Hp} {w : World} (hs : Sub h w) (o : Obj) : Sub (h.set w.heap.size o) (w.alloc o) := by
  intro b o' hb
  rw [push_get]
  unfold Hp.set at hb
  split at hb
  · rename_i e; rw [if_pos e]; exact hb
  · rename_i e; rw [if_neg e]; exact hs b o' hb
theorem Fr.push (h : Hp) (w : World) (o : Obj) : Fr h h w (w.alloc o) :=
  ⟨rfl, rfl, rfl, by show _ ≤ (w.heap.push o).size; simp, fun b hb hn => ⟨by rw [push_get, if_neg (by omega)], hn⟩⟩
theorem Fr.pushSet (h : Hp) (w : World) (o : Obj) : Fr h (h.set w.heap.size o) w (w.alloc o) :=
  ⟨rfl, rfl, rfl, by show _ ≤ (w.heap.push o).size; simp, fun b hb hn => ⟨by rw [push_get, if_neg (by omega)], by rw [Hp.set_other _ _ (by omega)]; exact hn⟩⟩

def BoxMono (b b' : List Box) : Prop := ∀ (i : Nat) (x : Box), b[i]? = some x → ∃ y, b'[i]? = some y ∧ y.ty = x.ty ∧ x.st ≤ y.st ∧ (y.st = x.st → y = x)
theorem BoxMono.refl (b : List Box) : BoxMono b b := fun i x h => ⟨x, h, rfl, Nat.le_refl _, fun _ => rfl⟩
theorem BoxMono.trans {a b c : List Box} (x : BoxMono a b) (y : BoxMono b c) : BoxMono a c := by
  intro i u hu
  obtain ⟨v, hv, t1, s1, e1⟩ := x i u hu
  obtain ⟨z, hz, t2, s2, e2⟩ := y i v hv
  refine ⟨z, hz, t2.trans t1, Nat.le_trans s1 s2, fun e => ?_⟩
  have : v.st = u.st := by omega
  rw [e2 (by omega), e1 this]

theorem setAt_get {α : Type} : ∀ (l : List α) (i : Nat) (x : α) (j : Nat), (setAt l i x)[j]? = if j = i ∧ j < l.length then some x else l[j]?
  | [], i, x, j => by simp [setAt]
  | y :: l, 0, x, j => by cases j <;> simp [setAt]
  | y :: l, i + 1, x, j => by
    cases j with
    | zero => simp [setAt]
    | succ j => simp [setAt, setAt_get l i x j]
theorem setAt_length {α : Type} : ∀ (l : List α) (i : Nat) (x : α), (setAt l i x).length = l.length
  | [], i, x => by simp [setAt]
  | y :: l, 0, x => by simp [setAt]
  | y :: l, i + 1, x => by simp [setAt, setAt_length l i x]

section
variable {P : Program} {cfg : Cfg} {ρ : Nat → Option Nat} {w0 : World} {h0 : Hp} {st : St} {h : Hp} {a : Act} {w : World} {ch : List (Nat × Bool)}

/-- The heap goes on, all of the call's own being kept. -/
theorem RelR.step (R : RelR ρ w0 h0 st h a w) {h' : Hp} {w' : World} (hs : Sub h' w') (hf : Fr h h' w w') : RelR ρ w0 h0 st h' a w' where
  n := R.n
  d := R.d
  fr := R.fr
  gd := R.gd
  sub := hs
  F := R.F.trans hf
  box i bx hb := by
    obtain ⟨b, h1, h2, h3, h4⟩ := R.box i bx hb
    have hlt : b < w.heap.size := (Array.getElem?_eq_some_iff.1 h2).1
    obtain ⟨e, n⟩ := hf.keep b hlt h3
    exact ⟨b, h1, e.trans h2, n, h4⟩
  dom := R.dom
  inj := R.inj

theorem Sl.ok_mono {ρ' : Nat → Option Nat} {tm : Array Value} {x : Sl} {y : Value} (hρ : ∀ i b, ρ i = some b → ρ' i = some b) (hx : x.ok ρ tm y) : x.ok ρ' tm y := by
  have hsv : ∀ (x : SV) (y : Value), x.ok ρ y → x.ok ρ' y := by
    intro x y hx
    cases x with
    | bp i o => obtain ⟨b, h1, h2⟩ := hx; exact ⟨b, hρ _ _ h1, h2⟩
    | _ => exact hx
  cases x with
  | s x => exact hsv _ _ hx
  | gd k p x => exact ⟨fun e => hsv _ _ (hx.1 e), hx.2⟩

/-- A new box. -/
theorem RelR.newBox (R : RelR ρ w0 h0 st h a w) (ty : TypeId) (cs : List TV) :
    RelR (fun i => if i = st.b.length then some w.heap.size else ρ i) w0 h0 ⟨st.n, st.t, st.g, st.b ++ [⟨ty, cs, 0⟩]⟩ h a (w.alloc (.cells (tvals cs).toArray ty)) where
  n := R.n
  d := R.d
  fr i := by
    refine Sl.ok_mono (ρ := ρ) ?_ (R.fr i)
    intro j b hj
    have := R.dom j b hj
    simp [show ¬ j = st.b.length by omega, hj]
  gd := R.gd
  sub := R.sub.push _
  F := R.F.trans (Fr.push h w _)
  box i bx hb := by
    by_cases hi : i = st.b.length
    · subst hi
      simp at hb
      subst hb
      refine ⟨w.heap.size, by simp, ?_, R.sub.none, R.F.size⟩
      rw [push_get, if_pos rfl]
    · have hlt : i < st.b.length := by
        have := (List.getElem?_eq_some_iff.1 hb).1
        simp at this
        omega
      rw [List.getElem?_append_left hlt] at hb
      obtain ⟨b, h1, h2, h3, h4⟩ := R.box i bx hb
      have hb2 : b < w.heap.size := (Array.getElem?_eq_some_iff.1 h2).1
      refine ⟨b, by simp [hi, h1], ?_, h3, h4⟩
      rw [push_get, if_neg (by omega)]
      exact h2
  dom i b hi := by
    split at hi
    · rename_i e; simp; omega
    · have := R.dom i b hi; simp; omega
  inj i j b hi hj := by
    have hbl : ∀ k, ρ k = some b → b < w.heap.size := by
      intro k hk
      have := R.dom k b hk
      obtain ⟨bx, hbx⟩ : ∃ bx, st.b[k]? = some bx := ⟨st.b[k], by simp [this]⟩
      obtain ⟨b', h1, h2, _⟩ := R.box k bx hbx
      rw [hk] at h1
      obtain rfl := Option.some.inj h1
      exact (Array.getElem?_eq_some_iff.1 h2).1
    split at hi <;> split at hj
    · omega
    · have := hbl _ hj; simp at hi; omega
    · have := hbl _ hi; simp at hj; omega
    · exact R.inj i j b hi hj

theorem setRow_get (w : World) (g : Nat) (cs : Array Value) (old : Array Value) (t : TypeId) (fz : Nat × Nat) (hg : w.heap[g]? = some (.cells old t fz)) (b : Nat) :
    (w.setRow g cs).heap[b]? = if b = g then some (.cells cs t fz) else w.heap[b]? := by
  by_cases hb : b = g
  · subst hb; rw [if_pos rfl]; exact setRow_heap w b old cs t fz hg
  · rw [if_neg hb]
    simp only [World.setRow, Array.getElem?_modify]
    rw [if_neg (by omega)]

theorem run_storeVar_T {T : TypeId} {b o : Nat} {v : Value} {vs : List Value} {cur : Array Value} {t : TypeId} (hT : 1 ≤ szT P T) (hvs : v.cells.toList = vs) (hl : vs.length = szT P T) (hone : ∀ u ∈ vs, u.oneCell' = true)
    (hg : w.heap[b]? = some (.cells cur t (0, 0))) (hfit : o + vs.length ≤ cur.size) :
    (storeVar T ⟨b, o, none⟩ v).run P w = .ok () (w.setRow b (setL cur.toList o vs).toArray) := by
  have hs := run_sizeOf_szT (P := P) hT w
  have hst := run_storeCells_at P b o t vs 0 cur w hg (by simpa using hfit) hone
  have hsz : v.cells.size = szT P T := by rw [← Array.length_toList, hvs, hl]
  simp only [Nat.add_zero] at hst
  simp [storeVar, hs, hsz, hvs, hst, setL]

/-- A store into a box. -/
theorem RelR.setBox (R : RelR ρ w0 h0 st h a w) {i b : Nat} {bx : Box} (hb : st.b[i]? = some bx) (hρ : ρ i = some b) (c : List TV) :
    RelR ρ w0 h0 ⟨st.n, st.t, st.g, setAt st.b i ⟨bx.ty, c, bx.st + 1⟩⟩ h a (w.setRow b (tvals c).toArray) where
  n := R.n
  d := R.d
  fr := R.fr
  gd := R.gd
  sub := by
    obtain ⟨b', h1, h2, h3, h4⟩ := R.box i bx hb
    rw [hρ] at h1; obtain rfl := Option.some.inj h1
    intro k o hk
    rw [setRow_get w b _ _ _ _ h2, if_neg (by intro e; subst e; simp [h3] at hk)]
    exact R.sub k o hk
  F := by
    obtain ⟨b', h1, h2, h3, h4⟩ := R.box i bx hb
    rw [hρ] at h1; obtain rfl := Option.some.inj h1
    refine ⟨R.F.os, R.F.tape, R.F.output, by simpa [World.setRow] using R.F.size, fun k hk hn => ?_⟩
    obtain ⟨e, n⟩ := R.F.keep k hk hn
    exact ⟨by rw [setRow_get w b _ _ _ _ h2, if_neg (by omega)]; exact e, n⟩
  box j bj hj := by
    obtain ⟨b', h1, h2, h3, h4⟩ := R.box i bx hb
    rw [hρ] at h1; obtain rfl := Option.some.inj h1
    simp only [setAt_get] at hj
    split at hj
    · rename_i e
      obtain ⟨rfl, _⟩ := e
      simp only [Option.some.injEq] at hj
      subst hj
      exact ⟨b, hρ, by rw [setRow_get w b _ _ _ _ h2, if_pos rfl], h3, h4⟩
    · rename_i e
      obtain ⟨b2, k1, k2, k3, k4⟩ := R.box j bj hj
      have hjl : j < st.b.length := (List.getElem?_eq_some_iff.1 hj).1
      have hne : b2 ≠ b := by
        intro e2
        subst e2
        exact e ⟨R.inj j i b2 k1 hρ, hjl⟩
      exact ⟨b2, k1, by rw [setRow_get w b _ _ _ _ h2, if_neg hne]; exact k2, k3, k4⟩
  dom j b' hj := by simpa [setAt_length] using R.dom j b' hj
  inj := R.inj

theorem boxMono_set {i : Nat} {bx : Box} (hb : st.b[i]? = some bx) (c : List TV) : BoxMono st.b (setAt st.b i ⟨bx.ty, c, bx.st + 1⟩) := by
  intro j x hx
  rw [setAt_get]
  split
  · rename_i e
    obtain ⟨rfl, _⟩ := e
    rw [hb] at hx
    obtain rfl := Option.some.inj hx
    exact ⟨_, rfl, rfl, by simp, fun e => by simp at e⟩
  · exact ⟨x, hx, rfl, Nat.le_refl _, fun _ => rfl⟩
theorem boxMono_new (x : Box) : BoxMono st.b (st.b ++ [x]) := by
  intro j y hy
  have hlt := (List.getElem?_eq_some_iff.1 hy).1
  exact ⟨y, by rw [List.getElem?_append_left hlt]; exact hy, rfl, Nat.le_refl _, fun _ => rfl⟩

/-- What follows an operation. -/
def Nxt (w0 : World) (h0 : Hp) (st : St) (K : SV → List Box → Hp → Prop) (o : Oper) (a : Act) (next : Act → World → Prop) : Prop :=
  ∀ sv b' h' ρ' v w', K sv b' h' → RelR ρ' w0 h0 ⟨st.n, st.t, st.g, b'⟩ h' a w' → sv.ok ρ' v → BoxMono st.b b' → next (a.put o.dst v) w'

variable {K : SV → List Box → Hp → Prop} {o : Oper} {next : Act → World → Prop} {Q : Exit → Act → World → Prop}

theorem upon_newBox (R : RelR ρ w0 h0 st h a w) {ty : TypeId} {cs : List TV} (H : newBox cfg o st h ty cs K) (hn : Nxt w0 h0 st K o a next)
    (hrun : (execOp a.eval o).run P w = .ok (.value (.pointer (some ⟨w.heap.size, 0, none⟩))) (w.alloc (.cells (tvals cs).toArray ty))) : o.upon P a next Q ((execOp a.eval o).run P w) := by
  rw [hrun, Oper.upon_value]
  unfold newBox at H
  cases ho : allOneT cs with
  | false => rw [ho] at H; exact H.elim
  | true =>
    rw [ho] at H
    simp only [cond_true] at H
    cases hp : isPub cfg o.dst with
    | true =>
      rw [hp] at H
      simp only [cond_true] at H
      exact hn _ _ _ ρ _ _ (H w.heap.size R.sub.none) (R.step (R.sub.pushSet _) (Fr.pushSet h w _)) rfl (BoxMono.refl _)
    | false =>
      rw [hp] at H
      simp only [cond_false] at H
      exact hn _ _ _ _ _ _ H (R.newBox ty cs) ⟨w.heap.size, by simp, rfl⟩ (boxMono_new _)

theorem upon_sem (R : RelR ρ w0 h0 st h a w) {m : Sem Value} {sh : Sh} (H : SemOK P m h fun v h' => res sh v fun x => K x st.b h') (hn : Nxt w0 h0 st K o a next)
    (hrun : (execOp a.eval o).run P w = (m.run P w).andThen fun v w' => .ok (.value v) w') : o.upon P a next Q ((execOp a.eval o).run P w) := by
  obtain ⟨v, w', h', h1, h2, h3, h4⟩ := H w R.sub
  obtain ⟨x, ⟨rfl, hk⟩, hx⟩ := exS_elim (show exS sh _ from h4)
  rw [hrun, h1, Result.andThen_ok, Oper.upon_value]
  exact hn _ _ _ ρ _ _ hk (R.step h2 h3) (SV.ok_val hx) (BoxMono.refl _)

theorem upon_call (R : RelR ρ w0 h0 st h a w) {f : FuncId} {vs : List Value} {sh : Sh} (H : CallOK P f vs h fun v h' => res sh v fun x => K x st.b h') (hn : Nxt w0 h0 st K o a next)
    (hrun : (execOp a.eval o).run P w = .ok (.enter f vs.toArray) w) : o.upon P a next Q ((execOp a.eval o).run P w) := by
  rw [hrun, Oper.upon_enter]
  refine (H w R.sub).mono ?_
  rintro e w' ⟨v, h', rfl, h2, h3, h4⟩
  obtain ⟨x, ⟨rfl, hk⟩, hx⟩ := exS_elim (show exS sh _ from h4)
  exact hn _ _ _ ρ _ _ hk (R.step h2 h3) (SV.ok_val hx) (BoxMono.refl _)
end

theorem run_callFunc_body {P : Program} {f : FuncId} {fn : Func} (hf : P.funcs[f]? = some fn) (hname : (fn.name == "runtime.NumGoroutine") = false) (hb : fn.body.isSome = true) (args : Array Value) (w : World) :
    (callFunc f args).run P w = .ok (.enter f args) w := by
  have hb' : fn.body.isNone = false := by cases h : fn.body <;> simp_all
  simp only [callFunc, Sem.run_bind, run_program, Result.andThen_ok, hf, hname, hb', Bool.false_eq_true, if_false]; rfl

def NoNG (P : Program) : Prop := ∀ (f : FuncId) (fn : Func), P.funcs[f]? = some fn → (fn.name == "runtime.NumGoroutine") = false
end Go.Vc
