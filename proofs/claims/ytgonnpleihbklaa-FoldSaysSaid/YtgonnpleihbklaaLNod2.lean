/-
  The plain law of expressions, part 2: values and kinds, node by node; what they are in what is put together. No program in sight. Conditions: none.
-/
import Derived.Test.YtgonnpleihbklaaLNod
namespace Go.Proofs.Ytgonnpleihbklaa
open Go Go.Vc
set_option linter.unusedVariables false

section
variable {β : Type} (d : β) (F : Nd → β → β → β)
/-- What each node is worth, from the first on. -/
def fwd (l : List Nd) : List β := l.foldl (fun outs n => outs ++ [F n (outs.getD n.x.toNat d) (outs.getD n.y.toNat d)]) []
def fAt (l : List Nd) (i : Nat) : β := (fwd d F l).getD i d
/-- A node looks at its own alone. -/
def Own2 : Prop := ∀ (n : Nd) (a b a' b' : β), 0 ≤ arI n.op → (1 ≤ arI n.op → a = a') → (2 ≤ arI n.op → b = b') → F n a b = F n a' b'
end
section
variable {β : Type} {d : β} {F : Nd → β → β → β}
theorem fwd_snoc (l : List Nd) (n : Nd) : fwd d F (l ++ [n]) = fwd d F l ++ [F n ((fwd d F l).getD n.x.toNat d) ((fwd d F l).getD n.y.toNat d)] := by
  unfold fwd
  rw [List.foldl_append]
  rfl
theorem fwd_nil : fwd d F [] = [] := rfl
theorem fwd_length (l : List Nd) : (fwd d F l).length = l.length := by
  have key : ∀ (l : List Nd) (o : List β), (l.foldl (fun outs n => outs ++ [F n (outs.getD n.x.toNat d) (outs.getD n.y.toNat d)]) o).length = o.length + l.length := by
    intro l
    induction l with
    | nil => intro o; rfl
    | cons n l ih => intro o; rw [List.foldl_cons, ih]; simp; omega
  have := key l []
  simpa [fwd] using this
theorem fwd_pre (l r : List Nd) : ∃ t, fwd d F (l ++ r) = fwd d F l ++ t := by
  have key : ∀ (l : List Nd) (o : List β), ∃ t, l.foldl (fun outs n => outs ++ [F n (outs.getD n.x.toNat d) (outs.getD n.y.toNat d)]) o = o ++ t := by
    intro l
    induction l with
    | nil => intro o; exact ⟨[], by simp⟩
    | cons n l ih =>
      intro o
      rw [List.foldl_cons]
      obtain ⟨t, ht⟩ := ih (o ++ [F n (o.getD n.x.toNat d) (o.getD n.y.toNat d)])
      exact ⟨_, by rw [ht, List.append_assoc]⟩
  unfold fwd
  rw [List.foldl_append]
  exact key r _
theorem fAt_pre (l r : List Nd) {i : Nat} (h : i < l.length) : fAt d F (l ++ r) i = fAt d F l i := by
  obtain ⟨t, ht⟩ := fwd_pre (d := d) (F := F) l r
  unfold fAt
  rw [ht, List.getD_eq_getElem?_getD, List.getElem?_append_left (by rw [fwd_length]; exact h), ← List.getD_eq_getElem?_getD]
theorem fAt_take (l : List Nd) {i k : Nat} (h : i < k) (hk : k ≤ l.length) : (fwd d F (l.take k)).getD i d = fAt d F l i := by
  have := fAt_pre (d := d) (F := F) (l.take k) (l.drop k) (i := i) (by rw [List.length_take]; omega)
  rw [List.take_append_drop] at this
  rw [this]
  rfl
theorem fwd_take (l : List Nd) {i : Nat} {n : Nd} (hn : l[i]? = some n) : fwd d F (l.take (i + 1)) = fwd d F (l.take i) ++ [fAt d F l i] := by
  have hlt := (List.getElem?_eq_some_iff.1 hn).1
  have e : l.take (i + 1) = l.take i ++ [n] := by rw [List.take_add_one, hn]; rfl
  have e2 : fAt d F l i = F n ((fwd d F (l.take i)).getD n.x.toNat d) ((fwd d F (l.take i)).getD n.y.toNat d) := by
    rw [← fAt_take l (Nat.lt_succ_self i) hlt, e, fwd_snoc, List.getD_eq_getElem?_getD, List.getElem?_append_right (by rw [fwd_length, List.length_take]; omega)]
    rw [fwd_length, List.length_take, Nat.min_eq_left (by omega), Nat.sub_self]
    rfl
  rw [e, fwd_snoc, ← e2]
theorem fAt_wf (hF : Own2 F) {l : List Nd} {i : Nat} {n : Nd} (hn : l[i]? = some n) (W : WfN i n) : fAt d F l i = F n (fAt d F l n.x.toNat) (fAt d F l n.y.toNat) := by
  have hlt := (List.getElem?_eq_some_iff.1 hn).1
  have e : l.take (i + 1) = l.take i ++ [n] := by rw [List.take_add_one, hn]; rfl
  rw [← fAt_take l (Nat.lt_succ_self i) hlt, e, fwd_snoc, List.getD_eq_getElem?_getD, List.getElem?_append_right (by rw [fwd_length, List.length_take]; omega)]
  rw [fwd_length, List.length_take, Nat.min_eq_left (by omega), Nat.sub_self]
  refine hF n _ _ _ _ W.a (fun h => ?_) fun h => ?_
  · have := W.x h; exact fAt_take l (by omega) (by omega)
  · have := W.y h; exact fAt_take l (by omega) (by omega)
theorem WfN.sh {i d : Nat} {n : Nd} (W : WfN i n) : WfN (d + i) (shN d n) where
  a := W.a
  f := W.f
  x := fun h => by
    have h : 1 ≤ arI n.op := h
    have := W.x h
    unfold shN
    simp only
    rw [if_pos (by omega)]
    omega
  y := fun h => by
    have h : 2 ≤ arI n.op := h
    have := W.y h
    unfold shN
    simp only
    rw [if_pos (by omega)]
    omega
theorem fAt_sh (hF : Own2 F) (hS : ∀ (k : Int) n a b, F (shN k n) a b = F n a b) {m : List Nd} (W : WfL m) (l r : List Nd) : ∀ k, k < m.length → fAt d F (l ++ m.map (shN l.length) ++ r) (l.length + k) = fAt d F m k := by
  intro k
  induction k using Nat.strongRecOn with
  | _ k ih =>
    intro hk
    have hm : m[k]? = some m[k] := List.getElem?_eq_getElem hk
    have hj : (l ++ m.map (shN l.length) ++ r)[l.length + k]? = some (shN l.length m[k]) := by
      rw [List.append_assoc, List.getElem?_append_right (by omega), show l.length + k - l.length = k by omega, List.getElem?_append_left (by simpa using hk), List.getElem?_map, hm]
      rfl
    have Wk := W k _ hm
    rw [fAt_wf hF hj Wk.sh, fAt_wf hF hm Wk, hS]
    refine hF _ _ _ _ _ Wk.a (fun h => ?_) fun h => ?_
    · have hx := Wk.x h
      have : (shN (l.length : Int) m[k]).x.toNat = l.length + m[k].x.toNat := by
        unfold shN
        simp only
        rw [if_pos (by omega)]
        omega
      rw [this]
      exact ih _ (by omega) (by omega)
    · have hy := Wk.y h
      have : (shN (l.length : Int) m[k]).y.toNat = l.length + m[k].y.toNat := by
        unfold shN
        simp only
        rw [if_pos (by omega)]
        omega
      rw [this]
      exact ih _ (by omega) (by omega)
end

def fieldV (e : EvL) (n : Int) : Int × Int := if n = 0 then numV e.1 else if n = 1 then e.2.1 else if n = 2 then e.2.2.1 else e.2.2.2
def stepF (e : EvL) (n : Nd) (a b : Int × Int) : Int × Int :=
  if n.op = 1 then n.v else if n.op = 2 then fieldV e n.n else if n.op = 3 then negV a else if n.op = 4 then notV a else if n.op = 5 then truthV (decide (a.1 = 0)) else doV n.op a b
abbrev vAt (e : EvL) (l : List Nd) (i : Nat) : Int × Int := fAt (0, 0) (stepF e) l i
def wantT (op : Int) : Int := if op = 4 ∨ op = 9 ∨ op = 10 then 2 else 1
def tyG (op : Int) : Option Int → Option Int → Option Int
  | some a, some b => if op = 5 then some 2 else if (a ≠ 0 ∧ a ≠ wantT op) ∨ (b ≠ 0 ∧ b ≠ wantT op) then none else if op = 11 ∨ op = 12 then some 2 else some (wantT op)
  | _, _ => none
def tyF (n : Nd) (a b : Option Int) : Option Int := if n.op = 1 then some n.v.1 else if n.op = 2 then some 1 else tyG n.op a (if arI n.op = 2 then b else a)
abbrev tAt (l : List Nd) (i : Nat) : Option Int := fAt none tyF l i
theorem ar0 {op : Int} (h : 0 ≤ arI op) : (arI op = 0 ↔ op = 1 ∨ op = 2) ∧ (arI op = 1 ↔ op = 3 ∨ op = 4 ∨ op = 5) ∧ (arI op = 2 ↔ 6 ≤ op ∧ op ≤ 12) := by
  unfold arI at *
  split
  · omega
  · split
    · omega
    · split
      · omega
      · rename_i h1 h2 h3; rw [if_neg h1, if_neg h2, if_neg h3] at h; cases h
theorem own_stepF (e : EvL) : Own2 (stepF e) := by
  intro n a b a' b' h ha hb
  have := ar0 h
  unfold stepF
  split
  · rfl
  · split
    · rfl
    · have h1 : 1 ≤ arI n.op := by rcases arI_range h with q | q | q <;> omega
      rw [ha h1]
      split
      · rfl
      · split
        · rfl
        · split
          · rfl
          · rw [hb (by rcases arI_range h with q | q | q <;> omega)]
theorem own_tyF : Own2 tyF := by
  intro n a b a' b' h ha hb
  have := ar0 h
  unfold tyF
  split
  · rfl
  · split
    · rfl
    · have h1 : 1 ≤ arI n.op := by rcases arI_range h with q | q | q <;> omega
      rw [ha h1]
      split
      · rename_i h2; rw [hb (by omega)]
      · rfl
theorem stepF_sh (e : EvL) (k : Int) (n : Nd) (a b : Int × Int) : stepF e (shN k n) a b = stepF e n a b := rfl
theorem tyF_op {n : Nd} (h1 : ¬ n.op = 1) (h2 : ¬ n.op = 2) (a b : Option Int) : tyF n a b = tyG n.op a (if arI n.op = 2 then b else a) := by
  unfold tyF
  rw [if_neg h1, if_neg h2]
theorem stepF_do (e : EvL) {n : Nd} (h : 6 ≤ n.op) (a b : Int × Int) : stepF e n a b = doV n.op a b := by
  unfold stepF
  rw [if_neg (by omega), if_neg (by omega), if_neg (by omega), if_neg (by omega), if_neg (by omega)]
theorem tyG_none (op : Int) (b : Option Int) : tyG op none b = none ∧ tyG op b none = none := by
  cases b <;> exact ⟨rfl, rfl⟩
/-- A node that has a kind: so do all that it has. -/
theorem Blk.ty {l : List Nd} (W : WfL l) {f e : Nat} (B : Blk l f e) : tAt l (e - 1) ≠ none → ∀ i, f ≤ i → i < e → tAt l i ≠ none := by
  induction B with
  | @leaf j n h h0 => intro ht i h1 h2; obtain rfl : i = j := by omega
                      exact ht
  | @one f j n B h h0 hx ih =>
    intro ht i h1 h2
    by_cases hij : i = j
    · subst hij; exact ht
    · have hw := W j n h
      have := ar0 hw.a
      have hlt := B.lt
      refine ih (fun hn => ht ?_) i h1 (by omega)
      rw [Nat.add_sub_cancel, tAt, fAt_wf own_tyF h hw]
      rw [tyF_op (by omega) (by omega), show n.x.toNat = j - 1 by omega, (show fAt none tyF l _ = none from hn)]
      exact (tyG_none _ _).1
  | @two f g j n B B' h h0 hx hy ih1 ih2 =>
    intro ht i h1 h2
    have hlt := B.lt
    have hlt' := B'.lt
    have hw := W j n h
    have := ar0 hw.a
    by_cases hij : i = j
    · subst hij; exact ht
    · by_cases hg : i < g
      · refine ih1 (fun hn => ht ?_) i h1 hg
        rw [Nat.add_sub_cancel, tAt, fAt_wf own_tyF h hw]
        rw [tyF_op (by omega) (by omega), show n.x.toNat = g - 1 by omega, (show fAt none tyF l _ = none from hn)]
        exact (tyG_none _ _).1
      · refine ih2 (fun hn => ht ?_) i (by omega) (by omega)
        rw [Nat.add_sub_cancel, tAt, fAt_wf own_tyF h hw]
        rw [tyF_op (by omega) (by omega), if_pos h0, show n.y.toNat = j - 1 by omega, (show fAt none tyF l _ = none from hn)]
        exact (tyG_none _ _).2
/-- The value of a whole expression; its kind. -/
def valE (e : EvL) (l : List Nd) : Int × Int := vAt e l (l.length - 1)
def typE (l : List Nd) : Int × Int := match tAt l (l.length - 1) with
  | some t => (t, 0)
  | none => (0, 3)
theorem WfL.join {op : Int} (ho : 0 ≤ arI op) {l m : List Nd} (W : WfL l) (W' : WfL m) (hl : 0 < l.length) (hm : 2 ≤ arI op → 0 < m.length) (h2 : op ≠ 2) : WfL (joinL op l m) := by
  intro i n hn
  unfold joinL at hn
  by_cases h1 : i < l.length
  · rw [List.append_assoc, List.getElem?_append_left h1] at hn
    exact W i n hn
  · rw [List.append_assoc, List.getElem?_append_right (by omega)] at hn
    by_cases h3 : i - l.length < m.length
    · rw [List.getElem?_append_left (by simpa using h3), List.getElem?_map, Option.map_eq_some_iff] at hn
      obtain ⟨n', hn', rfl⟩ := hn
      have := (W' _ _ hn').sh (d := l.length)
      rw [show l.length + (i - l.length) = i by omega] at this
      exact this
    · rw [List.getElem?_append_right (by simp; omega), List.getElem?_singleton] at hn
      split at hn
      · rename_i h4
        cases hn
        rw [List.length_map] at h4
        refine ⟨ho, fun h => absurd h h2, fun h => ?_, fun h => ?_⟩
        · simp only; omega
        · simp only at h ⊢
          have := hm h
          rw [if_pos (by omega)]
          omega
      · cases hn
theorem valE_join2 (e : EvL) {op : Int} (ho : arI op = 2) {l m : List Nd} (W : WfL l) (W' : WfL m) (hl : 0 < l.length) (hm : 0 < m.length) : valE e (joinL op l m) = doV op (valE e l) (valE e m) := by
  have ha := ar0 (op := op) (by omega)
  have WJ := WfL.join (op := op) (by omega) W W' hl (fun _ => hm) (by omega)
  unfold valE
  rw [joinL_length, show l.length + m.length + 1 - 1 = l.length + m.length by omega]
  have hj : (joinL op l m)[l.length + m.length]? = some ⟨op, (l.length : Int) - 1, if 1 < arI op then ((l.length + m.length : Nat) : Int) - 1 else 0, 0, (0, 0)⟩ := by
    unfold joinL
    rw [List.getElem?_append_right (by simp)]
    simp
  rw [vAt, fAt_wf (own_stepF e) hj (WJ _ _ hj)]
  rw [stepF_do e (by simp only; omega)]
  simp only
  rw [if_pos (by omega : 1 < arI op)]
  have e1 : ((l.length : Int) - 1).toNat = l.length - 1 := by omega
  have e2 : (((l.length + m.length : Nat) : Int) - 1).toNat = l.length + (m.length - 1) := by omega
  rw [e1, e2]
  have q1 : fAt (0, 0) (stepF e) (joinL op l m) (l.length - 1) = fAt (0, 0) (stepF e) l (l.length - 1) := by
    unfold joinL
    rw [List.append_assoc]
    exact fAt_pre _ _ (by omega)
  have q2 : fAt (0, 0) (stepF e) (joinL op l m) (l.length + (m.length - 1)) = fAt (0, 0) (stepF e) m (m.length - 1) :=
    fAt_sh (own_stepF e) (stepF_sh e) W' l _ _ (by omega)
  rw [q1, q2]
theorem valE_joinN (e : EvL) {l : List Nd} (W : WfL l) (hl : 0 < l.length) : valE e (joinL 5 l []) = truthV (decide ((valE e l).1 = 0)) := by
  have WJ := WfL.join (op := 5) (by decide) W (m := []) (by intro i n hn; cases hn) hl (fun h => absurd h (by decide)) (by decide)
  unfold valE
  rw [joinL_length, show l.length + ([] : List Nd).length + 1 - 1 = l.length by simp]
  have hj : (joinL 5 l [])[l.length]? = some ⟨5, (l.length : Int) - 1, 0, 0, (0, 0)⟩ := by
    unfold joinL
    rw [List.getElem?_append_right (by simp)]
    simp [arI]
  rw [vAt, fAt_wf (own_stepF e) hj (WJ _ _ hj)]
  have e1 : ((l.length : Int) - 1).toNat = l.length - 1 := by omega
  have q1 : fAt (0, 0) (stepF e) (joinL 5 l []) (l.length - 1) = fAt (0, 0) (stepF e) l (l.length - 1) := by
    unfold joinL
    rw [List.append_assoc]
    exact fAt_pre _ _ (by omega)
  simp only [e1, q1]
  rfl
end Go.Proofs.Ytgonnpleihbklaa
