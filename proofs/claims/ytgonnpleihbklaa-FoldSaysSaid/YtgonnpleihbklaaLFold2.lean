/-
  The plain law of folding, part 2: what is put together stands for what its own stand for. No program in sight. Conditions: none.
-/
import Derived.Test.YtgonnpleihbklaaLFold
namespace Go.Proofs.Ytgonnpleihbklaa
open Go Go.Vc
set_option linter.unusedVariables false

theorem fAt_join {β : Type} {d : β} {F : Nd → β → β → β} (hF : Own2 F) (hS : ∀ (k : Int) n a b, F (shN k n) a b = F n a b) {op : Int} (ho : 1 ≤ arI op) {l m : List Nd} (W : WfL l) (W' : WfL m) (hl : 0 < l.length) (hm : 2 ≤ arI op → 0 < m.length) :
    ∃ y, fAt d F (joinL op l m) (l.length + m.length) = F ⟨op, (l.length : Int) - 1, y, 0, (0, 0)⟩ (fAt d F l (l.length - 1)) (if arI op = 2 then fAt d F m (m.length - 1) else fAt d F l (l.length - 1)) := by
  have ha := ar0 (op := op) (by omega)
  have WJ := WfL.join (op := op) (by omega) W W' hl hm (by omega)
  have hj : (joinL op l m)[l.length + m.length]? = some ⟨op, (l.length : Int) - 1, if 1 < arI op then ((l.length + m.length : Nat) : Int) - 1 else 0, 0, (0, 0)⟩ := by
    unfold joinL
    rw [List.getElem?_append_right (by simp)]
    simp
  refine ⟨if 1 < arI op then ((l.length + m.length : Nat) : Int) - 1 else 0, (fAt_wf hF hj (WJ _ _ hj)).trans ?_⟩
  refine hF _ _ _ _ _ (by simp only; omega) (fun _ => ?_) fun h2 => ?_
  · simp only
    rw [show ((l.length : Int) - 1).toNat = l.length - 1 by omega]
    unfold joinL
    rw [List.append_assoc]
    exact fAt_pre _ _ (by omega)
  · simp only at h2 ⊢
    have h2' : arI op = 2 := by rcases arI_range (op := op) (by omega) with q | q | q <;> omega
    rw [if_pos (by omega : 1 < arI op), if_pos h2']
    have := hm h2
    rw [show (((l.length + m.length : Nat) : Int) - 1).toNat = l.length + (m.length - 1) by omega]
    exact fAt_sh hF hS W' l _ _ (by omega)
theorem okE_nil_wf : WfL ([] : List Nd) := by intro i n hn; cases hn
theorem Rep.pos {P : EvL → Int × Int} {T : Option Int} {k : Nat} {z : List Nd} (R : Rep P T k z) : 0 < z.length := R.ok.pos
theorem tyG_some2 {op : Int} {a b : Option Int} {t : Int} (h : tyG op a b = some t) : ∃ x y, a = some x ∧ b = some y := by
  cases a with
  | none => cases b <;> cases h
  | some x =>
    cases b with
    | none => cases h
    | some y => exact ⟨x, y, rfl, rfl⟩
/-- A kind or none in the place of each: it goes, too. -/
theorem tyG_less {op x y x' y' t : Int} (h : tyG op (some x) (some y) = some t) (hx : x' = 0 ∨ x' = x) (hy : y' = 0 ∨ y' = y) : tyG op (some x') (some y') = some t := by
  unfold tyG at h ⊢
  simp only at h ⊢
  split at h
  · rename_i h1; rw [if_pos h1]; exact h
  · rename_i h1
    rw [if_neg h1]
    split at h
    · cases h
    · rename_i h2
      rw [if_neg (by omega)]
      exact h
theorem Rep.join2 {P Q : EvL → Int × Int} {T U : Option Int} {k j : Nat} {x y : List Nd} {op : Int} (ho : arI op = 2) (A : Rep P T k x) (B : Rep Q U j y) : Rep (fun e => opV op (P e) (Q e)) (tyG op T U) (k + j + 1) (joinL op x y) := by
  have ar := ar0 (op := op) (by omega)
  have hp := A.pos
  have hq := B.pos
  have hA := A.len
  have hB := B.len
  refine ⟨chkGo_okE (joinL_chk2 ho A.ok B.ok), by rw [joinL_length]; omega, fun e E => ?_, fun t ht => ?_⟩
  · rw [valE_join2 e ho A.ok.wf B.ok.wf hp hq, A.val e E, B.val e E]
    unfold opV
    rw [if_neg (by omega), if_neg (by omega), if_neg (by omega)]
  · obtain ⟨tx, ty, rfl, rfl⟩ := tyG_some2 ht
    obtain ⟨tx', e1, h1⟩ := A.ty tx rfl
    obtain ⟨ty', e2, h2⟩ := B.ty ty rfl
    obtain ⟨y', hy⟩ := fAt_join (d := none) (F := tyF) own_tyF (fun _ _ _ _ => rfl) (op := op) (by omega) A.ok.wf B.ok.wf hp (fun _ => hq)
    rw [joinL_length, show x.length + y.length + 1 - 1 = x.length + y.length by omega]
    refine ⟨t, ?_, .inr rfl⟩
    rw [tAt, hy, tyF_op (by simp only; omega) (by simp only; omega)]
    simp only
    rw [if_pos ho, if_pos ho, show fAt none tyF x (x.length - 1) = some tx' from e1, show fAt none tyF y (y.length - 1) = some ty' from e2]
    exact tyG_less ht h1 h2
theorem Rep.join1 {P : EvL → Int × Int} {T : Option Int} {k : Nat} {x : List Nd} {op : Int} (ho : arI op = 1) (A : Rep P T k x) : Rep (fun e => opV op (P e) (P e)) (tyG op T T) (k + 1) (joinL op x []) := by
  have ar := ar0 (op := op) (by omega)
  have hp := A.pos
  have hA := A.len
  refine ⟨chkGo_okE (joinL_chk1 ho A.ok), by rw [joinL_length]; simp; omega, fun e E => ?_, fun t ht => ?_⟩
  · obtain ⟨y', hy⟩ := fAt_join (d := (0, 0)) (F := stepF e) (own_stepF e) (stepF_sh e) (op := op) (by omega) A.ok.wf okE_nil_wf hp (fun h => by omega)
    unfold valE
    rw [joinL_length, show x.length + ([] : List Nd).length + 1 - 1 = x.length + ([] : List Nd).length by omega, vAt, hy, stepF_op e (by simp only; omega) (by simp only; omega), if_neg (by omega)]
    have := A.val e E
    unfold valE vAt at this
    rw [this]
  · obtain ⟨tx, ty, rfl, h2⟩ := tyG_some2 ht
    obtain ⟨tx', e1, h1⟩ := A.ty tx rfl
    obtain ⟨y', hy⟩ := fAt_join (d := none) (F := tyF) own_tyF (fun _ _ _ _ => rfl) (op := op) (by omega) A.ok.wf okE_nil_wf hp (fun h => by omega)
    rw [joinL_length, show x.length + ([] : List Nd).length + 1 - 1 = x.length + ([] : List Nd).length by omega]
    refine ⟨t, ?_, .inr rfl⟩
    rw [tAt, hy, tyF_op (by simp only; omega) (by simp only; omega)]
    simp only
    rw [show fAt none tyF x (x.length - 1) = some tx' from e1]
    simp only [ho, show ¬ (1 : Int) = 2 by decide, if_false]
    exact tyG_less ht h1 h1
end Go.Proofs.Ytgonnpleihbklaa
