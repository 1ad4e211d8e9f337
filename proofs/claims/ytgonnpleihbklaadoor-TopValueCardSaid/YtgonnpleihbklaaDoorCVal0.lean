/-
  Contracts: package value: what a value is, numbers, '=='. Conditions: none.
-/
import Derived.Test.YtgonnpleihbklaaDoorFVal0
import Derived.Test.YtgonnpleihbklaaDoorVcN
namespace Go.Proofs.YtgonnpleihbklaaDoor
open Go Go.Vc
set_option linter.unusedVariables false

/-- A value's cells: its kind, its number. -/
def encV (v : Int × Int) : List Value := [vi v.1, vi v.2]
theorem encV_len (v : Int × Int) : (encV v).length = 2 := rfl
theorem one_vals (l : List (Int × Int)) : ∀ u ∈ l.flatMap encV, u.oneCell' = true := by
  intro u hu
  obtain ⟨v, _, hv⟩ := List.mem_flatMap.1 hu
  simp [encV] at hv
  rcases hv with rfl | rfl <;> rfl
def numV (n : Int) : Int × Int := if n < -1000000000 ∨ n > 1000000000 then (0, 0) else (1, n)
theorem value_Number_ok {n : Int} {h : Hp} {R : Value → Hp → Prop} (hK : R (vag (encV (numV n))) h) : CallOK Tryd.prog 11 [vi n] h R := by
  refine ok_value_Number ?_
  unfold VC_value_Number
  refine ⟨fun e => ?_, fun e => ?_⟩
  · simp [Bool.cond_eq_ite] at e
    have : numV n = (0, 0) := by unfold numV; rw [if_pos (by omega)]
    rw [this] at hK
    exact hK
  · simp [Bool.cond_eq_ite] at e
    have : numV n = (1, n) := by unfold numV; rw [if_neg (by omega)]
    rw [this] at hK
    exact hK
theorem value_Null_ok {h : Hp} {R : Value → Hp → Prop} (hK : R (vag (encV (0, 0))) h) : CallOK Tryd.prog 10 [] h R := ok_value_Null hK
theorem eqFl_V (a b c d : Int) : eqFl Tryd.prog 8 32 [vi a, vi b] [vi c, vi d] = some (decide (a = c) && (decide (b = d) && true)) := by kernel_rfl
theorem dec_V (a b : Int × Int) : (decide (a.1 = b.1) && (decide (a.2 = b.2) && true)) = decide (a = b) := by
  obtain ⟨a1, a2⟩ := a
  obtain ⟨b1, b2⟩ := b
  rw [Bool.eq_iff_iff]
  simp [Prod.ext_iff]
/-- '==' and '!=' of two values. -/
theorem rd_eqV {h : Hp} {x y : Operand} {a b : Int × Int} : Rd Tryd.prog (eqGuard .eql 32 x y (vag (encV a)) (vag (encV b)) >>= fun _ => binOp .eql 32 (vag (encV a)) (vag (encV b))) h (vb (decide (a = b))) := by
  rw [← dec_V]
  exact rd_eql (eqFl_V _ _ _ _) (by kernel_rfl) (by kernel_rfl)
theorem rd_neqV {h : Hp} {x y : Operand} {a b : Int × Int} : Rd Tryd.prog (eqGuard .neq 32 x y (vag (encV a)) (vag (encV b)) >>= fun _ => binOp .neq 32 (vag (encV a)) (vag (encV b))) h (vb (!decide (a = b))) := by
  rw [← dec_V]
  exact rd_neq (eqFl_V _ _ _ _) (by kernel_rfl) (by kernel_rfl)

def smallV (v : Int × Int) : Prop := -1000000000 ≤ v.2 ∧ v.2 ≤ 1000000000
def goodV (v : Int × Int) : Prop := (v.1 = 0 ∧ v.2 = 0) ∨ (v.1 = 1 ∧ -1000000000 ≤ v.2 ∧ v.2 ≤ 1000000000) ∨ (v.1 = 2 ∧ (v.2 = 0 ∨ v.2 = 1))
instance (v : Int × Int) : Decidable (goodV v) := by unfold goodV; infer_instance
theorem goodV.small {v : Int × Int} (h : goodV v) : smallV v := by
  unfold goodV at h
  unfold smallV
  omega
end Go.Proofs.YtgonnpleihbklaaDoor
