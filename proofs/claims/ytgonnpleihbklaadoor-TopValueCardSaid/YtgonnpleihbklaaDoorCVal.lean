/-
  Contracts: package value. Conditions: none.
-/
import Derived.Test.YtgonnpleihbklaaDoorFVal
import Derived.Test.YtgonnpleihbklaaDoorCVal0
import Derived.Test.YtgonnpleihbklaaDoorCErr
import Derived.Test.YtgonnpleihbklaaDoorVcP
namespace Go.Proofs.YtgonnpleihbklaaDoor
open Go Go.Vc
set_option linter.unusedVariables false

def w64 (x : Int) : Int := IntKind.i64.wrap x
theorem w64_isW (x : Int) : IsW (w64 x) x := rfl
theorem w64_in {x : Int} (h : InR x) : w64 x = x := (isW h).symm
def truthV (b : Bool) : Int × Int := (2, if b then 1 else 0)
def andV (a b : Int × Int) : Int × Int := if a = (2, 0) ∨ b = (2, 0) then (2, 0) else if a.1 = 2 ∧ b.1 = 2 then (2, 1) else (0, 0)
def notV (a : Int × Int) : Int × Int := if a.1 = 2 then truthV (decide (a.2 = 0)) else (0, 0)
def negV (a : Int × Int) : Int × Int := if a.1 = 1 then numV (w64 (-a.2)) else (0, 0)
def doV (op : Int) (a b : Int × Int) : Int × Int :=
  if op = 9 then andV a b else if op = 10 then notV (andV (notV a) (notV b)) else if a.1 = 1 ∧ b.1 = 1 then
    (if op = 6 then numV (w64 (a.2 + b.2)) else if op = 7 then numV (w64 (a.2 - b.2)) else if op = 8 then numV (w64 (a.2 * b.2)) else if op = 11 then truthV (decide (a.2 < b.2)) else if op = 12 then truthV (decide (a.2 = b.2)) else (0, 0))
  else (0, 0)
def cmpI (x y : Int) : Int := if x < y then -1 else if x > y then 1 else 0
def cmpV (a b : Int × Int) : Int := if cmpI a.1 b.1 ≠ 0 then cmpI a.1 b.1 else cmpI a.2 b.2

theorem value_Truth_ok {b : Bool} {h : Hp} {R : Value → Hp → Prop} (hK : R (vag (encV (truthV b))) h) : CallOK Tryd.prog 13 [vb b] h R := by
  refine ok_value_Truth ?_
  unfold VC_value_Truth
  cases b with
  | true => exact ⟨fun _ => hK, fun e => by cases e⟩
  | false => exact ⟨fun e => by (cases e), fun _ => hK⟩
theorem value_numbers_ok {a b : Int × Int} {h : Hp} {R : Value → Hp → Prop} (hK : R (vb (decide (a.1 = 1 ∧ b.1 = 1))) h) : CallOK Tryd.prog 34 [vag (encV a), vag (encV b)] h R := by
  refine ok_value_numbers ?_
  unfold VC_value_numbers
  have : (bif (decide (a.1 = 1)) then (decide (b.1 = 1)) else false) = decide (a.1 = 1 ∧ b.1 = 1) := by
    by_cases h1 : a.1 = 1 <;> by_cases h2 : b.1 = 1 <;> simp [h1, h2]
  rw [this]
  exact hK
theorem value_And_ok {a b : Int × Int} {h : Hp} {R : Value → Hp → Prop} (hK : R (vag (encV (andV a b))) h) : CallOK Tryd.prog 23 [vag (encV a), vag (encV b)] h R := by
  refine ok_value_And ?_
  unfold VC_value_And
  refine value_Truth_ok ⟨_, _, rfl, _, rd_eqV (a := a) (b := (2, 0)), _, fun _ => rd_eqV (a := b) (b := (2, 0)), fun e => ?_, fun e => ⟨fun e2 => ?_, fun e2 => ?_⟩⟩
  · have : a = (2, 0) ∨ b = (2, 0) := by simpa [Bool.cond_eq_ite] using e
    unfold andV at hK
    rw [if_pos this] at hK
    exact hK
  all_goals have h1 : ¬ (a = (2, 0) ∨ b = (2, 0)) := by simpa [Bool.cond_eq_ite] using e
  all_goals unfold andV at hK
  all_goals rw [if_neg h1] at hK
  · rw [if_pos (by simpa [Bool.cond_eq_ite] using e2)] at hK
    exact value_Truth_ok ⟨_, _, rfl, hK⟩
  · rw [if_neg (by simpa [Bool.cond_eq_ite] using e2)] at hK
    exact value_Null_ok ⟨_, _, rfl, hK⟩
theorem value_Not_ok {a : Int × Int} {h : Hp} {R : Value → Hp → Prop} (hK : R (vag (encV (notV a))) h) : CallOK Tryd.prog 24 [vag (encV a)] h R := by
  refine ok_value_Not ?_
  unfold VC_value_Not
  unfold notV at hK
  refine ⟨fun e => ?_, fun e => ?_⟩
  · rw [if_neg (by simpa using e)] at hK
    exact value_Null_ok ⟨_, _, rfl, hK⟩
  · rw [if_pos (by simpa using e)] at hK
    exact value_Truth_ok ⟨_, _, rfl, hK⟩
theorem value_Neg_ok {a : Int × Int} {h : Hp} {R : Value → Hp → Prop} (hK : R (vag (encV (negV a))) h) : CallOK Tryd.prog 26 [vag (encV a)] h R := by
  refine ok_value_Neg ?_
  unfold VC_value_Neg
  unfold negV at hK
  refine ⟨fun e => ?_, fun e => ?_⟩
  · rw [if_neg (by simpa using e)] at hK
    exact value_Null_ok ⟨_, _, rfl, hK⟩
  · rw [if_pos (by simpa using e)] at hK
    exact ⟨_, w64_isW _, value_Number_ok ⟨_, _, rfl, hK⟩⟩
theorem value_Do_ok {op : Int} {a b : Int × Int} {h : Hp} {R : Value → Hp → Prop} (hK : R (vag (encV (doV op a b))) h) : CallOK Tryd.prog 21 [vi op, vag (encV a), vag (encV b)] h R := by
  refine ok_value_Do ?_
  unfold VC_value_Do
  unfold doV at hK
  refine ⟨fun e => ?_, fun e => ?_⟩
  · rw [if_pos (of_decide_eq_true e)] at hK
    exact value_And_ok ⟨_, _, rfl, hK⟩
  rw [if_neg (of_decide_eq_false e)] at hK
  refine ⟨fun e => ?_, fun e => ?_⟩
  · rw [if_pos (of_decide_eq_true e)] at hK
    exact value_Not_ok ⟨_, _, rfl, value_Not_ok ⟨_, _, rfl, value_And_ok ⟨_, _, rfl, value_Not_ok ⟨_, _, rfl, hK⟩⟩⟩⟩
  rw [if_neg (of_decide_eq_false e)] at hK
  refine value_numbers_ok ⟨_, rfl, fun e => ?_, fun e => ?_⟩
  · rw [if_neg (by simp at e; omega)] at hK
    exact value_Null_ok ⟨_, _, rfl, hK⟩
  rw [if_pos (by simpa using e)] at hK
  refine ⟨fun e => ?_, fun e => ?_⟩
  · rw [if_pos (of_decide_eq_true e)] at hK
    exact ⟨_, w64_isW _, value_Number_ok ⟨_, _, rfl, hK⟩⟩
  rw [if_neg (of_decide_eq_false e)] at hK
  refine ⟨fun e => ?_, fun e => ?_⟩
  · rw [if_pos (of_decide_eq_true e)] at hK
    exact ⟨_, w64_isW _, value_Number_ok ⟨_, _, rfl, hK⟩⟩
  rw [if_neg (of_decide_eq_false e)] at hK
  refine ⟨fun e => ?_, fun e => ?_⟩
  · rw [if_pos (of_decide_eq_true e)] at hK
    exact ⟨_, w64_isW _, value_Number_ok ⟨_, _, rfl, hK⟩⟩
  rw [if_neg (of_decide_eq_false e)] at hK
  refine ⟨fun e => ?_, fun e => ?_⟩
  · rw [if_pos (of_decide_eq_true e)] at hK
    exact value_Truth_ok ⟨_, _, rfl, hK⟩
  rw [if_neg (of_decide_eq_false e)] at hK
  refine ⟨fun e => ?_, fun e => ?_⟩
  · rw [if_pos (of_decide_eq_true e)] at hK
    exact value_Truth_ok ⟨_, _, rfl, hK⟩
  rw [if_neg (of_decide_eq_false e)] at hK
  exact value_Null_ok ⟨_, _, rfl, hK⟩
end Go.Proofs.YtgonnpleihbklaaDoor
