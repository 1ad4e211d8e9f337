/-
  Contracts: values, as the document has them. Conditions: none.
-/
import Derived.Test.YtgonnpleihbklaaDoorFRVal
import Derived.Test.YtgonnpleihbklaaDoorCVal
namespace Go.Proofs.YtgonnpleihbklaaDoor
open Go Go.Vc
set_option linter.unusedVariables false

theorem R_Num_ok {n : Int} {h : Hp} {R : Value → Hp → Prop} (hK : R (vag (encV (numV n))) h) : CallOK Tryd.prog 12 [vi n] h R := by
  refine ok_R_Num ?_
  unfold VC_R_Num
  refine ⟨fun e => ?_, fun e => ?_⟩
  · simp [Bool.cond_eq_ite] at e
    have : numV n = (0, 0) := by unfold numV; rw [if_pos (by omega)]
    rw [this] at hK
    exact hK
  · simp [Bool.cond_eq_ite] at e
    have : numV n = (1, n) := by unfold numV; rw [if_neg (by omega)]
    rw [this] at hK
    exact hK
theorem R_Truth_ok {b : Bool} {h : Hp} {R : Value → Hp → Prop} (hK : R (vag (encV (truthV b))) h) : CallOK Tryd.prog 14 [vb b] h R := by
  refine ok_R_Truth ?_
  unfold VC_R_Truth
  cases b with
  | true => exact ⟨fun _ => hK, fun e => by cases e⟩
  | false => exact ⟨fun e => by (cases e), fun _ => hK⟩
theorem or10 (a b : Int × Int) : doV 10 a b = if (a.1 = 2 ∧ a.2 ≠ 0) ∨ (b.1 = 2 ∧ b.2 ≠ 0) then (2, 1) else if a.1 = 2 ∧ b.1 = 2 then (2, 0) else (0, 0) := by
  obtain ⟨a1, a2⟩ := a
  obtain ⟨b1, b2⟩ := b
  unfold doV andV notV truthV
  by_cases h1 : a1 = 2 <;> by_cases h2 : b1 = 2 <;> by_cases h3 : a2 = 0 <;> by_cases h4 : b2 = 0 <;> simp [h1, h2, h3, h4]
theorem R_Do_ok {op : Int} {a b : Int × Int} {h : Hp} {R : Value → Hp → Prop} (hK : R (vag (encV (doV op a b))) h) : CallOK Tryd.prog 22 [vi op, vag (encV a), vag (encV b)] h R := by
  refine ok_R_Do ?_
  unfold VC_R_Do
  refine R_Truth_ok ⟨_, _, rfl, R_Truth_ok ⟨_, _, rfl, fun e => ?_, fun e => ⟨fun e2 => ?_, fun e2 => ?_⟩⟩⟩
  · obtain rfl : op = 9 := of_decide_eq_true e
    have hd : doV 9 a b = andV a b := rfl
    rw [hd] at hK
    unfold andV at hK
    refine ⟨_, rd_eqV (b := truthV false), _, fun _ => rd_eqV (b := truthV false), fun q => ?_, fun q => ?_⟩
    · rw [if_pos] at hK
      · exact hK
      · by_cases h1 : a = (2, 0)
        · exact .inl h1
        · right
          have : decide (a = truthV false) = false := decide_eq_false h1
          rw [this] at q
          exact of_decide_eq_true q
    · have h1 : ¬ (a = (2, 0) ∨ b = (2, 0)) := by
        rintro (h1 | h1)
        · have : decide (a = truthV false) = true := decide_eq_true h1
          rw [this] at q; cases q
        · have : decide (b = truthV false) = true := decide_eq_true h1
          rw [this] at q
          cases h2 : decide (a = truthV false) <;> rw [h2] at q <;> cases q
      rw [if_neg h1] at hK
      refine ⟨fun q2 => ?_, fun q2 => ?_⟩
      · rw [if_pos (by simp [Bool.cond_eq_ite] at q2; exact q2)] at hK; exact hK
      · rw [if_neg (by simp [Bool.cond_eq_ite] at q2; omega)] at hK; exact hK
  · obtain rfl : op = 10 := of_decide_eq_true e2
    rw [or10] at hK
    refine ⟨fun q => ?_, fun q => ?_⟩
    · rw [if_pos (by simp [Bool.cond_eq_ite] at q; omega)] at hK; exact hK
    · rw [if_neg (by simp [Bool.cond_eq_ite] at q; omega)] at hK
      refine ⟨fun q2 => ?_, fun q2 => ?_⟩
      · rw [if_pos (by simp [Bool.cond_eq_ite] at q2; exact q2)] at hK; exact hK
      · rw [if_neg (by simp [Bool.cond_eq_ite] at q2; omega)] at hK; exact hK
  · unfold doV at hK
    rw [if_neg (of_decide_eq_false e), if_neg (of_decide_eq_false e2)] at hK
    refine ⟨fun q => ?_, fun q => ?_⟩
    · rw [if_neg (by simp [Bool.cond_eq_ite] at q; omega)] at hK; exact hK
    rw [if_pos (by simp [Bool.cond_eq_ite] at q; omega)] at hK
    refine ⟨fun e => ?_, fun e => ?_⟩
    · rw [if_pos (of_decide_eq_true e)] at hK
      exact ⟨_, w64_isW _, R_Num_ok ⟨_, _, rfl, hK⟩⟩
    rw [if_neg (of_decide_eq_false e)] at hK
    refine ⟨fun e => ?_, fun e => ?_⟩
    · rw [if_pos (of_decide_eq_true e)] at hK
      exact ⟨_, w64_isW _, R_Num_ok ⟨_, _, rfl, hK⟩⟩
    rw [if_neg (of_decide_eq_false e)] at hK
    refine ⟨fun e => ?_, fun e => ?_⟩
    · rw [if_pos (of_decide_eq_true e)] at hK
      exact ⟨_, w64_isW _, R_Num_ok ⟨_, _, rfl, hK⟩⟩
    rw [if_neg (of_decide_eq_false e)] at hK
    refine ⟨fun e => ?_, fun e => ?_⟩
    · rw [if_pos (of_decide_eq_true e)] at hK
      exact R_Truth_ok ⟨_, _, rfl, hK⟩
    rw [if_neg (of_decide_eq_false e)] at hK
    refine ⟨fun e => ?_, fun e => ?_⟩
    · rw [if_pos (of_decide_eq_true e)] at hK
      exact R_Truth_ok ⟨_, _, rfl, hK⟩
    rw [if_neg (of_decide_eq_false e)] at hK
    exact hK
end Go.Proofs.YtgonnpleihbklaaDoor
