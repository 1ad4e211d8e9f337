/-
  Contracts: package expr: Arity, Check. Conditions: those stated at each.
-/
import Derived.Test.YtgonnpleihbklaaFExp
import Derived.Test.YtgonnpleihbklaaCRExp
namespace Go.Proofs.Ytgonnpleihbklaa
open Go Go.Vc
set_option linter.unusedVariables false
set_option maxRecDepth 100000

theorem expr_Arity_ok {op : Int} {h : Hp} {R : Value → Hp → Prop} (hK : R (vi (arI op)) h) : CallOK Try.prog 48 [vi op] h R := by
  refine ok_expr_Arity ?_
  unfold VC_expr_Arity
  unfold arI at hK
  refine ⟨fun e => ?_, fun e => ⟨fun e2 => ?_, fun e2 => ⟨fun e3 => ?_, fun e3 => ?_⟩⟩⟩
  all_goals simp only [cand, cor] at *
  · rw [if_pos (of_decide_eq_true e)] at hK; exact hK
  · rw [if_neg (of_decide_eq_false e), if_pos (by have := of_decide_eq_true e2; omega)] at hK; exact hK
  · rw [if_neg (of_decide_eq_false e), if_neg (by have := of_decide_eq_false e2; omega), if_pos (by have := of_decide_eq_true e3; omega)] at hK; exact hK
  · rw [if_neg (of_decide_eq_false e), if_neg (by have := of_decide_eq_false e2; omega), if_neg (by have := of_decide_eq_false e3; omega)] at hK; exact hK
end Go.Proofs.Ytgonnpleihbklaa
