/-
  An error, told by its number. Conditions: none.
-/
import Derived.Test.YtgonnpleihbklaaDoorVcS
namespace Go.Proofs.YtgonnpleihbklaaDoor
open Go Go.Vc
/-- The error of a number; nought: none. -/
def errV (f : Int) : Option (TypeId × Value) := if f = 0 then none else some (23, vi f)
theorem errV_none {f : Int} : (errV f).isNone = decide (f = 0) := by
  unfold errV
  by_cases h : f = 0 <;> simp [h]
theorem errV_some {f : Int} : (errV f).isSome = !decide (f = 0) := by
  unfold errV
  by_cases h : f = 0 <;> simp [h]
end Go.Proofs.YtgonnpleihbklaaDoor
