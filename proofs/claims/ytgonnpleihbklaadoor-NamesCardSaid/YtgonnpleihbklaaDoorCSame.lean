/-
  A contract: an error, told by its number. Conditions: that the number is not below nought.
-/
import Derived.Test.YtgonnpleihbklaaDoorFSame
import Derived.Test.YtgonnpleihbklaaDoorVcP
import Derived.Test.YtgonnpleihbklaaDoorCErr
namespace Go.Proofs.YtgonnpleihbklaaDoor
open Go Go.Vc
set_option linter.unusedVariables false

theorem assertErrno (v : Value) (w : World) : (Instr.typeAssert (.iface 23 v) 27 23 true).run Tryd.prog w = .ok (.tuple #[v, .bool true]) w := by kernel_rfl
theorem law_same_ok {f g : Int} (hf : 0 ≤ f) {h : Hp} {R : Value → Hp → Prop} (hK : R (vb (decide (f = g))) h) : CallOK Tryd.prog 6 [ifv (errV f), vi g] h R := by
  refine ok_law_same ?_
  unfold VC_law_same
  by_cases h0 : f = 0
  · have e : errV f = none := by simp [errV, h0]
    rw [e]
    refine ⟨fun _ => ?_, fun e => by simp at e⟩
    have : decide (g = 0) = decide (f = g) := by rw [h0]; exact decide_eq_decide.2 eq_comm
    rw [this]; exact hK
  · have e : errV f = some (23, vi f) := by simp [errV, h0]
    rw [e]
    refine ⟨fun e => by simp at e, fun _ => ⟨f, true, fun w _ => assertErrno _ w, ?_⟩⟩
    have : (bif (bif true then (decide (g > 0)) else false) then (decide (f = g)) else false) = decide (f = g) := by
      by_cases hg : f = g
      · simp [hg]; omega
      · simp [hg]
    rw [this]; exact hK
end Go.Proofs.YtgonnpleihbklaaDoor
