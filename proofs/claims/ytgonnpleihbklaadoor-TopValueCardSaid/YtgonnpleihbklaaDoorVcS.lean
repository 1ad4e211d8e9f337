/-
  This seat's program meets the two conditions of the framework's theorem. Conditions: none.
-/
import Derived.Test.YtgonnpleihbklaaDoorProg
import Derived.Test.YtgonnpleihbklaaDoorVcK
namespace Go.Proofs.YtgonnpleihbklaaDoor
open Go Go.Vc
theorem noNG : NoNG Tryd.prog := by
  have h : (Tryd.prog.funcs.all fun fn => !(fn.name == "runtime.NumGoroutine")) = true := by kernel_rfl
  intro f fn hf
  rw [Array.all_eq_true] at h
  obtain ⟨hlt, he⟩ := Array.getElem?_eq_some_iff.mp hf
  have := h f hlt
  rw [he] at this
  simpa using this
theorem mixed : Tryd.prog.follows .mixedOrders = true := by kernel_rfl
theorem big : slicesBig Tryd.prog := slicesBig_of (by kernel_rfl) (by kernel_rfl)
theorem elInt : ElT Tryd.prog 22 3 1 8 := .of (by kernel_rfl) (by kernel_rfl) (by decide)
end Go.Proofs.YtgonnpleihbklaaDoor
