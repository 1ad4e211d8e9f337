/-
  This seat's program meets the two conditions of the framework's theorem. Conditions: none.
-/
import Derived.Test.YtjdheefginfjgaaProg
import Derived.Test.YtjdheefginfjgaaVcK
namespace Go.Proofs.Ytjdheefginfjgaa
open Go Go.Vc
theorem noNG : NoNG Try.prog := by
  have h : (Try.prog.funcs.all fun fn => !(fn.name == "runtime.NumGoroutine")) = true := by kernel_rfl
  intro f fn hf
  rw [Array.all_eq_true] at h
  obtain ⟨hlt, he⟩ := Array.getElem?_eq_some_iff.mp hf
  have := h f hlt
  rw [he] at this
  simpa using this
theorem mixed : Try.prog.follows .mixedOrders = true := by kernel_rfl
theorem big : slicesBig Try.prog := slicesBig_of (by kernel_rfl) (by kernel_rfl)
theorem elInt : ElT Try.prog 22 3 1 8 := .of (by kernel_rfl) (by kernel_rfl) (by decide)
end Go.Proofs.Ytjdheefginfjgaa
