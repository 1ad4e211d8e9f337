/-
  What functions of the program ask, in words: each is what the framework reckons from the loaded code (the kernel holds the two together), and gives the function's call. Conditions: none.
-/
import Derived.Test.YtgonnpleihbklaaVcS
namespace Go.Proofs.Ytgonnpleihbklaa
open Go Go.Vc
set_option maxRecDepth 100000
set_option linter.unusedVariables false
/-- What 'penstock/penstocklaw.LightNodes' asks. -/
def VC_law_LightNodes (u_la : Option Addr) (u_ln u_lc : Nat) (h : Hp) (R : Value → Hp → Prop) : Prop :=
  R (vb (decide ((((u_ln : Nat) : Int) : Int) ≤ 50))) h
theorem ok_law_LightNodes {u_la : Option Addr} {u_ln u_lc : Nat} {h : Hp} {R : Value → Hp → Prop} (H : VC_law_LightNodes u_la u_ln u_lc h R) : CallOK Try.prog 15 [(vsl u_la u_ln u_lc)] h R :=
  call_of (cfg := ⟨[], [], []⟩) noNG mixed Try.func15 [.one (.v (vsl u_la u_ln u_lc))] (by kernel_rfl) rfl (by kernel_rfl) H

end Go.Proofs.Ytgonnpleihbklaa
