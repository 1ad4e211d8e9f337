/-
  What functions of the program ask, in words: each is what the framework reckons from the loaded code (the kernel holds the two together), and gives the function's call. Conditions: none.
-/
import Derived.Test.YtgonnpleihbklaaDoorVcS
namespace Go.Proofs.YtgonnpleihbklaaDoor
open Go Go.Vc
set_option maxRecDepth 100000
set_option linter.unusedVariables false
/-- What 'penstock/value.Null' asks. -/
def VC_value_Null  (h : Hp) (R : Value → Hp → Prop) : Prop :=
  R (vag [(vi 0), (vi 0)]) h
theorem ok_value_Null  {h : Hp} {R : Value → Hp → Prop} (H : VC_value_Null  h R) : CallOK Tryd.prog 10 [] h R :=
  call_of (cfg := ⟨[], [], []⟩) noNG mixed Tryd.func10 [] (by kernel_rfl) rfl (by kernel_rfl) H

/-- What 'penstock/value.Number' asks. -/
def VC_value_Number (u_n : Int) (h : Hp) (R : Value → Hp → Prop) : Prop :=
  (((bif (decide ((u_n : Int) < (-1000000000))) then true else (decide ((u_n : Int) > 1000000000))) = true → R (vag [(vi 0), (vi 0)]) h) ∧ ((bif (decide ((u_n : Int) < (-1000000000))) then true else (decide ((u_n : Int) > 1000000000))) = false → R (vag [(vi 1), (vi u_n)]) h))
theorem ok_value_Number {u_n : Int} {h : Hp} {R : Value → Hp → Prop} (H : VC_value_Number u_n h R) : CallOK Tryd.prog 11 [(vi u_n)] h R :=
  call_of (cfg := ⟨[], [], []⟩) noNG mixed Tryd.func11 [.one (.v (vi u_n))] (by kernel_rfl) rfl (by kernel_rfl) H

end Go.Proofs.YtgonnpleihbklaaDoor
