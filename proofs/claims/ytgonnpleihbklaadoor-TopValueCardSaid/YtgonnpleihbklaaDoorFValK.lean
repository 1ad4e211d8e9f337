/-
  What functions of the program ask, in words: each is what the framework reckons from the loaded code (the kernel holds the two together), and gives the function's call. Conditions: none.
-/
import Derived.Test.YtgonnpleihbklaaDoorVcS
namespace Go.Proofs.YtgonnpleihbklaaDoor
open Go Go.Vc
set_option maxRecDepth 100000
set_option linter.unusedVariables false
/-- What 'penstock/value.Check' asks. -/
def VC_value_Check (u_vKind : Int) (u_vN : Int) (h : Hp) (R : Value → Hp → Prop) : Prop :=
  (let J4 : Bool → Prop := fun (p5 : Bool) => ((p5 = true → R (ifv none) h) ∧ (p5 = false → R (ifv (some (23, (vi 3)))) h)); (((bif (decide ((u_vKind : Int) = 0)) then (decide ((u_vN : Int) = 0)) else false) = true → (J4 (bif (decide ((u_vKind : Int) = 0)) then (decide ((u_vN : Int) = 0)) else false))) ∧ ((bif (decide ((u_vKind : Int) = 0)) then (decide ((u_vN : Int) = 0)) else false) = false → (((bif (bif (decide ((u_vKind : Int) = 1)) then (decide ((u_vN : Int) ≥ (-1000000000))) else false) then (decide ((u_vN : Int) ≤ 1000000000)) else false) = true → (J4 (bif (bif (decide ((u_vKind : Int) = 1)) then (decide ((u_vN : Int) ≥ (-1000000000))) else false) then (decide ((u_vN : Int) ≤ 1000000000)) else false))) ∧ ((bif (bif (decide ((u_vKind : Int) = 1)) then (decide ((u_vN : Int) ≥ (-1000000000))) else false) then (decide ((u_vN : Int) ≤ 1000000000)) else false) = false → (J4 (bif (decide ((u_vKind : Int) = 2)) then (bif (decide ((u_vN : Int) = 0)) then true else (decide ((u_vN : Int) = 1))) else false)))))))
theorem ok_value_Check {u_vKind : Int} {u_vN : Int} {h : Hp} {R : Value → Hp → Prop} (H : VC_value_Check u_vKind u_vN h R) : CallOK Tryd.prog 15 [(vag [(vi u_vKind), (vi u_vN)])] h R :=
  call_of (cfg := ⟨[], [], []⟩) noNG mixed Tryd.func15 [.ag [.v (vi u_vKind), .v (vi u_vN)]] (by kernel_rfl) rfl (by kernel_rfl) H

end Go.Proofs.YtgonnpleihbklaaDoor
