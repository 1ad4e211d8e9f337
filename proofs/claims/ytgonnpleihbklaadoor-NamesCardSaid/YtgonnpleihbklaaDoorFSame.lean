/-
  What functions of the program ask, in words: each is what the framework reckons from the loaded code (the kernel holds the two together), and gives the function's call. Conditions: none.
-/
import Derived.Test.YtgonnpleihbklaaDoorVcS
namespace Go.Proofs.YtgonnpleihbklaaDoor
open Go Go.Vc
set_option maxRecDepth 100000
set_option linter.unusedVariables false
/-- What 'penstock/penstocklaw.same' asks. -/
def VC_law_same (u_err : Option (TypeId × Value)) (u_f : Int) (h : Hp) (R : Value → Hp → Prop) : Prop :=
  (((Option.isNone u_err) = true → R (vb (decide ((u_f : Int) = 0))) h) ∧ ((Option.isNone u_err) = false → (∃ (x2 : Int) (p3 : Bool), (Rd Tryd.prog (Instr.typeAssert (ifv u_err) 27 23 true) h (vtup [(vi x2), (vb p3)])) ∧ R (vb (bif (bif p3 then (decide ((u_f : Int) > 0)) else false) then (decide ((x2 : Int) = u_f)) else false)) h)))
theorem ok_law_same {u_err : Option (TypeId × Value)} {u_f : Int} {h : Hp} {R : Value → Hp → Prop} (H : VC_law_same u_err u_f h R) : CallOK Tryd.prog 6 [(ifv u_err), (vi u_f)] h R :=
  call_of (cfg := ⟨[], [], []⟩) noNG mixed Tryd.func6 [.one (.ifc u_err), .one (.v (vi u_f))] (by kernel_rfl) rfl (by kernel_rfl) H

end Go.Proofs.YtgonnpleihbklaaDoor
