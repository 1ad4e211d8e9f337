/-
  What functions of the program ask, in words: each is what the framework reckons from the loaded code (the kernel holds the two together), and gives the function's call. Conditions: none.
-/
import Derived.Test.YtgonnpleihbklaaDoorVcS
namespace Go.Proofs.YtgonnpleihbklaaDoor
open Go Go.Vc
set_option maxRecDepth 100000
set_option linter.unusedVariables false
/-- What 'penstock/penstockref.SameNumbers' asks. -/
def VC_R_SameNumbers (u_aa : Option Addr) (u_an u_ac : Nat) (u_ba : Option Addr) (u_bn u_bc : Nat) (h : Hp) (R : Value → Hp → Prop) : Prop :=
  (((decide ((((u_an : Nat) : Int) : Int) ≠ ((u_bn : Nat) : Int))) = true → R (vb false) h) ∧ ((decide ((((u_an : Nat) : Int) : Int) ≠ ((u_bn : Nat) : Int))) = false → (∃ (I3 : List Value → Hp → Prop) (m4 : List Value → Hp → Nat), I3 [(vi 0)] h ∧ ∀ (vs5 : List Value) (h6 : Hp), I3 vs5 h6 → ∃ (x7 : Int), vs5 = [(vi x7)] ∧ (((decide ((x7 : Int) < ((u_an : Nat) : Int))) = true → (∃ (b10 o11 : Nat), (u_aa = some ⟨b10, o11, none⟩ ∧ (0 : Int) ≤ x7 ∧ x7 < ((u_an : Nat) : Int)) ∧ (∃ (x12 : Int), (Hp.cell h6 b10 (o11 + x7.toNat * 1) = some (vi x12)) ∧ (∃ (b13 o14 : Nat), (u_ba = some ⟨b13, o14, none⟩ ∧ (0 : Int) ≤ x7 ∧ x7 < ((u_bn : Nat) : Int)) ∧ (∃ (x15 : Int), (Hp.cell h6 b13 (o14 + x7.toNat * 1) = some (vi x15)) ∧ (((decide ((x12 : Int) ≠ x15)) = true → R (vb false) h6) ∧ ((decide ((x12 : Int) ≠ x15)) = false → (∃ (x17 : Int), (IsW x17 (x7 + 1)) ∧ (I3 [(vi x17)] h6 ∧ m4 [(vi x17)] h6 < m4 vs5 h6))))))))) ∧ ((decide ((x7 : Int) < ((u_an : Nat) : Int))) = false → R (vb true) h6)))))
theorem ok_R_SameNumbers {u_aa : Option Addr} {u_an u_ac : Nat} {u_ba : Option Addr} {u_bn u_bc : Nat} {h : Hp} {R : Value → Hp → Prop} (H : VC_R_SameNumbers u_aa u_an u_ac u_ba u_bn u_bc h R) : CallOK Tryd.prog 7 [(vsl u_aa u_an u_ac), (vsl u_ba u_bn u_bc)] h R :=
  call_of (cfg := ⟨[], [(4, ([5], [.one (.int .i64)], []))], [(6, [0, 1, 2, 3, 4, 5, 6, 7, 8])]⟩) noNG mixed Tryd.func7 [.one (.v (vsl u_aa u_an u_ac)), .one (.v (vsl u_ba u_bn u_bc))] (by kernel_rfl) rfl (by kernel_rfl) H

end Go.Proofs.YtgonnpleihbklaaDoor
