/-
  What functions of the program ask, in words: each is what the framework reckons from the loaded code (the kernel holds the two together), and gives the function's call. Conditions: none.
-/
import Derived.Test.YtdjacmkolakdeaaVcS
namespace Go.Proofs.Ytdjacmkolakdeaa
open Go Go.Vc
set_option maxRecDepth 100000
set_option linter.unusedVariables false
/-- What 'penstock/penstockref.SameNodes' asks. -/
def VC_R_SameNodes (u_aa : Option Addr) (u_an u_ac : Nat) (u_ba : Option Addr) (u_bn u_bc : Nat) (h : Hp) (R : Value → Hp → Prop) : Prop :=
  (((decide ((((u_an : Nat) : Int) : Int) ≠ ((u_bn : Nat) : Int))) = true → R (vb false) h) ∧ ((decide ((((u_an : Nat) : Int) : Int) ≠ ((u_bn : Nat) : Int))) = false → (∃ (I3 : List Value → Hp → Prop) (m4 : List Value → Hp → Nat), I3 [(vi 0)] h ∧ ∀ (vs5 : List Value) (h6 : Hp), I3 vs5 h6 → ∃ (x7 : Int), vs5 = [(vi x7)] ∧ (((decide ((x7 : Int) < ((u_an : Nat) : Int))) = true → (∃ (b10 o11 : Nat), (u_aa = some ⟨b10, o11, none⟩ ∧ (0 : Int) ≤ x7 ∧ x7 < ((u_an : Nat) : Int)) ∧ (∃ (x12 : Int) (x13 : Int) (x14 : Int) (x15 : Int) (x16 : Int) (x17 : Int), (Hp.row h6 b10 (o11 + x7.toNat * 6) 6 = some [(vi x12), (vi x13), (vi x14), (vi x15), (vi x16), (vi x17)]) ∧ (∃ (b18 o19 : Nat), (u_ba = some ⟨b18, o19, none⟩ ∧ (0 : Int) ≤ x7 ∧ x7 < ((u_bn : Nat) : Int)) ∧ (∃ (x20 : Int) (x21 : Int) (x22 : Int) (x23 : Int) (x24 : Int) (x25 : Int), (Hp.row h6 b18 (o19 + x7.toNat * 6) 6 = some [(vi x20), (vi x21), (vi x22), (vi x23), (vi x24), (vi x25)]) ∧ (∃ (p26 : Bool), (Rd Try.prog ((eqGuard .neq 54 (.tmp 20) (.tmp 24) (vag [(vi x12), (vi x13), (vi x14), (vi x15), (vi x16), (vi x17)]) (vag [(vi x20), (vi x21), (vi x22), (vi x23), (vi x24), (vi x25)]) >>= fun _ => binOp .neq 54 (vag [(vi x12), (vi x13), (vi x14), (vi x15), (vi x16), (vi x17)]) (vag [(vi x20), (vi x21), (vi x22), (vi x23), (vi x24), (vi x25)]))) h6 (vb p26)) ∧ ((p26 = true → R (vb false) h6) ∧ (p26 = false → (∃ (x28 : Int), (IsW x28 (x7 + 1)) ∧ (I3 [(vi x28)] h6 ∧ m4 [(vi x28)] h6 < m4 vs5 h6)))))))))) ∧ ((decide ((x7 : Int) < ((u_an : Nat) : Int))) = false → R (vb true) h6)))))
theorem ok_R_SameNodes {u_aa : Option Addr} {u_an u_ac : Nat} {u_ba : Option Addr} {u_bn u_bc : Nat} {h : Hp} {R : Value → Hp → Prop} (H : VC_R_SameNodes u_aa u_an u_ac u_ba u_bn u_bc h R) : CallOK Try.prog 28 [(vsl u_aa u_an u_ac), (vsl u_ba u_bn u_bc)] h R :=
  call_of (cfg := ⟨[], [(4, ([5], [.one (.int .i64)], []))], [(6, [0, 1, 2, 3, 4, 5, 6, 7, 8])]⟩) noNG mixed Try.func28 [.one (.v (vsl u_aa u_an u_ac)), .one (.v (vsl u_ba u_bn u_bc))] (by kernel_rfl) rfl (by kernel_rfl) H

end Go.Proofs.Ytdjacmkolakdeaa
