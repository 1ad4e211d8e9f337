/-
  What functions of the program ask, in words: each is what the framework reckons from the loaded code (the kernel holds the two together), and gives the function's call. Conditions: none.
-/
import Derived.Test.YtgonnpleihbklaaDoorVcS
namespace Go.Proofs.YtgonnpleihbklaaDoor
open Go Go.Vc
set_option maxRecDepth 100000
set_option linter.unusedVariables false
/-- What 'penstock/penstocktop.TopValue' asks. -/
def VC_top_TopValue (u_vKind : Int) (u_vN : Int) (h : Hp) (R : Value → Hp → Prop) : Prop :=
  (CallOK Tryd.prog 11 [(vi (-5))] h fun v1 h2 => ∃ (x3 : Int) (x4 : Int), v1 = (vag [(vi x3), (vi x4)]) ∧ (CallOK Tryd.prog 27 [(vag [(vi x3), (vi x4)])] h2 fun v5 h6 => ∃ (s7 : ByteArray), v5 = (vs s7) ∧ (∃ (p8 : Bool), (Rd Tryd.prog ((eqGuard .neq 9 (.tmp 6) (.const (vs ⟨#[45, 53]⟩)) (vs s7) (vs ⟨#[45, 53]⟩) >>= fun _ => binOp .neq 9 (vs s7) (vs ⟨#[45, 53]⟩))) h6 (vb p8)) ∧ ((p8 = true → R (vb false) h6) ∧ (p8 = false → (CallOK Tryd.prog 15 [(vag [(vi u_vKind), (vi u_vN)])] h6 fun v10 h11 => ∃ (e12 : Option (TypeId × Value)), v10 = (ifv e12) ∧ (((Option.isSome e12) = true → R (vb true) h11) ∧ ((Option.isSome e12) = false → (CallOK Tryd.prog 27 [(vag [(vi u_vKind), (vi u_vN)])] h11 fun v14 h15 => ∃ (s16 : ByteArray), v14 = (vs s16) ∧ (CallOK Tryd.prog 17 [(vs s16)] h15 fun v17 h18 => ∃ (x19 : Int) (x20 : Int) (e21 : Option (TypeId × Value)), v17 = (vtup [(vag [(vi x19), (vi x20)]), (ifv e21)]) ∧ (∃ (p22 : Bool), ((Option.isNone e21) = true → Rd Tryd.prog ((eqGuard .eql 32 (.tmp 20) (.tmp 21) (vag [(vi x19), (vi x20)]) (vag [(vi u_vKind), (vi u_vN)]) >>= fun _ => binOp .eql 32 (vag [(vi x19), (vi x20)]) (vag [(vi u_vKind), (vi u_vN)]))) h18 (vb p22)) ∧ R (vb (bif (Option.isNone e21) then p22 else false)) h18)))))))))))
theorem ok_top_TopValue {u_vKind : Int} {u_vN : Int} {h : Hp} {R : Value → Hp → Prop} (H : VC_top_TopValue u_vKind u_vN h R) : CallOK Tryd.prog 5 [(vag [(vi u_vKind), (vi u_vN)])] h R :=
  call_of (cfg := ⟨[], [], []⟩) noNG mixed Tryd.func5 [.ag [.v (vi u_vKind), .v (vi u_vN)]] (by kernel_rfl) rfl (by kernel_rfl) H

end Go.Proofs.YtgonnpleihbklaaDoor
