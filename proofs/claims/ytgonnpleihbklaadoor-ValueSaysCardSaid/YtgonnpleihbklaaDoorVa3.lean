/-
  The statement that the last part names, proved; and all that it stands on that is not in the parts ahead. Conditions: those stated at each.
-/
import Derived.Lib.AtoiErrMem
import Derived.Test.YtgonnpleihbklaaDoorRows
import Derived.Test.YtgonnpleihbklaaDoorCards
import Derived.Test.YtgonnpleihbklaaDoorTie
import Derived.WalkKit
import Derived.ProofKit
import Derived.OpenShut
import Derived.LaidMore
import Derived.Stop.Joined
import Derived.Stop.LaidErr
import Derived.SevenTiedAt
import Derived.Test.YtgonnpleihbklaaDoorVa2
/-
  What functions of the program ask, in words: each is what the framework reckons from the loaded code (the kernel holds the two together), and gives the function's call. Conditions: none.
-/
namespace Go.Proofs.YtgonnpleihbklaaDoor
open Go Go.Vc
set_option maxRecDepth 100000
set_option linter.unusedVariables false
/-- What 'penstock/value.Text' asks. -/
def VC_value_Text (u_vKind : Int) (u_vN : Int) (h : Hp) (R : Value → Hp → Prop) : Prop :=
  (((decide ((u_vKind : Int) = 0)) = true → R (vs ⟨#[110, 117, 108, 108]⟩) h) ∧ ((decide ((u_vKind : Int) = 0)) = false → (((decide ((u_vKind : Int) = 1)) = true → (CallOK Tryd.prog 29 [(vi u_vN)] h fun v1 h2 => ∃ (s3 : ByteArray), v1 = (vs s3) ∧ R (vs s3) h2)) ∧ ((decide ((u_vKind : Int) = 1)) = false → (((decide ((u_vN : Int) = 0)) = true → R (vs ⟨#[102, 97, 108, 115, 101]⟩) h) ∧ ((decide ((u_vN : Int) = 0)) = false → R (vs ⟨#[116, 114, 117, 101]⟩) h))))))
theorem ok_value_Text {u_vKind : Int} {u_vN : Int} {h : Hp} {R : Value → Hp → Prop} (H : VC_value_Text u_vKind u_vN h R) : CallOK Tryd.prog 27 [(vag [(vi u_vKind), (vi u_vN)])] h R :=
  call_of (cfg := ⟨[], [], []⟩) noNG mixed Tryd.func27 [.ag [.v (vi u_vKind), .v (vi u_vN)]] (by kernel_rfl) rfl (by kernel_rfl) H

/-- What 'penstock/value.Parse' asks. -/
def VC_value_Parse (u_s : ByteArray) (h : Hp) (R : Value → Hp → Prop) : Prop :=
  (∃ (p1 : Bool), (Rd Tryd.prog ((eqGuard .eql 9 (.tmp 6) (.const (vs ⟨#[110, 117, 108, 108]⟩)) (vs u_s) (vs ⟨#[110, 117, 108, 108]⟩) >>= fun _ => binOp .eql 9 (vs u_s) (vs ⟨#[110, 117, 108, 108]⟩))) h (vb p1)) ∧ ((p1 = true → (CallOK Tryd.prog 10 [] h fun v2 h3 => ∃ (x4 : Int) (x5 : Int), v2 = (vag [(vi x4), (vi x5)]) ∧ R (vtup [(vag [(vi x4), (vi x5)]), (ifv none)]) h3)) ∧ (p1 = false → (∃ (p6 : Bool), (Rd Tryd.prog ((eqGuard .eql 9 (.tmp 6) (.const (vs ⟨#[116, 114, 117, 101]⟩)) (vs u_s) (vs ⟨#[116, 114, 117, 101]⟩) >>= fun _ => binOp .eql 9 (vs u_s) (vs ⟨#[116, 114, 117, 101]⟩))) h (vb p6)) ∧ (let J10 : Bool → Prop := fun (p11 : Bool) => ((p11 = true → (∃ (p12 : Bool), (Rd Tryd.prog ((eqGuard .eql 9 (.tmp 13) (.const (vs ⟨#[116, 114, 117, 101]⟩)) (vs u_s) (vs ⟨#[116, 114, 117, 101]⟩) >>= fun _ => binOp .eql 9 (vs u_s) (vs ⟨#[116, 114, 117, 101]⟩))) h (vb p12)) ∧ (CallOK Tryd.prog 13 [(vb p12)] h fun v13 h14 => ∃ (x15 : Int) (x16 : Int), v13 = (vag [(vi x15), (vi x16)]) ∧ R (vtup [(vag [(vi x15), (vi x16)]), (ifv none)]) h14))) ∧ (p11 = false → (CallOK Tryd.prog 30 [(vs u_s)] h fun v18 h19 => ∃ (x20 : Int) (e21 : Option (TypeId × Value)), v18 = (vtup [(vi x20), (ifv e21)]) ∧ (∃ (J22 : SV → Hp → Prop), ((Option.isSome e21) = false → (CallOK Tryd.prog 29 [(vi x20)] h19 fun v23 h24 => ∃ (s25 : ByteArray), v23 = (vs s25) ∧ J22 (.t (.one (.v (vs s25)))) h24)) ∧ (¬ ((Option.isSome e21) = false) → J22 (.t (.one (.v (vs ⟨#[]⟩)))) h19) ∧ ∀ (h26 : Hp) (s27 : ByteArray), J22 (.t (.one (.v (vs s27)))) h26 → (∃ (p28 : Bool), ((Option.isSome e21) = false → Rd Tryd.prog ((eqGuard .neq 9 (.tmp 25) (.tmp 26) (vs s27) (vs u_s) >>= fun _ => binOp .neq 9 (vs s27) (vs u_s))) h26 (vb p28)) ∧ (((bif (bif (bif (Option.isSome e21) then true else p28) then true else (decide ((x20 : Int) < (-1000000000)))) then true else (decide ((x20 : Int) > 1000000000))) = true → R (vtup [(vag [(vi 0), (vi 0)]), (ifv (some (23, (vi 4))))]) h26) ∧ ((bif (bif (bif (Option.isSome e21) then true else p28) then true else (decide ((x20 : Int) < (-1000000000)))) then true else (decide ((x20 : Int) > 1000000000))) = false → (CallOK Tryd.prog 11 [(vi x20)] h26 fun v30 h31 => ∃ (x32 : Int) (x33 : Int), v30 = (vag [(vi x32), (vi x33)]) ∧ R (vtup [(vag [(vi x32), (vi x33)]), (ifv none)]) h31)))))))); ((p6 = true → (J10 p6)) ∧ (p6 = false → (∃ (p8 : Bool), (Rd Tryd.prog ((eqGuard .eql 9 (.tmp 6) (.const (vs ⟨#[102, 97, 108, 115, 101]⟩)) (vs u_s) (vs ⟨#[102, 97, 108, 115, 101]⟩) >>= fun _ => binOp .eql 9 (vs u_s) (vs ⟨#[102, 97, 108, 115, 101]⟩))) h (vb p8)) ∧ (J10 p8)))))))))
theorem ok_value_Parse {u_s : ByteArray} {h : Hp} {R : Value → Hp → Prop} (H : VC_value_Parse u_s h R) : CallOK Tryd.prog 17 [(vs u_s)] h R :=
  call_of (cfg := ⟨[], [], []⟩) noNG mixed Tryd.func17 [.one (.v (vs u_s))] (by kernel_rfl) rfl (by kernel_rfl) H

end Go.Proofs.YtgonnpleihbklaaDoor
/-
  What functions of the program ask, in words: each is what the framework reckons from the loaded code (the kernel holds the two together), and gives the function's call. Conditions: none.
-/
namespace Go.Proofs.YtgonnpleihbklaaDoor
open Go Go.Vc
set_option maxRecDepth 100000
set_option linter.unusedVariables false
/-- What 'penstock/penstockref.ValueOf' asks. -/
def VC_R_ValueOf (u_s : ByteArray) (h : Hp) (R : Value → Hp → Prop) : Prop :=
  (∃ (p1 : Bool), (Rd Tryd.prog ((eqGuard .eql 9 (.tmp 6) (.const (vs ⟨#[110, 117, 108, 108]⟩)) (vs u_s) (vs ⟨#[110, 117, 108, 108]⟩) >>= fun _ => binOp .eql 9 (vs u_s) (vs ⟨#[110, 117, 108, 108]⟩))) h (vb p1)) ∧ ((p1 = true → R (vtup [(vag [(vi 0), (vi 0)]), (vi 0)]) h) ∧ (p1 = false → (∃ (p3 : Bool), (Rd Tryd.prog ((eqGuard .eql 9 (.tmp 9) (.const (vs ⟨#[116, 114, 117, 101]⟩)) (vs u_s) (vs ⟨#[116, 114, 117, 101]⟩) >>= fun _ => binOp .eql 9 (vs u_s) (vs ⟨#[116, 114, 117, 101]⟩))) h (vb p3)) ∧ (∃ (p4 : Bool), (p3 = false → Rd Tryd.prog ((eqGuard .eql 9 (.tmp 12) (.const (vs ⟨#[102, 97, 108, 115, 101]⟩)) (vs u_s) (vs ⟨#[102, 97, 108, 115, 101]⟩) >>= fun _ => binOp .eql 9 (vs u_s) (vs ⟨#[102, 97, 108, 115, 101]⟩))) h (vb p4)) ∧ (((bif p3 then true else p4) = true → (∃ (p5 : Bool), (Rd Tryd.prog ((eqGuard .eql 9 (.tmp 15) (.const (vs ⟨#[116, 114, 117, 101]⟩)) (vs u_s) (vs ⟨#[116, 114, 117, 101]⟩) >>= fun _ => binOp .eql 9 (vs u_s) (vs ⟨#[116, 114, 117, 101]⟩))) h (vb p5)) ∧ (CallOK Tryd.prog 14 [(vb p5)] h fun v6 h7 => ∃ (x8 : Int) (x9 : Int), v6 = (vag [(vi x8), (vi x9)]) ∧ R (vtup [(vag [(vi x8), (vi x9)]), (vi 0)]) h7))) ∧ ((bif p3 then true else p4) = false → (∃ (x11 : Int), ((decide ((((ByteArray.size u_s : Nat) : Int) : Int) > 1)) = true → Rd Tryd.prog (Instr.index 9 (vs u_s) (vi 0)) h (vk .u8 x11)) ∧ (let J15 : ByteArray → Prop := fun (s16 : ByteArray) => (CallOK Tryd.prog 31 [(vs s16), (vi 1000000000), (vb true)] h fun v17 h18 => ∃ (x19 : Int), v17 = (vi x19) ∧ (((bif (decide ((x19 : Int) < 0)) then true else (bif (decide ((((ByteArray.size s16 : Nat) : Int) : Int) < ((ByteArray.size u_s : Nat) : Int))) then (decide ((x19 : Int) = 0)) else false)) = true → R (vtup [(vag [(vi 0), (vi 0)]), (vi 4)]) h18) ∧ ((bif (decide ((x19 : Int) < 0)) then true else (bif (decide ((((ByteArray.size s16 : Nat) : Int) : Int) < ((ByteArray.size u_s : Nat) : Int))) then (decide ((x19 : Int) = 0)) else false)) = false → (let J24 : Int → Prop := fun (x25 : Int) => (CallOK Tryd.prog 12 [(vi x25)] h18 fun v26 h27 => ∃ (x28 : Int) (x29 : Int), v26 = (vag [(vi x28), (vi x29)]) ∧ R (vtup [(vag [(vi x28), (vi x29)]), (vi 0)]) h27); (((decide ((((ByteArray.size s16 : Nat) : Int) : Int) < ((ByteArray.size u_s : Nat) : Int))) = true → (∃ (x21 : Int), (IsW x21 (-x19)) ∧ (J24 x21))) ∧ ((decide ((((ByteArray.size s16 : Nat) : Int) : Int) < ((ByteArray.size u_s : Nat) : Int))) = false → (J24 x19))))))); (((bif (decide ((((ByteArray.size u_s : Nat) : Int) : Int) > 1)) then (decide ((x11 : Int) = 45)) else false) = true → (∃ (s12 : ByteArray), (Rd Tryd.prog (Instr.sliceAt 9 (vs u_s) (some (vi 1)) none none) h (vs s12)) ∧ (J15 s12))) ∧ ((bif (decide ((((ByteArray.size u_s : Nat) : Int) : Int) > 1)) then (decide ((x11 : Int) = 45)) else false) = false → (J15 u_s))))))))))))
theorem ok_R_ValueOf {u_s : ByteArray} {h : Hp} {R : Value → Hp → Prop} (H : VC_R_ValueOf u_s h R) : CallOK Tryd.prog 18 [(vs u_s)] h R :=
  call_of (cfg := ⟨[], [], []⟩) noNG mixed Tryd.func18 [.one (.v (vs u_s))] (by kernel_rfl) rfl (by kernel_rfl) H

/-- What 'penstock/penstockref.natural' asks. -/
def VC_R_natural (u_s : ByteArray) (u_most : Int) (u_plain : Bool) (h : Hp) (R : Value → Hp → Prop) : Prop :=
  (∃ (x1 : Int), (((decide ((((ByteArray.size u_s : Nat) : Int) : Int) < 1)) = false ∧ u_plain = true) → Rd Tryd.prog (Instr.index 9 (vs u_s) (vi 0)) h (vk .u8 x1)) ∧ (((bif (decide ((((ByteArray.size u_s : Nat) : Int) : Int) < 1)) then true else (bif (bif u_plain then (decide ((x1 : Int) = 48)) else false) then (decide ((((ByteArray.size u_s : Nat) : Int) : Int) > 1)) else false)) = true → R (vi (-1)) h) ∧ ((bif (decide ((((ByteArray.size u_s : Nat) : Int) : Int) < 1)) then true else (bif (bif u_plain then (decide ((x1 : Int) = 48)) else false) then (decide ((((ByteArray.size u_s : Nat) : Int) : Int) > 1)) else false)) = false → (∃ (I4 : List Value → Hp → Prop) (m5 : List Value → Hp → Nat), I4 [(vi 0), (vi 0)] h ∧ ∀ (vs6 : List Value) (h7 : Hp), I4 vs6 h7 → ∃ (x8 : Int) (x9 : Int), vs6 = [(vi x8), (vi x9)] ∧ (((decide ((x9 : Int) < ((ByteArray.size u_s : Nat) : Int))) = true → (∃ (x12 : Int), (Rd Tryd.prog (Instr.index 9 (vs u_s) (vi x9)) h7 (vk .u8 x12)) ∧ (∃ (x13 : Int), ((decide ((x12 : Int) < 48)) = false → Rd Tryd.prog (Instr.index 9 (vs u_s) (vi x9)) h7 (vk .u8 x13)) ∧ (((bif (decide ((x12 : Int) < 48)) then true else (decide ((x13 : Int) > 57))) = true → R (vi (-1)) h7) ∧ ((bif (decide ((x12 : Int) < 48)) then true else (decide ((x13 : Int) > 57))) = false → (∃ (x15 : Int), (IsW x15 (10 * x8)) ∧ (∃ (x16 : Int), (Rd Tryd.prog (Instr.index 9 (vs u_s) (vi x9)) h7 (vk .u8 x16)) ∧ (∃ (x17 : Int), (Rd Tryd.prog (binOp .sub 5 (vk .u8 x16) (vk .u8 48)) h7 (vk .u8 x17)) ∧ (∃ (x18 : Int), (IsW x18 (x15 + (IntKind.wrap .i64 x17))) ∧ (((decide ((x18 : Int) > u_most)) = true → R (vi (-1)) h7) ∧ ((decide ((x18 : Int) > u_most)) = false → (∃ (x20 : Int), (IsW x20 (x9 + 1)) ∧ (I4 [(vi x18), (vi x20)] h7 ∧ m5 [(vi x18), (vi x20)] h7 < m5 vs6 h7))))))))))))) ∧ ((decide ((x9 : Int) < ((ByteArray.size u_s : Nat) : Int))) = false → R (vi x8) h7))))))
theorem ok_R_natural {u_s : ByteArray} {u_most : Int} {u_plain : Bool} {h : Hp} {R : Value → Hp → Prop} (H : VC_R_natural u_s u_most u_plain h R) : CallOK Tryd.prog 31 [(vs u_s), (vi u_most), (vb u_plain)] h R :=
  call_of (cfg := ⟨[], [(5, ([7, 8], [.one (.int .i64), .one (.int .i64)], []))], []⟩) noNG mixed Tryd.func31 [.one (.v (vs u_s)), .one (.v (vi u_most)), .one (.v (vb u_plain))] (by kernel_rfl) rfl (by kernel_rfl) H

-- FAIL penstock/penstockref.Decimal Fail   no one order: 8 behind 2
/-- What 'penstock/penstockref.ValueText' asks. -/
def VC_R_ValueText (u_vKind : Int) (u_vN : Int) (h : Hp) (R : Value → Hp → Prop) : Prop :=
  (((decide ((u_vKind : Int) = 0)) = true → R (vs ⟨#[110, 117, 108, 108]⟩) h) ∧ ((decide ((u_vKind : Int) = 0)) = false → (((decide ((u_vKind : Int) = 1)) = true → (CallOK Tryd.prog 36 [(vi u_vN)] h fun v2 h3 => ∃ (s4 : ByteArray), v2 = (vs s4) ∧ R (vs s4) h3)) ∧ ((decide ((u_vKind : Int) = 1)) = false → (((decide ((u_vN : Int) = 1)) = true → R (vs ⟨#[116, 114, 117, 101]⟩) h) ∧ ((decide ((u_vN : Int) = 1)) = false → R (vs ⟨#[102, 97, 108, 115, 101]⟩) h))))))
theorem ok_R_ValueText {u_vKind : Int} {u_vN : Int} {h : Hp} {R : Value → Hp → Prop} (H : VC_R_ValueText u_vKind u_vN h R) : CallOK Tryd.prog 28 [(vag [(vi u_vKind), (vi u_vN)])] h R :=
  call_of (cfg := ⟨[], [], []⟩) noNG mixed Tryd.func28 [.ag [.v (vi u_vKind), .v (vi u_vN)]] (by kernel_rfl) rfl (by kernel_rfl) H

end Go.Proofs.YtgonnpleihbklaaDoor
/-
  What functions of the program ask, in words: each is what the framework reckons from the loaded code (the kernel holds the two together), and gives the function's call. Conditions: none.
-/
namespace Go.Proofs.YtgonnpleihbklaaDoor
open Go Go.Vc
set_option maxRecDepth 100000
set_option linter.unusedVariables false
/-- What 'penstock/value.Truth' asks. -/
def VC_value_Truth (u_is : Bool) (h : Hp) (R : Value → Hp → Prop) : Prop :=
  ((u_is = true → R (vag [(vi 2), (vi 1)]) h) ∧ (u_is = false → R (vag [(vi 2), (vi 0)]) h))
theorem ok_value_Truth {u_is : Bool} {h : Hp} {R : Value → Hp → Prop} (H : VC_value_Truth u_is h R) : CallOK Tryd.prog 13 [(vb u_is)] h R :=
  call_of (cfg := ⟨[], [], []⟩) noNG mixed Tryd.func13 [.one (.v (vb u_is))] (by kernel_rfl) rfl (by kernel_rfl) H

/-- What 'penstock/value.numbers' asks. -/
def VC_value_numbers (u_aKind : Int) (u_aN : Int) (u_bKind : Int) (u_bN : Int) (h : Hp) (R : Value → Hp → Prop) : Prop :=
  R (vb (bif (decide ((u_aKind : Int) = 1)) then (decide ((u_bKind : Int) = 1)) else false)) h
theorem ok_value_numbers {u_aKind : Int} {u_aN : Int} {u_bKind : Int} {u_bN : Int} {h : Hp} {R : Value → Hp → Prop} (H : VC_value_numbers u_aKind u_aN u_bKind u_bN h R) : CallOK Tryd.prog 34 [(vag [(vi u_aKind), (vi u_aN)]), (vag [(vi u_bKind), (vi u_bN)])] h R :=
  call_of (cfg := ⟨[], [], []⟩) noNG mixed Tryd.func34 [.ag [.v (vi u_aKind), .v (vi u_aN)], .ag [.v (vi u_bKind), .v (vi u_bN)]] (by kernel_rfl) rfl (by kernel_rfl) H

/-- What 'penstock/value.Do' asks. -/
def VC_value_Do (u_op : Int) (u_aKind : Int) (u_aN : Int) (u_bKind : Int) (u_bN : Int) (h : Hp) (R : Value → Hp → Prop) : Prop :=
  (((decide ((u_op : Int) = 9)) = true → (CallOK Tryd.prog 23 [(vag [(vi u_aKind), (vi u_aN)]), (vag [(vi u_bKind), (vi u_bN)])] h fun v1 h2 => ∃ (x3 : Int) (x4 : Int), v1 = (vag [(vi x3), (vi x4)]) ∧ R (vag [(vi x3), (vi x4)]) h2)) ∧ ((decide ((u_op : Int) = 9)) = false → (((decide ((u_op : Int) = 10)) = true → (CallOK Tryd.prog 24 [(vag [(vi u_aKind), (vi u_aN)])] h fun v5 h6 => ∃ (x7 : Int) (x8 : Int), v5 = (vag [(vi x7), (vi x8)]) ∧ (CallOK Tryd.prog 24 [(vag [(vi u_bKind), (vi u_bN)])] h6 fun v9 h10 => ∃ (x11 : Int) (x12 : Int), v9 = (vag [(vi x11), (vi x12)]) ∧ (CallOK Tryd.prog 23 [(vag [(vi x7), (vi x8)]), (vag [(vi x11), (vi x12)])] h10 fun v13 h14 => ∃ (x15 : Int) (x16 : Int), v13 = (vag [(vi x15), (vi x16)]) ∧ (CallOK Tryd.prog 24 [(vag [(vi x15), (vi x16)])] h14 fun v17 h18 => ∃ (x19 : Int) (x20 : Int), v17 = (vag [(vi x19), (vi x20)]) ∧ R (vag [(vi x19), (vi x20)]) h18))))) ∧ ((decide ((u_op : Int) = 10)) = false → (CallOK Tryd.prog 34 [(vag [(vi u_aKind), (vi u_aN)]), (vag [(vi u_bKind), (vi u_bN)])] h fun v22 h23 => ∃ (p24 : Bool), v22 = (vb p24) ∧ (((!p24) = true → (CallOK Tryd.prog 10 [] h23 fun v25 h26 => ∃ (x27 : Int) (x28 : Int), v25 = (vag [(vi x27), (vi x28)]) ∧ R (vag [(vi x27), (vi x28)]) h26)) ∧ ((!p24) = false → (((decide ((u_op : Int) = 6)) = true → (∃ (x30 : Int), (IsW x30 (u_aN + u_bN)) ∧ (CallOK Tryd.prog 11 [(vi x30)] h23 fun v31 h32 => ∃ (x33 : Int) (x34 : Int), v31 = (vag [(vi x33), (vi x34)]) ∧ R (vag [(vi x33), (vi x34)]) h32))) ∧ ((decide ((u_op : Int) = 6)) = false → (((decide ((u_op : Int) = 7)) = true → (∃ (x35 : Int), (IsW x35 (u_aN - u_bN)) ∧ (CallOK Tryd.prog 11 [(vi x35)] h23 fun v36 h37 => ∃ (x38 : Int) (x39 : Int), v36 = (vag [(vi x38), (vi x39)]) ∧ R (vag [(vi x38), (vi x39)]) h37))) ∧ ((decide ((u_op : Int) = 7)) = false → (((decide ((u_op : Int) = 8)) = true → (∃ (x40 : Int), (IsW x40 (u_aN * u_bN)) ∧ (CallOK Tryd.prog 11 [(vi x40)] h23 fun v41 h42 => ∃ (x43 : Int) (x44 : Int), v41 = (vag [(vi x43), (vi x44)]) ∧ R (vag [(vi x43), (vi x44)]) h42))) ∧ ((decide ((u_op : Int) = 8)) = false → (((decide ((u_op : Int) = 11)) = true → (CallOK Tryd.prog 13 [(vb (decide ((u_aN : Int) < u_bN)))] h23 fun v45 h46 => ∃ (x47 : Int) (x48 : Int), v45 = (vag [(vi x47), (vi x48)]) ∧ R (vag [(vi x47), (vi x48)]) h46)) ∧ ((decide ((u_op : Int) = 11)) = false → (((decide ((u_op : Int) = 12)) = true → (CallOK Tryd.prog 13 [(vb (decide ((u_aN : Int) = u_bN)))] h23 fun v49 h50 => ∃ (x51 : Int) (x52 : Int), v49 = (vag [(vi x51), (vi x52)]) ∧ R (vag [(vi x51), (vi x52)]) h50)) ∧ ((decide ((u_op : Int) = 12)) = false → (CallOK Tryd.prog 10 [] h23 fun v54 h55 => ∃ (x56 : Int) (x57 : Int), v54 = (vag [(vi x56), (vi x57)]) ∧ R (vag [(vi x56), (vi x57)]) h55))))))))))))))))))
theorem ok_value_Do {u_op : Int} {u_aKind : Int} {u_aN : Int} {u_bKind : Int} {u_bN : Int} {h : Hp} {R : Value → Hp → Prop} (H : VC_value_Do u_op u_aKind u_aN u_bKind u_bN h R) : CallOK Tryd.prog 21 [(vi u_op), (vag [(vi u_aKind), (vi u_aN)]), (vag [(vi u_bKind), (vi u_bN)])] h R :=
  call_of (cfg := ⟨[], [], [(5, [0, 2, 1, 3, 4, 5, 6])]⟩) noNG mixed Tryd.func21 [.one (.v (vi u_op)), .ag [.v (vi u_aKind), .v (vi u_aN)], .ag [.v (vi u_bKind), .v (vi u_bN)]] (by kernel_rfl) rfl (by kernel_rfl) H

/-- What 'penstock/value.And' asks. -/
def VC_value_And (u_aKind : Int) (u_aN : Int) (u_bKind : Int) (u_bN : Int) (h : Hp) (R : Value → Hp → Prop) : Prop :=
  (CallOK Tryd.prog 13 [(vb false)] h fun v1 h2 => ∃ (x3 : Int) (x4 : Int), v1 = (vag [(vi x3), (vi x4)]) ∧ (∃ (p5 : Bool), (Rd Tryd.prog ((eqGuard .eql 32 (.tmp 8) (.tmp 9) (vag [(vi u_aKind), (vi u_aN)]) (vag [(vi x3), (vi x4)]) >>= fun _ => binOp .eql 32 (vag [(vi u_aKind), (vi u_aN)]) (vag [(vi x3), (vi x4)]))) h2 (vb p5)) ∧ (∃ (p6 : Bool), (p5 = false → Rd Tryd.prog ((eqGuard .eql 32 (.tmp 12) (.tmp 13) (vag [(vi u_bKind), (vi u_bN)]) (vag [(vi x3), (vi x4)]) >>= fun _ => binOp .eql 32 (vag [(vi u_bKind), (vi u_bN)]) (vag [(vi x3), (vi x4)]))) h2 (vb p6)) ∧ (((bif p5 then true else p6) = true → R (vag [(vi x3), (vi x4)]) h2) ∧ ((bif p5 then true else p6) = false → (((bif (decide ((u_aKind : Int) = 2)) then (decide ((u_bKind : Int) = 2)) else false) = true → (CallOK Tryd.prog 13 [(vb true)] h2 fun v7 h8 => ∃ (x9 : Int) (x10 : Int), v7 = (vag [(vi x9), (vi x10)]) ∧ R (vag [(vi x9), (vi x10)]) h8)) ∧ ((bif (decide ((u_aKind : Int) = 2)) then (decide ((u_bKind : Int) = 2)) else false) = false → (CallOK Tryd.prog 10 [] h2 fun v12 h13 => ∃ (x14 : Int) (x15 : Int), v12 = (vag [(vi x14), (vi x15)]) ∧ R (vag [(vi x14), (vi x15)]) h13))))))))
theorem ok_value_And {u_aKind : Int} {u_aN : Int} {u_bKind : Int} {u_bN : Int} {h : Hp} {R : Value → Hp → Prop} (H : VC_value_And u_aKind u_aN u_bKind u_bN h R) : CallOK Tryd.prog 23 [(vag [(vi u_aKind), (vi u_aN)]), (vag [(vi u_bKind), (vi u_bN)])] h R :=
  call_of (cfg := ⟨[], [], []⟩) noNG mixed Tryd.func23 [.ag [.v (vi u_aKind), .v (vi u_aN)], .ag [.v (vi u_bKind), .v (vi u_bN)]] (by kernel_rfl) rfl (by kernel_rfl) H

/-- What 'penstock/value.Not' asks. -/
def VC_value_Not (u_aKind : Int) (u_aN : Int) (h : Hp) (R : Value → Hp → Prop) : Prop :=
  (((decide ((u_aKind : Int) ≠ 2)) = true → (CallOK Tryd.prog 10 [] h fun v1 h2 => ∃ (x3 : Int) (x4 : Int), v1 = (vag [(vi x3), (vi x4)]) ∧ R (vag [(vi x3), (vi x4)]) h2)) ∧ ((decide ((u_aKind : Int) ≠ 2)) = false → (CallOK Tryd.prog 13 [(vb (decide ((u_aN : Int) = 0)))] h fun v6 h7 => ∃ (x8 : Int) (x9 : Int), v6 = (vag [(vi x8), (vi x9)]) ∧ R (vag [(vi x8), (vi x9)]) h7)))
theorem ok_value_Not {u_aKind : Int} {u_aN : Int} {h : Hp} {R : Value → Hp → Prop} (H : VC_value_Not u_aKind u_aN h R) : CallOK Tryd.prog 24 [(vag [(vi u_aKind), (vi u_aN)])] h R :=
  call_of (cfg := ⟨[], [], []⟩) noNG mixed Tryd.func24 [.ag [.v (vi u_aKind), .v (vi u_aN)]] (by kernel_rfl) rfl (by kernel_rfl) H

/-- What 'penstock/value.Neg' asks. -/
def VC_value_Neg (u_aKind : Int) (u_aN : Int) (h : Hp) (R : Value → Hp → Prop) : Prop :=
  (((decide ((u_aKind : Int) ≠ 1)) = true → (CallOK Tryd.prog 10 [] h fun v1 h2 => ∃ (x3 : Int) (x4 : Int), v1 = (vag [(vi x3), (vi x4)]) ∧ R (vag [(vi x3), (vi x4)]) h2)) ∧ ((decide ((u_aKind : Int) ≠ 1)) = false → (∃ (x6 : Int), (IsW x6 (-u_aN)) ∧ (CallOK Tryd.prog 11 [(vi x6)] h fun v7 h8 => ∃ (x9 : Int) (x10 : Int), v7 = (vag [(vi x9), (vi x10)]) ∧ R (vag [(vi x9), (vi x10)]) h8))))
theorem ok_value_Neg {u_aKind : Int} {u_aN : Int} {h : Hp} {R : Value → Hp → Prop} (H : VC_value_Neg u_aKind u_aN h R) : CallOK Tryd.prog 26 [(vag [(vi u_aKind), (vi u_aN)])] h R :=
  call_of (cfg := ⟨[], [], []⟩) noNG mixed Tryd.func26 [.ag [.v (vi u_aKind), .v (vi u_aN)]] (by kernel_rfl) rfl (by kernel_rfl) H

end Go.Proofs.YtgonnpleihbklaaDoor
/-
  What functions of the program ask, in words: each is what the framework reckons from the loaded code (the kernel holds the two together), and gives the function's call. Conditions: none.
-/
namespace Go.Proofs.YtgonnpleihbklaaDoor
open Go Go.Vc
set_option maxRecDepth 100000
set_option linter.unusedVariables false
/-- What 'penstock/value.Null' asks. -/
def VC_value_Null  (h : Hp) (R : Value → Hp → Prop) : Prop :=
  R (vag [(vi 0), (vi 0)]) h
theorem ok_value_Null  {h : Hp} {R : Value → Hp → Prop} (H : VC_value_Null  h R) : CallOK Tryd.prog 10 [] h R :=
  call_of (cfg := ⟨[], [], []⟩) noNG mixed Tryd.func10 [] (by kernel_rfl) rfl (by kernel_rfl) H

/-- What 'penstock/value.Number' asks. -/
def VC_value_Number (u_n : Int) (h : Hp) (R : Value → Hp → Prop) : Prop :=
  (((bif (decide ((u_n : Int) < (-1000000000))) then true else (decide ((u_n : Int) > 1000000000))) = true → R (vag [(vi 0), (vi 0)]) h) ∧ ((bif (decide ((u_n : Int) < (-1000000000))) then true else (decide ((u_n : Int) > 1000000000))) = false → R (vag [(vi 1), (vi u_n)]) h))
theorem ok_value_Number {u_n : Int} {h : Hp} {R : Value → Hp → Prop} (H : VC_value_Number u_n h R) : CallOK Tryd.prog 11 [(vi u_n)] h R :=
  call_of (cfg := ⟨[], [], []⟩) noNG mixed Tryd.func11 [.one (.v (vi u_n))] (by kernel_rfl) rfl (by kernel_rfl) H

end Go.Proofs.YtgonnpleihbklaaDoor
/-
  Contracts: package value: what a value is, numbers, '=='. Conditions: none.
-/
namespace Go.Proofs.YtgonnpleihbklaaDoor
open Go Go.Vc
set_option linter.unusedVariables false

/-- A value's cells: its kind, its number. -/
def encV (v : Int × Int) : List Value := [vi v.1, vi v.2]
theorem encV_len (v : Int × Int) : (encV v).length = 2 := rfl
theorem one_vals (l : List (Int × Int)) : ∀ u ∈ l.flatMap encV, u.oneCell' = true := by
  intro u hu
  obtain ⟨v, _, hv⟩ := List.mem_flatMap.1 hu
  simp [encV] at hv
  rcases hv with rfl | rfl <;> rfl
def numV (n : Int) : Int × Int := if n < -1000000000 ∨ n > 1000000000 then (0, 0) else (1, n)
theorem value_Number_ok {n : Int} {h : Hp} {R : Value → Hp → Prop} (hK : R (vag (encV (numV n))) h) : CallOK Tryd.prog 11 [vi n] h R := by
  refine ok_value_Number ?_
  unfold VC_value_Number
  refine ⟨fun e => ?_, fun e => ?_⟩
  · simp [Bool.cond_eq_ite] at e
    have : numV n = (0, 0) := by unfold numV; rw [if_pos (by omega)]
    rw [this] at hK
    exact hK
  · simp [Bool.cond_eq_ite] at e
    have : numV n = (1, n) := by unfold numV; rw [if_neg (by omega)]
    rw [this] at hK
    exact hK
theorem value_Null_ok {h : Hp} {R : Value → Hp → Prop} (hK : R (vag (encV (0, 0))) h) : CallOK Tryd.prog 10 [] h R := ok_value_Null hK
theorem eqFl_V (a b c d : Int) : eqFl Tryd.prog 8 32 [vi a, vi b] [vi c, vi d] = some (decide (a = c) && (decide (b = d) && true)) := by kernel_rfl
theorem dec_V (a b : Int × Int) : (decide (a.1 = b.1) && (decide (a.2 = b.2) && true)) = decide (a = b) := by
  obtain ⟨a1, a2⟩ := a
  obtain ⟨b1, b2⟩ := b
  rw [Bool.eq_iff_iff]
  simp [Prod.ext_iff]
/-- '==' and '!=' of two values. -/
theorem rd_eqV {h : Hp} {x y : Operand} {a b : Int × Int} : Rd Tryd.prog (eqGuard .eql 32 x y (vag (encV a)) (vag (encV b)) >>= fun _ => binOp .eql 32 (vag (encV a)) (vag (encV b))) h (vb (decide (a = b))) := by
  rw [← dec_V]
  exact rd_eql (eqFl_V _ _ _ _) (by kernel_rfl) (by kernel_rfl)
theorem rd_neqV {h : Hp} {x y : Operand} {a b : Int × Int} : Rd Tryd.prog (eqGuard .neq 32 x y (vag (encV a)) (vag (encV b)) >>= fun _ => binOp .neq 32 (vag (encV a)) (vag (encV b))) h (vb (!decide (a = b))) := by
  rw [← dec_V]
  exact rd_neq (eqFl_V _ _ _ _) (by kernel_rfl) (by kernel_rfl)

def smallV (v : Int × Int) : Prop := -1000000000 ≤ v.2 ∧ v.2 ≤ 1000000000
def goodV (v : Int × Int) : Prop := (v.1 = 0 ∧ v.2 = 0) ∨ (v.1 = 1 ∧ -1000000000 ≤ v.2 ∧ v.2 ≤ 1000000000) ∨ (v.1 = 2 ∧ (v.2 = 0 ∨ v.2 = 1))
instance (v : Int × Int) : Decidable (goodV v) := by unfold goodV; infer_instance
theorem goodV.small {v : Int × Int} (h : goodV v) : smallV v := by
  unfold goodV at h
  unfold smallV
  omega
end Go.Proofs.YtgonnpleihbklaaDoor
/-
  An error, told by its number. Conditions: none.
-/
namespace Go.Proofs.YtgonnpleihbklaaDoor
open Go Go.Vc
/-- The error of a number; nought: none. -/
def errV (f : Int) : Option (TypeId × Value) := if f = 0 then none else some (23, vi f)
theorem errV_none {f : Int} : (errV f).isNone = decide (f = 0) := by
  unfold errV
  by_cases h : f = 0 <;> simp [h]
theorem errV_some {f : Int} : (errV f).isSome = !decide (f = 0) := by
  unfold errV
  by_cases h : f = 0 <;> simp [h]
end Go.Proofs.YtgonnpleihbklaaDoor
/-
  Contracts: package value. Conditions: none.
-/
namespace Go.Proofs.YtgonnpleihbklaaDoor
open Go Go.Vc
set_option linter.unusedVariables false

def w64 (x : Int) : Int := IntKind.i64.wrap x
theorem w64_isW (x : Int) : IsW (w64 x) x := rfl
theorem w64_in {x : Int} (h : InR x) : w64 x = x := (isW h).symm
def truthV (b : Bool) : Int × Int := (2, if b then 1 else 0)
def andV (a b : Int × Int) : Int × Int := if a = (2, 0) ∨ b = (2, 0) then (2, 0) else if a.1 = 2 ∧ b.1 = 2 then (2, 1) else (0, 0)
def notV (a : Int × Int) : Int × Int := if a.1 = 2 then truthV (decide (a.2 = 0)) else (0, 0)
def negV (a : Int × Int) : Int × Int := if a.1 = 1 then numV (w64 (-a.2)) else (0, 0)
def doV (op : Int) (a b : Int × Int) : Int × Int :=
  if op = 9 then andV a b else if op = 10 then notV (andV (notV a) (notV b)) else if a.1 = 1 ∧ b.1 = 1 then
    (if op = 6 then numV (w64 (a.2 + b.2)) else if op = 7 then numV (w64 (a.2 - b.2)) else if op = 8 then numV (w64 (a.2 * b.2)) else if op = 11 then truthV (decide (a.2 < b.2)) else if op = 12 then truthV (decide (a.2 = b.2)) else (0, 0))
  else (0, 0)
def cmpI (x y : Int) : Int := if x < y then -1 else if x > y then 1 else 0
def cmpV (a b : Int × Int) : Int := if cmpI a.1 b.1 ≠ 0 then cmpI a.1 b.1 else cmpI a.2 b.2

theorem value_Truth_ok {b : Bool} {h : Hp} {R : Value → Hp → Prop} (hK : R (vag (encV (truthV b))) h) : CallOK Tryd.prog 13 [vb b] h R := by
  refine ok_value_Truth ?_
  unfold VC_value_Truth
  cases b with
  | true => exact ⟨fun _ => hK, fun e => by cases e⟩
  | false => exact ⟨fun e => by (cases e), fun _ => hK⟩
theorem value_numbers_ok {a b : Int × Int} {h : Hp} {R : Value → Hp → Prop} (hK : R (vb (decide (a.1 = 1 ∧ b.1 = 1))) h) : CallOK Tryd.prog 34 [vag (encV a), vag (encV b)] h R := by
  refine ok_value_numbers ?_
  unfold VC_value_numbers
  have : (bif (decide (a.1 = 1)) then (decide (b.1 = 1)) else false) = decide (a.1 = 1 ∧ b.1 = 1) := by
    by_cases h1 : a.1 = 1 <;> by_cases h2 : b.1 = 1 <;> simp [h1, h2]
  rw [this]
  exact hK
theorem value_And_ok {a b : Int × Int} {h : Hp} {R : Value → Hp → Prop} (hK : R (vag (encV (andV a b))) h) : CallOK Tryd.prog 23 [vag (encV a), vag (encV b)] h R := by
  refine ok_value_And ?_
  unfold VC_value_And
  refine value_Truth_ok ⟨_, _, rfl, _, rd_eqV (a := a) (b := (2, 0)), _, fun _ => rd_eqV (a := b) (b := (2, 0)), fun e => ?_, fun e => ⟨fun e2 => ?_, fun e2 => ?_⟩⟩
  · have : a = (2, 0) ∨ b = (2, 0) := by simpa [Bool.cond_eq_ite] using e
    unfold andV at hK
    rw [if_pos this] at hK
    exact hK
  all_goals have h1 : ¬ (a = (2, 0) ∨ b = (2, 0)) := by simpa [Bool.cond_eq_ite] using e
  all_goals unfold andV at hK
  all_goals rw [if_neg h1] at hK
  · rw [if_pos (by simpa [Bool.cond_eq_ite] using e2)] at hK
    exact value_Truth_ok ⟨_, _, rfl, hK⟩
  · rw [if_neg (by simpa [Bool.cond_eq_ite] using e2)] at hK
    exact value_Null_ok ⟨_, _, rfl, hK⟩
theorem value_Not_ok {a : Int × Int} {h : Hp} {R : Value → Hp → Prop} (hK : R (vag (encV (notV a))) h) : CallOK Tryd.prog 24 [vag (encV a)] h R := by
  refine ok_value_Not ?_
  unfold VC_value_Not
  unfold notV at hK
  refine ⟨fun e => ?_, fun e => ?_⟩
  · rw [if_neg (by simpa using e)] at hK
    exact value_Null_ok ⟨_, _, rfl, hK⟩
  · rw [if_pos (by simpa using e)] at hK
    exact value_Truth_ok ⟨_, _, rfl, hK⟩
theorem value_Neg_ok {a : Int × Int} {h : Hp} {R : Value → Hp → Prop} (hK : R (vag (encV (negV a))) h) : CallOK Tryd.prog 26 [vag (encV a)] h R := by
  refine ok_value_Neg ?_
  unfold VC_value_Neg
  unfold negV at hK
  refine ⟨fun e => ?_, fun e => ?_⟩
  · rw [if_neg (by simpa using e)] at hK
    exact value_Null_ok ⟨_, _, rfl, hK⟩
  · rw [if_pos (by simpa using e)] at hK
    exact ⟨_, w64_isW _, value_Number_ok ⟨_, _, rfl, hK⟩⟩
theorem value_Do_ok {op : Int} {a b : Int × Int} {h : Hp} {R : Value → Hp → Prop} (hK : R (vag (encV (doV op a b))) h) : CallOK Tryd.prog 21 [vi op, vag (encV a), vag (encV b)] h R := by
  refine ok_value_Do ?_
  unfold VC_value_Do
  unfold doV at hK
  refine ⟨fun e => ?_, fun e => ?_⟩
  · rw [if_pos (of_decide_eq_true e)] at hK
    exact value_And_ok ⟨_, _, rfl, hK⟩
  rw [if_neg (of_decide_eq_false e)] at hK
  refine ⟨fun e => ?_, fun e => ?_⟩
  · rw [if_pos (of_decide_eq_true e)] at hK
    exact value_Not_ok ⟨_, _, rfl, value_Not_ok ⟨_, _, rfl, value_And_ok ⟨_, _, rfl, value_Not_ok ⟨_, _, rfl, hK⟩⟩⟩⟩
  rw [if_neg (of_decide_eq_false e)] at hK
  refine value_numbers_ok ⟨_, rfl, fun e => ?_, fun e => ?_⟩
  · rw [if_neg (by simp at e; omega)] at hK
    exact value_Null_ok ⟨_, _, rfl, hK⟩
  rw [if_pos (by simpa using e)] at hK
  refine ⟨fun e => ?_, fun e => ?_⟩
  · rw [if_pos (of_decide_eq_true e)] at hK
    exact ⟨_, w64_isW _, value_Number_ok ⟨_, _, rfl, hK⟩⟩
  rw [if_neg (of_decide_eq_false e)] at hK
  refine ⟨fun e => ?_, fun e => ?_⟩
  · rw [if_pos (of_decide_eq_true e)] at hK
    exact ⟨_, w64_isW _, value_Number_ok ⟨_, _, rfl, hK⟩⟩
  rw [if_neg (of_decide_eq_false e)] at hK
  refine ⟨fun e => ?_, fun e => ?_⟩
  · rw [if_pos (of_decide_eq_true e)] at hK
    exact ⟨_, w64_isW _, value_Number_ok ⟨_, _, rfl, hK⟩⟩
  rw [if_neg (of_decide_eq_false e)] at hK
  refine ⟨fun e => ?_, fun e => ?_⟩
  · rw [if_pos (of_decide_eq_true e)] at hK
    exact value_Truth_ok ⟨_, _, rfl, hK⟩
  rw [if_neg (of_decide_eq_false e)] at hK
  refine ⟨fun e => ?_, fun e => ?_⟩
  · rw [if_pos (of_decide_eq_true e)] at hK
    exact value_Truth_ok ⟨_, _, rfl, hK⟩
  rw [if_neg (of_decide_eq_false e)] at hK
  exact value_Null_ok ⟨_, _, rfl, hK⟩
end Go.Proofs.YtgonnpleihbklaaDoor
/-
  What functions of the program ask, in words: each is what the framework reckons from the loaded code (the kernel holds the two together), and gives the function's call. Conditions: none.
-/
namespace Go.Proofs.YtgonnpleihbklaaDoor
open Go Go.Vc
set_option maxRecDepth 100000
set_option linter.unusedVariables false
/-- What 'penstock/penstockref.Num' asks. -/
def VC_R_Num (u_n : Int) (h : Hp) (R : Value → Hp → Prop) : Prop :=
  (((bif (decide ((u_n : Int) < (-1000000000))) then true else (decide ((u_n : Int) > 1000000000))) = true → R (vag [(vi 0), (vi 0)]) h) ∧ ((bif (decide ((u_n : Int) < (-1000000000))) then true else (decide ((u_n : Int) > 1000000000))) = false → R (vag [(vi 1), (vi u_n)]) h))
theorem ok_R_Num {u_n : Int} {h : Hp} {R : Value → Hp → Prop} (H : VC_R_Num u_n h R) : CallOK Tryd.prog 12 [(vi u_n)] h R :=
  call_of (cfg := ⟨[], [], []⟩) noNG mixed Tryd.func12 [.one (.v (vi u_n))] (by kernel_rfl) rfl (by kernel_rfl) H

/-- What 'penstock/penstockref.Truth' asks. -/
def VC_R_Truth (u_is : Bool) (h : Hp) (R : Value → Hp → Prop) : Prop :=
  ((u_is = true → R (vag [(vi 2), (vi 1)]) h) ∧ (u_is = false → R (vag [(vi 2), (vi 0)]) h))
theorem ok_R_Truth {u_is : Bool} {h : Hp} {R : Value → Hp → Prop} (H : VC_R_Truth u_is h R) : CallOK Tryd.prog 14 [(vb u_is)] h R :=
  call_of (cfg := ⟨[], [], []⟩) noNG mixed Tryd.func14 [.one (.v (vb u_is))] (by kernel_rfl) rfl (by kernel_rfl) H

/-- What 'penstock/penstockref.Do' asks. -/
def VC_R_Do (u_op : Int) (u_aKind : Int) (u_aN : Int) (u_bKind : Int) (u_bN : Int) (h : Hp) (R : Value → Hp → Prop) : Prop :=
  (CallOK Tryd.prog 14 [(vb false)] h fun v1 h2 => ∃ (x3 : Int) (x4 : Int), v1 = (vag [(vi x3), (vi x4)]) ∧ (CallOK Tryd.prog 14 [(vb true)] h2 fun v5 h6 => ∃ (x7 : Int) (x8 : Int), v5 = (vag [(vi x7), (vi x8)]) ∧ (((decide ((u_op : Int) = 9)) = true → (∃ (p9 : Bool), (Rd Tryd.prog ((eqGuard .eql 32 (.tmp 13) (.tmp 14) (vag [(vi u_aKind), (vi u_aN)]) (vag [(vi x3), (vi x4)]) >>= fun _ => binOp .eql 32 (vag [(vi u_aKind), (vi u_aN)]) (vag [(vi x3), (vi x4)]))) h6 (vb p9)) ∧ (∃ (p10 : Bool), (p9 = false → Rd Tryd.prog ((eqGuard .eql 32 (.tmp 17) (.tmp 18) (vag [(vi u_bKind), (vi u_bN)]) (vag [(vi x3), (vi x4)]) >>= fun _ => binOp .eql 32 (vag [(vi u_bKind), (vi u_bN)]) (vag [(vi x3), (vi x4)]))) h6 (vb p10)) ∧ (((bif p9 then true else p10) = true → R (vag [(vi x3), (vi x4)]) h6) ∧ ((bif p9 then true else p10) = false → (((bif (decide ((u_aKind : Int) = 2)) then (decide ((u_bKind : Int) = 2)) else false) = true → R (vag [(vi x7), (vi x8)]) h6) ∧ ((bif (decide ((u_aKind : Int) = 2)) then (decide ((u_bKind : Int) = 2)) else false) = false → R (vag [(vi 0), (vi 0)]) h6))))))) ∧ ((decide ((u_op : Int) = 9)) = false → (((decide ((u_op : Int) = 10)) = true → (((bif (bif (decide ((u_aKind : Int) = 2)) then (decide ((u_aN : Int) ≠ 0)) else false) then true else (bif (decide ((u_bKind : Int) = 2)) then (decide ((u_bN : Int) ≠ 0)) else false)) = true → R (vag [(vi x7), (vi x8)]) h6) ∧ ((bif (bif (decide ((u_aKind : Int) = 2)) then (decide ((u_aN : Int) ≠ 0)) else false) then true else (bif (decide ((u_bKind : Int) = 2)) then (decide ((u_bN : Int) ≠ 0)) else false)) = false → (((bif (decide ((u_aKind : Int) = 2)) then (decide ((u_bKind : Int) = 2)) else false) = true → R (vag [(vi x3), (vi x4)]) h6) ∧ ((bif (decide ((u_aKind : Int) = 2)) then (decide ((u_bKind : Int) = 2)) else false) = false → R (vag [(vi 0), (vi 0)]) h6))))) ∧ ((decide ((u_op : Int) = 10)) = false → (((bif (decide ((u_aKind : Int) ≠ 1)) then true else (decide ((u_bKind : Int) ≠ 1))) = true → R (vag [(vi 0), (vi 0)]) h6) ∧ ((bif (decide ((u_aKind : Int) ≠ 1)) then true else (decide ((u_bKind : Int) ≠ 1))) = false → (((decide ((u_op : Int) = 6)) = true → (∃ (x18 : Int), (IsW x18 (u_aN + u_bN)) ∧ (CallOK Tryd.prog 12 [(vi x18)] h6 fun v19 h20 => ∃ (x21 : Int) (x22 : Int), v19 = (vag [(vi x21), (vi x22)]) ∧ R (vag [(vi x21), (vi x22)]) h20))) ∧ ((decide ((u_op : Int) = 6)) = false → (((decide ((u_op : Int) = 7)) = true → (∃ (x23 : Int), (IsW x23 (u_aN - u_bN)) ∧ (CallOK Tryd.prog 12 [(vi x23)] h6 fun v24 h25 => ∃ (x26 : Int) (x27 : Int), v24 = (vag [(vi x26), (vi x27)]) ∧ R (vag [(vi x26), (vi x27)]) h25))) ∧ ((decide ((u_op : Int) = 7)) = false → (((decide ((u_op : Int) = 8)) = true → (∃ (x28 : Int), (IsW x28 (u_aN * u_bN)) ∧ (CallOK Tryd.prog 12 [(vi x28)] h6 fun v29 h30 => ∃ (x31 : Int) (x32 : Int), v29 = (vag [(vi x31), (vi x32)]) ∧ R (vag [(vi x31), (vi x32)]) h30))) ∧ ((decide ((u_op : Int) = 8)) = false → (((decide ((u_op : Int) = 11)) = true → (CallOK Tryd.prog 14 [(vb (decide ((u_aN : Int) < u_bN)))] h6 fun v33 h34 => ∃ (x35 : Int) (x36 : Int), v33 = (vag [(vi x35), (vi x36)]) ∧ R (vag [(vi x35), (vi x36)]) h34)) ∧ ((decide ((u_op : Int) = 11)) = false → (((decide ((u_op : Int) = 12)) = true → (CallOK Tryd.prog 14 [(vb (decide ((u_aN : Int) = u_bN)))] h6 fun v37 h38 => ∃ (x39 : Int) (x40 : Int), v37 = (vag [(vi x39), (vi x40)]) ∧ R (vag [(vi x39), (vi x40)]) h38)) ∧ ((decide ((u_op : Int) = 12)) = false → R (vag [(vi 0), (vi 0)]) h6))))))))))))))))))
theorem ok_R_Do {u_op : Int} {u_aKind : Int} {u_aN : Int} {u_bKind : Int} {u_bN : Int} {h : Hp} {R : Value → Hp → Prop} (H : VC_R_Do u_op u_aKind u_aN u_bKind u_bN h R) : CallOK Tryd.prog 22 [(vi u_op), (vag [(vi u_aKind), (vi u_aN)]), (vag [(vi u_bKind), (vi u_bN)])] h R :=
  call_of (cfg := ⟨[], [], []⟩) noNG mixed Tryd.func22 [.one (.v (vi u_op)), .ag [.v (vi u_aKind), .v (vi u_aN)], .ag [.v (vi u_bKind), .v (vi u_bN)]] (by kernel_rfl) rfl (by kernel_rfl) H

end Go.Proofs.YtgonnpleihbklaaDoor
/-
  Contracts: values, as the document has them. Conditions: none.
-/
namespace Go.Proofs.YtgonnpleihbklaaDoor
open Go Go.Vc
set_option linter.unusedVariables false

theorem R_Num_ok {n : Int} {h : Hp} {R : Value → Hp → Prop} (hK : R (vag (encV (numV n))) h) : CallOK Tryd.prog 12 [vi n] h R := by
  refine ok_R_Num ?_
  unfold VC_R_Num
  refine ⟨fun e => ?_, fun e => ?_⟩
  · simp [Bool.cond_eq_ite] at e
    have : numV n = (0, 0) := by unfold numV; rw [if_pos (by omega)]
    rw [this] at hK
    exact hK
  · simp [Bool.cond_eq_ite] at e
    have : numV n = (1, n) := by unfold numV; rw [if_neg (by omega)]
    rw [this] at hK
    exact hK
theorem R_Truth_ok {b : Bool} {h : Hp} {R : Value → Hp → Prop} (hK : R (vag (encV (truthV b))) h) : CallOK Tryd.prog 14 [vb b] h R := by
  refine ok_R_Truth ?_
  unfold VC_R_Truth
  cases b with
  | true => exact ⟨fun _ => hK, fun e => by cases e⟩
  | false => exact ⟨fun e => by (cases e), fun _ => hK⟩
theorem or10 (a b : Int × Int) : doV 10 a b = if (a.1 = 2 ∧ a.2 ≠ 0) ∨ (b.1 = 2 ∧ b.2 ≠ 0) then (2, 1) else if a.1 = 2 ∧ b.1 = 2 then (2, 0) else (0, 0) := by
  obtain ⟨a1, a2⟩ := a
  obtain ⟨b1, b2⟩ := b
  unfold doV andV notV truthV
  by_cases h1 : a1 = 2 <;> by_cases h2 : b1 = 2 <;> by_cases h3 : a2 = 0 <;> by_cases h4 : b2 = 0 <;> simp [h1, h2, h3, h4]
theorem R_Do_ok {op : Int} {a b : Int × Int} {h : Hp} {R : Value → Hp → Prop} (hK : R (vag (encV (doV op a b))) h) : CallOK Tryd.prog 22 [vi op, vag (encV a), vag (encV b)] h R := by
  refine ok_R_Do ?_
  unfold VC_R_Do
  refine R_Truth_ok ⟨_, _, rfl, R_Truth_ok ⟨_, _, rfl, fun e => ?_, fun e => ⟨fun e2 => ?_, fun e2 => ?_⟩⟩⟩
  · obtain rfl : op = 9 := of_decide_eq_true e
    have hd : doV 9 a b = andV a b := rfl
    rw [hd] at hK
    unfold andV at hK
    refine ⟨_, rd_eqV (b := truthV false), _, fun _ => rd_eqV (b := truthV false), fun q => ?_, fun q => ?_⟩
    · rw [if_pos] at hK
      · exact hK
      · by_cases h1 : a = (2, 0)
        · exact .inl h1
        · right
          have : decide (a = truthV false) = false := decide_eq_false h1
          rw [this] at q
          exact of_decide_eq_true q
    · have h1 : ¬ (a = (2, 0) ∨ b = (2, 0)) := by
        rintro (h1 | h1)
        · have : decide (a = truthV false) = true := decide_eq_true h1
          rw [this] at q; cases q
        · have : decide (b = truthV false) = true := decide_eq_true h1
          rw [this] at q
          cases h2 : decide (a = truthV false) <;> rw [h2] at q <;> cases q
      rw [if_neg h1] at hK
      refine ⟨fun q2 => ?_, fun q2 => ?_⟩
      · rw [if_pos (by simp [Bool.cond_eq_ite] at q2; exact q2)] at hK; exact hK
      · rw [if_neg (by simp [Bool.cond_eq_ite] at q2; omega)] at hK; exact hK
  · obtain rfl : op = 10 := of_decide_eq_true e2
    rw [or10] at hK
    refine ⟨fun q => ?_, fun q => ?_⟩
    · rw [if_pos (by simp [Bool.cond_eq_ite] at q; omega)] at hK; exact hK
    · rw [if_neg (by simp [Bool.cond_eq_ite] at q; omega)] at hK
      refine ⟨fun q2 => ?_, fun q2 => ?_⟩
      · rw [if_pos (by simp [Bool.cond_eq_ite] at q2; exact q2)] at hK; exact hK
      · rw [if_neg (by simp [Bool.cond_eq_ite] at q2; omega)] at hK; exact hK
  · unfold doV at hK
    rw [if_neg (of_decide_eq_false e), if_neg (of_decide_eq_false e2)] at hK
    refine ⟨fun q => ?_, fun q => ?_⟩
    · rw [if_neg (by simp [Bool.cond_eq_ite] at q; omega)] at hK; exact hK
    rw [if_pos (by simp [Bool.cond_eq_ite] at q; omega)] at hK
    refine ⟨fun e => ?_, fun e => ?_⟩
    · rw [if_pos (of_decide_eq_true e)] at hK
      exact ⟨_, w64_isW _, R_Num_ok ⟨_, _, rfl, hK⟩⟩
    rw [if_neg (of_decide_eq_false e)] at hK
    refine ⟨fun e => ?_, fun e => ?_⟩
    · rw [if_pos (of_decide_eq_true e)] at hK
      exact ⟨_, w64_isW _, R_Num_ok ⟨_, _, rfl, hK⟩⟩
    rw [if_neg (of_decide_eq_false e)] at hK
    refine ⟨fun e => ?_, fun e => ?_⟩
    · rw [if_pos (of_decide_eq_true e)] at hK
      exact ⟨_, w64_isW _, R_Num_ok ⟨_, _, rfl, hK⟩⟩
    rw [if_neg (of_decide_eq_false e)] at hK
    refine ⟨fun e => ?_, fun e => ?_⟩
    · rw [if_pos (of_decide_eq_true e)] at hK
      exact R_Truth_ok ⟨_, _, rfl, hK⟩
    rw [if_neg (of_decide_eq_false e)] at hK
    refine ⟨fun e => ?_, fun e => ?_⟩
    · rw [if_pos (of_decide_eq_true e)] at hK
      exact R_Truth_ok ⟨_, _, rfl, hK⟩
    rw [if_neg (of_decide_eq_false e)] at hK
    exact hK
end Go.Proofs.YtgonnpleihbklaaDoor
/-
  Contracts: values as texts: Text, Parse; and as the document has them. Conditions: that the tables and errors of the library lie as the program's text lays them; that the text is not too long.
-/
namespace Go.Proofs.YtgonnpleihbklaaDoor
open Go Go.Vc Go.Txt
set_option linter.unusedVariables false
set_option maxRecDepth 100000

/-- The library's two errors lie there. -/
structure TabE (h : Hp) : Prop where
  a : ∃ tp p, ∀ w, Sub h w → w.var? Tryd.prog "strconv.ErrSyntax" = some #[.iface tp p]
  b : ∃ tp p, ∀ w, Sub h w → w.var? Tryd.prog "strconv.ErrRange" = some #[.iface tp p]
theorem TabE.le {h h' : Hp} (T : TabE h) (hl : h.le h') : TabE h' := by
  obtain ⟨⟨t, p, a⟩, ⟨u, q, b⟩⟩ := T
  exact ⟨⟨t, p, fun w hs => a w (sub_le hl hs)⟩, ⟨u, q, fun w hs => b w (sub_le hl hs)⟩⟩
theorem strconv_Atoi_ok {l : List UInt8} (hl : l.length ≤ 1000000) {h : Hp} (E : TabE h) {R : Value → Hp → Prop} (hY : ∀ v, Lib.atoiAll l = .ok v → R (vtup [vi v, ifv none]) h) (hN : (∀ v, Lib.atoiAll l ≠ .ok v) → ∀ x e, R (vtup [vi x, ifv (some e)]) h) :
    CallOK Tryd.prog 30 [vs (bs l)] h R := by
  have hsz : (bs l).size = l.length := bs_size l
  have hdl : (bs l).data.toList = l := by simp [bs]
  obtain ⟨⟨t, p, ha⟩, ⟨u, q, hb⟩⟩ := E
  refine callOK_below fun w hs => ?_
  cases hA : Lib.atoiAll l
  · rename_i v
    refine (Tryd.strconv_Atoi_ok (bs l) (by omega) v (by rw [hdl]; exact hA) w).mono ?_
    rintro e w' ⟨he, hw⟩
    refine ⟨_, he, ?_, hY v hA⟩
    rcases hw with rfl | ⟨t, rfl⟩
    · exact RowKit.Below.refl _ _
    · exact Lib.bytesWorld_below _ _ _
  · refine (Any.strconv_Atoi_syntax_var Tryd.laysC172 (bs l) (by omega) (by rw [hdl]; exact hA) t p w (ha w hs)).mono ?_
    rintro e w' ⟨N, he, _, _, hB⟩
    exact ⟨_, he, hB, hN (fun v e => by rw [hA] at e; cases e) _ (_, _)⟩
  · refine (Any.strconv_Atoi_range_var Tryd.laysC172 (bs l) (by omega) (by rw [hdl]; exact hA) u q w (hb w hs)).mono ?_
    rintro e w' ⟨N, he, _, _, hB⟩
    exact ⟨_, he, hB, hN (fun v e => by rw [hA] at e; cases e) _ (_, _)⟩
def wNull : List UInt8 := [110, 117, 108, 108]
def wTrue : List UInt8 := [116, 114, 117, 101]
def wFalse : List UInt8 := [102, 97, 108, 115, 101]
/-- What is written of a value. -/
def textV (v : Int × Int) : List UInt8 := if v.1 = 0 then wNull else if v.1 = 1 then Lib.itoa v.2 else if v.2 = 0 then wFalse else wTrue
theorem value_Text_ok {v : Int × Int} (hn : InR v.2) {h : Hp} (T : TabP h) {R : Value → Hp → Prop} (hK : R (vs (bs (textV v))) h) : CallOK Tryd.prog 27 [vag (encV v)] h R := by
  refine ok_value_Text ?_
  unfold VC_value_Text
  unfold textV at hK
  refine ⟨fun g => ?_, fun g1 => ⟨fun g => ?_, fun g2 => ⟨fun g => ?_, fun g3 => ?_⟩⟩⟩
  · rw [if_pos (of_decide_eq_true g)] at hK; exact hK
  · rw [if_neg (of_decide_eq_false g1), if_pos (of_decide_eq_true g)] at hK
    exact strconv_Itoa_ok hn T ⟨_, rfl, hK⟩
  · rw [if_neg (of_decide_eq_false g1), if_neg (of_decide_eq_false g2), if_pos (of_decide_eq_true g)] at hK; exact hK
  · rw [if_neg (of_decide_eq_false g1), if_neg (of_decide_eq_false g2), if_neg (of_decide_eq_false g3)] at hK; exact hK
theorem R_ValueText_ok {v : Int × Int} (hv : goodV v) {h : Hp} {R : Value → Hp → Prop} (hK : R (vs (bs (textV v))) h) : CallOK Tryd.prog 28 [vag (encV v)] h R := by
  refine ok_R_ValueText ?_
  unfold VC_R_ValueText
  unfold textV at hK
  unfold goodV at hv
  refine ⟨fun g => ?_, fun g1 => ⟨fun g => ?_, fun g2 => ⟨fun g => ?_, fun g3 => ?_⟩⟩⟩
  · rw [if_pos (of_decide_eq_true g)] at hK; exact hK
  · rw [if_neg (of_decide_eq_false g1), if_pos (of_decide_eq_true g)] at hK
    have := of_decide_eq_true g
    exact R_Decimal_ok (by omega) (by omega) ⟨_, rfl, hK⟩
  · have g1 := of_decide_eq_false g1
    have g2 := of_decide_eq_false g2
    have g := of_decide_eq_true g
    rw [if_neg g1, if_neg g2, if_neg (by omega)] at hK; exact hK
  · have g1 := of_decide_eq_false g1
    have g2 := of_decide_eq_false g2
    have g3 := of_decide_eq_false g3
    rw [if_neg g1, if_neg g2, if_pos (by omega)] at hK; exact hK
/-- What is read of a text: a value, and 0; or none, and 4. -/
def readV (l : List UInt8) : (Int × Int) × Int :=
  if l = wNull then ((0, 0), 0) else if l = wTrue ∨ l = wFalse then (truthV (decide (l = wTrue)), 0) else
    match Lib.atoiAll l with
    | .ok v => if Lib.itoa v = l ∧ -1000000000 ≤ v ∧ v ≤ 1000000000 then (numV v, 0) else ((0, 0), 4)
    | _ => ((0, 0), 4)
theorem value_Parse_ok {l : List UInt8} (hl : l.length ≤ 1000000) {h : Hp} (T : TabP h) (E : TabE h) {R : Value → Hp → Prop} (hK : R (vtup [vag (encV (readV l).1), ifv (errV (readV l).2)]) h) : CallOK Tryd.prog 17 [vs (bs l)] h R := by
  refine ok_value_Parse ?_
  unfold VC_value_Parse
  refine ⟨_, rd_eqBs (b := wNull), fun g => ?_, fun g1 => ?_⟩
  · have g := of_decide_eq_true g
    have : readV l = ((0, 0), 0) := by unfold readV; rw [if_pos g]
    rw [this] at hK
    exact value_Null_ok ⟨_, _, rfl, hK⟩
  have g1 := of_decide_eq_false g1
  refine ⟨_, rd_eqBs (b := wTrue), ?_⟩
  intro J10
  have yes : l = wTrue ∨ l = wFalse → J10 true := by
    intro hw
    refine ⟨fun _ => ⟨_, rd_eqBs (b := wTrue), ?_⟩, fun g => by cases g⟩
    have : readV l = (truthV (decide (l = wTrue)), 0) := by unfold readV; rw [if_neg g1, if_pos hw]
    rw [this] at hK
    exact value_Truth_ok ⟨_, _, rfl, hK⟩
  have no : ¬ (l = wTrue ∨ l = wFalse) → J10 false := by
    intro hw
    refine ⟨fun g => by (cases g), fun _ => ?_⟩
    have hr : readV l = match Lib.atoiAll l with
      | .ok v => if Lib.itoa v = l ∧ -1000000000 ≤ v ∧ v ≤ 1000000000 then (numV v, 0) else ((0, 0), 4)
      | _ => ((0, 0), 4) := by unfold readV; rw [if_neg g1, if_neg hw]
    refine strconv_Atoi_ok hl E (fun v hv => ⟨_, _, rfl, ?_⟩) fun hn x e => ⟨_, _, rfl, ?_⟩
    · rw [hv] at hr
      simp only at hr
      have hb := Lib.atoiAll_bounds hv
      refine ⟨fun x h' => h' = h ∧ x = .t (.one (.v (vs (bs (Lib.itoa v))))), fun _ => strconv_Itoa_ok (by unfold InR; omega) T ⟨_, rfl, rfl, rfl⟩, fun g => absurd rfl g, ?_⟩
      rintro h26 s27 ⟨rfl, e⟩
      cases e
      refine ⟨_, fun _ => rd_neBs (a := Lib.itoa v) (b := l), fun g => ?_, fun g => ?_⟩
      · have : ¬ (Lib.itoa v = l ∧ -1000000000 ≤ v ∧ v ≤ 1000000000) := by
          rintro ⟨h1, h2, h3⟩
          rw [decide_eq_true h1, decide_eq_false (show ¬ v < -1000000000 by omega), decide_eq_false (show ¬ v > 1000000000 by omega)] at g
          cases g
        rw [hr, if_neg this] at hK
        exact hK
      · have : Lib.itoa v = l ∧ -1000000000 ≤ v ∧ v ≤ 1000000000 := by
          obtain ⟨g, g3⟩ := bor_false g
          obtain ⟨g, g2⟩ := bor_false g
          obtain ⟨_, g⟩ := bor_false g
          have g3 := of_decide_eq_false g3
          have g2 := of_decide_eq_false g2
          exact ⟨by simpa using g, by omega, by omega⟩
        rw [hr, if_pos this] at hK
        exact value_Number_ok ⟨_, _, rfl, hK⟩
    · have hr2 : readV l = ((0, 0), 4) := by
        rw [hr]
        cases hA : Lib.atoiAll l
        · exact absurd hA (hn _)
        · rfl
        · rfl
      rw [hr2] at hK
      refine ⟨fun x h' => h' = h ∧ ∃ s, x = .t (.one (.v (vs s))), fun g => by (cases g), fun _ => ⟨rfl, _, rfl⟩, ?_⟩
      rintro h26 s27 ⟨rfl, s, e⟩
      cases e
      exact ⟨false, fun g => by (cases g), fun _ => hK, fun g => by cases g⟩
  clear_value J10
  refine ⟨fun g => ?_, fun g2 => ⟨_, rd_eqBs (b := wFalse), ?_⟩⟩
  · rw [g]; exact yes (.inl (of_decide_eq_true g))
  · have g2 := of_decide_eq_false g2
    by_cases hf : l = wFalse
    · rw [decide_eq_true hf]; exact yes (.inr hf)
    · rw [decide_eq_false hf]; exact no (by rintro (h | h); exact g2 h; exact hf h)
theorem rd_subU8 {t : TypeId} {h : Hp} {a : Int} (h0 : 48 ≤ a) (h1 : a ≤ 255) : Rd Tryd.prog (binOp .sub t (vk .u8 a) (vk .u8 48)) h (vk .u8 (a - 48)) := by
  intro w _
  have e : IntKind.u8.wrap (a - 48) = a - 48 := by rw [IntKind.wrap_u8]; omega
  simp [binOp, Op.intArith, e]
theorem R_natural_ok {l : List UInt8} (hl : l.length ≤ 1000000) {most : Int} (hm : 0 ≤ most) (hm2 : most ≤ 1000000000000) {plain : Bool} {h : Hp} {R : Value → Hp → Prop} (hK : R (vi (natF l most plain)) h) : CallOK Tryd.prog 31 [vs (bs l), vi most, vb plain] h R := by
  refine ok_R_natural ?_
  unfold VC_R_natural
  rw [bs_size]
  refine ⟨((l.getD (0 : Int).toNat 0).toNat : Int), fun g => rd_idx (by kernel_rfl) (by decide) (by have := of_decide_eq_false g.1; omega), ?_⟩
  have hh : ∀ c r, l = c :: r → l.getD (0 : Int).toNat 0 = c := by rintro c r rfl; rfl
  have e48 : ∀ c : UInt8, (c.toNat : Int) = 48 ↔ c = 48 := by
    intro c
    constructor
    · intro e
      have : c.toNat = 48 := by omega
      have h2 := congrArg UInt8.ofNat this
      simpa using h2
    · rintro rfl; rfl
  have ep : ∀ (p : Prop) [Decidable p], (bif plain then decide p else false) = decide (plain = true ∧ p) := by
    intro p _
    cases plain <;> simp
  have key : (bif (decide ((l.length : Int) < 1)) then true else (bif (bif plain then (decide (((l.getD (0 : Int).toNat 0).toNat : Int) = 48)) else false) then (decide ((l.length : Int) > 1)) else false)) = decide (l = [] ∨ (plain = true ∧ l.head? = some 48 ∧ 1 < l.length)) := by
    rw [ep, cand, cor]
    refine decide_eq_decide.2 ?_
    match l, hh with
    | [], _ => exact ⟨fun _ => .inl rfl, fun _ => .inl (by decide)⟩
    | c :: r, hh =>
      rw [hh c r rfl, e48]
      constructor
      · rintro (h | ⟨⟨h1, h2⟩, h3⟩)
        · exfalso
          have : (c :: r).length = r.length + 1 := rfl
          omega
        · exact .inr ⟨h1, by rw [h2]; rfl, by omega⟩
      · rintro (h | ⟨h1, h2, h3⟩)
        · exact absurd h (by simp)
        · exact .inr ⟨⟨h1, by simpa using h2⟩, by omega⟩
  rw [key]
  clear key hh
  refine ⟨fun g => ?_, fun g => ?_⟩
  · have : natF l most plain = -1 := by unfold natF; rw [if_pos (of_decide_eq_true g)]
    rw [this] at hK; exact hK
  have : natF l most plain = natGo most 0 l := by unfold natF; rw [if_neg (of_decide_eq_false g)]
  rw [this] at hK
  clear this g
  refine ⟨fun vs hh => hh = h ∧ ∃ (a : Int) (i : Nat), vs = [vi a, vi i] ∧ i ≤ l.length ∧ natGo most 0 l = natGo most a (l.drop i) ∧ 0 ≤ a ∧ a ≤ most, fun vs hh => l.length - (vint vs 1).toNat, ⟨rfl, 0, 0, rfl, Nat.zero_le _, rfl, Int.le_refl _, hm⟩, ?_⟩
  rintro vs hh ⟨rfl, a, i, rfl, hi, hc, ha, ham⟩
  refine ⟨a, i, rfl, fun g => ?_, fun g => ?_⟩
  · have hlt : i < l.length := by have := of_decide_eq_true g; omega
    have hg : l.getD (i : Int).toNat 0 = l[i] := by rw [Int.toNat_natCast, List.getD_eq_getElem?_getD, List.getElem?_eq_getElem hlt]; rfl
    have hr : Rd Tryd.prog (Instr.index 9 (vs (bs l)) (vi i)) hh (vk .u8 ((l[i]).toNat : Nat)) := by
      have := rd_idx (P := Tryd.prog) (h := hh) (t := 9) (l := l) (i := (i : Int)) (by kernel_rfl) (by omega) (by omega)
      rw [hg] at this
      exact this
    rw [List.drop_eq_getElem_cons hlt, natGo] at hc
    have hb := UInt8.toNat_lt l[i]
    generalize l[i] = c at *
    refine ⟨_, hr, _, fun _ => hr, fun q => ?_, fun q => ?_⟩
    · rw [cor] at q
      have q := of_decide_eq_true q
      rw [if_pos (by omega)] at hc
      rw [hc] at hK; exact hK
    · rw [cor] at q
      have q := of_decide_eq_false q
      rw [if_neg (by omega)] at hc
      have e64 : IntKind.wrap .i64 ((c.toNat : Int) - 48) = (c.toNat : Int) - 48 := IntWalk.i64_in _ (by omega)
      refine ⟨_, isW (by unfold InR; omega), _, hr, _, rd_subU8 (by omega) (by omega), ?_⟩
      rw [e64]
      refine ⟨_, isW (by unfold InR; omega), fun q2 => ?_, fun q2 => ?_⟩
      · rw [if_pos (of_decide_eq_true q2)] at hc
        rw [hc] at hK; exact hK
      · have q2 := of_decide_eq_false q2
        rw [if_neg q2] at hc
        exact ⟨_, isW (by unfold InR; omega), ⟨rfl, _, i + 1, rfl, by omega, hc, by omega, by omega⟩, by simp [vint]; omega⟩
  · have hge : i = l.length := by have := of_decide_eq_false g; omega
    subst hge
    rw [List.drop_eq_nil_of_le (Nat.le_refl _), natGo] at hc
    rw [hc] at hK; exact hK
/-- A text behind its sign. -/
def tailV (l : List UInt8) : List UInt8 := if 1 < l.length ∧ l.head? = some 45 then l.drop 1 else l
/-- What the document reads. -/
def readR (l : List UInt8) : (Int × Int) × Int :=
  if l = wNull then ((0, 0), 0) else if l = wTrue ∨ l = wFalse then (truthV (decide (l = wTrue)), 0) else
    if natF (tailV l) 1000000000 true < 0 ∨ ((tailV l).length < l.length ∧ natF (tailV l) 1000000000 true = 0) then ((0, 0), 4)
    else (numV (if (tailV l).length < l.length then - natF (tailV l) 1000000000 true else natF (tailV l) 1000000000 true), 0)
theorem natF_le {l : List UInt8} {most : Int} (hm : 0 ≤ most) : natF l most true ≤ most := by
  by_cases h : 0 ≤ natF l most true
  · exact (natF_inv hm h).2
  · omega
theorem natF_ge {l : List UInt8} {most : Int} (hm : 0 ≤ most) : -1 ≤ natF l most true := by
  unfold natF
  split
  · omega
  · have := natGo_spec most l 0 hm
    simp only [Int.natCast_zero] at this
    rw [this]
    split <;> omega
theorem R_ValueOf_ok {l : List UInt8} (hl : l.length ≤ 1000000) {h : Hp} {R : Value → Hp → Prop} (hK : R (vtup [vag (encV (readR l).1), vi (readR l).2]) h) : CallOK Tryd.prog 18 [vs (bs l)] h R := by
  refine ok_R_ValueOf ?_
  unfold VC_R_ValueOf
  rw [bs_size]
  refine ⟨_, rd_eqBs (b := wNull), fun g => ?_, fun g1 => ⟨_, rd_eqBs (b := wTrue), _, fun _ => rd_eqBs (b := wFalse), ?_⟩⟩
  · have : readR l = ((0, 0), 0) := by unfold readR; rw [if_pos (of_decide_eq_true g)]
    rw [this] at hK; exact hK
  have g1 := of_decide_eq_false g1
  rw [cor]
  refine ⟨fun g => ⟨_, rd_eqBs (b := wTrue), R_Truth_ok ⟨_, _, rfl, ?_⟩⟩, fun g2 => ?_⟩
  · have : readR l = (truthV (decide (l = wTrue)), 0) := by unfold readR; rw [if_neg g1, if_pos (of_decide_eq_true g)]
    rw [this] at hK; exact hK
  have g2 := of_decide_eq_false g2
  have hr : readR l = if natF (tailV l) 1000000000 true < 0 ∨ ((tailV l).length < l.length ∧ natF (tailV l) 1000000000 true = 0) then ((0, 0), 4)
    else (numV (if (tailV l).length < l.length then - natF (tailV l) 1000000000 true else natF (tailV l) 1000000000 true), 0) := by unfold readR; rw [if_neg g1, if_neg g2]
  rw [hr] at hK
  clear hr
  refine ⟨((l.getD (0 : Int).toNat 0).toNat : Int), fun g => rd_idx (by kernel_rfl) (by decide) (by have := of_decide_eq_true g; omega), ?_⟩
  intro J15
  have hJ : ∀ t, t = tailV l → t.length ≤ l.length → J15 (bs t) := by
    intro t ht htl
    refine R_natural_ok (by omega) (by decide) (by decide) ⟨_, rfl, ?_⟩
    rw [← ht] at hK
    have hb1 := natF_le (l := t) (most := 1000000000) (by decide)
    have hb2 := natF_ge (l := t) (most := 1000000000) (by decide)
    generalize natF t 1000000000 true = n at *
    rw [bs_size]
    have e : (bif (decide ((n : Int) < 0)) then true else (bif (decide (((t.length : Nat) : Int) < ((l.length : Nat) : Int))) then (decide ((n : Int) = 0)) else false)) = decide (n < 0 ∨ (t.length < l.length ∧ n = 0)) := by
      rw [cand, cor]
      exact decide_eq_decide.2 (by omega)
    rw [e]
    refine ⟨fun g => ?_, fun g => ?_⟩
    · rw [if_pos (of_decide_eq_true g)] at hK; exact hK
    · rw [if_neg (of_decide_eq_false g)] at hK
      refine ⟨fun g => ⟨_, isW (by unfold InR; omega), R_Num_ok ⟨_, _, rfl, ?_⟩⟩, fun g => R_Num_ok ⟨_, _, rfl, ?_⟩⟩
      · rw [if_pos (by have := of_decide_eq_true g; omega)] at hK; exact hK
      · rw [if_neg (by have := of_decide_eq_false g; omega)] at hK; exact hK
  clear_value J15
  have e45 : (bif (decide ((l.length : Int) > 1)) then (decide (((l.getD (0 : Int).toNat 0).toNat : Int) = 45)) else false) = decide (1 < l.length ∧ l.head? = some 45) := by
    rw [cand]
    refine decide_eq_decide.2 ?_
    match l with
    | [] => simp
    | c :: r =>
      have e : (c.toNat : Int) = 45 ↔ c = 45 := by
        constructor
        · intro e
          have : c.toNat = 45 := by omega
          have h2 := congrArg UInt8.ofNat this
          simpa using h2
        · rintro rfl; rfl
      show _ ∧ (c.toNat : Int) = 45 ↔ _
      rw [e]
      simp
      omega
  rw [e45]
  refine ⟨fun g => ⟨_, rd_cutL (by kernel_rfl) (by decide) (by have := (of_decide_eq_true g).1; omega), ?_⟩, fun g => ?_⟩
  · refine hJ _ ?_ (by simp)
    unfold tailV
    rw [if_pos (of_decide_eq_true g)]
    rfl
  · refine hJ _ ?_ (Nat.le_refl _)
    unfold tailV
    rw [if_neg (of_decide_eq_false g)]
/-- Both read the same. -/
theorem read_same (l : List UInt8) : readV l = readR l := by
  unfold readV readR
  split
  · rfl
  · split
    · rfl
    · have hi := fun h => natF_inv (l := tailV l) (most := 1000000000) (by decide) h
      have hle := natF_le (l := tailV l) (most := 1000000000) (by decide)
      by_cases hc : natF (tailV l) 1000000000 true < 0 ∨ ((tailV l).length < l.length ∧ natF (tailV l) 1000000000 true = 0)
      · rw [if_pos hc]
        cases hA : Lib.atoiAll l with
        | ok v =>
          simp only
          rw [if_neg]
          rintro ⟨h1, h2, h3⟩
          by_cases hv : v < 0
          · have e := itoa_minus hv
            rw [h1] at e
            have hd := dec_spec (-v).toNat
            have ei : Lib.itoa (-v) = Lib.decDigits (-v).toNat := by unfold Lib.itoa; rw [if_neg (by omega)]
            rw [ei] at e
            have ht : tailV l = Lib.decDigits (-v).toNat := by
              unfold tailV
              have := List.length_pos_iff.2 hd.2.2.1
              rw [if_pos (by rw [e]; exact ⟨by simp; omega, rfl⟩), e]
              rfl
            have hn := natF_dec (k := (-v).toNat) (most := 1000000000) (by omega) (by decide)
            rw [← ht] at hn
            omega
          · have ei : Lib.itoa v = Lib.decDigits v.toNat := by unfold Lib.itoa; rw [if_neg hv]
            rw [ei] at h1
            have hd := dec_spec v.toNat
            have ht : tailV l = l := by
              unfold tailV
              rw [if_neg]
              rintro ⟨_, h4⟩
              rw [← h1] at h4
              have hm : (45 : UInt8) ∈ Lib.decDigits v.toNat := by
                match hx : Lib.decDigits v.toNat with
                | [] => rw [hx] at h4; cases h4
                | c :: r => rw [hx] at h4; simp at h4; subst h4; exact List.mem_cons_self ..
              have := hd.1 _ hm
              unfold isD at this
              simp at this
            have hn := natF_dec (k := v.toNat) (most := 1000000000) (by omega) (by decide)
            rw [h1, ← ht] at hn
            rw [ht] at hc
            rw [ht] at hn
            omega
        | _ => rfl
      · rw [if_neg hc]
        have h0 : 0 ≤ natF (tailV l) 1000000000 true := by omega
        obtain ⟨e1, _⟩ := hi h0
        generalize natF (tailV l) 1000000000 true = n at *
        have hl : ∃ m : Int, m = (if (tailV l).length < l.length then -n else n) ∧ Lib.itoa m = l ∧ -1000000000 ≤ m ∧ m ≤ 1000000000 := by
          refine ⟨_, rfl, ?_, ?_, ?_⟩
          · split
            · rename_i hlt
              have hs : 1 < l.length ∧ l.head? = some 45 := by
                unfold tailV at hlt
                split at hlt
                · assumption
                · omega
              have el : l = 45 :: tailV l := by
                unfold tailV
                rw [if_pos hs]
                match l, hs with
                | c :: r, hs => simp at hs ⊢; exact hs.2
              have hn0 : n ≠ 0 := fun e => hc (.inr ⟨hlt, e⟩)
              rw [itoa_minus (by omega)]
              have ei : Lib.itoa (- -n) = Lib.decDigits n.toNat := by
                unfold Lib.itoa
                rw [if_neg (by omega)]
                congr 1
                omega
              rw [ei, ← e1]
              exact el.symm
            · rename_i hlt
              have : tailV l = l := by
                unfold tailV at hlt ⊢
                split
                · rename_i h
                  rw [if_pos h] at hlt
                  simp at hlt
                  omega
                · rfl
              rw [this] at e1
              have ei : Lib.itoa n = Lib.decDigits n.toNat := by unfold Lib.itoa; rw [if_neg (by omega)]
              rw [ei, ← e1]
          · split <;> omega
          · split <;> omega
        obtain ⟨m, em, h1, h2, h3⟩ := hl
        rw [← em]
        have := atoi_itoa (n := m) (by omega) (by omega)
        rw [h1] at this
        rw [this]
        simp only
        rw [if_pos ⟨h1, h2, h3⟩]
end Go.Proofs.YtgonnpleihbklaaDoor
/-
  What functions of the program ask, in words: each is what the framework reckons from the loaded code (the kernel holds the two together), and gives the function's call. Conditions: none.
-/
namespace Go.Proofs.YtgonnpleihbklaaDoor
open Go Go.Vc
set_option maxRecDepth 100000
set_option linter.unusedVariables false
/-- What 'penstock/value.Check' asks. -/
def VC_value_Check (u_vKind : Int) (u_vN : Int) (h : Hp) (R : Value → Hp → Prop) : Prop :=
  (let J4 : Bool → Prop := fun (p5 : Bool) => ((p5 = true → R (ifv none) h) ∧ (p5 = false → R (ifv (some (23, (vi 3)))) h)); (((bif (decide ((u_vKind : Int) = 0)) then (decide ((u_vN : Int) = 0)) else false) = true → (J4 (bif (decide ((u_vKind : Int) = 0)) then (decide ((u_vN : Int) = 0)) else false))) ∧ ((bif (decide ((u_vKind : Int) = 0)) then (decide ((u_vN : Int) = 0)) else false) = false → (((bif (bif (decide ((u_vKind : Int) = 1)) then (decide ((u_vN : Int) ≥ (-1000000000))) else false) then (decide ((u_vN : Int) ≤ 1000000000)) else false) = true → (J4 (bif (bif (decide ((u_vKind : Int) = 1)) then (decide ((u_vN : Int) ≥ (-1000000000))) else false) then (decide ((u_vN : Int) ≤ 1000000000)) else false))) ∧ ((bif (bif (decide ((u_vKind : Int) = 1)) then (decide ((u_vN : Int) ≥ (-1000000000))) else false) then (decide ((u_vN : Int) ≤ 1000000000)) else false) = false → (J4 (bif (decide ((u_vKind : Int) = 2)) then (bif (decide ((u_vN : Int) = 0)) then true else (decide ((u_vN : Int) = 1))) else false)))))))
theorem ok_value_Check {u_vKind : Int} {u_vN : Int} {h : Hp} {R : Value → Hp → Prop} (H : VC_value_Check u_vKind u_vN h R) : CallOK Tryd.prog 15 [(vag [(vi u_vKind), (vi u_vN)])] h R :=
  call_of (cfg := ⟨[], [], []⟩) noNG mixed Tryd.func15 [.ag [.v (vi u_vKind), .v (vi u_vN)]] (by kernel_rfl) rfl (by kernel_rfl) H

end Go.Proofs.YtgonnpleihbklaaDoor
/-
  Contracts: package value: Check. Conditions: none.
-/
namespace Go.Proofs.YtgonnpleihbklaaDoor
open Go Go.Vc
set_option linter.unusedVariables false

theorem value_Check_ok {v : Int × Int} {h : Hp} {R : Value → Hp → Prop} (hK : R (ifv (errV (if goodV v then 0 else 3))) h) : CallOK Tryd.prog 15 [vag (encV v)] h R := by
  refine ok_value_Check ?_
  unfold VC_value_Check
  intro J4
  have yes : goodV v → J4 true := fun hg => ⟨fun _ => by rw [if_pos hg] at hK; exact hK, fun e => by cases e⟩
  have no : ¬ goodV v → J4 false := fun hg => ⟨fun e => (by cases e), fun _ => by rw [if_neg hg] at hK; exact hK⟩
  refine ⟨fun e => ?_, fun e => ⟨fun e2 => ?_, fun e2 => ?_⟩⟩
  · rw [e]; exact yes (by unfold goodV; simp [Bool.cond_eq_ite] at e; omega)
  · rw [e2]; exact yes (by unfold goodV; simp [Bool.cond_eq_ite] at e2; omega)
  · by_cases hg : goodV v
    · have : (bif (decide (v.1 = 2)) then (bif (decide (v.2 = 0)) then true else (decide (v.2 = 1))) else false) = true := by
        unfold goodV at hg
        simp [Bool.cond_eq_ite] at e e2 ⊢
        omega
      rw [this]; exact yes hg
    · have : (bif (decide (v.1 = 2)) then (bif (decide (v.2 = 0)) then true else (decide (v.2 = 1))) else false) = false := by
        unfold goodV at hg
        simp [Bool.cond_eq_ite]
        omega
      rw [this]; exact no hg
end Go.Proofs.YtgonnpleihbklaaDoor
/-
  What functions of the program ask, in words: each is what the framework reckons from the loaded code (the kernel holds the two together), and gives the function's call. Conditions: none.
-/
namespace Go.Proofs.YtgonnpleihbklaaDoor
open Go Go.Vc
set_option maxRecDepth 100000
set_option linter.unusedVariables false
/-- What 'penstock/value.Compare' asks. -/
def VC_value_Compare (u_aKind : Int) (u_aN : Int) (u_bKind : Int) (u_bN : Int) (h : Hp) (R : Value → Hp → Prop) : Prop :=
  (CallOK Tryd.prog 33 [(vi u_aKind), (vi u_bKind)] h fun v1 h2 => ∃ (x3 : Int), v1 = (vi x3) ∧ (CallOK Tryd.prog 33 [(vi u_aN), (vi u_bN)] h2 fun v4 h5 => ∃ (x6 : Int), v4 = (vi x6) ∧ (∀ (b7 : Nat), h5 b7 = none → let h8 : Hp := Hp.set h5 b7 (cellsO [(vi x3), (vi x6)] 3); (CallOK Tryd.prog 32 [(vsl (some (⟨b7, 0, none⟩ : Addr)) 2 2)] h8 fun v9 h10 => ∃ (x11 : Int), v9 = (vi x11) ∧ R (vi x11) h10))))
theorem ok_value_Compare {u_aKind : Int} {u_aN : Int} {u_bKind : Int} {u_bN : Int} {h : Hp} {R : Value → Hp → Prop} (H : VC_value_Compare u_aKind u_aN u_bKind u_bN h R) : CallOK Tryd.prog 20 [(vag [(vi u_aKind), (vi u_aN)]), (vag [(vi u_bKind), (vi u_bN)])] h R :=
  call_of (cfg := ⟨[], [], [(1, [0, 1, 2, 3, 5, 6, 7, 8, 4, 9, 10, 11, 12])]⟩) noNG mixed Tryd.func20 [.ag [.v (vi u_aKind), .v (vi u_aN)], .ag [.v (vi u_bKind), .v (vi u_bN)]] (by kernel_rfl) rfl (by kernel_rfl) H

/-- What 'cmp.Or[int]' asks. -/
def VC_cmp_Or_int (u_valsa : Option Addr) (u_valsn u_valsc : Nat) (h : Hp) (R : Value → Hp → Prop) : Prop :=
  (∃ (I2 : List Value → Hp → Prop) (m3 : List Value → Hp → Nat), I2 [(vi 0)] h ∧ ∀ (vs4 : List Value) (h5 : Hp), I2 vs4 h5 → ∃ (x6 : Int), vs4 = [(vi x6)] ∧ (((decide ((x6 : Int) < ((u_valsn : Nat) : Int))) = true → (∃ (b9 o10 : Nat), (u_valsa = some ⟨b9, o10, none⟩ ∧ (0 : Int) ≤ x6 ∧ x6 < ((u_valsn : Nat) : Int)) ∧ (∃ (x11 : Int), (Hp.cell h5 b9 (o10 + x6.toNat * 1) = some (vi x11)) ∧ (((decide ((x11 : Int) ≠ 0)) = true → R (vi x11) h5) ∧ ((decide ((x11 : Int) ≠ 0)) = false → (∃ (x13 : Int), (IsW x13 (x6 + 1)) ∧ (I2 [(vi x13)] h5 ∧ m3 [(vi x13)] h5 < m3 vs4 h5))))))) ∧ ((decide ((x6 : Int) < ((u_valsn : Nat) : Int))) = false → R (vi 0) h5)))
theorem ok_cmp_Or_int {u_valsa : Option Addr} {u_valsn u_valsc : Nat} {h : Hp} {R : Value → Hp → Prop} (H : VC_cmp_Or_int u_valsa u_valsn u_valsc h R) : CallOK Tryd.prog 32 [(vsl u_valsa u_valsn u_valsc)] h R :=
  call_of (cfg := ⟨[], [(3, ([8], [.one (.int .i64)], []))], []⟩) noNG mixed Tryd.func32 [.one (.v (vsl u_valsa u_valsn u_valsc))] (by kernel_rfl) rfl (by kernel_rfl) H

/-- What 'cmp.Compare[int]' asks. -/
def VC_cmp_Compare_int (u_x : Int) (u_y : Int) (h : Hp) (R : Value → Hp → Prop) : Prop :=
  (CallOK Tryd.prog 40 [(vi u_x)] h fun v1 h2 => ∃ (p3 : Bool), v1 = (vb p3) ∧ (CallOK Tryd.prog 40 [(vi u_y)] h2 fun v4 h5 => ∃ (p6 : Bool), v4 = (vb p6) ∧ ((p3 = true → ((p6 = true → R (vi 0) h5) ∧ (p6 = false → R (vi (-1)) h5))) ∧ (p3 = false → ((p6 = true → R (vi 1) h5) ∧ (p6 = false → (((decide ((u_x : Int) < u_y)) = true → R (vi (-1)) h5) ∧ ((decide ((u_x : Int) < u_y)) = false → (((decide ((u_x : Int) > u_y)) = true → R (vi 1) h5) ∧ ((decide ((u_x : Int) > u_y)) = false → R (vi 0) h5))))))))))
theorem ok_cmp_Compare_int {u_x : Int} {u_y : Int} {h : Hp} {R : Value → Hp → Prop} (H : VC_cmp_Compare_int u_x u_y h R) : CallOK Tryd.prog 33 [(vi u_x), (vi u_y)] h R :=
  call_of (cfg := ⟨[], [], []⟩) noNG mixed Tryd.func33 [.one (.v (vi u_x)), .one (.v (vi u_y))] (by kernel_rfl) rfl (by kernel_rfl) H

/-- What 'cmp.isNaN[int]' asks. -/
def VC_cmp_isNaN_int (u_x : Int) (h : Hp) (R : Value → Hp → Prop) : Prop :=
  R (vb (decide ((u_x : Int) ≠ u_x))) h
theorem ok_cmp_isNaN_int {u_x : Int} {h : Hp} {R : Value → Hp → Prop} (H : VC_cmp_isNaN_int u_x h R) : CallOK Tryd.prog 40 [(vi u_x)] h R :=
  call_of (cfg := ⟨[], [], []⟩) noNG mixed Tryd.func40 [.one (.v (vi u_x))] (by kernel_rfl) rfl (by kernel_rfl) H

end Go.Proofs.YtgonnpleihbklaaDoor
/-
  Contracts: package value: Compare. Conditions: none.
-/
namespace Go.Proofs.YtgonnpleihbklaaDoor
open Go Go.Vc
set_option linter.unusedVariables false

theorem cmp_Compare_ok {x y : Int} {h : Hp} {R : Value → Hp → Prop} (hK : R (vi (cmpI x y)) h) : CallOK Tryd.prog 33 [vi x, vi y] h R := by
  have nan : ∀ {z : Int} {K : Value → Hp → Prop}, K (vb false) h → CallOK Tryd.prog 40 [vi z] h K := by
    intro z K hk
    refine ok_cmp_isNaN_int ?_
    unfold VC_cmp_isNaN_int
    simpa using hk
  refine ok_cmp_Compare_int ?_
  unfold VC_cmp_Compare_int
  unfold cmpI at hK
  refine nan ⟨_, rfl, nan ⟨_, rfl, fun e => by (cases e), fun _ => ⟨fun e => by (cases e), fun _ => ⟨fun e => ?_, fun e => ⟨fun e2 => ?_, fun e2 => ?_⟩⟩⟩⟩⟩
  · rw [if_pos (of_decide_eq_true e)] at hK; exact hK
  · rw [if_neg (of_decide_eq_false e), if_pos (of_decide_eq_true e2)] at hK; exact hK
  · rw [if_neg (of_decide_eq_false e), if_neg (of_decide_eq_false e2)] at hK; exact hK
theorem cmp_Or2_ok {x y : Int} {a : Option Addr} {c : Nat} {h : Hp} {R : Value → Hp → Prop} (S : SlI h a 2 [x, y]) (hK : R (vi (if x ≠ 0 then x else y)) h) : CallOK Tryd.prog 32 [vsl a 2 c] h R := by
  refine ok_cmp_Or_int ?_
  unfold VC_cmp_Or_int
  refine ⟨fun vs hh => hh = h ∧ ∃ i : Nat, vs = [vi i] ∧ i ≤ 2 ∧ (0 < i → x = 0) ∧ (1 < i → y = 0), fun vs hh => 2 - (vint vs 0).toNat, ⟨rfl, 0, rfl, by decide, by simp, by simp⟩, ?_⟩
  rintro vs hh ⟨rfl, i, rfl, hi, h1, h2⟩
  refine ⟨i, rfl, fun e => ?_, fun e => ?_⟩
  · have hlt : i < 2 := by have := of_decide_eq_true e; omega
    obtain ⟨b, o, ea, hc⟩ := S.get hlt
    refine ⟨b, o, ⟨ea, by omega, by omega⟩, _, hc, fun e => ?_, fun e => ⟨_, isW (by unfold InR; omega), ⟨rfl, i + 1, rfl, by omega, ?_, ?_⟩, by simp [vint]; omega⟩⟩
    · match i, hlt with
      | 0, _ =>
        have hx : x ≠ 0 := of_decide_eq_true e
        rw [if_pos hx] at hK; exact hK
      | 1, _ =>
        have hx := h1 (by decide)
        rw [if_neg (by simp [hx])] at hK; exact hK
    · intro _
      match i, hlt with
      | 0, _ => have := of_decide_eq_false e; simpa using this
      | 1, _ => exact h1 (by decide)
    · intro hi1
      match i, hlt with
      | 0, _ => omega
      | 1, _ => have := of_decide_eq_false e; simpa using this
  · have hge : i = 2 := by have := of_decide_eq_false e; omega
    subst hge
    have hx := h1 (by decide)
    have hy := h2 (by decide)
    rw [if_neg (by simp [hx]), hy] at hK
    exact hK
theorem value_Compare_ok {a b : Int × Int} {h : Hp} {R : Value → Hp → Prop} (hK : ∀ h', h.le h' → R (vi (cmpV a b)) h') : CallOK Tryd.prog 20 [vag (encV a), vag (encV b)] h R := by
  refine ok_value_Compare ?_
  unfold VC_value_Compare
  refine cmp_Compare_ok ⟨_, rfl, cmp_Compare_ok ⟨_, rfl, ?_⟩⟩
  intro b7 hb7 h8
  refine cmp_Or2_ok (x := cmpI a.1 b.1) (y := cmpI a.2 b.2) ⟨rfl, HasRow.new _ _ [vi (cmpI a.1 b.1), vi (cmpI a.2 b.2)] _⟩ ⟨_, rfl, hK _ (Hp.le_set (Hp.le_refl h) hb7 _)⟩
end Go.Proofs.YtgonnpleihbklaaDoor
/-
  What functions of the program ask, in words: each is what the framework reckons from the loaded code (the kernel holds the two together), and gives the function's call. Conditions: none.
-/
namespace Go.Proofs.YtgonnpleihbklaaDoor
open Go Go.Vc
set_option maxRecDepth 100000
set_option linter.unusedVariables false
/-- What 'penstock/penstocklaw.same' asks. -/
def VC_law_same (u_err : Option (TypeId × Value)) (u_f : Int) (h : Hp) (R : Value → Hp → Prop) : Prop :=
  (((Option.isNone u_err) = true → R (vb (decide ((u_f : Int) = 0))) h) ∧ ((Option.isNone u_err) = false → (∃ (x2 : Int) (p3 : Bool), (Rd Tryd.prog (Instr.typeAssert (ifv u_err) 27 23 true) h (vtup [(vi x2), (vb p3)])) ∧ R (vb (bif (bif p3 then (decide ((u_f : Int) > 0)) else false) then (decide ((x2 : Int) = u_f)) else false)) h)))
theorem ok_law_same {u_err : Option (TypeId × Value)} {u_f : Int} {h : Hp} {R : Value → Hp → Prop} (H : VC_law_same u_err u_f h R) : CallOK Tryd.prog 6 [(ifv u_err), (vi u_f)] h R :=
  call_of (cfg := ⟨[], [], []⟩) noNG mixed Tryd.func6 [.one (.ifc u_err), .one (.v (vi u_f))] (by kernel_rfl) rfl (by kernel_rfl) H

end Go.Proofs.YtgonnpleihbklaaDoor
/-
  A contract: an error, told by its number. Conditions: that the number is not below nought.
-/
namespace Go.Proofs.YtgonnpleihbklaaDoor
open Go Go.Vc
set_option linter.unusedVariables false

theorem assertErrno (v : Value) (w : World) : (Instr.typeAssert (.iface 23 v) 27 23 true).run Tryd.prog w = .ok (.tuple #[v, .bool true]) w := by kernel_rfl
theorem law_same_ok {f g : Int} (hf : 0 ≤ f) {h : Hp} {R : Value → Hp → Prop} (hK : R (vb (decide (f = g))) h) : CallOK Tryd.prog 6 [ifv (errV f), vi g] h R := by
  refine ok_law_same ?_
  unfold VC_law_same
  by_cases h0 : f = 0
  · have e : errV f = none := by simp [errV, h0]
    rw [e]
    refine ⟨fun _ => ?_, fun e => by simp at e⟩
    have : decide (g = 0) = decide (f = g) := by rw [h0]; exact decide_eq_decide.2 eq_comm
    rw [this]; exact hK
  · have e : errV f = some (23, vi f) := by simp [errV, h0]
    rw [e]
    refine ⟨fun e => by simp at e, fun _ => ⟨f, true, fun w _ => assertErrno _ w, ?_⟩⟩
    have : (bif (bif true then (decide (g > 0)) else false) then (decide (f = g)) else false) = decide (f = g) := by
      by_cases hg : f = g
      · simp [hg]; omega
      · simp [hg]
    rw [this]; exact hK
end Go.Proofs.YtgonnpleihbklaaDoor
/-
  What functions of the program ask, in words: each is what the framework reckons from the loaded code (the kernel holds the two together), and gives the function's call. Conditions: none.
-/
namespace Go.Proofs.YtgonnpleihbklaaDoor
open Go Go.Vc
set_option maxRecDepth 100000
set_option linter.unusedVariables false
/-- What 'penstock/penstockref.ValueFault' asks. -/
def VC_R_ValueFault (u_vKind : Int) (u_vN : Int) (h : Hp) (R : Value → Hp → Prop) : Prop :=
  (((bif (bif (bif (decide ((u_vKind : Int) = 0)) then (decide ((u_vN : Int) = 0)) else false) then true else (bif (bif (decide ((u_vKind : Int) = 1)) then (decide ((u_vN : Int) ≥ (-1000000000))) else false) then (decide ((u_vN : Int) ≤ 1000000000)) else false)) then true else (bif (decide ((u_vKind : Int) = 2)) then (bif (decide ((u_vN : Int) = 0)) then true else (decide ((u_vN : Int) = 1))) else false)) = true → R (vi 0) h) ∧ ((bif (bif (bif (decide ((u_vKind : Int) = 0)) then (decide ((u_vN : Int) = 0)) else false) then true else (bif (bif (decide ((u_vKind : Int) = 1)) then (decide ((u_vN : Int) ≥ (-1000000000))) else false) then (decide ((u_vN : Int) ≤ 1000000000)) else false)) then true else (bif (decide ((u_vKind : Int) = 2)) then (bif (decide ((u_vN : Int) = 0)) then true else (decide ((u_vN : Int) = 1))) else false)) = false → R (vi 3) h))
theorem ok_R_ValueFault {u_vKind : Int} {u_vN : Int} {h : Hp} {R : Value → Hp → Prop} (H : VC_R_ValueFault u_vKind u_vN h R) : CallOK Tryd.prog 16 [(vag [(vi u_vKind), (vi u_vN)])] h R :=
  call_of (cfg := ⟨[], [], []⟩) noNG mixed Tryd.func16 [.ag [.v (vi u_vKind), .v (vi u_vN)]] (by kernel_rfl) rfl (by kernel_rfl) H

end Go.Proofs.YtgonnpleihbklaaDoor
/-
  Events: how they lie, how they are compared; which may be; the contract of a value that may be, as the document has it. Conditions: none.
-/
namespace Go.Proofs.YtgonnpleihbklaaDoor
open Go Go.Vc
set_option linter.unusedVariables false
set_option maxRecDepth 100000

/-- An event: its time, K, A, B. -/
abbrev EvL := Int × (Int × Int) × (Int × Int) × (Int × Int)
def encE (e : EvL) : List Value := [vi e.1, vi e.2.1.1, vi e.2.1.2, vi e.2.2.1.1, vi e.2.2.1.2, vi e.2.2.2.1, vi e.2.2.2.2]
theorem encE_len (e : EvL) : (encE e).length = 7 := rfl
theorem one_encE (e : EvL) : ∀ u ∈ encE e, u.oneCell' = true := by
  intro u hu
  simp [encE] at hu
  rcases hu with rfl | rfl | rfl | rfl | rfl | rfl | rfl <;> rfl
theorem one_evs (l : List EvL) : ∀ u ∈ l.flatMap encE, u.oneCell' = true := by
  intro u hu
  obtain ⟨v, _, hv⟩ := List.mem_flatMap.1 hu
  exact one_encE v u hv
theorem eqFl_E (a b c d e f g a' b' c' d' e' f' g' : Int) : eqFl Tryd.prog 8 52 [vi a, vi b, vi c, vi d, vi e, vi f, vi g] [vi a', vi b', vi c', vi d', vi e', vi f', vi g'] =
    some (decide (a = a') && ((decide (b = b') && (decide (c = c') && true)) && ((decide (d = d') && (decide (e = e') && true)) && ((decide (f = f') && (decide (g = g') && true)) && true)))) := by kernel_rfl
theorem dec_E (x y : EvL) : (decide (x.1 = y.1) && ((decide (x.2.1.1 = y.2.1.1) && (decide (x.2.1.2 = y.2.1.2) && true)) && ((decide (x.2.2.1.1 = y.2.2.1.1) && (decide (x.2.2.1.2 = y.2.2.1.2) && true)) && ((decide (x.2.2.2.1 = y.2.2.2.1) && (decide (x.2.2.2.2 = y.2.2.2.2) && true)) && true)))) = decide (x = y) := by
  obtain ⟨x1, ⟨x2, x3⟩, ⟨x4, x5⟩, ⟨x6, x7⟩⟩ := x
  obtain ⟨y1, ⟨y2, y3⟩, ⟨y4, y5⟩, ⟨y6, y7⟩⟩ := y
  rw [Bool.eq_iff_iff]
  simp [and_assoc]
theorem rd_neqE {h : Hp} {x y : Operand} {a b : EvL} : Rd Tryd.prog (eqGuard .neq 52 x y (vag (encE a)) (vag (encE b)) >>= fun _ => binOp .neq 52 (vag (encE a)) (vag (encE b))) h (vb (!decide (a = b))) := by
  rw [← dec_E]
  exact rd_neq (eqFl_E _ _ _ _ _ _ _ _ _ _ _ _ _ _) (by kernel_rfl) (by kernel_rfl)

def chkV (v : Int × Int) : Int := if ¬ goodV v ∨ v.1 = 2 then 3 else if v.2 < -1000 ∨ v.2 > 1000 then 1 else 0
def chkL : List (Int × Int) → Int
  | [] => 0
  | v :: l => if chkV v = 0 then chkL l else chkV v
/-- What is wrong with an event; 0: nothing. -/
def chkE (e : EvL) : Int := if e.1 < 0 ∨ e.1 > 9999 then 1 else chkL [e.2.1, e.2.2.1, e.2.2.2]
theorem chkV_2 (v : Int × Int) : 0 ≤ chkV v := by unfold chkV; split <;> (try split) <;> decide
theorem chkL_2 : ∀ l : List (Int × Int), 0 ≤ chkL l
  | [] => Int.le_refl 0
  | v :: l => by
    rw [chkL]
    split
    · exact chkL_2 l
    · exact chkV_2 v
theorem chkE_2 (e : EvL) : 0 ≤ chkE e := by
  unfold chkE
  split
  · decide
  · exact chkL_2 _
theorem R_ValueFault_ok {v : Int × Int} {h : Hp} {R : Value → Hp → Prop} (hK : R (vi (if goodV v then 0 else 3)) h) : CallOK Tryd.prog 16 [vag (encV v)] h R := by
  refine ok_R_ValueFault ?_
  unfold VC_R_ValueFault
  refine ⟨fun e => ?_, fun e => ?_⟩
  · rw [if_pos (by unfold goodV; simp [Bool.cond_eq_ite] at e; omega)] at hK; exact hK
  · rw [if_neg (by unfold goodV; simp [Bool.cond_eq_ite] at e; omega)] at hK; exact hK
theorem drop_get {α : Type} {l : List α} {i : Nat} (h : i < l.length) : l.drop i = l[i] :: l.drop (i + 1) := List.drop_eq_getElem_cons h
end Go.Proofs.YtgonnpleihbklaaDoor
/-
  The plain law of expressions: which may be, what they are worth, of which kind they are, what is cut out of them and put together. No program in sight. Conditions: none.
-/
namespace Go.Proofs.YtgonnpleihbklaaDoor
open Go Go.Vc
set_option linter.unusedVariables false

structure Nd where
  op : Int
  x : Int
  y : Int
  n : Int
  v : Int × Int
deriving DecidableEq
def arI (op : Int) : Int := if op = 1 ∨ op = 2 then 0 else if 3 ≤ op ∧ op ≤ 5 then 1 else if 6 ≤ op ∧ op ≤ 12 then 2 else -1
/-- What is wrong with a node as it stands. -/
def nodeF (n : Nd) : Int :=
  if arI n.op < 0 then 3 else if (n.op ≠ 1 ∧ n.v ≠ (0, 0)) ∨ (n.op ≠ 2 ∧ n.n ≠ 0) ∨ (arI n.op < 2 ∧ n.y ≠ 0) ∨ (arI n.op < 1 ∧ n.x ≠ 0) then 3 else if n.op = 2 ∧ (n.n < 0 ∨ n.n > 3) then 1 else if ¬ goodV n.v then 3 else 0
/-- Those that are nobody's yet, the last one ahead: a node takes its own. -/
def popN (n : Nd) (st : List Int) : Option (List Int) :=
  if arI n.op = 0 then some st else if arI n.op = 1 then
    match st with
    | a :: s => if a = n.x then some s else none
    | [] => none
  else
    match st with
    | b :: a :: s => if a = n.x ∧ b = n.y then some s else none
    | _ => none
def chkGo (st : List Int) (i : Nat) : List Nd → Int
  | [] => if st.length = 1 then 0 else 3
  | n :: l => if nodeF n ≠ 0 then nodeF n else match popN n st with
    | none => 3
    | some s => chkGo (i :: s) (i + 1) l
def exprF (l : List Nd) : Int := if l.length > 40 then 2 else chkGo [] 0 l
theorem nodeF_2 (n : Nd) : 0 ≤ nodeF n := by unfold nodeF; split <;> (try split) <;> (try split) <;> (try split) <;> decide
theorem chkGo_2 : ∀ (l : List Nd) (st : List Int) (i : Nat), 0 ≤ chkGo st i l
  | [], st, i => by rw [chkGo]; split <;> decide
  | n :: l, st, i => by
    rw [chkGo]
    split
    · exact nodeF_2 n
    · split
      · decide
      · exact chkGo_2 l _ _
theorem exprF_2 (l : List Nd) : 0 ≤ exprF l := by
  unfold exprF
  split
  · decide
  · exact chkGo_2 _ _ _

/-- Nodes f up to e are one expression, its root the last. -/
inductive Blk (l : List Nd) : Nat → Nat → Prop where
  | leaf {i : Nat} {n : Nd} : l[i]? = some n → arI n.op = 0 → Blk l i (i + 1)
  | one {f i : Nat} {n : Nd} : Blk l f i → l[i]? = some n → arI n.op = 1 → n.x = (i : Int) - 1 → Blk l f (i + 1)
  | two {f g i : Nat} {n : Nd} : Blk l f g → Blk l g i → l[i]? = some n → arI n.op = 2 → n.x = (g : Int) - 1 → n.y = (i : Int) - 1 → Blk l f (i + 1)
theorem Blk.lt {l : List Nd} {f e : Nat} (B : Blk l f e) : f < e ∧ e ≤ l.length := by
  induction B with
  | leaf h _ => exact ⟨Nat.lt_succ_self _, (List.getElem?_eq_some_iff.1 h).1⟩
  | one _ h _ _ ih => exact ⟨by omega, (List.getElem?_eq_some_iff.1 h).1⟩
  | two _ _ h _ _ _ ih1 ih2 => exact ⟨by omega, (List.getElem?_eq_some_iff.1 h).1⟩
/-- What stands open: expressions, one behind the other. -/
inductive Stk (l : List Nd) : List Int → Nat → Prop where
  | nil : Stk l [] 0
  | push {s : List Int} {f e : Nat} : Stk l s f → Blk l f e → Stk l (((e : Int) - 1) :: s) e
theorem arI_range {op : Int} (h : 0 ≤ arI op) : arI op = 0 ∨ arI op = 1 ∨ arI op = 2 := by
  unfold arI at *
  split <;> (try split) <;> (try split) <;> simp_all
theorem nodeF_ar {n : Nd} (h : nodeF n = 0) : 0 ≤ arI n.op := by
  unfold nodeF at h
  split at h
  · cases h
  · omega
theorem popN_stk {l : List Nd} {st s : List Int} {i : Nat} {n : Nd} (hn : l[i]? = some n) (h0 : nodeF n = 0) (S : Stk l st i) (h : popN n st = some s) : Stk l ((i : Int) :: s) (i + 1) := by
  have key : ∀ {f : Nat} {s : List Int}, Stk l s f → Blk l f (i + 1) → Stk l ((i : Int) :: s) (i + 1) := by
    intro f s S B
    have := Stk.push S B
    rw [show ((i + 1 : Nat) : Int) - 1 = i by omega] at this
    exact this
  unfold popN at h
  rcases arI_range (nodeF_ar h0) with h1 | h1 | h1
  · rw [if_pos h1] at h
    cases h
    exact key S (.leaf hn h1)
  · rw [if_neg (by omega), if_pos h1] at h
    cases S with
    | nil => cases h
    | push S B =>
      simp only at h
      split at h
      · rename_i hx
        cases h
        exact key S (.one B hn h1 hx.symm)
      · cases h
  · rw [if_neg (by omega), if_neg (by omega)] at h
    cases S with
    | nil => cases h
    | push S B =>
      cases S with
      | nil => cases h
      | push S B' =>
        simp only at h
        split at h
        · rename_i hx
          cases h
          exact key S (.two B' B hn h1 hx.1.symm hx.2.symm)
        · cases h
theorem chkGo_ok (l : List Nd) : ∀ (r : List Nd) (st : List Int) (i : Nat), l.drop i = r → i ≤ l.length → Stk l st i → chkGo st i r = 0 → (∀ n ∈ r, nodeF n = 0) ∧ ∃ z, Stk l [z] l.length
  | [], st, i, hr, hi, S, h => by
    have : i = l.length := by
      have := congrArg List.length hr
      simp at this
      omega
    subst this
    rw [chkGo] at h
    split at h
    · rename_i h1
      match st, h1 with
      | [z], _ => exact ⟨by simp, z, S⟩
    · cases h
  | n :: r, st, i, hr, hi, S, h => by
    have hlt : i < l.length := by
      have := congrArg List.length hr
      simp at this
      omega
    have hn : l[i]? = some n := by
      have := congrArg List.head? hr
      rw [List.head?_drop] at this
      exact this
    have hr' : l.drop (i + 1) = r := by
      rw [← List.drop_drop, hr]; rfl
    rw [chkGo] at h
    split at h
    · rename_i h1; exact absurd h h1
    · rename_i h1
      have h0 : nodeF n = 0 := by simpa using h1
      split at h
      · cases h
      · rename_i s hs
        obtain ⟨q1, q2⟩ := chkGo_ok l r _ (i + 1) hr' hlt (popN_stk hn h0 S hs) h
        refine ⟨fun m hm => ?_, q2⟩
        rcases List.mem_cons.1 hm with rfl | hm
        · exact h0
        · exact q1 m hm
theorem stk_one {l : List Nd} {z : Int} {e : Nat} (S : Stk l [z] e) : Blk l 0 e := by
  cases S with
  | push S B =>
    cases S with
    | nil => exact B
/-- An expression that may be. -/
structure OkE (l : List Nd) : Prop where
  n : ∀ n ∈ l, nodeF n = 0
  b : Blk l 0 l.length
theorem chkGo_okE {l : List Nd} (h : chkGo [] 0 l = 0) : OkE l := by
  obtain ⟨h1, z, h2⟩ := chkGo_ok l l [] 0 rfl (Nat.zero_le _) .nil h
  exact ⟨h1, stk_one h2⟩
theorem exprF_ok {l : List Nd} (h : exprF l = 0) : OkE l ∧ l.length ≤ 40 := by
  unfold exprF at h
  split at h
  · cases h
  · exact ⟨chkGo_okE h, by omega⟩
theorem OkE.pos {l : List Nd} (O : OkE l) : 0 < l.length := O.b.lt.1

/-- Each node ends an expression. -/
theorem Blk.sub {l : List Nd} {f e : Nat} (B : Blk l f e) : ∀ i, f ≤ i → i < e → ∃ g, f ≤ g ∧ Blk l g (i + 1) := by
  induction B with
  | @leaf j n h h0 => intro i h1 h2; obtain rfl : i = j := by omega
                      exact ⟨i, Nat.le_refl _, .leaf h h0⟩
  | @one f j n B h h0 hx ih =>
    intro i h1 h2
    by_cases hij : i = j
    · subst hij; exact ⟨f, Nat.le_refl _, .one B h h0 hx⟩
    · exact ih i h1 (by omega)
  | @two f g j n B B' h h0 hx hy ih1 ih2 =>
    intro i h1 h2
    have := B.lt
    by_cases hij : i = j
    · subst hij; exact ⟨f, Nat.le_refl _, .two B B' h h0 hx hy⟩
    · by_cases hg : i < g
      · exact ih1 i h1 hg
      · obtain ⟨k, hk, hb⟩ := ih2 i (by omega) (by omega)
        exact ⟨k, by omega, hb⟩
/-- What a node looks at stands ahead of it. -/
structure WfN (i : Nat) (n : Nd) : Prop where
  a : 0 ≤ arI n.op
  f : n.op = 2 → 0 ≤ n.n ∧ n.n ≤ 3
  x : 1 ≤ arI n.op → 0 ≤ n.x ∧ n.x < i
  y : 2 ≤ arI n.op → 0 ≤ n.y ∧ n.y < i
def WfL (l : List Nd) : Prop := ∀ (i : Nat) (n : Nd), l[i]? = some n → WfN i n
theorem nodeF_f {n : Nd} (h : nodeF n = 0) (h2 : n.op = 2) : 0 ≤ n.n ∧ n.n ≤ 3 := by
  unfold nodeF at h
  split at h
  · cases h
  · split at h
    · cases h
    · split at h
      · cases h
      · omega
theorem OkE.wf {l : List Nd} (O : OkE l) : WfL l := by
  intro i n hn
  have hlt := (List.getElem?_eq_some_iff.1 hn).1
  have h0 := O.n n (List.mem_of_getElem? hn)
  obtain ⟨g, _, B⟩ := O.b.sub i (Nat.zero_le _) hlt
  refine ⟨nodeF_ar h0, nodeF_f h0, fun h1 => ?_, fun h1 => ?_⟩
  · cases B with
    | leaf h ha => rw [hn] at h; cases h; omega
    | one B h ha hx => rw [hn] at h; cases h; have := B.lt; omega
    | two B B' h ha hx hy => rw [hn] at h; cases h; have := B.lt; have := B'.lt; omega
  · cases B with
    | leaf h ha => rw [hn] at h; cases h; omega
    | one B h ha hx => rw [hn] at h; cases h; omega
    | two B B' h ha hx hy => rw [hn] at h; cases h; have := B.lt; have := B'.lt; omega

/-- A node whose own stand elsewhere. -/
def shN (d : Int) (n : Nd) : Nd := { n with x := if 0 < arI n.op then n.x + d else n.x, y := if 1 < arI n.op then n.y + d else n.y }
theorem shN_op (d : Int) (n : Nd) : (shN d n).op = n.op := rfl
theorem shN_0 (n : Nd) : shN 0 n = n := by
  unfold shN
  simp
theorem shN_F {d : Int} {n : Nd} (h : nodeF n = 0) : nodeF (shN d n) = 0 := by
  have ha := nodeF_ar h
  have hy : (arI n.op < 2 ∧ (shN d n).y ≠ 0) ↔ (arI n.op < 2 ∧ n.y ≠ 0) := by
    unfold shN
    simp only
    constructor <;> (rintro ⟨h1, h2⟩; rw [if_neg (by omega)] at *; exact ⟨h1, h2⟩)
  have hx : (arI n.op < 1 ∧ (shN d n).x ≠ 0) ↔ (arI n.op < 1 ∧ n.x ≠ 0) := by
    unfold shN
    simp only
    constructor <;> (rintro ⟨h1, h2⟩; rw [if_neg (by omega)] at *; exact ⟨h1, h2⟩)
  have e : nodeF (shN d n) = nodeF n := by
    unfold nodeF
    rw [shN_op]
    simp only [hx, hy]
    rfl
  rw [e]; exact h
def seg (l : List Nd) (f e : Nat) : List Nd := (l.drop f).take (e - f)
theorem seg_snoc {l : List Nd} {f i : Nat} {n : Nd} (hf : f ≤ i) (h : l[i]? = some n) : seg l f (i + 1) = seg l f i ++ [n] := by
  unfold seg
  rw [show i + 1 - f = (i - f) + 1 by omega, List.take_add_one, List.getElem?_drop, show f + (i - f) = i by omega, h]
  rfl
theorem seg_nil {l : List Nd} {f : Nat} : seg l f f = [] := by unfold seg; simp
theorem seg_app {l : List Nd} {f g e : Nat} (h1 : f ≤ g) (h2 : g ≤ e) : seg l f e = seg l f g ++ seg l g e := by
  unfold seg
  rw [show e - f = (g - f) + (e - g) by omega, List.take_add, List.drop_drop, show f + (g - f) = g by omega]
theorem seg_all (l : List Nd) : seg l 0 l.length = l := by unfold seg; simp
theorem Blk.seg_mem {l : List Nd} {f e : Nat} : ∀ n ∈ seg l f e, n ∈ l := fun n hn => List.mem_of_mem_drop (List.mem_of_mem_take hn)
/-- An expression, elsewhere: it is one there. -/
theorem Blk.chk {l : List Nd} (hN : ∀ n ∈ l, nodeF n = 0) {f e : Nat} (B : Blk l f e) : ∀ (st : List Int) (i : Nat) (r : List Nd),
    chkGo st i ((seg l f e).map (shN ((i : Int) - f)) ++ r) = chkGo ((((i + (e - f) : Nat) : Int) - 1) :: st) (i + (e - f)) r := by
  induction B with
  | @leaf j n h h0 =>
    intro st i r
    rw [seg_snoc (Nat.le_refl _) h, seg_nil]
    simp only [List.nil_append, List.map_cons, List.map_nil, List.cons_append]
    rw [chkGo, if_neg (by simp [shN_F (hN n (List.mem_of_getElem? h))])]
    unfold popN
    rw [shN_op, if_pos h0]
    simp only
    rw [show j + 1 - j = 1 by omega, show ((i + 1 : Nat) : Int) - 1 = i by omega]
  | @one f j n B h h0 hx ih =>
    intro st i r
    have hlt := B.lt
    rw [seg_snoc (by omega) h, List.map_append, List.append_assoc, ih]
    simp only [List.map_cons, List.map_nil, List.cons_append, List.nil_append]
    rw [chkGo, if_neg (by simp [shN_F (hN n (List.mem_of_getElem? h))])]
    unfold popN
    rw [shN_op, if_neg (by omega), if_pos h0]
    have e1 : (((i + (j - f) : Nat) : Int) - 1) = (shN ((i : Int) - f) n).x := by
      unfold shN
      simp only
      rw [if_pos (by omega), hx]
      omega
    simp only
    rw [if_pos e1, show j + 1 - f = (j - f) + 1 by omega]
    simp only
    rw [show ((i + (j - f + 1) : Nat) : Int) - 1 = ((i + (j - f) : Nat) : Int) by omega, ← Nat.add_assoc]
  | @two f g j n B B' h h0 hx hy ih1 ih2 =>
    intro st i r
    have hlt := B.lt
    have hlt' := B'.lt
    rw [seg_snoc (by omega) h, seg_app (g := g) (by omega) (by omega), List.map_append, List.map_append, List.append_assoc, List.append_assoc, ih1]
    have e0 : ((i : Int) - f) = (((i + (g - f) : Nat) : Int) - g) := by omega
    have e00 : (seg l g j).map (shN ((i : Int) - f)) = (seg l g j).map (shN (((i + (g - f) : Nat) : Int) - g)) := by rw [e0]
    rw [e00, ih2]
    simp only [List.map_cons, List.map_nil, List.cons_append, List.nil_append]
    rw [chkGo, if_neg (by simp [shN_F (hN n (List.mem_of_getElem? h))])]
    unfold popN
    rw [shN_op, if_neg (by omega), if_neg (by omega)]
    have e1 : (((i + (g - f) : Nat) : Int) - 1) = (shN ((i : Int) - f) n).x := by
      unfold shN
      simp only
      rw [if_pos (by omega), hx]
      omega
    have e2 : (((i + (g - f) + (j - g) : Nat) : Int) - 1) = (shN ((i : Int) - f) n).y := by
      unfold shN
      simp only
      rw [if_pos (by omega), hy]
      omega
    simp only
    rw [if_pos ⟨e1, e2⟩]
    simp only
    rw [show i + (g - f) + (j - g) + 1 = i + (j + 1 - f) by omega, show ((i + (g - f) + (j - g) : Nat) : Int) = ((i + (j + 1 - f) : Nat) : Int) - 1 by omega]
def cutL (l : List Nd) (f e : Nat) : List Nd := (seg l f e).map (shN (-(f : Int)))
theorem cutL_chk {l : List Nd} (hN : ∀ n ∈ l, nodeF n = 0) {f e : Nat} (B : Blk l f e) : chkGo [] 0 (cutL l f e) = 0 := by
  have := B.chk hN [] 0 []
  rw [List.append_nil, show ((0 : Nat) : Int) - f = -(f : Int) by omega] at this
  unfold cutL
  rw [this]
  rfl
theorem cutL_length {l : List Nd} {f e : Nat} (B : Blk l f e) : (cutL l f e).length = e - f := by
  have := B.lt
  unfold cutL seg
  rw [List.length_map, List.length_take, List.length_drop]
  omega
theorem cutL_ok {l : List Nd} (hN : ∀ n ∈ l, nodeF n = 0) (hl : l.length ≤ 40) {f e : Nat} (B : Blk l f e) : exprF (cutL l f e) = 0 := by
  have := B.lt
  unfold exprF
  rw [if_neg (by rw [cutL_length B]; omega)]
  exact cutL_chk hN B
def joinL (op : Int) (l m : List Nd) : List Nd := l ++ m.map (shN l.length) ++ [⟨op, (l.length : Int) - 1, if 1 < arI op then ((l.length + m.length : Nat) : Int) - 1 else 0, 0, (0, 0)⟩]
theorem joinL_length (op : Int) (l m : List Nd) : (joinL op l m).length = l.length + m.length + 1 := by simp [joinL]; omega
theorem OkE.chk {l : List Nd} (O : OkE l) (st : List Int) (i : Nat) (r : List Nd) : chkGo st i (l.map (shN (i : Int)) ++ r) = chkGo ((((i + l.length : Nat) : Int) - 1) :: st) (i + l.length) r := by
  have := O.b.chk O.n st i r
  rw [seg_all, Nat.sub_zero, show ((i : Int) - (0 : Nat)) = i by omega] at this
  exact this
theorem map_sh0 (l : List Nd) : l.map (shN ((0 : Nat) : Int)) = l := by
  have : shN ((0 : Nat) : Int) = id := by funext n; exact shN_0 n
  rw [this, List.map_id]
theorem goodV0 : goodV (0, 0) := by unfold goodV; simp
theorem joinL_chk2 {op : Int} (ho : arI op = 2) {l m : List Nd} (O : OkE l) (O' : OkE m) : chkGo [] 0 (joinL op l m) = 0 := by
  have h1 := O.chk [] 0 (m.map (shN (l.length : Int)) ++ [⟨op, (l.length : Int) - 1, if 1 < arI op then ((l.length + m.length : Nat) : Int) - 1 else 0, 0, (0, 0)⟩])
  rw [map_sh0, Nat.zero_add] at h1
  unfold joinL
  rw [List.append_assoc, h1, O'.chk]
  have hF : nodeF ⟨op, (l.length : Int) - 1, if 1 < arI op then ((l.length + m.length : Nat) : Int) - 1 else 0, 0, (0, 0)⟩ = 0 := by
    unfold nodeF
    simp only
    rw [if_neg (by omega), if_neg (by rintro (⟨_, h⟩ | ⟨_, h⟩ | ⟨h, _⟩ | ⟨h, _⟩) <;> first | exact h rfl | omega), if_neg (by omega), if_neg (by simp [goodV0])]
  have hp : popN ⟨op, (l.length : Int) - 1, if 1 < arI op then ((l.length + m.length : Nat) : Int) - 1 else 0, 0, (0, 0)⟩ [((l.length + m.length : Nat) : Int) - 1, (l.length : Int) - 1] = some [] := by
    unfold popN
    rw [if_neg (by omega : ¬ arI op = 0), if_neg (by omega : ¬ arI op = 1)]
    exact if_pos ⟨rfl, by simp only; rw [if_pos (by omega)]⟩
  rw [chkGo, if_neg (fun h => h hF), hp]
  rfl
theorem joinL_chk1 {op : Int} (ho : arI op = 1) {l : List Nd} (O : OkE l) : chkGo [] 0 (joinL op l []) = 0 := by
  have h1 := O.chk [] 0 ([⟨op, (l.length : Int) - 1, if 1 < arI op then ((l.length + ([] : List Nd).length : Nat) : Int) - 1 else 0, 0, (0, 0)⟩])
  rw [map_sh0, Nat.zero_add] at h1
  unfold joinL
  rw [List.map_nil, List.append_nil, h1]
  have hF : nodeF ⟨op, (l.length : Int) - 1, if 1 < arI op then ((l.length + ([] : List Nd).length : Nat) : Int) - 1 else 0, 0, (0, 0)⟩ = 0 := by
    unfold nodeF
    simp only
    rw [if_neg (by omega), if_neg (by rw [if_neg (by omega)]; rintro (⟨_, h⟩ | ⟨_, h⟩ | ⟨_, h⟩ | ⟨h, _⟩) <;> first | exact h rfl | omega), if_neg (by omega), if_neg (by simp [goodV0])]
  have hp : popN ⟨op, (l.length : Int) - 1, if 1 < arI op then ((l.length + ([] : List Nd).length : Nat) : Int) - 1 else 0, 0, (0, 0)⟩ [(l.length : Int) - 1] = some [] := by
    unfold popN
    rw [if_neg (by omega : ¬ arI op = 0), if_pos ho]
    exact if_pos rfl
  rw [chkGo, if_neg (fun h => h hF), hp]
  rfl
end Go.Proofs.YtgonnpleihbklaaDoor
/-
  The plain law of expressions, part 2: values and kinds, node by node; what they are in what is put together. No program in sight. Conditions: none.
-/
namespace Go.Proofs.YtgonnpleihbklaaDoor
open Go Go.Vc
set_option linter.unusedVariables false

section
variable {β : Type} (d : β) (F : Nd → β → β → β)
/-- What each node is worth, from the first on. -/
def fwd (l : List Nd) : List β := l.foldl (fun outs n => outs ++ [F n (outs.getD n.x.toNat d) (outs.getD n.y.toNat d)]) []
def fAt (l : List Nd) (i : Nat) : β := (fwd d F l).getD i d
/-- A node looks at its own alone. -/
def Own2 : Prop := ∀ (n : Nd) (a b a' b' : β), 0 ≤ arI n.op → (1 ≤ arI n.op → a = a') → (2 ≤ arI n.op → b = b') → F n a b = F n a' b'
end
section
variable {β : Type} {d : β} {F : Nd → β → β → β}
theorem fwd_snoc (l : List Nd) (n : Nd) : fwd d F (l ++ [n]) = fwd d F l ++ [F n ((fwd d F l).getD n.x.toNat d) ((fwd d F l).getD n.y.toNat d)] := by
  unfold fwd
  rw [List.foldl_append]
  rfl
theorem fwd_nil : fwd d F [] = [] := rfl
theorem fwd_length (l : List Nd) : (fwd d F l).length = l.length := by
  have key : ∀ (l : List Nd) (o : List β), (l.foldl (fun outs n => outs ++ [F n (outs.getD n.x.toNat d) (outs.getD n.y.toNat d)]) o).length = o.length + l.length := by
    intro l
    induction l with
    | nil => intro o; rfl
    | cons n l ih => intro o; rw [List.foldl_cons, ih]; simp; omega
  have := key l []
  simpa [fwd] using this
theorem fwd_pre (l r : List Nd) : ∃ t, fwd d F (l ++ r) = fwd d F l ++ t := by
  have key : ∀ (l : List Nd) (o : List β), ∃ t, l.foldl (fun outs n => outs ++ [F n (outs.getD n.x.toNat d) (outs.getD n.y.toNat d)]) o = o ++ t := by
    intro l
    induction l with
    | nil => intro o; exact ⟨[], by simp⟩
    | cons n l ih =>
      intro o
      rw [List.foldl_cons]
      obtain ⟨t, ht⟩ := ih (o ++ [F n (o.getD n.x.toNat d) (o.getD n.y.toNat d)])
      exact ⟨_, by rw [ht, List.append_assoc]⟩
  unfold fwd
  rw [List.foldl_append]
  exact key r _
theorem fAt_pre (l r : List Nd) {i : Nat} (h : i < l.length) : fAt d F (l ++ r) i = fAt d F l i := by
  obtain ⟨t, ht⟩ := fwd_pre (d := d) (F := F) l r
  unfold fAt
  rw [ht, List.getD_eq_getElem?_getD, List.getElem?_append_left (by rw [fwd_length]; exact h), ← List.getD_eq_getElem?_getD]
theorem fAt_take (l : List Nd) {i k : Nat} (h : i < k) (hk : k ≤ l.length) : (fwd d F (l.take k)).getD i d = fAt d F l i := by
  have := fAt_pre (d := d) (F := F) (l.take k) (l.drop k) (i := i) (by rw [List.length_take]; omega)
  rw [List.take_append_drop] at this
  rw [this]
  rfl
theorem fwd_take (l : List Nd) {i : Nat} {n : Nd} (hn : l[i]? = some n) : fwd d F (l.take (i + 1)) = fwd d F (l.take i) ++ [fAt d F l i] := by
  have hlt := (List.getElem?_eq_some_iff.1 hn).1
  have e : l.take (i + 1) = l.take i ++ [n] := by rw [List.take_add_one, hn]; rfl
  have e2 : fAt d F l i = F n ((fwd d F (l.take i)).getD n.x.toNat d) ((fwd d F (l.take i)).getD n.y.toNat d) := by
    rw [← fAt_take l (Nat.lt_succ_self i) hlt, e, fwd_snoc, List.getD_eq_getElem?_getD, List.getElem?_append_right (by rw [fwd_length, List.length_take]; omega)]
    rw [fwd_length, List.length_take, Nat.min_eq_left (by omega), Nat.sub_self]
    rfl
  rw [e, fwd_snoc, ← e2]
theorem fAt_wf (hF : Own2 F) {l : List Nd} {i : Nat} {n : Nd} (hn : l[i]? = some n) (W : WfN i n) : fAt d F l i = F n (fAt d F l n.x.toNat) (fAt d F l n.y.toNat) := by
  have hlt := (List.getElem?_eq_some_iff.1 hn).1
  have e : l.take (i + 1) = l.take i ++ [n] := by rw [List.take_add_one, hn]; rfl
  rw [← fAt_take l (Nat.lt_succ_self i) hlt, e, fwd_snoc, List.getD_eq_getElem?_getD, List.getElem?_append_right (by rw [fwd_length, List.length_take]; omega)]
  rw [fwd_length, List.length_take, Nat.min_eq_left (by omega), Nat.sub_self]
  refine hF n _ _ _ _ W.a (fun h => ?_) fun h => ?_
  · have := W.x h; exact fAt_take l (by omega) (by omega)
  · have := W.y h; exact fAt_take l (by omega) (by omega)
theorem WfN.sh {i d : Nat} {n : Nd} (W : WfN i n) : WfN (d + i) (shN d n) where
  a := W.a
  f := W.f
  x := fun h => by
    have h : 1 ≤ arI n.op := h
    have := W.x h
    unfold shN
    simp only
    rw [if_pos (by omega)]
    omega
  y := fun h => by
    have h : 2 ≤ arI n.op := h
    have := W.y h
    unfold shN
    simp only
    rw [if_pos (by omega)]
    omega
theorem fAt_sh (hF : Own2 F) (hS : ∀ (k : Int) n a b, F (shN k n) a b = F n a b) {m : List Nd} (W : WfL m) (l r : List Nd) : ∀ k, k < m.length → fAt d F (l ++ m.map (shN l.length) ++ r) (l.length + k) = fAt d F m k := by
  intro k
  induction k using Nat.strongRecOn with
  | _ k ih =>
    intro hk
    have hm : m[k]? = some m[k] := List.getElem?_eq_getElem hk
    have hj : (l ++ m.map (shN l.length) ++ r)[l.length + k]? = some (shN l.length m[k]) := by
      rw [List.append_assoc, List.getElem?_append_right (by omega), show l.length + k - l.length = k by omega, List.getElem?_append_left (by simpa using hk), List.getElem?_map, hm]
      rfl
    have Wk := W k _ hm
    rw [fAt_wf hF hj Wk.sh, fAt_wf hF hm Wk, hS]
    refine hF _ _ _ _ _ Wk.a (fun h => ?_) fun h => ?_
    · have hx := Wk.x h
      have : (shN (l.length : Int) m[k]).x.toNat = l.length + m[k].x.toNat := by
        unfold shN
        simp only
        rw [if_pos (by omega)]
        omega
      rw [this]
      exact ih _ (by omega) (by omega)
    · have hy := Wk.y h
      have : (shN (l.length : Int) m[k]).y.toNat = l.length + m[k].y.toNat := by
        unfold shN
        simp only
        rw [if_pos (by omega)]
        omega
      rw [this]
      exact ih _ (by omega) (by omega)
end

def fieldV (e : EvL) (n : Int) : Int × Int := if n = 0 then numV e.1 else if n = 1 then e.2.1 else if n = 2 then e.2.2.1 else e.2.2.2
def stepF (e : EvL) (n : Nd) (a b : Int × Int) : Int × Int :=
  if n.op = 1 then n.v else if n.op = 2 then fieldV e n.n else if n.op = 3 then negV a else if n.op = 4 then notV a else if n.op = 5 then truthV (decide (a.1 = 0)) else doV n.op a b
abbrev vAt (e : EvL) (l : List Nd) (i : Nat) : Int × Int := fAt (0, 0) (stepF e) l i
def wantT (op : Int) : Int := if op = 4 ∨ op = 9 ∨ op = 10 then 2 else 1
def tyG (op : Int) : Option Int → Option Int → Option Int
  | some a, some b => if op = 5 then some 2 else if (a ≠ 0 ∧ a ≠ wantT op) ∨ (b ≠ 0 ∧ b ≠ wantT op) then none else if op = 11 ∨ op = 12 then some 2 else some (wantT op)
  | _, _ => none
def tyF (n : Nd) (a b : Option Int) : Option Int := if n.op = 1 then some n.v.1 else if n.op = 2 then some 1 else tyG n.op a (if arI n.op = 2 then b else a)
abbrev tAt (l : List Nd) (i : Nat) : Option Int := fAt none tyF l i
theorem ar0 {op : Int} (h : 0 ≤ arI op) : (arI op = 0 ↔ op = 1 ∨ op = 2) ∧ (arI op = 1 ↔ op = 3 ∨ op = 4 ∨ op = 5) ∧ (arI op = 2 ↔ 6 ≤ op ∧ op ≤ 12) := by
  unfold arI at *
  split
  · omega
  · split
    · omega
    · split
      · omega
      · rename_i h1 h2 h3; rw [if_neg h1, if_neg h2, if_neg h3] at h; cases h
theorem own_stepF (e : EvL) : Own2 (stepF e) := by
  intro n a b a' b' h ha hb
  have := ar0 h
  unfold stepF
  split
  · rfl
  · split
    · rfl
    · have h1 : 1 ≤ arI n.op := by rcases arI_range h with q | q | q <;> omega
      rw [ha h1]
      split
      · rfl
      · split
        · rfl
        · split
          · rfl
          · rw [hb (by rcases arI_range h with q | q | q <;> omega)]
theorem own_tyF : Own2 tyF := by
  intro n a b a' b' h ha hb
  have := ar0 h
  unfold tyF
  split
  · rfl
  · split
    · rfl
    · have h1 : 1 ≤ arI n.op := by rcases arI_range h with q | q | q <;> omega
      rw [ha h1]
      split
      · rename_i h2; rw [hb (by omega)]
      · rfl
theorem stepF_sh (e : EvL) (k : Int) (n : Nd) (a b : Int × Int) : stepF e (shN k n) a b = stepF e n a b := rfl
theorem tyF_op {n : Nd} (h1 : ¬ n.op = 1) (h2 : ¬ n.op = 2) (a b : Option Int) : tyF n a b = tyG n.op a (if arI n.op = 2 then b else a) := by
  unfold tyF
  rw [if_neg h1, if_neg h2]
theorem stepF_do (e : EvL) {n : Nd} (h : 6 ≤ n.op) (a b : Int × Int) : stepF e n a b = doV n.op a b := by
  unfold stepF
  rw [if_neg (by omega), if_neg (by omega), if_neg (by omega), if_neg (by omega), if_neg (by omega)]
theorem tyG_none (op : Int) (b : Option Int) : tyG op none b = none ∧ tyG op b none = none := by
  cases b <;> exact ⟨rfl, rfl⟩
/-- A node that has a kind: so do all that it has. -/
theorem Blk.ty {l : List Nd} (W : WfL l) {f e : Nat} (B : Blk l f e) : tAt l (e - 1) ≠ none → ∀ i, f ≤ i → i < e → tAt l i ≠ none := by
  induction B with
  | @leaf j n h h0 => intro ht i h1 h2; obtain rfl : i = j := by omega
                      exact ht
  | @one f j n B h h0 hx ih =>
    intro ht i h1 h2
    by_cases hij : i = j
    · subst hij; exact ht
    · have hw := W j n h
      have := ar0 hw.a
      have hlt := B.lt
      refine ih (fun hn => ht ?_) i h1 (by omega)
      rw [Nat.add_sub_cancel, tAt, fAt_wf own_tyF h hw]
      rw [tyF_op (by omega) (by omega), show n.x.toNat = j - 1 by omega, (show fAt none tyF l _ = none from hn)]
      exact (tyG_none _ _).1
  | @two f g j n B B' h h0 hx hy ih1 ih2 =>
    intro ht i h1 h2
    have hlt := B.lt
    have hlt' := B'.lt
    have hw := W j n h
    have := ar0 hw.a
    by_cases hij : i = j
    · subst hij; exact ht
    · by_cases hg : i < g
      · refine ih1 (fun hn => ht ?_) i h1 hg
        rw [Nat.add_sub_cancel, tAt, fAt_wf own_tyF h hw]
        rw [tyF_op (by omega) (by omega), show n.x.toNat = g - 1 by omega, (show fAt none tyF l _ = none from hn)]
        exact (tyG_none _ _).1
      · refine ih2 (fun hn => ht ?_) i (by omega) (by omega)
        rw [Nat.add_sub_cancel, tAt, fAt_wf own_tyF h hw]
        rw [tyF_op (by omega) (by omega), if_pos h0, show n.y.toNat = j - 1 by omega, (show fAt none tyF l _ = none from hn)]
        exact (tyG_none _ _).2
/-- The value of a whole expression; its kind. -/
def valE (e : EvL) (l : List Nd) : Int × Int := vAt e l (l.length - 1)
def typE (l : List Nd) : Int × Int := match tAt l (l.length - 1) with
  | some t => (t, 0)
  | none => (0, 3)
theorem WfL.join {op : Int} (ho : 0 ≤ arI op) {l m : List Nd} (W : WfL l) (W' : WfL m) (hl : 0 < l.length) (hm : 2 ≤ arI op → 0 < m.length) (h2 : op ≠ 2) : WfL (joinL op l m) := by
  intro i n hn
  unfold joinL at hn
  by_cases h1 : i < l.length
  · rw [List.append_assoc, List.getElem?_append_left h1] at hn
    exact W i n hn
  · rw [List.append_assoc, List.getElem?_append_right (by omega)] at hn
    by_cases h3 : i - l.length < m.length
    · rw [List.getElem?_append_left (by simpa using h3), List.getElem?_map, Option.map_eq_some_iff] at hn
      obtain ⟨n', hn', rfl⟩ := hn
      have := (W' _ _ hn').sh (d := l.length)
      rw [show l.length + (i - l.length) = i by omega] at this
      exact this
    · rw [List.getElem?_append_right (by simp; omega), List.getElem?_singleton] at hn
      split at hn
      · rename_i h4
        cases hn
        rw [List.length_map] at h4
        refine ⟨ho, fun h => absurd h h2, fun h => ?_, fun h => ?_⟩
        · simp only; omega
        · simp only at h ⊢
          have := hm h
          rw [if_pos (by omega)]
          omega
      · cases hn
theorem valE_join2 (e : EvL) {op : Int} (ho : arI op = 2) {l m : List Nd} (W : WfL l) (W' : WfL m) (hl : 0 < l.length) (hm : 0 < m.length) : valE e (joinL op l m) = doV op (valE e l) (valE e m) := by
  have ha := ar0 (op := op) (by omega)
  have WJ := WfL.join (op := op) (by omega) W W' hl (fun _ => hm) (by omega)
  unfold valE
  rw [joinL_length, show l.length + m.length + 1 - 1 = l.length + m.length by omega]
  have hj : (joinL op l m)[l.length + m.length]? = some ⟨op, (l.length : Int) - 1, if 1 < arI op then ((l.length + m.length : Nat) : Int) - 1 else 0, 0, (0, 0)⟩ := by
    unfold joinL
    rw [List.getElem?_append_right (by simp)]
    simp
  rw [vAt, fAt_wf (own_stepF e) hj (WJ _ _ hj)]
  rw [stepF_do e (by simp only; omega)]
  simp only
  rw [if_pos (by omega : 1 < arI op)]
  have e1 : ((l.length : Int) - 1).toNat = l.length - 1 := by omega
  have e2 : (((l.length + m.length : Nat) : Int) - 1).toNat = l.length + (m.length - 1) := by omega
  rw [e1, e2]
  have q1 : fAt (0, 0) (stepF e) (joinL op l m) (l.length - 1) = fAt (0, 0) (stepF e) l (l.length - 1) := by
    unfold joinL
    rw [List.append_assoc]
    exact fAt_pre _ _ (by omega)
  have q2 : fAt (0, 0) (stepF e) (joinL op l m) (l.length + (m.length - 1)) = fAt (0, 0) (stepF e) m (m.length - 1) :=
    fAt_sh (own_stepF e) (stepF_sh e) W' l _ _ (by omega)
  rw [q1, q2]
theorem valE_joinN (e : EvL) {l : List Nd} (W : WfL l) (hl : 0 < l.length) : valE e (joinL 5 l []) = truthV (decide ((valE e l).1 = 0)) := by
  have WJ := WfL.join (op := 5) (by decide) W (m := []) (by intro i n hn; cases hn) hl (fun h => absurd h (by decide)) (by decide)
  unfold valE
  rw [joinL_length, show l.length + ([] : List Nd).length + 1 - 1 = l.length by simp]
  have hj : (joinL 5 l [])[l.length]? = some ⟨5, (l.length : Int) - 1, 0, 0, (0, 0)⟩ := by
    unfold joinL
    rw [List.getElem?_append_right (by simp)]
    simp [arI]
  rw [vAt, fAt_wf (own_stepF e) hj (WJ _ _ hj)]
  have e1 : ((l.length : Int) - 1).toNat = l.length - 1 := by omega
  have q1 : fAt (0, 0) (stepF e) (joinL 5 l []) (l.length - 1) = fAt (0, 0) (stepF e) l (l.length - 1) := by
    unfold joinL
    rw [List.append_assoc]
    exact fAt_pre _ _ (by omega)
  simp only [e1, q1]
  rfl
end Go.Proofs.YtgonnpleihbklaaDoor
/-
  Nodes: how they lie. Conditions: none.
-/
namespace Go.Proofs.YtgonnpleihbklaaDoor
open Go Go.Vc
set_option linter.unusedVariables false
set_option maxRecDepth 100000

def encN (n : Nd) : List Value := [vi n.op, vi n.x, vi n.y, vi n.n, vi n.v.1, vi n.v.2]
theorem encN_len (n : Nd) : (encN n).length = 6 := rfl
theorem one_encN (n : Nd) : ∀ u ∈ encN n, u.oneCell' = true := by
  intro u hu
  simp [encN] at hu
  rcases hu with rfl | rfl | rfl | rfl | rfl | rfl <;> rfl
theorem one_nds (l : List Nd) : ∀ u ∈ l.flatMap encN, u.oneCell' = true := by
  intro u hu
  obtain ⟨v, _, hv⟩ := List.mem_flatMap.1 hu
  exact one_encN v u hv
theorem elNd : ElT Tryd.prog 45 44 6 48 := .of (by kernel_rfl) (by kernel_rfl) (by decide)
end Go.Proofs.YtgonnpleihbklaaDoor
/-
  What functions of the program ask, in words: each is what the framework reckons from the loaded code (the kernel holds the two together), and gives the function's call. Conditions: none.
-/
namespace Go.Proofs.YtgonnpleihbklaaDoor
open Go Go.Vc
set_option maxRecDepth 100000
set_option linter.unusedVariables false
/-- What 'penstock/penstockref.valueAt' asks. -/
def VC_R_valueAt (u_la : Option Addr) (u_ln u_lc : Nat) (u_at : Int) (u_eTime : Int) (u_eKKind : Int) (u_eKN : Int) (u_eAKind : Int) (u_eAN : Int) (u_eBKind : Int) (u_eBN : Int) (h : Hp) (R : Value → Hp → Prop) : Prop :=
  (∃ (b1 o2 : Nat), (u_la = some ⟨b1, o2, none⟩ ∧ (0 : Int) ≤ u_at ∧ u_at < ((u_ln : Nat) : Int)) ∧ (∃ (x3 : Int) (x4 : Int) (x5 : Int) (x6 : Int) (x7 : Int) (x8 : Int), (Hp.row h b1 (o2 + u_at.toNat * 6) 6 = some [(vi x3), (vi x4), (vi x5), (vi x6), (vi x7), (vi x8)]) ∧ (((decide ((x3 : Int) = 1)) = true → R (vag [(vi x7), (vi x8)]) h) ∧ ((decide ((x3 : Int) = 1)) = false → (((decide ((x3 : Int) = 2)) = true → (((decide ((x6 : Int) = 0)) = true → (CallOK Tryd.prog 12 [(vi u_eTime)] h fun v9 h10 => ∃ (x11 : Int) (x12 : Int), v9 = (vag [(vi x11), (vi x12)]) ∧ R (vag [(vi x11), (vi x12)]) h10)) ∧ ((decide ((x6 : Int) = 0)) = false → (((decide ((x6 : Int) = 1)) = true → R (vag [(vi u_eKKind), (vi u_eKN)]) h) ∧ ((decide ((x6 : Int) = 1)) = false → (((decide ((x6 : Int) = 2)) = true → R (vag [(vi u_eAKind), (vi u_eAN)]) h) ∧ ((decide ((x6 : Int) = 2)) = false → R (vag [(vi u_eBKind), (vi u_eBN)]) h))))))) ∧ ((decide ((x3 : Int) = 2)) = false → (((decide ((x3 : Int) = 3)) = true → (CallOK Tryd.prog 35 [(vsl u_la u_ln u_lc), (vi x4), (vag [(vi u_eTime), (vi u_eKKind), (vi u_eKN), (vi u_eAKind), (vi u_eAN), (vi u_eBKind), (vi u_eBN)])] h fun v16 h17 => ∃ (x18 : Int) (x19 : Int), v16 = (vag [(vi x18), (vi x19)]) ∧ (((decide ((x18 : Int) = 1)) = true → (∃ (x20 : Int), (IsW x20 (-x19)) ∧ (CallOK Tryd.prog 12 [(vi x20)] h17 fun v21 h22 => ∃ (x23 : Int) (x24 : Int), v21 = (vag [(vi x23), (vi x24)]) ∧ R (vag [(vi x23), (vi x24)]) h22))) ∧ ((decide ((x18 : Int) = 1)) = false → R (vag [(vi 0), (vi 0)]) h17)))) ∧ ((decide ((x3 : Int) = 3)) = false → (((decide ((x3 : Int) = 4)) = true → (CallOK Tryd.prog 35 [(vsl u_la u_ln u_lc), (vi x4), (vag [(vi u_eTime), (vi u_eKKind), (vi u_eKN), (vi u_eAKind), (vi u_eAN), (vi u_eBKind), (vi u_eBN)])] h fun v26 h27 => ∃ (x28 : Int) (x29 : Int), v26 = (vag [(vi x28), (vi x29)]) ∧ (((decide ((x28 : Int) = 2)) = true → (CallOK Tryd.prog 14 [(vb (decide ((x29 : Int) = 0)))] h27 fun v30 h31 => ∃ (x32 : Int) (x33 : Int), v30 = (vag [(vi x32), (vi x33)]) ∧ R (vag [(vi x32), (vi x33)]) h31)) ∧ ((decide ((x28 : Int) = 2)) = false → R (vag [(vi 0), (vi 0)]) h27)))) ∧ ((decide ((x3 : Int) = 4)) = false → (((decide ((x3 : Int) = 5)) = true → (CallOK Tryd.prog 35 [(vsl u_la u_ln u_lc), (vi x4), (vag [(vi u_eTime), (vi u_eKKind), (vi u_eKN), (vi u_eAKind), (vi u_eAN), (vi u_eBKind), (vi u_eBN)])] h fun v35 h36 => ∃ (x37 : Int) (x38 : Int), v35 = (vag [(vi x37), (vi x38)]) ∧ (CallOK Tryd.prog 14 [(vb (decide ((x37 : Int) = 0)))] h36 fun v39 h40 => ∃ (x41 : Int) (x42 : Int), v39 = (vag [(vi x41), (vi x42)]) ∧ R (vag [(vi x41), (vi x42)]) h40))) ∧ ((decide ((x3 : Int) = 5)) = false → (CallOK Tryd.prog 35 [(vsl u_la u_ln u_lc), (vi x4), (vag [(vi u_eTime), (vi u_eKKind), (vi u_eKN), (vi u_eAKind), (vi u_eAN), (vi u_eBKind), (vi u_eBN)])] h fun v44 h45 => ∃ (x46 : Int) (x47 : Int), v44 = (vag [(vi x46), (vi x47)]) ∧ (CallOK Tryd.prog 35 [(vsl u_la u_ln u_lc), (vi x5), (vag [(vi u_eTime), (vi u_eKKind), (vi u_eKN), (vi u_eAKind), (vi u_eAN), (vi u_eBKind), (vi u_eBN)])] h45 fun v48 h49 => ∃ (x50 : Int) (x51 : Int), v48 = (vag [(vi x50), (vi x51)]) ∧ (CallOK Tryd.prog 22 [(vi x3), (vag [(vi x46), (vi x47)]), (vag [(vi x50), (vi x51)])] h49 fun v52 h53 => ∃ (x54 : Int) (x55 : Int), v52 = (vag [(vi x54), (vi x55)]) ∧ R (vag [(vi x54), (vi x55)]) h53)))))))))))))))
theorem ok_R_valueAt {u_la : Option Addr} {u_ln u_lc : Nat} {u_at : Int} {u_eTime : Int} {u_eKKind : Int} {u_eKN : Int} {u_eAKind : Int} {u_eAN : Int} {u_eBKind : Int} {u_eBN : Int} {h : Hp} {R : Value → Hp → Prop} (H : VC_R_valueAt u_la u_ln u_lc u_at u_eTime u_eKKind u_eKN u_eAKind u_eAN u_eBKind u_eBN h R) : CallOK Tryd.prog 35 [(vsl u_la u_ln u_lc), (vi u_at), (vag [(vi u_eTime), (vi u_eKKind), (vi u_eKN), (vi u_eAKind), (vi u_eAN), (vi u_eBKind), (vi u_eBN)])] h R :=
  call_of (cfg := ⟨[], [], [(26, [0, 1, 2, 3, 4, 5, 7, 8, 9, 10, 6, 11, 12, 13])]⟩) noNG mixed Tryd.func35 [.one (.v (vsl u_la u_ln u_lc)), .one (.v (vi u_at)), .ag [.v (vi u_eTime), .v (vi u_eKKind), .v (vi u_eKN), .v (vi u_eAKind), .v (vi u_eAN), .v (vi u_eBKind), .v (vi u_eBN)]] (by kernel_rfl) rfl (by kernel_rfl) H

/-- What 'penstock/penstockref.Eval' asks. -/
def VC_R_Eval (u_la : Option Addr) (u_ln u_lc : Nat) (u_eTime : Int) (u_eKKind : Int) (u_eKN : Int) (u_eAKind : Int) (u_eAN : Int) (u_eBKind : Int) (u_eBN : Int) (h : Hp) (R : Value → Hp → Prop) : Prop :=
  (∃ (x1 : Int), (IsW x1 (((u_ln : Nat) : Int) - 1)) ∧ (CallOK Tryd.prog 35 [(vsl u_la u_ln u_lc), (vi x1), (vag [(vi u_eTime), (vi u_eKKind), (vi u_eKN), (vi u_eAKind), (vi u_eAN), (vi u_eBKind), (vi u_eBN)])] h fun v2 h3 => ∃ (x4 : Int) (x5 : Int), v2 = (vag [(vi x4), (vi x5)]) ∧ R (vag [(vi x4), (vi x5)]) h3))
theorem ok_R_Eval {u_la : Option Addr} {u_ln u_lc : Nat} {u_eTime : Int} {u_eKKind : Int} {u_eKN : Int} {u_eAKind : Int} {u_eAN : Int} {u_eBKind : Int} {u_eBN : Int} {h : Hp} {R : Value → Hp → Prop} (H : VC_R_Eval u_la u_ln u_lc u_eTime u_eKKind u_eKN u_eAKind u_eAN u_eBKind u_eBN h R) : CallOK Tryd.prog 25 [(vsl u_la u_ln u_lc), (vag [(vi u_eTime), (vi u_eKKind), (vi u_eKN), (vi u_eAKind), (vi u_eAN), (vi u_eBKind), (vi u_eBN)])] h R :=
  call_of (cfg := ⟨[], [], []⟩) noNG mixed Tryd.func25 [.one (.v (vsl u_la u_ln u_lc)), .ag [.v (vi u_eTime), .v (vi u_eKKind), .v (vi u_eKN), .v (vi u_eAKind), .v (vi u_eAN), .v (vi u_eBKind), .v (vi u_eBN)]] (by kernel_rfl) rfl (by kernel_rfl) H

end Go.Proofs.YtgonnpleihbklaaDoor
/-
  Contracts: values of expressions, as the document has them. Conditions: that each node's own stand ahead of it.
-/
namespace Go.Proofs.YtgonnpleihbklaaDoor
open Go Go.Vc
set_option linter.unusedVariables false
set_option maxRecDepth 100000

section
variable {a : Option Addr} {m c : Nat} {l : List Nd} {h : Hp}
theorem R_valueAt_ok (S : SlP encN h a m l) (W : WfL l) {e : EvL} : ∀ (k : Nat) (i : Int), i.toNat = k → 0 ≤ i → i < l.length → ∀ (R : Value → Hp → Prop), R (vag (encV (vAt e l i.toNat))) h → CallOK Tryd.prog 35 [vsl a m c, vi i, vag (encE e)] h R := by
  intro k
  induction k using Nat.strongRecOn with
  | _ k ih =>
    intro i hik h0 h1 R hK
    refine ok_R_valueAt ?_
    unfold VC_R_valueAt
    have hm := S.1
    have hx : l[i.toNat]? = some (l[i.toNat]'(by omega)) := List.getElem?_eq_getElem (by omega)
    have Wn := W _ _ hx
    have hv : vAt e l i.toNat = _ := fAt_wf (own_stepF e) hx Wn
    rw [hv] at hK
    clear hv
    obtain ⟨b, o, ha, hr⟩ := S.get encN_len (by decide) hx
    generalize l[i.toNat]'(by omega) = n at *
    have hX : 1 ≤ arI n.op → ∀ (R : Value → Hp → Prop), R (vag (encV (vAt e l n.x.toNat))) h → CallOK Tryd.prog 35 [vsl a m c, vi n.x, vag (encE e)] h R := fun h2 R hR => by
      have := Wn.x h2
      exact ih n.x.toNat (by omega) n.x rfl (by omega) (by omega) R hR
    have hY : 2 ≤ arI n.op → ∀ (R : Value → Hp → Prop), R (vag (encV (vAt e l n.y.toNat))) h → CallOK Tryd.prog 35 [vsl a m c, vi n.y, vag (encE e)] h R := fun h2 R hR => by
      have := Wn.y h2
      exact ih n.y.toNat (by omega) n.y rfl (by omega) (by omega) R hR
    have ar := ar0 Wn.a
    have hfold : vAt e l = fAt (0, 0) (stepF e) l := rfl
    rw [← hfold] at hK
    generalize vAt e l n.x.toNat = vx at *
    generalize vAt e l n.y.toNat = vy at *
    unfold stepF at hK
    refine ⟨b, o, ⟨ha, h0, by omega⟩, _, _, _, _, _, _, hr, fun q => ?_, fun q1 => ⟨fun q => ?_, fun q2 => ⟨fun q => ?_, fun q3 => ⟨fun q => ?_, fun q4 => ⟨fun q => ?_, fun q5 => ?_⟩⟩⟩⟩⟩
    · rw [if_pos (of_decide_eq_true q)] at hK; exact hK
    · rw [if_neg (of_decide_eq_false q1), if_pos (of_decide_eq_true q)] at hK
      unfold fieldV at hK
      refine ⟨fun p => ?_, fun p => ⟨fun p2 => ?_, fun p2 => ⟨fun p3 => ?_, fun p3 => ?_⟩⟩⟩
      · rw [if_pos (of_decide_eq_true p)] at hK; exact R_Num_ok ⟨_, _, rfl, hK⟩
      · rw [if_neg (of_decide_eq_false p), if_pos (of_decide_eq_true p2)] at hK; exact hK
      · rw [if_neg (of_decide_eq_false p), if_neg (of_decide_eq_false p2), if_pos (of_decide_eq_true p3)] at hK; exact hK
      · rw [if_neg (of_decide_eq_false p), if_neg (of_decide_eq_false p2), if_neg (of_decide_eq_false p3)] at hK; exact hK
    · rw [if_neg (of_decide_eq_false q1), if_neg (of_decide_eq_false q2), if_pos (of_decide_eq_true q)] at hK
      have := of_decide_eq_true q
      refine hX (by omega) _ ⟨_, _, rfl, fun p => ?_, fun p => ?_⟩
      · unfold negV at hK
        rw [if_pos (of_decide_eq_true p)] at hK
        exact ⟨_, w64_isW _, R_Num_ok ⟨_, _, rfl, hK⟩⟩
      · unfold negV at hK
        rw [if_neg (of_decide_eq_false p)] at hK
        exact hK
    · rw [if_neg (of_decide_eq_false q1), if_neg (of_decide_eq_false q2), if_neg (of_decide_eq_false q3), if_pos (of_decide_eq_true q)] at hK
      have := of_decide_eq_true q
      refine hX (by omega) _ ⟨_, _, rfl, fun p => ?_, fun p => ?_⟩
      · unfold notV at hK
        rw [if_pos (of_decide_eq_true p)] at hK
        exact R_Truth_ok ⟨_, _, rfl, hK⟩
      · unfold notV at hK
        rw [if_neg (of_decide_eq_false p)] at hK
        exact hK
    · rw [if_neg (of_decide_eq_false q1), if_neg (of_decide_eq_false q2), if_neg (of_decide_eq_false q3), if_neg (of_decide_eq_false q4), if_pos (of_decide_eq_true q)] at hK
      have := of_decide_eq_true q
      exact hX (by omega) _ ⟨_, _, rfl, R_Truth_ok ⟨_, _, rfl, hK⟩⟩
    · have p1 := of_decide_eq_false q1
      have p2 := of_decide_eq_false q2
      have p3 := of_decide_eq_false q3
      have p4 := of_decide_eq_false q4
      have p5 := of_decide_eq_false q5
      rw [if_neg p1, if_neg p2, if_neg p3, if_neg p4, if_neg p5] at hK
      have h2 : arI n.op = 2 := by rcases arI_range Wn.a with h | h | h <;> omega
      exact hX (by omega) _ ⟨_, _, rfl, hY (by omega) _ ⟨_, _, rfl, R_Do_ok ⟨_, _, rfl, hK⟩⟩⟩
theorem R_Eval_ok (S : SlP encN h a m l) (W : WfL l) (hl : 0 < l.length) (hm : l.length ≤ 1000000) {e : EvL} {R : Value → Hp → Prop} (hK : R (vag (encV (valE e l))) h) : CallOK Tryd.prog 25 [vsl a m c, vag (encE e)] h R := by
  refine ok_R_Eval ?_
  unfold VC_R_Eval
  have hm := S.1
  refine ⟨_, isW (by unfold InR; omega), R_valueAt_ok S W _ ((m : Int) - 1) rfl (by omega) (by omega) _ ⟨_, _, rfl, ?_⟩⟩
  have e1 : ((m : Int) - 1).toNat = l.length - 1 := by omega
  rw [e1]
  exact hK
end
end Go.Proofs.YtgonnpleihbklaaDoor
/-
  What functions of the program ask, in words: each is what the framework reckons from the loaded code (the kernel holds the two together), and gives the function's call. Conditions: none.
-/
namespace Go.Proofs.YtgonnpleihbklaaDoor
open Go Go.Vc
set_option maxRecDepth 100000
set_option linter.unusedVariables false
/-- What 'penstock/penstocklaw.values' asks. -/
def VC_law_values  (h : Hp) (R : Value → Hp → Prop) : Prop :=
  (CallOK Tryd.prog 13 [(vb false)] h fun v1 h2 => ∃ (x3 : Int) (x4 : Int), v1 = (vag [(vi x3), (vi x4)]) ∧ (CallOK Tryd.prog 10 [] h2 fun v5 h6 => ∃ (x7 : Int) (x8 : Int), v5 = (vag [(vi x7), (vi x8)]) ∧ (CallOK Tryd.prog 23 [(vag [(vi x3), (vi x4)]), (vag [(vi x7), (vi x8)])] h6 fun v9 h10 => ∃ (x11 : Int) (x12 : Int), v9 = (vag [(vi x11), (vi x12)]) ∧ (∃ (p13 : Bool), (Rd Tryd.prog ((eqGuard .eql 32 (.tmp 5) (.tmp 6) (vag [(vi x11), (vi x12)]) (vag [(vi x3), (vi x4)]) >>= fun _ => binOp .eql 32 (vag [(vi x11), (vi x12)]) (vag [(vi x3), (vi x4)]))) h10 (vb p13)) ∧ (∃ (J14 : SV → Hp → Prop), (p13 = true → (CallOK Tryd.prog 24 [(vag [(vi x3), (vi x4)])] h10 fun v15 h16 => ∃ (x17 : Int) (x18 : Int), v15 = (vag [(vi x17), (vi x18)]) ∧ J14 (.t (.ag [.v (vi x17), .v (vi x18)])) h16)) ∧ (¬ (p13 = true) → J14 (.t (.ag [.v (vi 0), .v (vi 0)])) h10) ∧ ∀ (h19 : Hp) (x20 : Int) (x21 : Int), J14 (.t (.ag [.v (vi x20), .v (vi x21)])) h19 → (∃ (J22 : SV → Hp → Prop), (p13 = true → (CallOK Tryd.prog 13 [(vb true)] h19 fun v23 h24 => ∃ (x25 : Int) (x26 : Int), v23 = (vag [(vi x25), (vi x26)]) ∧ J22 (.t (.ag [.v (vi x25), .v (vi x26)])) h24)) ∧ (¬ (p13 = true) → J22 (.t (.ag [.v (vi 0), .v (vi 0)])) h19) ∧ ∀ (h27 : Hp) (x28 : Int) (x29 : Int), J22 (.t (.ag [.v (vi x28), .v (vi x29)])) h27 → (∃ (p30 : Bool), (p13 = true → Rd Tryd.prog ((eqGuard .eql 32 (.tmp 10) (.tmp 11) (vag [(vi x20), (vi x21)]) (vag [(vi x28), (vi x29)]) >>= fun _ => binOp .eql 32 (vag [(vi x20), (vi x21)]) (vag [(vi x28), (vi x29)]))) h27 (vb p30)) ∧ (∃ (J31 : SV → Hp → Prop), ((bif p13 then p30 else false) = true → (CallOK Tryd.prog 11 [(vi 5)] h27 fun v32 h33 => ∃ (x34 : Int) (x35 : Int), v32 = (vag [(vi x34), (vi x35)]) ∧ J31 (.t (.ag [.v (vi x34), .v (vi x35)])) h33)) ∧ (¬ ((bif p13 then p30 else false) = true) → J31 (.t (.ag [.v (vi 0), .v (vi 0)])) h27) ∧ ∀ (h36 : Hp) (x37 : Int) (x38 : Int), J31 (.t (.ag [.v (vi x37), .v (vi x38)])) h36 → R (vb (bif (bif p13 then p30 else false) then (decide ((x38 : Int) = 5)) else false)) h36))))))))
theorem ok_law_values  {h : Hp} {R : Value → Hp → Prop} (H : VC_law_values  h R) : CallOK Tryd.prog 9 [] h R :=
  call_of (cfg := ⟨[], [], [(2, [0, 3, 1, 2, 4, 5, 6, 7, 8, 9, 10, 11, 12, 13, 14, 15, 16])]⟩) noNG mixed Tryd.func9 [] (by kernel_rfl) rfl (by kernel_rfl) H

/-- What 'penstock/penstocklaw.good' asks. -/
def VC_law_good (u_vKind : Int) (u_vN : Int) (h : Hp) (R : Value → Hp → Prop) : Prop :=
  (CallOK Tryd.prog 16 [(vag [(vi u_vKind), (vi u_vN)])] h fun v1 h2 => ∃ (x3 : Int), v1 = (vi x3) ∧ R (vb (decide ((x3 : Int) = 0))) h2)
theorem ok_law_good {u_vKind : Int} {u_vN : Int} {h : Hp} {R : Value → Hp → Prop} (H : VC_law_good u_vKind u_vN h R) : CallOK Tryd.prog 19 [(vag [(vi u_vKind), (vi u_vN)])] h R :=
  call_of (cfg := ⟨[], [], []⟩) noNG mixed Tryd.func19 [.ag [.v (vi u_vKind), .v (vi u_vN)]] (by kernel_rfl) rfl (by kernel_rfl) H

/-- What 'penstock/penstocklaw.ValueSays' asks. -/
def VC_law_ValueSays (u_aKind : Int) (u_aN : Int) (u_bKind : Int) (u_bN : Int) (u_n : Int) (u_op : Int) (u_s : ByteArray) (h : Hp) (R : Value → Hp → Prop) : Prop :=
  (CallOK Tryd.prog 9 [] h fun v1 h2 => ∃ (p3 : Bool), v1 = (vb p3) ∧ (((bif (!p3) then true else (decide ((((ByteArray.size u_s : Nat) : Int) : Int) > 50))) = true → R (vb p3) h2) ∧ ((bif (!p3) then true else (decide ((((ByteArray.size u_s : Nat) : Int) : Int) > 50))) = false → (CallOK Tryd.prog 10 [] h2 fun v5 h6 => ∃ (x7 : Int) (x8 : Int), v5 = (vag [(vi x7), (vi x8)]) ∧ (∃ (p9 : Bool), (Rd Tryd.prog ((eqGuard .neq 32 (.tmp 29) (.tmp 30) (vag [(vi x7), (vi x8)]) (vag [(vi 0), (vi 0)]) >>= fun _ => binOp .neq 32 (vag [(vi x7), (vi x8)]) (vag [(vi 0), (vi 0)]))) h6 (vb p9)) ∧ (∃ (J10 : SV → Hp → Prop), (p9 = false → (CallOK Tryd.prog 11 [(vi u_n)] h6 fun v11 h12 => ∃ (x13 : Int) (x14 : Int), v11 = (vag [(vi x13), (vi x14)]) ∧ J10 (.t (.ag [.v (vi x13), .v (vi x14)])) h12)) ∧ (¬ (p9 = false) → J10 (.t (.ag [.v (vi 0), .v (vi 0)])) h6) ∧ ∀ (h15 : Hp) (x16 : Int) (x17 : Int), J10 (.t (.ag [.v (vi x16), .v (vi x17)])) h15 → (∃ (J18 : SV → Hp → Prop), (p9 = false → (CallOK Tryd.prog 12 [(vi u_n)] h15 fun v19 h20 => ∃ (x21 : Int) (x22 : Int), v19 = (vag [(vi x21), (vi x22)]) ∧ J18 (.t (.ag [.v (vi x21), .v (vi x22)])) h20)) ∧ (¬ (p9 = false) → J18 (.t (.ag [.v (vi 0), .v (vi 0)])) h15) ∧ ∀ (h23 : Hp) (x24 : Int) (x25 : Int), J18 (.t (.ag [.v (vi x24), .v (vi x25)])) h23 → (∃ (p26 : Bool), (p9 = false → Rd Tryd.prog ((eqGuard .neq 32 (.tmp 34) (.tmp 36) (vag [(vi x16), (vi x17)]) (vag [(vi x24), (vi x25)]) >>= fun _ => binOp .neq 32 (vag [(vi x16), (vi x17)]) (vag [(vi x24), (vi x25)]))) h23 (vb p26)) ∧ (∃ (J27 : SV → Hp → Prop), ((bif p9 then true else p26) = false → (CallOK Tryd.prog 13 [(vb (decide ((u_n : Int) > 0)))] h23 fun v28 h29 => ∃ (x30 : Int) (x31 : Int), v28 = (vag [(vi x30), (vi x31)]) ∧ J27 (.t (.ag [.v (vi x30), .v (vi x31)])) h29)) ∧ (¬ ((bif p9 then true else p26) = false) → J27 (.t (.ag [.v (vi 0), .v (vi 0)])) h23) ∧ ∀ (h32 : Hp) (x33 : Int) (x34 : Int), J27 (.t (.ag [.v (vi x33), .v (vi x34)])) h32 → (∃ (J35 : SV → Hp → Prop), ((bif p9 then true else p26) = false → (CallOK Tryd.prog 14 [(vb (decide ((u_n : Int) > 0)))] h32 fun v36 h37 => ∃ (x38 : Int) (x39 : Int), v36 = (vag [(vi x38), (vi x39)]) ∧ J35 (.t (.ag [.v (vi x38), .v (vi x39)])) h37)) ∧ (¬ ((bif p9 then true else p26) = false) → J35 (.t (.ag [.v (vi 0), .v (vi 0)])) h32) ∧ ∀ (h40 : Hp) (x41 : Int) (x42 : Int), J35 (.t (.ag [.v (vi x41), .v (vi x42)])) h40 → (∃ (p43 : Bool), ((bif p9 then true else p26) = false → Rd Tryd.prog ((eqGuard .neq 32 (.tmp 42) (.tmp 45) (vag [(vi x33), (vi x34)]) (vag [(vi x41), (vi x42)]) >>= fun _ => binOp .neq 32 (vag [(vi x33), (vi x34)]) (vag [(vi x41), (vi x42)]))) h40 (vb p43)) ∧ (∃ (J44 : SV → Hp → Prop), ((bif (bif p9 then true else p26) then true else p43) = false → (CallOK Tryd.prog 15 [(vag [(vi u_aKind), (vi u_aN)])] h40 fun v45 h46 => ∃ (e47 : Option (TypeId × Value)), v45 = (ifv e47) ∧ J44 (.t (.one (.ifc e47))) h46)) ∧ (¬ ((bif (bif p9 then true else p26) then true else p43) = false) → J44 (.t (.one (.ifc none))) h40) ∧ ∀ (h48 : Hp) (e49 : Option (TypeId × Value)), J44 (.t (.one (.ifc e49))) h48 → (∃ (J50 : SV → Hp → Prop), ((bif (bif p9 then true else p26) then true else p43) = false → (CallOK Tryd.prog 16 [(vag [(vi u_aKind), (vi u_aN)])] h48 fun v51 h52 => ∃ (x53 : Int), v51 = (vi x53) ∧ J50 (.t (.one (.v (vi x53)))) h52)) ∧ (¬ ((bif (bif p9 then true else p26) then true else p43) = false) → J50 (.t (.one (.v (vi 0)))) h48) ∧ ∀ (h54 : Hp) (x55 : Int), J50 (.t (.one (.v (vi x55)))) h54 → (∃ (J56 : SV → Hp → Prop), ((bif (bif p9 then true else p26) then true else p43) = false → (CallOK Tryd.prog 6 [(ifv e49), (vi x55)] h54 fun v57 h58 => ∃ (p59 : Bool), v57 = (vb p59) ∧ J56 (.t (.one (.v (vb p59)))) h58)) ∧ (¬ ((bif (bif p9 then true else p26) then true else p43) = false) → J56 (.t (.one (.v (vb false)))) h54) ∧ ∀ (h60 : Hp) (p61 : Bool), J56 (.t (.one (.v (vb p61)))) h60 → (((bif (bif (bif p9 then true else p26) then true else p43) then true else (!p61)) = true → R (vb false) h60) ∧ ((bif (bif (bif p9 then true else p26) then true else p43) then true else (!p61)) = false → (CallOK Tryd.prog 17 [(vs u_s)] h60 fun v63 h64 => ∃ (x65 : Int) (x66 : Int) (e67 : Option (TypeId × Value)), v63 = (vtup [(vag [(vi x65), (vi x66)]), (ifv e67)]) ∧ (CallOK Tryd.prog 18 [(vs u_s)] h64 fun v68 h69 => ∃ (x70 : Int) (x71 : Int) (x72 : Int), v68 = (vtup [(vag [(vi x70), (vi x71)]), (vi x72)]) ∧ (∃ (p73 : Bool), (Rd Tryd.prog ((eqGuard .neq 32 (.tmp 66) (.tmp 67) (vag [(vi x65), (vi x66)]) (vag [(vi x70), (vi x71)]) >>= fun _ => binOp .neq 32 (vag [(vi x65), (vi x66)]) (vag [(vi x70), (vi x71)]))) h69 (vb p73)) ∧ (∃ (J74 : SV → Hp → Prop), (p73 = false → (CallOK Tryd.prog 6 [(ifv e67), (vi x72)] h69 fun v75 h76 => ∃ (p77 : Bool), v75 = (vb p77) ∧ J74 (.t (.one (.v (vb p77)))) h76)) ∧ (¬ (p73 = false) → J74 (.t (.one (.v (vb false)))) h69) ∧ ∀ (h78 : Hp) (p79 : Bool), J74 (.t (.one (.v (vb p79)))) h78 → (((bif p73 then true else (!p79)) = true → R (vb false) h78) ∧ ((bif p73 then true else (!p79)) = false → (CallOK Tryd.prog 19 [(vag [(vi u_aKind), (vi u_aN)])] h78 fun v81 h82 => ∃ (p83 : Bool), v81 = (vb p83) ∧ (∃ (J84 : SV → Hp → Prop), ((!p83) = false → (CallOK Tryd.prog 19 [(vag [(vi u_bKind), (vi u_bN)])] h82 fun v85 h86 => ∃ (p87 : Bool), v85 = (vb p87) ∧ J84 (.t (.one (.v (vb p87)))) h86)) ∧ (¬ ((!p83) = false) → J84 (.t (.one (.v (vb false)))) h82) ∧ ∀ (h88 : Hp) (p89 : Bool), J84 (.t (.one (.v (vb p89)))) h88 → (((bif (!p83) then true else (!p89)) = true → R (vb true) h88) ∧ ((bif (!p83) then true else (!p89)) = false → (∀ (b91 : Nat), h88 b91 = none → let h92 : Hp := Hp.set h88 b91 (cellsO [(vi 1), (vi 0), (vi 0), (vi 0), (vi u_aKind), (vi u_aN), (vi 4), (vi 0), (vi 0), (vi 0), (vi 0), (vi 0)] 44); (∀ (b93 : Nat), h92 b93 = none → let h94 : Hp := Hp.set h92 b93 (cellsO [(vi 1), (vi 0), (vi 0), (vi 0), (vi u_aKind), (vi u_aN), (vi 3), (vi 0), (vi 0), (vi 0), (vi 0), (vi 0)] 44); (CallOK Tryd.prog 20 [(vag [(vi u_aKind), (vi u_aN)]), (vag [(vi u_bKind), (vi u_bN)])] h94 fun v95 h96 => ∃ (x97 : Int), v95 = (vi x97) ∧ (CallOK Tryd.prog 21 [(vi u_op), (vag [(vi u_aKind), (vi u_aN)]), (vag [(vi u_bKind), (vi u_bN)])] h96 fun v98 h99 => ∃ (x100 : Int) (x101 : Int), v98 = (vag [(vi x100), (vi x101)]) ∧ (CallOK Tryd.prog 22 [(vi u_op), (vag [(vi u_aKind), (vi u_aN)]), (vag [(vi u_bKind), (vi u_bN)])] h99 fun v102 h103 => ∃ (x104 : Int) (x105 : Int), v102 = (vag [(vi x104), (vi x105)]) ∧ (∃ (p106 : Bool), (Rd Tryd.prog ((eqGuard .eql 32 (.tmp 116) (.tmp 120) (vag [(vi x100), (vi x101)]) (vag [(vi x104), (vi x105)]) >>= fun _ => binOp .eql 32 (vag [(vi x100), (vi x101)]) (vag [(vi x104), (vi x105)]))) h103 (vb p106)) ∧ (∃ (J107 : SV → Hp → Prop), (p106 = true → (CallOK Tryd.prog 23 [(vag [(vi u_aKind), (vi u_aN)]), (vag [(vi u_bKind), (vi u_bN)])] h103 fun v108 h109 => ∃ (x110 : Int) (x111 : Int), v108 = (vag [(vi x110), (vi x111)]) ∧ J107 (.t (.ag [.v (vi x110), .v (vi x111)])) h109)) ∧ (¬ (p106 = true) → J107 (.t (.ag [.v (vi 0), .v (vi 0)])) h103) ∧ ∀ (h112 : Hp) (x113 : Int) (x114 : Int), J107 (.t (.ag [.v (vi x113), .v (vi x114)])) h112 → (∃ (J115 : SV → Hp → Prop), (p106 = true → (CallOK Tryd.prog 22 [(vi 9), (vag [(vi u_aKind), (vi u_aN)]), (vag [(vi u_bKind), (vi u_bN)])] h112 fun v116 h117 => ∃ (x118 : Int) (x119 : Int), v116 = (vag [(vi x118), (vi x119)]) ∧ J115 (.t (.ag [.v (vi x118), .v (vi x119)])) h117)) ∧ (¬ (p106 = true) → J115 (.t (.ag [.v (vi 0), .v (vi 0)])) h112) ∧ ∀ (h120 : Hp) (x121 : Int) (x122 : Int), J115 (.t (.ag [.v (vi x121), .v (vi x122)])) h120 → (∃ (p123 : Bool), (p106 = true → Rd Tryd.prog ((eqGuard .eql 32 (.tmp 125) (.tmp 128) (vag [(vi x113), (vi x114)]) (vag [(vi x121), (vi x122)]) >>= fun _ => binOp .eql 32 (vag [(vi x113), (vi x114)]) (vag [(vi x121), (vi x122)]))) h120 (vb p123)) ∧ (∃ (J124 : SV → Hp → Prop), ((bif p106 then p123 else false) = true → (CallOK Tryd.prog 24 [(vag [(vi u_aKind), (vi u_aN)])] h120 fun v125 h126 => ∃ (x127 : Int) (x128 : Int), v125 = (vag [(vi x127), (vi x128)]) ∧ J124 (.t (.ag [.v (vi x127), .v (vi x128)])) h126)) ∧ (¬ ((bif p106 then p123 else false) = true) → J124 (.t (.ag [.v (vi 0), .v (vi 0)])) h120) ∧ ∀ (h129 : Hp) (x130 : Int) (x131 : Int), J124 (.t (.ag [.v (vi x130), .v (vi x131)])) h129 → (∃ (J132 : SV → Hp → Prop), ((bif p106 then p123 else false) = true → (CallOK Tryd.prog 25 [(vsl (some (⟨b91, 0, none⟩ : Addr)) 2 2), (vag [(vi 0), (vi 0), (vi 0), (vi 0), (vi 0), (vi 0), (vi 0)])] h129 fun v133 h134 => ∃ (x135 : Int) (x136 : Int), v133 = (vag [(vi x135), (vi x136)]) ∧ J132 (.t (.ag [.v (vi x135), .v (vi x136)])) h134)) ∧ (¬ ((bif p106 then p123 else false) = true) → J132 (.t (.ag [.v (vi 0), .v (vi 0)])) h129) ∧ ∀ (h137 : Hp) (x138 : Int) (x139 : Int), J132 (.t (.ag [.v (vi x138), .v (vi x139)])) h137 → (∃ (p140 : Bool), ((bif p106 then p123 else false) = true → Rd Tryd.prog ((eqGuard .eql 32 (.tmp 133) (.tmp 136) (vag [(vi x130), (vi x131)]) (vag [(vi x138), (vi x139)]) >>= fun _ => binOp .eql 32 (vag [(vi x130), (vi x131)]) (vag [(vi x138), (vi x139)]))) h137 (vb p140)) ∧ (∃ (J141 : SV → Hp → Prop), ((bif (bif p106 then p123 else false) then p140 else false) = true → (CallOK Tryd.prog 26 [(vag [(vi u_aKind), (vi u_aN)])] h137 fun v142 h143 => ∃ (x144 : Int) (x145 : Int), v142 = (vag [(vi x144), (vi x145)]) ∧ J141 (.t (.ag [.v (vi x144), .v (vi x145)])) h143)) ∧ (¬ ((bif (bif p106 then p123 else false) then p140 else false) = true) → J141 (.t (.ag [.v (vi 0), .v (vi 0)])) h137) ∧ ∀ (h146 : Hp) (x147 : Int) (x148 : Int), J141 (.t (.ag [.v (vi x147), .v (vi x148)])) h146 → (∃ (J149 : SV → Hp → Prop), ((bif (bif p106 then p123 else false) then p140 else false) = true → (CallOK Tryd.prog 25 [(vsl (some (⟨b93, 0, none⟩ : Addr)) 2 2), (vag [(vi 0), (vi 0), (vi 0), (vi 0), (vi 0), (vi 0), (vi 0)])] h146 fun v150 h151 => ∃ (x152 : Int) (x153 : Int), v150 = (vag [(vi x152), (vi x153)]) ∧ J149 (.t (.ag [.v (vi x152), .v (vi x153)])) h151)) ∧ (¬ ((bif (bif p106 then p123 else false) then p140 else false) = true) → J149 (.t (.ag [.v (vi 0), .v (vi 0)])) h146) ∧ ∀ (h154 : Hp) (x155 : Int) (x156 : Int), J149 (.t (.ag [.v (vi x155), .v (vi x156)])) h154 → (∃ (p157 : Bool), ((bif (bif p106 then p123 else false) then p140 else false) = true → Rd Tryd.prog ((eqGuard .eql 32 (.tmp 141) (.tmp 144) (vag [(vi x147), (vi x148)]) (vag [(vi x155), (vi x156)]) >>= fun _ => binOp .eql 32 (vag [(vi x147), (vi x148)]) (vag [(vi x155), (vi x156)]))) h154 (vb p157)) ∧ (∃ (J158 : SV → Hp → Prop), ((bif (bif (bif p106 then p123 else false) then p140 else false) then p157 else false) = true → (CallOK Tryd.prog 27 [(vag [(vi u_aKind), (vi u_aN)])] h154 fun v159 h160 => ∃ (s161 : ByteArray), v159 = (vs s161) ∧ J158 (.t (.one (.v (vs s161)))) h160)) ∧ (¬ ((bif (bif (bif p106 then p123 else false) then p140 else false) then p157 else false) = true) → J158 (.t (.one (.v (vs ⟨#[]⟩)))) h154) ∧ ∀ (h162 : Hp) (s163 : ByteArray), J158 (.t (.one (.v (vs s163)))) h162 → (∃ (J164 : SV → Hp → Prop), ((bif (bif (bif p106 then p123 else false) then p140 else false) then p157 else false) = true → (CallOK Tryd.prog 28 [(vag [(vi u_aKind), (vi u_aN)])] h162 fun v165 h166 => ∃ (s167 : ByteArray), v165 = (vs s167) ∧ J164 (.t (.one (.v (vs s167)))) h166)) ∧ (¬ ((bif (bif (bif p106 then p123 else false) then p140 else false) then p157 else false) = true) → J164 (.t (.one (.v (vs ⟨#[]⟩)))) h162) ∧ ∀ (h168 : Hp) (s169 : ByteArray), J164 (.t (.one (.v (vs s169)))) h168 → (∃ (p170 : Bool), ((bif (bif (bif p106 then p123 else false) then p140 else false) then p157 else false) = true → Rd Tryd.prog ((eqGuard .eql 9 (.tmp 149) (.tmp 151) (vs s163) (vs s169) >>= fun _ => binOp .eql 9 (vs s163) (vs s169))) h168 (vb p170)) ∧ (∃ (p171 : Bool), ((bif (bif (bif (bif p106 then p123 else false) then p140 else false) then p157 else false) then p170 else false) = true → Rd Tryd.prog ((eqGuard .eql 4 (.tmp 156) (.tmp 157) (vb (decide ((x97 : Int) < 0))) (vb (bif (decide ((u_aKind : Int) < u_bKind)) then true else (bif (decide ((u_aKind : Int) = u_bKind)) then (decide ((u_aN : Int) < u_bN)) else false))) >>= fun _ => binOp .eql 4 (vb (decide ((x97 : Int) < 0))) (vb (bif (decide ((u_aKind : Int) < u_bKind)) then true else (bif (decide ((u_aKind : Int) = u_bKind)) then (decide ((u_aN : Int) < u_bN)) else false))))) h168 (vb p171)) ∧ (∃ (p172 : Bool), ((bif (bif (bif (bif (bif p106 then p123 else false) then p140 else false) then p157 else false) then p170 else false) then p171 else false) = true → Rd Tryd.prog ((eqGuard .eql 32 (.tmp 163) (.tmp 164) (vag [(vi u_aKind), (vi u_aN)]) (vag [(vi u_bKind), (vi u_bN)]) >>= fun _ => binOp .eql 32 (vag [(vi u_aKind), (vi u_aN)]) (vag [(vi u_bKind), (vi u_bN)]))) h168 (vb p172)) ∧ (∃ (p173 : Bool), ((bif (bif (bif (bif (bif p106 then p123 else false) then p140 else false) then p157 else false) then p170 else false) then p171 else false) = true → Rd Tryd.prog ((eqGuard .eql 4 (.tmp 162) (.tmp 165) (vb (decide ((x97 : Int) = 0))) (vb p172) >>= fun _ => binOp .eql 4 (vb (decide ((x97 : Int) = 0))) (vb p172))) h168 (vb p173)) ∧ R (vb (bif (bif (bif (bif (bif (bif p106 then p123 else false) then p140 else false) then p157 else false) then p170 else false) then p171 else false) then p173 else false)) h168)))))))))))))))))))))))))))))))))))))))))))))))
theorem ok_law_ValueSays {u_aKind : Int} {u_aN : Int} {u_bKind : Int} {u_bN : Int} {u_n : Int} {u_op : Int} {u_s : ByteArray} {h : Hp} {R : Value → Hp → Prop} (H : VC_law_ValueSays u_aKind u_aN u_bKind u_bN u_n u_op u_s h R) : CallOK Tryd.prog 4 [(vag [(vi u_aKind), (vi u_aN)]), (vag [(vi u_bKind), (vi u_bN)]), (vi u_n), (vi u_op), (vs u_s)] h R :=
  call_of (cfg := ⟨[], [], [(4, [1, 0, 2, 3, 4, 6, 5, 7, 8, 9, 10, 11, 12, 14, 15, 13, 16, 17, 18, 19, 20, 22, 21, 23, 24, 25, 26]), (16, [0, 1, 2, 4, 5, 6, 3, 7, 8, 9, 10, 11, 13, 14, 12, 15, 16, 17, 18, 19, 21, 22, 20, 23, 24, 25, 26, 27, 29, 30, 28, 31, 32, 33, 34, 35, 37, 36, 38, 39, 40, 41, 42, 43, 44, 45, 46, 47, 48, 49, 50, 51, 52, 53, 54, 55])]⟩) noNG mixed Tryd.func4 [.ag [.v (vi u_aKind), .v (vi u_aN)], .ag [.v (vi u_bKind), .v (vi u_bN)], .one (.v (vi u_n)), .one (.v (vi u_op)), .one (.v (vs u_s))] (by kernel_rfl) rfl (by kernel_rfl) H

end Go.Proofs.YtgonnpleihbklaaDoor
/-
  What the law ValueSays gives, for every argument: true; nothing of what was there has turned. Conditions: that the library's tables and errors lie there.
-/
namespace Go.Proofs.YtgonnpleihbklaaDoor
open Go Go.Vc Go.Txt
set_option linter.unusedVariables false
set_option maxRecDepth 100000

/-- A value, as a state holds it. -/
abbrev svE (v : Int × Int) : SV := .t (.ag [.v (vi v.1), .v (vi v.2)])
theorem law_values_ok {h : Hp} {R : Value → Hp → Prop} (hK : R (vb true) h) : CallOK Tryd.prog 9 [] h R := by
  refine ok_law_values ?_
  unfold VC_law_values
  refine value_Truth_ok ⟨_, _, rfl, value_Null_ok ⟨_, _, rfl, value_And_ok (a := truthV false) (b := (0, 0)) ⟨_, _, rfl, _, rd_eqV (a := andV (truthV false) (0, 0)) (b := truthV false), ?_⟩⟩⟩
  have e1 : andV (truthV false) (0, 0) = truthV false := by decide
  rw [decide_eq_true e1]
  refine ⟨fun x h' => h' = h ∧ x = svE (notV (truthV false)), fun _ => value_Not_ok (a := truthV false) ⟨_, _, rfl, rfl, rfl⟩, fun e => absurd rfl e, ?_⟩
  rintro h19 x20 x21 ⟨rfl, e⟩
  cases e
  refine ⟨fun x h' => h' = h19 ∧ x = svE (truthV true), fun _ => value_Truth_ok ⟨_, _, rfl, rfl, rfl⟩, fun e => absurd rfl e, ?_⟩
  rintro h27 x28 x29 ⟨rfl, e⟩
  cases e
  refine ⟨_, fun _ => rd_eqV (a := notV (truthV false)) (b := truthV true), ?_⟩
  have e2 : notV (truthV false) = truthV true := by decide
  rw [decide_eq_true e2]
  refine ⟨fun x h' => h' = h27 ∧ x = svE (numV 5), fun _ => value_Number_ok ⟨_, _, rfl, rfl, rfl⟩, fun e => absurd rfl e, ?_⟩
  rintro h36 x37 x38 ⟨rfl, e⟩
  cases e
  exact hK
theorem law_good_ok {v : Int × Int} {h : Hp} {R : Value → Hp → Prop} (hK : R (vb (decide (goodV v))) h) : CallOK Tryd.prog 19 [vag (encV v)] h R := by
  refine ok_law_good ?_
  unfold VC_law_good
  refine R_ValueFault_ok (v := v) ⟨_, rfl, ?_⟩
  have : decide ((if goodV v then (0 : Int) else 3) = 0) = decide (goodV v) := by
    by_cases hg : goodV v <;> simp [hg]
  rw [this]
  exact hK
abbrev ev0 : EvL := (0, (0, 0), (0, 0), (0, 0))
abbrev nd2 (op : Int) (a : Int × Int) : List Nd := [⟨1, 0, 0, 0, a⟩, ⟨op, 0, 0, 0, (0, 0)⟩]
theorem nd2_wf {op : Int} (ho : op = 3 ∨ op = 4) (a : Int × Int) : WfL (nd2 op a) := by
  intro i n hn
  match i, hn with
  | 0, hn =>
    cases hn
    exact ⟨by show 0 ≤ arI 1; decide, fun h => absurd h (by simp), fun h => absurd (show 1 ≤ arI 1 from h) (by decide), fun h => absurd (show 2 ≤ arI 1 from h) (by decide)⟩
  | 1, hn =>
    cases hn
    rcases ho with rfl | rfl
    · exact ⟨by decide, fun h => absurd h (by simp), fun _ => ⟨by decide, by decide⟩, fun h => absurd h (by decide)⟩
    · exact ⟨by decide, fun h => absurd h (by simp), fun _ => ⟨by decide, by decide⟩, fun h => absurd h (by decide)⟩
theorem cmp_lt {a b : Int × Int} : decide (cmpV a b < 0) = (bif (decide (a.1 < b.1)) then true else (bif (decide (a.1 = b.1)) then (decide (a.2 < b.2)) else false)) := by
  rw [cand, cor]
  refine decide_eq_decide.2 ?_
  unfold cmpV cmpI
  split <;> split <;> (try split) <;> (try split) <;> omega
theorem cmp_eq {a b : Int × Int} : decide (cmpV a b = 0) = decide (a = b) := by
  refine decide_eq_decide.2 ?_
  rw [Prod.ext_iff]
  unfold cmpV cmpI
  split <;> split <;> (try split) <;> (try split) <;> omega
theorem law_ValueSays_ok {a b : Int × Int} {n op : Int} {l : List UInt8} {h : Hp} (T : TabP h) (E : TabE h) (hl : l.length ≤ 9223372036854775807) : CallOK Tryd.prog 4 [vag (encV a), vag (encV b), vi n, vi op, vs (bs l)] h fun v h' => v = vb true ∧ h.le h' := by
  refine ok_law_ValueSays ?_
  unfold VC_law_ValueSays
  rw [bs_size]
  refine law_values_ok ⟨true, rfl, fun _ => ⟨rfl, Hp.le_refl h⟩, fun g => ?_⟩
  have hl50 : l.length ≤ 50 := by
    have := of_decide_eq_false (bor_false g).2
    omega
  clear g hl
  refine value_Null_ok ⟨_, _, rfl, _, rd_neqV (a := (0, 0)) (b := (0, 0)), ?_⟩
  have e0 : (!decide (((0, 0) : Int × Int) = (0, 0))) = false := by decide
  rw [e0]
  refine ⟨fun x h' => h' = h ∧ x = svE (numV n), fun _ => value_Number_ok ⟨_, _, rfl, rfl, rfl⟩, fun e => absurd rfl e, ?_⟩
  rintro h15 x16 x17 ⟨rfl, e⟩
  cases e
  refine ⟨fun x h' => h' = h15 ∧ x = svE (numV n), fun _ => R_Num_ok ⟨_, _, rfl, rfl, rfl⟩, fun e => absurd rfl e, ?_⟩
  rintro h23 x24 x25 ⟨rfl, e⟩
  cases e
  refine ⟨_, fun _ => rd_neqV (a := numV n) (b := numV n), ?_⟩
  rw [decide_eq_true rfl]
  refine ⟨fun x h' => h' = h23 ∧ x = svE (truthV (decide (n > 0))), fun _ => value_Truth_ok ⟨_, _, rfl, rfl, rfl⟩, fun e => absurd rfl e, ?_⟩
  rintro h32 x33 x34 ⟨rfl, e⟩
  cases e
  refine ⟨fun x h' => h' = h32 ∧ x = svE (truthV (decide (n > 0))), fun _ => R_Truth_ok ⟨_, _, rfl, rfl, rfl⟩, fun e => absurd rfl e, ?_⟩
  rintro h40 x41 x42 ⟨rfl, e⟩
  cases e
  refine ⟨_, fun _ => rd_neqV (a := truthV (decide (n > 0))) (b := truthV (decide (n > 0))), ?_⟩
  rw [decide_eq_true rfl]
  refine ⟨fun x h' => h' = h40 ∧ x = .t (.one (.ifc (errV (if goodV a then 0 else 3)))), fun _ => value_Check_ok (v := a) ⟨_, rfl, rfl, rfl⟩, fun e => absurd rfl e, ?_⟩
  rintro h48 e49 ⟨rfl, e⟩
  cases e
  refine ⟨fun x h' => h' = h48 ∧ x = .t (.one (.v (vi (if goodV a then 0 else 3)))), fun _ => R_ValueFault_ok (v := a) ⟨_, rfl, rfl, rfl⟩, fun e => absurd rfl e, ?_⟩
  rintro h54 x55 ⟨rfl, e⟩
  cases e
  refine ⟨fun x h' => h' = h54 ∧ x = .t (.one (.v (vb true))), fun _ => law_same_ok (f := if goodV a then 0 else 3) (by split <;> decide) ⟨_, rfl, rfl, by rw [decide_eq_true rfl]⟩, fun e => absurd rfl e, ?_⟩
  rintro h60 p61 ⟨rfl, e⟩
  cases e
  refine ⟨fun g => (by cases g), fun _ => ?_⟩
  refine value_Parse_ok (by omega) T E ⟨_, _, _, rfl, R_ValueOf_ok (by omega) ⟨_, _, _, rfl, ?_⟩⟩
  rw [read_same l]
  refine ⟨_, rd_neqV (a := (readR l).1) (b := (readR l).1), ?_⟩
  rw [decide_eq_true rfl]
  have h2 : 0 ≤ (readR l).2 := by
    unfold readR
    split
    · exact Int.le_refl 0
    · split
      · exact Int.le_refl 0
      · split
        · show (0 : Int) ≤ 4; decide
        · exact Int.le_refl 0
  refine ⟨fun x h' => h' = h60 ∧ x = .t (.one (.v (vb true))), fun _ => law_same_ok h2 ⟨_, rfl, rfl, by rw [decide_eq_true rfl]⟩, fun e => absurd rfl e, ?_⟩
  rintro h78 p79 ⟨rfl, e⟩
  cases e
  refine ⟨fun g => (by cases g), fun _ => law_good_ok (v := a) ⟨_, rfl, ?_⟩⟩
  refine ⟨fun x h' => h' = h78 ∧ ∃ p, x = .t (.one (.v (vb p))) ∧ (goodV a → p = decide (goodV b)), fun g => law_good_ok (v := b) ⟨_, rfl, rfl, _, rfl, fun _ => rfl⟩, fun g => ⟨rfl, false, rfl, fun ha => absurd (by rw [decide_eq_true ha]; rfl) g⟩, ?_⟩
  rintro h88 p89 ⟨rfl, p, e, hp⟩
  cases e
  refine ⟨fun _ => ⟨rfl, Hp.le_refl _⟩, fun g => ?_⟩
  obtain ⟨g1, g2⟩ := bor_false g
  have ha : goodV a := by
    by_cases ha : goodV a
    · exact ha
    · rw [decide_eq_false ha] at g1; cases g1
  have hb : goodV b := by
    rw [hp ha] at g2
    by_cases hb : goodV b
    · exact hb
    · rw [decide_eq_false hb] at g2; cases g2
  clear g g1 g2 hp
  intro b91 hb91 h92 b93 hb93 h94
  have l92 : h88.le h92 := Hp.le_set (Hp.le_refl h88) hb91 _
  have l94 : h92.le h94 := Hp.le_set (Hp.le_refl h92) hb93 _
  have S4 : SlP encN h92 (some ⟨b91, 0, none⟩) 2 (nd2 4 a) := ⟨rfl, HasRow.new _ _ ((nd2 4 a).flatMap encN) _⟩
  have S3 : SlP encN h94 (some ⟨b93, 0, none⟩) 2 (nd2 3 a) := ⟨rfl, HasRow.new _ _ ((nd2 3 a).flatMap encN) _⟩
  clear_value h92 h94
  have L94 := Hp.le_trans l92 l94
  refine value_Compare_ok (a := a) (b := b) fun h96 l96 => ⟨_, rfl, ?_⟩
  have L96 := Hp.le_trans L94 l96
  have S4 := (S4.le l94).le l96
  have S3 := S3.le l96
  refine value_Do_ok (a := a) (b := b) ⟨_, _, rfl, R_Do_ok (a := a) (b := b) ⟨_, _, rfl, _, rd_eqV (a := doV op a b) (b := doV op a b), ?_⟩⟩
  rw [decide_eq_true rfl]
  refine ⟨fun x h' => h' = h96 ∧ x = svE (andV a b), fun _ => value_And_ok (a := a) (b := b) ⟨_, _, rfl, rfl, rfl⟩, fun e => absurd rfl e, ?_⟩
  rintro h112 x113 x114 ⟨rfl, e⟩
  cases e
  refine ⟨fun x h' => h' = h112 ∧ x = svE (andV a b), fun _ => R_Do_ok (op := 9) (a := a) (b := b) ⟨_, _, rfl, rfl, rfl⟩, fun e => absurd rfl e, ?_⟩
  rintro h120 x121 x122 ⟨rfl, e⟩
  cases e
  refine ⟨_, fun _ => rd_eqV (a := andV a b) (b := andV a b), ?_⟩
  rw [decide_eq_true rfl]
  refine ⟨fun x h' => h' = h120 ∧ x = svE (notV a), fun _ => value_Not_ok (a := a) ⟨_, _, rfl, rfl, rfl⟩, fun e => absurd rfl e, ?_⟩
  rintro h129 x130 x131 ⟨rfl, e⟩
  cases e
  refine ⟨fun x h' => h' = h129 ∧ x = svE (notV a), fun _ => R_Eval_ok (e := ev0) S4 (nd2_wf (.inr rfl) a) (by simp) (by simp) ⟨_, _, rfl, rfl, rfl⟩, fun e => absurd rfl e, ?_⟩
  rintro h137 x138 x139 ⟨rfl, e⟩
  cases e
  refine ⟨_, fun _ => rd_eqV (a := notV a) (b := notV a), ?_⟩
  rw [decide_eq_true rfl]
  refine ⟨fun x h' => h' = h137 ∧ x = svE (negV a), fun _ => value_Neg_ok (a := a) ⟨_, _, rfl, rfl, rfl⟩, fun e => absurd rfl e, ?_⟩
  rintro h146 x147 x148 ⟨rfl, e⟩
  cases e
  refine ⟨fun x h' => h' = h146 ∧ x = svE (negV a), fun _ => R_Eval_ok (e := ev0) S3 (nd2_wf (.inl rfl) a) (by simp) (by simp) ⟨_, _, rfl, rfl, rfl⟩, fun e => absurd rfl e, ?_⟩
  rintro h154 x155 x156 ⟨rfl, e⟩
  cases e
  refine ⟨_, fun _ => rd_eqV (a := negV a) (b := negV a), ?_⟩
  rw [decide_eq_true rfl]
  have hs := ha.small
  unfold smallV at hs
  refine ⟨fun x h' => h' = h154 ∧ x = .t (.one (.v (vs (bs (textV a))))), fun _ => value_Text_ok (v := a) (by unfold InR; omega) (T.le L96) ⟨_, rfl, rfl, rfl⟩, fun e => absurd rfl e, ?_⟩
  rintro h162 s163 ⟨rfl, e⟩
  cases e
  refine ⟨fun x h' => h' = h162 ∧ x = .t (.one (.v (vs (bs (textV a))))), fun _ => R_ValueText_ok (v := a) ha ⟨_, rfl, rfl, rfl⟩, fun e => absurd rfl e, ?_⟩
  rintro h168 s169 ⟨rfl, e⟩
  cases e
  refine ⟨_, fun _ => rd_eqBs (a := textV a) (b := textV a), ?_⟩
  rw [decide_eq_true rfl]
  refine ⟨_, fun _ => rd_eqB (by kernel_rfl), ?_⟩
  rw [cmp_lt, beq_self_eq_true]
  refine ⟨_, fun _ => rd_eqV (a := a) (b := b), _, fun _ => rd_eqB (by kernel_rfl), ?_⟩
  rw [cmp_eq, beq_self_eq_true]
  exact ⟨rfl, L96⟩
end Go.Proofs.YtgonnpleihbklaaDoor
/-
  The framework, part O: what came in, opened: from the reading of an argument to what is known of the heap. No program in sight. Conditions: none.
-/
namespace Go.Vc
open Go
set_option linter.unusedVariables false

/-- What is asked of how much was read: of slices and of texts, and of all parts. -/
structure SmOK {H : Type} (Sm : DataW H → Prop) (N : Nat → Prop) : Prop where
  zero : N 0
  slice : ∀ es sp, Sm (.slice es sp) → N es.length ∧ ∀ x ∈ es, Sm x
  agg : ∀ xs, Sm (.agg xs) → ∀ x ∈ xs, Sm x
  str : ∀ l, Sm (.lit (.string l)) → N l.length
  ptr : ∀ x, Sm (.ptr x) → Sm x

theorem smTrue {H : Type} : SmOK (H := H) (fun _ => True) (fun _ => True) := ⟨trivial, fun _ _ _ => ⟨trivial, fun _ _ => trivial⟩, fun _ _ _ _ => trivial, fun _ _ => trivial, fun _ _ => trivial⟩

section
variable {P : Program} {H : Type} {enc0 : TypeId × Value → H} {w : World} {Sm : DataW H → Prop} {N : Nat → Prop}

/-- A cell that was read. -/
def Leaf (P : Program) (enc0 : TypeId × Value → H) (w : World) (Sm : DataW H → Prop) (t : TypeId) (v : Value) : Prop :=
  ∃ fuel d ps, DataW.trod enc0 P w 0 (fun _ => true) true fuel t [v] = some (d, ps) ∧ Sm d
/-- Cells that were read. -/
def LeafC (P : Program) (enc0 : TypeId × Value → H) (w : World) (Sm : DataW H → Prop) (t : TypeId) (cs : List Value) : Prop :=
  ∃ fuel d ps, DataW.trod enc0 P w 0 (fun _ => true) true fuel t cs = some (d, ps) ∧ Sm d

theorem leaf_int {t : TypeId} {k : IntKind} (hu : P.underlying t = some (.int k)) {cs : List Value} (L : LeafC P enc0 w Sm t cs) : ∃ n, cs = [.int k n] ∧ (Lit.int k n).wf = true := by
  obtain ⟨fuel, d, ps, h, _⟩ := L
  cases fuel with
  | zero => simp [DataW.trod] at h
  | succ fuel =>
    unfold DataW.trod at h
    rw [hu] at h
    split at h <;> first | (cases h; done) | skip
    all_goals simp_all
theorem leaf_i64 {t : TypeId} (hu : P.underlying t = some (.int .i64)) {cs : List Value} (L : LeafC P enc0 w Sm t cs) : ∃ n, cs = [vi n] ∧ InR n := by
  obtain ⟨n, rfl, h⟩ := leaf_int hu L
  exact ⟨n, rfl, by simpa [Lit.wf, IntKind.min, IntKind.max, IntKind.signed, IntKind.bits, InR] using h⟩
theorem leaf_bool {t : TypeId} (hu : P.underlying t = some .bool) {cs : List Value} (L : LeafC P enc0 w Sm t cs) : ∃ b, cs = [vb b] := by
  obtain ⟨fuel, d, ps, h, _⟩ := L
  cases fuel with
  | zero => simp [DataW.trod] at h
  | succ fuel =>
    unfold DataW.trod at h
    rw [hu] at h
    split at h <;> first | (cases h; done) | skip
    all_goals simp_all
theorem leaf_string (hS : SmOK Sm N) {t : TypeId} (hu : P.underlying t = some .string) {cs : List Value} (L : LeafC P enc0 w Sm t cs) : ∃ s, cs = [vs s] ∧ N s.size ∧ s.size ≤ maxLen := by
  obtain ⟨fuel, d, ps, h, hm⟩ := L
  cases fuel with
  | zero => simp [DataW.trod] at h
  | succ fuel =>
    unfold DataW.trod at h
    rw [hu] at h
    split at h <;> first | (rename_i hx; cases hx; done) | (cases h; done) | skip
    split at h
    · rename_i sz hsz
      simp only [Option.some.injEq, Prod.mk.injEq] at h
      obtain ⟨rfl, rfl⟩ := h
      have := hS.str _ hm
      exact ⟨_, rfl, by simpa using this, hsz⟩
    · cases h

theorem wf_u64 {n : Int} (h : (Lit.int .u64 n).wf = true) : 0 ≤ n ∧ n ≤ 18446744073709551615 := by simpa [Lit.wf, IntKind.min, IntKind.max, IntKind.signed, IntKind.bits] using h
theorem row_of_cells {b o : Nat} {xs : List Value} (hne : xs ≠ []) (h : ∀ j x, xs[j]? = some x → w.cell? ⟨b, o + j, none⟩ = some x) : (hpOf w).row b o xs.length = some xs := by
  obtain ⟨x0, l0, rfl⟩ := List.exists_cons_of_ne_nil hne
  have h0 := h 0 x0 rfl
  unfold World.cell? at h0
  simp only at h0
  cases hb : w.heap[b]? with
  | none => rw [hb] at h0; cases h0
  | some ob =>
    cases ob with
    | cells c t f =>
      have hc : ∀ j x, (x0 :: l0)[j]? = some x → c[o + j]? = some x := by
        intro j x hx
        have := h j x hx
        unfold World.cell? at this
        simp only [hb] at this
        simpa using this
      refine Hp.row_spec.2 ⟨c, t, f, hb, ?_, ?_⟩
      · have := hc l0.length ((x0 :: l0)[l0.length]) (by rw [List.getElem?_eq_getElem (by simp)])
        have := (Array.getElem?_eq_some_iff.1 this).1
        simp only [List.length_cons]
        omega
      · apply List.ext_getElem?
        intro j
        rw [List.getElem?_take]
        split
        · rename_i hj
          rw [List.getElem?_drop]
          have := hc j ((x0 :: l0)[j]) (List.getElem?_eq_getElem hj)
          rw [List.getElem?_eq_getElem hj]
          simpa using this.symm
        · rename_i hj
          exact List.getElem?_eq_none (by omega)
    | _ => rw [hb] at h0; simp at h0

theorem mapM_get {α β : Type} {f : α → Option β} : ∀ {l : List α} {ys : List β}, l.mapM f = some ys → ∀ (i : Nat) (x : α), l[i]? = some x → ∃ y, ys[i]? = some y ∧ f x = some y
  | [], ys, h, i, x, hx => by simp at hx
  | a :: l, ys, h, i, x, hx => by
    rw [List.mapM_cons] at h
    simp only [Option.bind_eq_bind, Option.bind_eq_some_iff, Option.pure_def, Option.some.injEq] at h
    obtain ⟨y, hy, zs, hzs, rfl⟩ := h
    cases i with
    | zero => simp at hx; subst hx; exact ⟨y, rfl, hy⟩
    | succ i => simpa using mapM_get hzs i x (by simpa using hx)
theorem cells_get {w : World} {base : Nat} {a : Addr} {n : Nat} {cs : List Value} (h : w.cells? base a n = some cs) : cs.length = n ∧ ∀ j x, cs[j]? = some x → w.cell? (a.add j) = some x := by
  unfold World.cells? at h
  split at h
  · have hl := length_mapM h
    rw [List.length_range] at hl
    refine ⟨hl, fun j x hx => ?_⟩
    have hj : j < n := by rw [← hl]; exact (List.getElem?_eq_some_iff.1 hx).1
    obtain ⟨y, h1, h2⟩ := mapM_get h j j (by simp [hj])
    rw [hx] at h1
    cases h1
    exact h2
  · cases h

/-- A slice that came in, its elements of known cells. -/
theorem leaf_slice {α : Type} {enc : α → List Value} {sz : Nat} {good : α → Prop} (hS : SmOK Sm N) {t e : TypeId} (hu : P.underlying t = some (.slice e)) (hsz : P.cellsOf e = sz) (hz : 0 < sz) (he : ∀ x, (enc x).length = sz)
    (hel : ∀ cs, LeafC P enc0 w Sm e cs → ∃ y, cs = enc y ∧ good y) {cs : List Value} (L : LeafC P enc0 w Sm t cs) :
    ∃ a n c l, cs = [vsl a n c] ∧ SlP enc (hpOf w) a n l ∧ n ≤ c ∧ c ≤ maxLen ∧ N n ∧ ∀ y ∈ l, good y := by
  obtain ⟨fuel, d, ps, h, hm⟩ := L
  cases fuel with
  | zero => simp [DataW.trod] at h
  | succ fuel =>
    unfold DataW.trod at h
    rw [hu] at h
    split at h <;> first | (rename_i hx; cases hx; done) | (cases h; done) | skip
    · exact ⟨none, 0, 0, [], rfl, ⟨rfl, .inl rfl⟩, Nat.le_refl _, Nat.zero_le _, hS.zero, by simp⟩
    · rename_i e' a len cap hx
      cases hx
      split at h
      · rename_i hc
        simp only [Option.bind_eq_some_iff, Option.map_eq_some_iff] at h
        obtain ⟨elems, he1, rest, hr, hx⟩ := h
        simp only [Prod.mk.injEq] at hx
        obtain ⟨rfl, rfl⟩ := hx
        have hel1 : elems.length = len := by have := length_mapM he1; simpa using this
        have hm1 := hS.slice _ _ hm
        rw [List.length_map, hel1] at hm1
        have each : ∀ i : Nat, i < len → ∃ y, good y ∧ w.cells? 0 (a.add (i * sz)) sz = some (enc y) := by
          intro i hi
          obtain ⟨x, h1, h2⟩ := mapM_get he1 i i (by simp [hi])
          simp only [Option.bind_eq_some_iff] at h2
          obtain ⟨cs, h3, h4⟩ := h2
          rw [hsz] at h3
          obtain ⟨y, rfl, hg⟩ := hel cs ⟨fuel, x.1, x.2, h4, hm1.2 x.1 (List.mem_map.2 ⟨x, List.mem_of_getElem? h1, rfl⟩)⟩
          exact ⟨y, hg, h3⟩
        have all : ∃ l : List α, l.length = len ∧ (∀ y ∈ l, good y) ∧ ∀ i y, l[i]? = some y → w.cells? 0 (a.add (i * sz)) sz = some (enc y) := by
          clear hm hm1 he1 hr hel1 hc
          induction len with
          | zero => exact ⟨[], rfl, by simp, by simp⟩
          | succ n ih =>
            obtain ⟨l, h1, h2, h3⟩ := ih (fun i hi => each i (by omega))
            obtain ⟨y, h4, h5⟩ := each n (by omega)
            refine ⟨l ++ [y], by simp [h1], ?_, ?_⟩
            · intro z hz'
              rcases List.mem_append.1 hz' with h6 | h6
              · exact h2 z h6
              · simp at h6; subst h6; exact h4
            · intro i z hz'
              rcases Nat.lt_or_ge i n with h6 | h6
              · rw [List.getElem?_append_left (by omega)] at hz'
                exact h3 i z hz'
              · rw [List.getElem?_append_right (by omega)] at hz'
                have : i = n := by
                  have := (List.getElem?_eq_some_iff.1 hz').1
                  simp at this
                  omega
                subst this
                rw [h1, Nat.sub_self] at hz'
                simp at hz'
                subst hz'
                exact h5
        obtain ⟨l, hl, hg, hcs⟩ := all
        refine ⟨some a, len, cap, l, rfl, ⟨hl.symm, ?_⟩, hc.2.1, hc.2.2, hm1.1, hg⟩
        cases l with
        | nil => exact .inl rfl
        | cons y l =>
          refine .inr ?_
          have c0 := (cells_get (hcs 0 y rfl)).2
          have hx0 : ∃ x, (enc y)[0]? = some x := ⟨_, List.getElem?_eq_getElem (by rw [he]; exact hz)⟩
          obtain ⟨x0, hx0⟩ := hx0
          have a0 := c0 0 x0 hx0
          obtain ⟨b, o, spot⟩ := a
          have hs : spot = none := by
            cases spot with
            | none => rfl
            | some s =>
              simp only [Nat.zero_mul, Addr.add] at a0
              unfold World.cell? at a0
              simp at a0
              split at a0 <;> simp at a0
          subst hs
          refine ⟨b, o, rfl, row_of_cells (by
            intro hn
            have := congrArg List.length hn
            rw [List.flatMap_cons, List.length_append, he] at this
            simp at this
            omega) ?_⟩
          intro j x hx
          have ad : ∀ o k, (⟨b, o, none⟩ : Addr).add k = ⟨b, o + k, none⟩ := by intro o k; unfold Addr.add; split <;> simp_all
          have hlen := flatMap_length he (y :: l)
          have hj : j < (y :: l).length * sz := by rw [← hlen]; exact (List.getElem?_eq_some_iff.1 hx).1
          have hq : j / sz < (y :: l).length := (Nat.div_lt_iff_lt_mul hz).2 hj
          have hd : sz * (j / sz) + j % sz = j := Nat.div_add_mod j sz
          have hr' : j % sz < sz := Nat.mod_lt _ hz
          have key : ((y :: l).flatMap enc)[j]? = (enc ((y :: l)[j / sz]))[j % sz]? := by
            have h1 := flatMap_drop he (j / sz) (y :: l)
            have h2 : ((y :: l).flatMap enc)[j]? = (((y :: l).flatMap enc).drop ((j / sz) * sz))[j % sz]? := by
              rw [List.getElem?_drop]
              congr 1
              rw [Nat.mul_comm]
              exact hd.symm
            rw [h2, h1, List.drop_eq_getElem_cons hq, List.flatMap_cons, List.getElem?_append_left (by rw [he]; exact hr')]
          rw [key] at hx
          have := (cells_get (hcs (j / sz) _ (List.getElem?_eq_getElem hq))).2 _ _ hx
          rw [ad, ad] at this
          have e3 : o + j / sz * sz + j % sz = o + j := by
            rw [Nat.mul_comm (j / sz) sz]; omega
          rw [e3] at this
          exact this
      · cases h

def flatIds (P : Program) : Nat → TypeId → List TypeId
  | 0, t => [t]
  | n + 1, t => match P.underlying t with
    | some (.struct fs) => fs.toList.flatMap fun f => flatIds P n f.type
    | _ => [t]
/-- The fields lie one behind the other. -/
def contig (P : Program) (N : Nat) : Nat → List Field → Bool
  | o, [] => Nat.beq o N
  | o, f :: l => Nat.beq f.offset o && contig P N (o + P.cellsOf f.type) l
def flatOK (P : Program) : Nat → TypeId → Bool
  | 0, _ => false
  | n + 1, t => match P.underlying t with
    | some (.struct fs) => contig P (P.cellsOf t) 0 fs.toList && fs.toList.all fun f => flatOK P n f.type
    | some (.array _ _) => false
    | some _ => Nat.beq (P.cellsOf t) 1
    | none => false
def LeafL (P : Program) (enc0 : TypeId × Value → H) (w : World) (Sm : DataW H → Prop) : List TypeId → List Value → Prop
  | [], [] => True
  | t :: ts, v :: vs => LeafC P enc0 w Sm t [v] ∧ LeafL P enc0 w Sm ts vs
  | _, _ => False
theorem leafL_append : ∀ {ts ts' : List TypeId} {vs vs' : List Value}, LeafL P enc0 w Sm ts vs → LeafL P enc0 w Sm ts' vs' → LeafL P enc0 w Sm (ts ++ ts') (vs ++ vs')
  | [], _, [], _, _, h => h
  | _ :: _, _, _ :: _, _, h1, h2 => ⟨h1.1, leafL_append h1.2 h2⟩
  | [], _, _ :: _, _, h, _ => h.elim
  | _ :: _, _, [], _, h, _ => h.elim
theorem trod_len {fuel : Nat} {t : TypeId} {cs : List Value} {x : DataW H × List MemPlace} (h : DataW.trod enc0 P w 0 (fun _ => true) true fuel t cs = some x) : (∃ v, cs = [v]) ∨ cs.length = P.cellsOf t := by
  cases fuel with
  | zero => simp [DataW.trod] at h
  | succ fuel =>
    unfold DataW.trod at h
    split at h <;> first | exact .inl ⟨_, rfl⟩ | skip
    · split at h
      · exact .inr (by assumption)
      · cases h
    · split at h
      · exact .inr (by assumption)
      · cases h
    · cases h
theorem leaf_flat (hS : SmOK Sm N) : ∀ (n : Nat) {t : TypeId} {cs : List Value}, flatOK P n t = true → LeafC P enc0 w Sm t cs → LeafL P enc0 w Sm (flatIds P n t) cs
  | 0, t, cs, h, _ => by simp [flatOK] at h
  | n + 1, t, cs, h, L => by
    unfold flatOK at h
    unfold flatIds
    split at h
    · rename_i fs hu
      simp only [hu]
      obtain ⟨fuel, d, ps, ht, hm⟩ := L
      cases fuel with
      | zero => simp [DataW.trod] at ht
      | succ fuel =>
        unfold DataW.trod at ht
        rw [hu] at ht
        simp only at ht
        split at ht
        · rename_i hlen
          simp only [Option.map_eq_some_iff] at ht
          obtain ⟨xs, hx, he⟩ := ht
          simp only [Prod.mk.injEq] at he
          obtain ⟨rfl, rfl⟩ := he
          have hm' := hS.agg _ hm
          simp only [Bool.and_eq_true] at h
          have go : ∀ (l : List Field) (o : Nat) (xs : List (DataW H × List MemPlace)), contig P (P.cellsOf t) o l = true → (∀ f ∈ l, flatOK P n f.type = true) →
              (l.mapM fun f => DataW.trod enc0 P w 0 (fun _ => true) true fuel f.type ((cs.drop f.offset).take (P.cellsOf f.type))) = some xs → (∀ x ∈ xs, Sm x.1) → o ≤ cs.length → LeafL P enc0 w Sm (l.flatMap fun f => flatIds P n f.type) (cs.drop o) := by
            intro l
            induction l with
            | nil =>
              intro o xs hc _ _ _ _
              simp only [contig, Nat.beq_eq] at hc
              rw [List.flatMap_nil, List.drop_of_length_le (by rw [hlen, hc]; exact Nat.le_refl _)]
              trivial
            | cons f l ih =>
              intro o xs hc hk hmm hsm ho
              simp only [contig, Bool.and_eq_true, Nat.beq_eq] at hc
              rw [List.mapM_cons] at hmm
              simp only [Option.bind_eq_bind, Option.bind_eq_some_iff, Option.pure_def, Option.some.injEq] at hmm
              obtain ⟨y, hy, zs, hzs, rfl⟩ := hmm
              rw [hc.1] at hy
              have h1 := leaf_flat hS n (hk f (by simp)) ⟨fuel, y.1, y.2, hy, hsm y (by simp)⟩
              have hle : o + P.cellsOf f.type ≤ cs.length := by
                have : ∀ (l : List Field) (o : Nat), contig P (P.cellsOf t) o l = true → o ≤ P.cellsOf t := by
                  intro l
                  induction l with
                  | nil => intro o hc; simp only [contig, Nat.beq_eq] at hc; omega
                  | cons g l ih => intro o hc; simp only [contig, Bool.and_eq_true] at hc; have := ih _ hc.2; omega
                rw [hlen]
                exact this l _ hc.2
              have h2 := ih (o + P.cellsOf f.type) zs hc.2 (fun g hg => hk g (by simp [hg])) hzs (fun x hx => hsm x (by simp [hx])) hle
              have := leafL_append h1 h2
              rw [List.flatMap_cons]
              rw [← List.drop_drop, List.take_append_drop] at this
              exact this
          have := go fs.toList 0 xs h.1 (fun f hf => List.all_eq_true.1 h.2 f hf) hx (fun x hx => hm' x.1 (List.mem_map.2 ⟨x, hx, rfl⟩)) (Nat.zero_le _)
          simpa using this
        · cases ht
    · cases h
    · rename_i u hu hns hna
      have hl : ∃ v, cs = [v] := by
        obtain ⟨fuel, d, ps, ht, hm⟩ := L
        rcases trod_len ht with h1 | h1
        · exact h1
        · rw [Nat.beq_eq] at h
          rw [h] at h1
          exact List.length_eq_one_iff.1 h1
      obtain ⟨v, rfl⟩ := hl
      split
      · rename_i fs' e9
        exfalso
        simp_all
        rename_i e10
        first | exact hu _ e10.symm | exact hu _ hna.symm | exact hu _ e9.symm
      · exact ⟨L, trivial⟩
    · cases h

/-- An argument that was read. -/
theorem leafC_of {t : TypeId} {v : Value} {d : DataW H} {ps : List MemPlace} (h : DataW.Trod enc0 P w 0 (fun _ => true) true t v d ps) (hm : Sm d) : LeafC P enc0 w Sm t v.cells.toList := by
  obtain ⟨fuel, h⟩ := h
  exact ⟨fuel, d, ps, h, hm⟩
end
end Go.Vc
/-
  THE STATEMENT Rows.ValueSaysCardSaid, proved: for every input the law returns true, and the input reads as it did. Conditions: none.
-/
namespace Go.Proofs.YtgonnpleihbklaaDoor.valueSays
open Go.ChangeShapes Go.WideShapes Go.ChangeAt Go.RowKit Go.Vc
set_option linter.unusedVariables false
set_option maxRecDepth 100000

theorem own : ownKnob Tryd.prog.godebug = none := by kernel_rfl
/-- The cells of what was read. -/
theorem open0 {H : Type} {enc : TypeId × Value → H} {W : World} {cs : List Value} (L : LeafL Tryd.prog enc W (fun _ => True) (flatIds Tryd.prog 4 32) cs) : ∃ (x0 : Int) (x1 : Int), cs = encV (x0, x1) ∧ InR x0 ∧ InR x1 := by
  have e : flatIds Tryd.prog 4 32 = [3, 3] := by kernel_rfl
  rw [e] at L
  match cs, L with
  | [v0, v1], L =>
    obtain ⟨x0, h0, g0⟩ := leaf_i64 Tryd.underlying3 (L.1)
    cases h0
    obtain ⟨x1, h1, g1⟩ := leaf_i64 Tryd.underlying3 (L.2.1)
    cases h1
    exact ⟨x0, x1, rfl, g0, g1⟩

abbrev lay := Rows.valueSaysRow.laid
/-- The library's tables, as they lie when the call begins. -/
theorem tabs {W : World} (hL : laidMetH Tryd.prog lay W) : TabP (hpOf W) := by
  rw [MakeChecks.laidMetH_plain _ _ _ (by kernel_rfl)] at hL
  have h3 : laidMet Tryd.prog (("internal/strconv.uint64pow10", Lib.tabData .u64 Lib.pow10Tab) :: lay.drop 3) W := hL.tail.tail
  have hT := Lib.tabIs_of_head (g := 2) (n := 20) (by kernel_rfl) (t := 89) (by kernel_rfl) (e := 75) (by kernel_rfl) (by kernel_rfl) (by kernel_rfl) (by kernel_rfl) h3
  intro w hs
  exact var_sub hT hs
theorem star : "*" ++ "errors.errorString" = "*errors.errorString" := by decide
theorem rowE (u : TypeId) (h : Tryd.prog.typeName? 3 u = some "*errors.errorString") : u = 96 :=
  typeName_ptr_named (nm := "errors.errorString") (by rw [star]; kernel_rfl) (by kernel_rfl) (by decide) u (by rw [star]; exact h)
/-- The library's two errors, as they lie when the call begins. -/
theorem errs {W : World} (hL : laidMetH Tryd.prog lay W) : TabE (hpOf W) := by
  rw [MakeChecks.laidMetH_plain _ _ _ (by kernel_rfl)] at hL
  have h4 : laidMet Tryd.prog (("strconv.ErrRange", _) :: ("strconv.ErrSyntax", _) :: lay.drop 5) W := hL.tail.tail.tail
  obtain ⟨a0, s0, hv0, _⟩ := laid_sentinel (g := 1) (ti := 27) h4 (by kernel_rfl) (by kernel_rfl) Tryd.underlying27 rowE Tryd.underlying96 Tryd.underlying98 rfl rfl Tryd.underlying9 (by kernel_rfl) (by kernel_rfl)
  obtain ⟨a1, s1, hv1, _⟩ := laid_sentinel (g := 0) (ti := 27) h4.tail (by kernel_rfl) (by kernel_rfl) Tryd.underlying27 rowE Tryd.underlying96 Tryd.underlying98 rfl rfl Tryd.underlying9 (by kernel_rfl) (by kernel_rfl)
  exact ⟨⟨_, _, fun w hs => vars_sub hv1 hs⟩, ⟨_, _, fun w hs => vars_sub hv0 hs⟩⟩
/-- The door's own heap meets the condition. -/
theorem door_met (os : Os) (args : Array Value) : laidMetH Tryd.prog lay ((World.doorLaid Tryd.prog 400 os).forCall (fun _ _ => 0) ⟨#[], args, []⟩).memory :=
  laidMetH_of_parts3 (fuel := 8) (laidMet_of_run' 8 (by kernel_rfl) (by kernel_rfl)) (by kernel_rfl) (by kernel_rfl)

set_option maxRecDepth 100000 in
theorem lifted (os : Os) (started : os.Started) (H : Type) (enc : TypeId × Value → H) :
    ReturnsInHanded {} Tryd.checked os 4 .any (fun w args => (Rows.valueSaysSpec.pre enc Tryd.prog Tryd.f4 Rows.valueSaysRow.domain false w args ∧ laidMetH Tryd.prog lay w) ∧ sizedMet enc Tryd.prog Tryd.f4 (OpenSpec.ofChange Rows.valueSaysSpec) false w args) (Rows.valueSaysSpec.post enc Tryd.prog Tryd.f4 false true false false) := by
  refine returnsInHanded_of_change_and (C := Tryd.checked) (X := fun w _ => laidMetH Tryd.prog lay w) (fun _ _ _ hh h => h.of_heap hh) own started (by kernel_rfl) Tryd.func4
    (ChangeSpec.witness_shaped (enc := enc) (C := Tryd.checked) (os := os) (X := fun w _ => laidMetH Tryd.prog lay w) false (World.doorLaid Tryd.prog 400 os) #[.agg #[.int .i64 0, .int .i64 0], .agg #[.int .i64 0, .int .i64 0], .int .i64 0, .int .i64 0, .string ⟨#[]⟩] 8 rfl (World.shaped_of_RefB (by kernel_rfl) (by kernel_rfl)) (by kernel_rfl) (by kernel_rfl) (by kernel_rfl) (door_met os _)) ?_
  intro W base args ds gs before hval0 hW hcnd _ hL _
  have T := tabs hL
  have E := errs hL
  have hval : ∀ (j : Nat) t v, Tryd.f4.params[j]? = some t → args[j]? = some v → Value.okWide Tryd.prog W .any base t v := hval0
  have hW' := hW
  obtain ⟨p, q, hA0, hV, rfl, hfz, hnd⟩ := hW
  have hA : DataW.TrodAll enc Tryd.prog W 0 (fun _ => true) true Tryd.f4.params.toList args.toList ds p := hA0
  rw [Tryd.params4] at hA hval
  obtain ⟨v0, vs0, d0, ds0, p0, q0, hargs, rfl, rfl, h0, r0⟩ := trodAll_cons hA
  obtain ⟨v1, vs1, d1, ds1, p1, q1, rfl, rfl, rfl, h1, r1⟩ := trodAll_cons r0
  obtain ⟨v2, vs2, d2, ds2, p2, q2, rfl, rfl, rfl, h2, r2⟩ := trodAll_cons r1
  obtain ⟨v3, vs3, d3, ds3, p3, q3, rfl, rfl, rfl, h3, r3⟩ := trodAll_cons r2
  obtain ⟨v4, vs4, d4, ds4, p4, q4, rfl, rfl, rfl, h4, r4⟩ := trodAll_cons r3
  obtain ⟨rfl, rfl, rfl⟩ := trodAll_nil r4
  obtain rfl : args = #[v0, v1, v2, v3, v4] := by cases args; simp_all
  obtain ⟨rfl, rfl⟩ := trodVars_none hV
  obtain ⟨cs0, rfl, _⟩ := okWide_struct Tryd.underlying32 (hval 0 32 v0 rfl rfl)
  obtain ⟨x0_0, x0_1, e0, g0⟩ := open0 (leaf_flat smTrue 4 (by kernel_rfl) (leafC_of (Sm := fun _ => True) h0 trivial))
  obtain rfl : cs0 = (encV (x0_0, x0_1)).toArray := by have q : cs0.toList = _ := e0; rw [← q]
  obtain ⟨cs1, rfl, _⟩ := okWide_struct Tryd.underlying32 (hval 1 32 v1 rfl rfl)
  obtain ⟨x1_0, x1_1, e1, g1⟩ := open0 (leaf_flat smTrue 4 (by kernel_rfl) (leafC_of (Sm := fun _ => True) h1 trivial))
  obtain rfl : cs1 = (encV (x1_0, x1_1)).toArray := by have q : cs1.toList = _ := e1; rw [← q]
  obtain ⟨a2, rfl⟩ := okWide_int Tryd.underlying3 (hval 2 3 v2 rfl rfl)
  obtain ⟨b2, e2, ga2⟩ := leaf_i64 Tryd.underlying3 (leafC_of (Sm := fun _ => True) h2 trivial)
  cases e2
  obtain ⟨a3, rfl⟩ := okWide_int Tryd.underlying3 (hval 3 3 v3 rfl rfl)
  obtain ⟨b3, e3, ga3⟩ := leaf_i64 Tryd.underlying3 (leafC_of (Sm := fun _ => True) h3 trivial)
  cases e3
  obtain ⟨s4, rfl⟩ := okWide_string Tryd.underlying9 (hval 4 9 v4 rfl rfl)
  obtain ⟨b4, e4, _, z4⟩ := leaf_string smTrue Tryd.underlying9 (leafC_of (Sm := fun _ => True) h4 trivial)
  cases e4
  refine (calls_law (by rw [bs_of s4]; exact law_ValueSays_ok (a := (x0_0, x0_1)) (b := (x1_0, x1_1)) T E (by have := z4; rw [bs_of s4, bs_size] at this; unfold maxLen at this; exact this))).mono fun e W' ⟨he, hg⟩ => ?_
  subst he
  exact ⟨_, rfl, law_post big hW' hg (by kernel_rfl) (tb := 4) (by kernel_rfl) (by kernel_rfl) rfl⟩

theorem over : Rows.valueSaysRow.holds Tryd.pinned (OpenSpec.ofChange Rows.valueSaysSpec) :=
  OpenClaim.holds_of_wide 4 Tryd.f4 rfl rfl rfl rfl rfl rfl rfl ⟨rfl, rfl, rfl, rfl, rfl⟩ rfl rfl rfl rfl rfl (by kernel_rfl) Tryd.func4 (by kernel_rfl)
    (of_decide_eq_true (by kernel_rfl)) (by unfold Func.isWrapper; first | (rw [if_pos (by decide +kernel)]; kernel_rfl) | (rw [if_neg (by decide +kernel)]; exact ⟨rfl, rfl⟩))
    (fun os started H enc _ => lifted os started H enc)

theorem proved : Rows.ValueSaysCardSaid :=
  Claim7.holds_tied_plain_at .later [] _ true _ true
    over (fun _ h => by cases h) (by kernel_rfl) (fun _ h => by cases h) valueSays_row_tie rfl ⟨rfl, rfl⟩ (by kernel_rfl) rfl
    (fun f fn hf hfn => by
      obtain rfl : f = 4 := Option.some.inj ((show Tryd.prog.funcNamed "penstock/penstocklaw.ValueSays" = some 4 by kernel_rfl).symm.trans hf) |>.symm
      obtain rfl : fn = Tryd.f4 := (Option.some.inj (Tryd.func4.symm.trans hfn)).symm
      exact ⟨by kernel_rfl, fun j t ht => by
        rw [Tryd.params4] at ht
        have hm : t ∈ [32, 32, 3, 3, 9] := by simpa using Array.mem_of_getElem? ht
        have hall : ([32, 32, 3, 3, 9].all fun u => !Tryd.prog.wantsStandIn u) = true := by kernel_rfl
        exact (show Tryd.prog.wantsStandIn t = false by simpa using List.all_eq_true.1 hall t hm)⟩)
    (by kernel_rfl)
end Go.Proofs.YtgonnpleihbklaaDoor.valueSays
