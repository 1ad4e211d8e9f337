/-
  The statement that the last part names, proved; and all that it stands on that is not in the parts ahead. Conditions: those stated at each.
-/
import Derived.Test.YtonlacplogbodaaDoorRows
import Derived.Test.YtonlacplogbodaaDoorCards
import Derived.Test.YtonlacplogbodaaDoorTie
import Derived.WalkKit
import Derived.ProofKit
import Derived.OpenShut
import Derived.LaidMore
import Derived.Stop.Joined
import Derived.Stop.LaidErr
import Derived.SevenTiedAt
import Derived.Test.YtonlacplogbodaaDoorTx4
/-
  What functions of the program ask, in words: each is what the framework reckons from the loaded code (the kernel holds the two together), and gives the function's call. Conditions: none.
-/
namespace Go.Proofs.YtonlacplogbodaaDoor
open Go Go.Vc
set_option maxRecDepth 100000
set_option linter.unusedVariables false
/-- What 'penstock/query.signs' asks. -/
def VC_query_signs  (h : Hp) (R : Value → Hp → Prop) : Prop :=
  (SemOK Tryd.prog (Instr.makeMap 71 none) h fun v1 h2 => ∃ (y3 : Value), v1 = y3 ∧ (SemOKu Tryd.prog (Instr.mapUpdate 71 y3 (vi 6) (vs ⟨#[43]⟩)) h2 fun h4 => (SemOKu Tryd.prog (Instr.mapUpdate 71 y3 (vi 7) (vs ⟨#[45]⟩)) h4 fun h5 => (SemOKu Tryd.prog (Instr.mapUpdate 71 y3 (vi 8) (vs ⟨#[42]⟩)) h5 fun h6 => (SemOKu Tryd.prog (Instr.mapUpdate 71 y3 (vi 9) (vs ⟨#[97, 110, 100]⟩)) h6 fun h7 => (SemOKu Tryd.prog (Instr.mapUpdate 71 y3 (vi 10) (vs ⟨#[111, 114]⟩)) h7 fun h8 => (SemOKu Tryd.prog (Instr.mapUpdate 71 y3 (vi 11) (vs ⟨#[60]⟩)) h8 fun h9 => (SemOKu Tryd.prog (Instr.mapUpdate 71 y3 (vi 12) (vs ⟨#[61]⟩)) h9 fun h10 => R y3 h10))))))))
theorem ok_query_signs  {h : Hp} {R : Value → Hp → Prop} (H : VC_query_signs  h R) : CallOK Tryd.prog 32 [] h R :=
  call_of (cfg := ⟨[], [], []⟩) noNG mixed Tryd.func32 [] (by kernel_rfl) rfl (by kernel_rfl) H

/-- What 'penstock/query.exprText' asks. -/
def VC_query_exprText (u_la : Option Addr) (u_ln u_lc : Nat) (h : Hp) (R : Value → Hp → Prop) : Prop :=
  (SemOK Tryd.prog (Instr.makeSlice 36 (vi ((u_ln : Nat) : Int)) (vi ((u_ln : Nat) : Int))) h fun v1 h2 => ∃ (a3 : Option Addr) (n3 c3 : Nat), v1 = (vsl a3 n3 c3) ∧ (∃ (I5 : List Value → Hp → Prop) (m6 : List Value → Hp → Nat), I5 [(vi 0)] h2 ∧ ∀ (vs7 : List Value) (h8 : Hp), I5 vs7 h8 → ∃ (x9 : Int), vs7 = [(vi x9)] ∧ (((decide ((x9 : Int) < ((u_ln : Nat) : Int))) = true → (let J92 : Hp → Prop := fun (h93 : Hp) => (∃ (x94 : Int), (IsW x94 (x9 + 1)) ∧ (I5 [(vi x94)] h93 ∧ m6 [(vi x94)] h93 < m6 vs7 h8)); (∃ (b12 o13 : Nat), (u_la = some ⟨b12, o13, none⟩ ∧ (0 : Int) ≤ x9 ∧ x9 < ((u_ln : Nat) : Int)) ∧ (∃ (x14 : Int) (x15 : Int) (x16 : Int) (x17 : Int) (x18 : Int) (x19 : Int), (Hp.row h8 b12 (o13 + x9.toNat * 6) 6 = some [(vi x14), (vi x15), (vi x16), (vi x17), (vi x18), (vi x19)]) ∧ (((decide ((x14 : Int) = 1)) = true → (CallOK Tryd.prog 31 [(vag [(vi x18), (vi x19)])] h8 fun v20 h21 => ∃ (s22 : ByteArray), v20 = (vs s22) ∧ (∃ (b23 o24 : Nat), (a3 = some ⟨b23, o24, none⟩ ∧ (0 : Int) ≤ x9 ∧ x9 < ((n3 : Nat) : Int)) ∧ (Hp.store h21 b23 (o24 + x9.toNat * 1) [(vs s22)] fun h25 => (((decide ((x19 : Int) < 0)) = true → (∃ (x26 : Int), (IsW x26 (-x19)) ∧ (CallOK Tryd.prog 19 [(vi x26)] h25 fun v27 h28 => ∃ (s29 : ByteArray), v27 = (vs s29) ∧ (∃ (s30 : ByteArray), (Rd Tryd.prog ((eqGuard .add 9 (.const (vs ⟨#[40, 48, 32, 45, 32]⟩)) (.tmp 59) (vs ⟨#[40, 48, 32, 45, 32]⟩) (vs s29) >>= fun _ => binOp .add 9 (vs ⟨#[40, 48, 32, 45, 32]⟩) (vs s29))) h28 (vs s30)) ∧ (∃ (s31 : ByteArray), (Rd Tryd.prog ((eqGuard .add 9 (.tmp 60) (.const (vs ⟨#[41]⟩)) (vs s30) (vs ⟨#[41]⟩) >>= fun _ => binOp .add 9 (vs s30) (vs ⟨#[41]⟩))) h28 (vs s31)) ∧ (∃ (b32 o33 : Nat), (a3 = some ⟨b32, o33, none⟩ ∧ (0 : Int) ≤ x9 ∧ x9 < ((n3 : Nat) : Int)) ∧ (Hp.store h28 b32 (o33 + x9.toNat * 1) [(vs s31)] fun h34 => (J92 h34)))))))) ∧ ((decide ((x19 : Int) < 0)) = false → (J92 h25))))))) ∧ ((decide ((x14 : Int) = 1)) = false → (((decide ((x14 : Int) = 2)) = true → (∃ (a37 : Option Addr) (n37 c37 : Nat), (Hp.cell h8 1 0 = some (vsl a37 n37 c37)) ∧ (∃ (b38 o39 : Nat), (a37 = some ⟨b38, o39, none⟩ ∧ (0 : Int) ≤ x17 ∧ x17 < ((n37 : Nat) : Int)) ∧ (∃ (s40 : ByteArray), (Hp.cell h8 b38 (o39 + x17.toNat * 1) = some (vs s40)) ∧ (∃ (b41 o42 : Nat), (a3 = some ⟨b41, o42, none⟩ ∧ (0 : Int) ≤ x9 ∧ x9 < ((n3 : Nat) : Int)) ∧ (Hp.store h8 b41 (o42 + x9.toNat * 1) [(vs s40)] fun h43 => (J92 h43))))))) ∧ ((decide ((x14 : Int) = 2)) = false → (((decide ((x14 : Int) = 3)) = true → (∃ (b45 o46 : Nat), (a3 = some ⟨b45, o46, none⟩ ∧ (0 : Int) ≤ x15 ∧ x15 < ((n3 : Nat) : Int)) ∧ (∃ (s47 : ByteArray), (Hp.cell h8 b45 (o46 + x15.toNat * 1) = some (vs s47)) ∧ (∃ (s48 : ByteArray), (Rd Tryd.prog ((eqGuard .add 9 (.const (vs ⟨#[40, 45, 32]⟩)) (.tmp 81) (vs ⟨#[40, 45, 32]⟩) (vs s47) >>= fun _ => binOp .add 9 (vs ⟨#[40, 45, 32]⟩) (vs s47))) h8 (vs s48)) ∧ (∃ (s49 : ByteArray), (Rd Tryd.prog ((eqGuard .add 9 (.tmp 82) (.const (vs ⟨#[41]⟩)) (vs s48) (vs ⟨#[41]⟩) >>= fun _ => binOp .add 9 (vs s48) (vs ⟨#[41]⟩))) h8 (vs s49)) ∧ (∃ (b50 o51 : Nat), (a3 = some ⟨b50, o51, none⟩ ∧ (0 : Int) ≤ x9 ∧ x9 < ((n3 : Nat) : Int)) ∧ (Hp.store h8 b50 (o51 + x9.toNat * 1) [(vs s49)] fun h52 => (J92 h52)))))))) ∧ ((decide ((x14 : Int) = 3)) = false → (((decide ((x14 : Int) = 4)) = true → (∃ (b54 o55 : Nat), (a3 = some ⟨b54, o55, none⟩ ∧ (0 : Int) ≤ x15 ∧ x15 < ((n3 : Nat) : Int)) ∧ (∃ (s56 : ByteArray), (Hp.cell h8 b54 (o55 + x15.toNat * 1) = some (vs s56)) ∧ (∃ (s57 : ByteArray), (Rd Tryd.prog ((eqGuard .add 9 (.const (vs ⟨#[40, 110, 111, 116, 32]⟩)) (.tmp 93) (vs ⟨#[40, 110, 111, 116, 32]⟩) (vs s56) >>= fun _ => binOp .add 9 (vs ⟨#[40, 110, 111, 116, 32]⟩) (vs s56))) h8 (vs s57)) ∧ (∃ (s58 : ByteArray), (Rd Tryd.prog ((eqGuard .add 9 (.tmp 94) (.const (vs ⟨#[41]⟩)) (vs s57) (vs ⟨#[41]⟩) >>= fun _ => binOp .add 9 (vs s57) (vs ⟨#[41]⟩))) h8 (vs s58)) ∧ (∃ (b59 o60 : Nat), (a3 = some ⟨b59, o60, none⟩ ∧ (0 : Int) ≤ x9 ∧ x9 < ((n3 : Nat) : Int)) ∧ (Hp.store h8 b59 (o60 + x9.toNat * 1) [(vs s58)] fun h61 => (J92 h61)))))))) ∧ ((decide ((x14 : Int) = 4)) = false → (((decide ((x14 : Int) = 5)) = true → (∃ (b63 o64 : Nat), (a3 = some ⟨b63, o64, none⟩ ∧ (0 : Int) ≤ x15 ∧ x15 < ((n3 : Nat) : Int)) ∧ (∃ (s65 : ByteArray), (Hp.cell h8 b63 (o64 + x15.toNat * 1) = some (vs s65)) ∧ (∃ (s66 : ByteArray), (Rd Tryd.prog ((eqGuard .add 9 (.const (vs ⟨#[40]⟩)) (.tmp 105) (vs ⟨#[40]⟩) (vs s65) >>= fun _ => binOp .add 9 (vs ⟨#[40]⟩) (vs s65))) h8 (vs s66)) ∧ (∃ (s67 : ByteArray), (Rd Tryd.prog ((eqGuard .add 9 (.tmp 106) (.const (vs ⟨#[32, 105, 115, 32, 110, 117, 108, 108, 41]⟩)) (vs s66) (vs ⟨#[32, 105, 115, 32, 110, 117, 108, 108, 41]⟩) >>= fun _ => binOp .add 9 (vs s66) (vs ⟨#[32, 105, 115, 32, 110, 117, 108, 108, 41]⟩))) h8 (vs s67)) ∧ (∃ (b68 o69 : Nat), (a3 = some ⟨b68, o69, none⟩ ∧ (0 : Int) ≤ x9 ∧ x9 < ((n3 : Nat) : Int)) ∧ (Hp.store h8 b68 (o69 + x9.toNat * 1) [(vs s67)] fun h70 => (J92 h70)))))))) ∧ ((decide ((x14 : Int) = 5)) = false → (∃ (b72 o73 : Nat), (a3 = some ⟨b72, o73, none⟩ ∧ (0 : Int) ≤ x15 ∧ x15 < ((n3 : Nat) : Int)) ∧ (∃ (s74 : ByteArray), (Hp.cell h8 b72 (o73 + x15.toNat * 1) = some (vs s74)) ∧ (∃ (s75 : ByteArray), (Rd Tryd.prog ((eqGuard .add 9 (.const (vs ⟨#[40]⟩)) (.tmp 24) (vs ⟨#[40]⟩) (vs s74) >>= fun _ => binOp .add 9 (vs ⟨#[40]⟩) (vs s74))) h8 (vs s75)) ∧ (∃ (s76 : ByteArray), (Rd Tryd.prog ((eqGuard .add 9 (.tmp 25) (.const (vs ⟨#[32]⟩)) (vs s75) (vs ⟨#[32]⟩) >>= fun _ => binOp .add 9 (vs s75) (vs ⟨#[32]⟩))) h8 (vs s76)) ∧ (∃ (b77 o78 : Nat), (a3 = some ⟨b77, o78, none⟩ ∧ (0 : Int) ≤ x16 ∧ x16 < ((n3 : Nat) : Int)) ∧ (∃ (s79 : ByteArray), (Hp.cell h8 b77 (o78 + x16.toNat * 1) = some (vs s79)) ∧ (CallOK Tryd.prog 32 [] h8 fun v80 h81 => ∃ (y82 : Value), v80 = y82 ∧ ((Hp.cell h81 b77 (o78 + x16.toNat * 1) = some (vs s79)) ∧ ((Rd Tryd.prog ((eqGuard .add 9 (.tmp 25) (.const (vs ⟨#[32]⟩)) (vs s75) (vs ⟨#[32]⟩) >>= fun _ => binOp .add 9 (vs s75) (vs ⟨#[32]⟩))) h81 (vs s76)) ∧ ((Rd Tryd.prog ((eqGuard .add 9 (.const (vs ⟨#[40]⟩)) (.tmp 24) (vs ⟨#[40]⟩) (vs s74) >>= fun _ => binOp .add 9 (vs ⟨#[40]⟩) (vs s74))) h81 (vs s75)) ∧ ((Hp.cell h81 b72 (o73 + x15.toNat * 1) = some (vs s74)) ∧ (∃ (s83 : ByteArray), (Rd Tryd.prog (Instr.lookup 71 y82 (vi x14) false) h81 (vs s83)) ∧ (∃ (s84 : ByteArray), (Rd Tryd.prog ((eqGuard .add 9 (.tmp 26) (.tmp 30) (vs s76) (vs s83) >>= fun _ => binOp .add 9 (vs s76) (vs s83))) h81 (vs s84)) ∧ (∃ (s85 : ByteArray), (Rd Tryd.prog ((eqGuard .add 9 (.tmp 31) (.const (vs ⟨#[32]⟩)) (vs s84) (vs ⟨#[32]⟩) >>= fun _ => binOp .add 9 (vs s84) (vs ⟨#[32]⟩))) h81 (vs s85)) ∧ (∃ (s86 : ByteArray), (Rd Tryd.prog ((eqGuard .add 9 (.tmp 32) (.tmp 37) (vs s85) (vs s79) >>= fun _ => binOp .add 9 (vs s85) (vs s79))) h81 (vs s86)) ∧ (∃ (s87 : ByteArray), (Rd Tryd.prog ((eqGuard .add 9 (.tmp 38) (.const (vs ⟨#[41]⟩)) (vs s86) (vs ⟨#[41]⟩) >>= fun _ => binOp .add 9 (vs s86) (vs ⟨#[41]⟩))) h81 (vs s87)) ∧ (∃ (b88 o89 : Nat), (a3 = some ⟨b88, o89, none⟩ ∧ (0 : Int) ≤ x9 ∧ x9 < ((n3 : Nat) : Int)) ∧ (Hp.store h81 b88 (o89 + x9.toNat * 1) [(vs s87)] fun h90 => (J92 h90))))))))))))))))))))))))))))))))) ∧ ((decide ((x9 : Int) < ((u_ln : Nat) : Int))) = false → (∃ (x95 : Int), (IsW x95 (((n3 : Nat) : Int) - 1)) ∧ (∃ (b96 o97 : Nat), (a3 = some ⟨b96, o97, none⟩ ∧ (0 : Int) ≤ x95 ∧ x95 < ((n3 : Nat) : Int)) ∧ (∃ (s98 : ByteArray), (Hp.cell h8 b96 (o97 + x95.toNat * 1) = some (vs s98)) ∧ R (vs s98) h8)))))))
theorem ok_query_exprText {u_la : Option Addr} {u_ln u_lc : Nat} {h : Hp} {R : Value → Hp → Prop} (H : VC_query_exprText u_la u_ln u_lc h R) : CallOK Tryd.prog 17 [(vsl u_la u_ln u_lc)] h R :=
  call_of (cfg := ⟨[], [(3, ([11], [.one (.int .i64)], []))], [(6, [0, 1, 2, 3, 4, 5, 6, 7, 8, 10, 11, 15, 16, 17, 18, 19, 9, 12, 13, 14, 20, 21, 22, 23])]⟩) noNG mixed Tryd.func17 [.one (.v (vsl u_la u_ln u_lc))] (by kernel_rfl) rfl (by kernel_rfl) H

/-- What 'penstock/query.Text' asks. -/
def VC_query_Text (u_qAggsa : Option Addr) (u_qAggsn u_qAggsc : Nat) (u_qWherea : Option Addr) (u_qWheren u_qWherec : Nat) (u_qBya : Option Addr) (u_qByn u_qByc : Nat) (u_qSize : Int) (u_qSlide : Int) (u_qDelay : Int) (u_qLate : Int) (h : Hp) (R : Value → Hp → Prop) : Prop :=
  (∃ (I2 : List Value → Hp → Prop) (m3 : List Value → Hp → Nat), I2 [(vsl none 0 0), (vi 0)] h ∧ ∀ (vs4 : List Value) (h5 : Hp), I2 vs4 h5 → ∃ (a6 : Option Addr) (n6 c6 : Nat) (x7 : Int), vs4 = [(vsl a6 n6 c6), (vi x7)] ∧ (((decide ((x7 : Int) < ((u_qAggsn : Nat) : Int))) = true → (∃ (b10 o11 : Nat), (u_qAggsa = some ⟨b10, o11, none⟩ ∧ (0 : Int) ≤ x7 ∧ x7 < ((u_qAggsn : Nat) : Int)) ∧ (∃ (x12 : Int) (a13 : Option Addr) (n13 c13 : Nat), (Hp.row h5 b10 (o11 + x7.toNat * 2) 2 = some [(vi x12), (vsl a13 n13 c13)]) ∧ (let J19 : ByteArray → Hp → Prop := fun (s26 : ByteArray) (h27 : Hp) => (∃ (a28 : Option Addr) (n28 c28 : Nat), (Hp.cell h27 0 0 = some (vsl a28 n28 c28)) ∧ (∃ (b29 o30 : Nat), (a28 = some ⟨b29, o30, none⟩ ∧ (0 : Int) ≤ x12 ∧ x12 < ((n28 : Nat) : Int)) ∧ (∃ (s31 : ByteArray), (Hp.cell h27 b29 (o30 + x12.toNat * 1) = some (vs s31)) ∧ (∃ (s32 : ByteArray), (Rd Tryd.prog ((eqGuard .add 9 (.tmp 27) (.const (vs ⟨#[40]⟩)) (vs s31) (vs ⟨#[40]⟩) >>= fun _ => binOp .add 9 (vs s31) (vs ⟨#[40]⟩))) h27 (vs s32)) ∧ (∃ (s33 : ByteArray), (Rd Tryd.prog ((eqGuard .add 9 (.tmp 28) (.tmp 29) (vs s32) (vs s26) >>= fun _ => binOp .add 9 (vs s32) (vs s26))) h27 (vs s33)) ∧ (∃ (s34 : ByteArray), (Rd Tryd.prog ((eqGuard .add 9 (.tmp 30) (.const (vs ⟨#[41]⟩)) (vs s33) (vs ⟨#[41]⟩) >>= fun _ => binOp .add 9 (vs s33) (vs ⟨#[41]⟩))) h27 (vs s34)) ∧ (∀ (b35 : Nat), h27 b35 = none → let h36 : Hp := Hp.set h27 b35 (cellsO [(vs s34)] 9); (SemOK Tryd.prog (Builtin.append_ #[36, 36] 36 #[(vsl a6 n6 c6), (vsl (some (⟨b35, 0, none⟩ : Addr)) 1 1)]) h36 fun v37 h38 => ∃ (a39 : Option Addr) (n39 c39 : Nat), v37 = (vsl a39 n39 c39) ∧ (∃ (x41 : Int), (IsW x41 (x7 + 1)) ∧ (I2 [(vsl a39 n39 c39), (vi x41)] h38 ∧ m3 [(vsl a39 n39 c39), (vi x41)] h38 < m3 vs4 h5)))))))))); (((decide ((x12 : Int) ≠ 1)) = true → (CallOK Tryd.prog 17 [(vsl a13 n13 c13)] h5 fun v14 h15 => ∃ (s16 : ByteArray), v14 = (vs s16) ∧ (J19 s16 h15))) ∧ ((decide ((x12 : Int) ≠ 1)) = false → (J19 ⟨#[42]⟩ h5))))))) ∧ ((decide ((x7 : Int) < ((u_qAggsn : Nat) : Int))) = false → (CallOK Tryd.prog 18 [(vsl a6 n6 c6), (vs ⟨#[44, 32]⟩)] h5 fun v42 h43 => ∃ (s44 : ByteArray), v42 = (vs s44) ∧ (∃ (s45 : ByteArray), (Rd Tryd.prog ((eqGuard .add 9 (.const (vs ⟨#[115, 101, 108, 101, 99, 116, 32]⟩)) (.tmp 36) (vs ⟨#[115, 101, 108, 101, 99, 116, 32]⟩) (vs s44) >>= fun _ => binOp .add 9 (vs ⟨#[115, 101, 108, 101, 99, 116, 32]⟩) (vs s44))) h43 (vs s45)) ∧ (∃ (s46 : ByteArray), (Rd Tryd.prog ((eqGuard .add 9 (.tmp 37) (.const (vs ⟨#[32, 102, 114, 111, 109, 32, 101, 118, 101, 110, 116, 115]⟩)) (vs s45) (vs ⟨#[32, 102, 114, 111, 109, 32, 101, 118, 101, 110, 116, 115]⟩) >>= fun _ => binOp .add 9 (vs s45) (vs ⟨#[32, 102, 114, 111, 109, 32, 101, 118, 101, 110, 116, 115]⟩))) h43 (vs s46)) ∧ (let J54 : ByteArray → Hp → Prop := fun (s60 : ByteArray) (h61 : Hp) => (let J69 : ByteArray → Hp → Prop := fun (s71 : ByteArray) (h72 : Hp) => (∃ (s73 : ByteArray), (Rd Tryd.prog ((eqGuard .add 9 (.tmp 59) (.const (vs ⟨#[32, 119, 105, 110, 100, 111, 119, 32]⟩)) (vs s71) (vs ⟨#[32, 119, 105, 110, 100, 111, 119, 32]⟩) >>= fun _ => binOp .add 9 (vs s71) (vs ⟨#[32, 119, 105, 110, 100, 111, 119, 32]⟩))) h72 (vs s73)) ∧ (InvOK Tryd.prog (Value.func (.func 19) #[] #[]) [(vi u_qSize)] h72 fun v74 h75 => ∃ (s76 : ByteArray), v74 = (vs s76) ∧ ((Rd Tryd.prog ((eqGuard .add 9 (.tmp 59) (.const (vs ⟨#[32, 119, 105, 110, 100, 111, 119, 32]⟩)) (vs s71) (vs ⟨#[32, 119, 105, 110, 100, 111, 119, 32]⟩) >>= fun _ => binOp .add 9 (vs s71) (vs ⟨#[32, 119, 105, 110, 100, 111, 119, 32]⟩))) h75 (vs s73)) ∧ (∃ (s77 : ByteArray), (Rd Tryd.prog ((eqGuard .add 9 (.tmp 60) (.tmp 64) (vs s73) (vs s76) >>= fun _ => binOp .add 9 (vs s73) (vs s76))) h75 (vs s77)) ∧ (∃ (s78 : ByteArray), (Rd Tryd.prog ((eqGuard .add 9 (.tmp 65) (.const (vs ⟨#[32, 115, 108, 105, 100, 101, 32]⟩)) (vs s77) (vs ⟨#[32, 115, 108, 105, 100, 101, 32]⟩) >>= fun _ => binOp .add 9 (vs s77) (vs ⟨#[32, 115, 108, 105, 100, 101, 32]⟩))) h75 (vs s78)) ∧ (InvOK Tryd.prog (Value.func (.func 19) #[] #[]) [(vi u_qSlide)] h75 fun v79 h80 => ∃ (s81 : ByteArray), v79 = (vs s81) ∧ ((Rd Tryd.prog ((eqGuard .add 9 (.tmp 65) (.const (vs ⟨#[32, 115, 108, 105, 100, 101, 32]⟩)) (vs s77) (vs ⟨#[32, 115, 108, 105, 100, 101, 32]⟩) >>= fun _ => binOp .add 9 (vs s77) (vs ⟨#[32, 115, 108, 105, 100, 101, 32]⟩))) h80 (vs s78)) ∧ ((Rd Tryd.prog ((eqGuard .add 9 (.tmp 60) (.tmp 64) (vs s73) (vs s76) >>= fun _ => binOp .add 9 (vs s73) (vs s76))) h80 (vs s77)) ∧ ((Rd Tryd.prog ((eqGuard .add 9 (.tmp 59) (.const (vs ⟨#[32, 119, 105, 110, 100, 111, 119, 32]⟩)) (vs s71) (vs ⟨#[32, 119, 105, 110, 100, 111, 119, 32]⟩) >>= fun _ => binOp .add 9 (vs s71) (vs ⟨#[32, 119, 105, 110, 100, 111, 119, 32]⟩))) h80 (vs s73)) ∧ (∃ (s82 : ByteArray), (Rd Tryd.prog ((eqGuard .add 9 (.tmp 66) (.tmp 70) (vs s78) (vs s81) >>= fun _ => binOp .add 9 (vs s78) (vs s81))) h80 (vs s82)) ∧ (∃ (s83 : ByteArray), (Rd Tryd.prog ((eqGuard .add 9 (.tmp 71) (.const (vs ⟨#[32, 100, 101, 108, 97, 121, 32]⟩)) (vs s82) (vs ⟨#[32, 100, 101, 108, 97, 121, 32]⟩) >>= fun _ => binOp .add 9 (vs s82) (vs ⟨#[32, 100, 101, 108, 97, 121, 32]⟩))) h80 (vs s83)) ∧ (InvOK Tryd.prog (Value.func (.func 19) #[] #[]) [(vi u_qDelay)] h80 fun v84 h85 => ∃ (s86 : ByteArray), v84 = (vs s86) ∧ ((Rd Tryd.prog ((eqGuard .add 9 (.tmp 71) (.const (vs ⟨#[32, 100, 101, 108, 97, 121, 32]⟩)) (vs s82) (vs ⟨#[32, 100, 101, 108, 97, 121, 32]⟩) >>= fun _ => binOp .add 9 (vs s82) (vs ⟨#[32, 100, 101, 108, 97, 121, 32]⟩))) h85 (vs s83)) ∧ ((Rd Tryd.prog ((eqGuard .add 9 (.tmp 66) (.tmp 70) (vs s78) (vs s81) >>= fun _ => binOp .add 9 (vs s78) (vs s81))) h85 (vs s82)) ∧ ((Rd Tryd.prog ((eqGuard .add 9 (.tmp 65) (.const (vs ⟨#[32, 115, 108, 105, 100, 101, 32]⟩)) (vs s77) (vs ⟨#[32, 115, 108, 105, 100, 101, 32]⟩) >>= fun _ => binOp .add 9 (vs s77) (vs ⟨#[32, 115, 108, 105, 100, 101, 32]⟩))) h85 (vs s78)) ∧ ((Rd Tryd.prog ((eqGuard .add 9 (.tmp 60) (.tmp 64) (vs s73) (vs s76) >>= fun _ => binOp .add 9 (vs s73) (vs s76))) h85 (vs s77)) ∧ ((Rd Tryd.prog ((eqGuard .add 9 (.tmp 59) (.const (vs ⟨#[32, 119, 105, 110, 100, 111, 119, 32]⟩)) (vs s71) (vs ⟨#[32, 119, 105, 110, 100, 111, 119, 32]⟩) >>= fun _ => binOp .add 9 (vs s71) (vs ⟨#[32, 119, 105, 110, 100, 111, 119, 32]⟩))) h85 (vs s73)) ∧ (∃ (s87 : ByteArray), (Rd Tryd.prog ((eqGuard .add 9 (.tmp 72) (.tmp 76) (vs s83) (vs s86) >>= fun _ => binOp .add 9 (vs s83) (vs s86))) h85 (vs s87)) ∧ (∃ (s88 : ByteArray), (Rd Tryd.prog ((eqGuard .add 9 (.tmp 77) (.const (vs ⟨#[32, 108, 97, 116, 101, 32]⟩)) (vs s87) (vs ⟨#[32, 108, 97, 116, 101, 32]⟩) >>= fun _ => binOp .add 9 (vs s87) (vs ⟨#[32, 108, 97, 116, 101, 32]⟩))) h85 (vs s88)) ∧ (InvOK Tryd.prog (Value.func (.func 19) #[] #[]) [(vi u_qLate)] h85 fun v89 h90 => ∃ (s91 : ByteArray), v89 = (vs s91) ∧ ((Rd Tryd.prog ((eqGuard .add 9 (.tmp 77) (.const (vs ⟨#[32, 108, 97, 116, 101, 32]⟩)) (vs s87) (vs ⟨#[32, 108, 97, 116, 101, 32]⟩) >>= fun _ => binOp .add 9 (vs s87) (vs ⟨#[32, 108, 97, 116, 101, 32]⟩))) h90 (vs s88)) ∧ ((Rd Tryd.prog ((eqGuard .add 9 (.tmp 72) (.tmp 76) (vs s83) (vs s86) >>= fun _ => binOp .add 9 (vs s83) (vs s86))) h90 (vs s87)) ∧ ((Rd Tryd.prog ((eqGuard .add 9 (.tmp 71) (.const (vs ⟨#[32, 100, 101, 108, 97, 121, 32]⟩)) (vs s82) (vs ⟨#[32, 100, 101, 108, 97, 121, 32]⟩) >>= fun _ => binOp .add 9 (vs s82) (vs ⟨#[32, 100, 101, 108, 97, 121, 32]⟩))) h90 (vs s83)) ∧ ((Rd Tryd.prog ((eqGuard .add 9 (.tmp 66) (.tmp 70) (vs s78) (vs s81) >>= fun _ => binOp .add 9 (vs s78) (vs s81))) h90 (vs s82)) ∧ ((Rd Tryd.prog ((eqGuard .add 9 (.tmp 65) (.const (vs ⟨#[32, 115, 108, 105, 100, 101, 32]⟩)) (vs s77) (vs ⟨#[32, 115, 108, 105, 100, 101, 32]⟩) >>= fun _ => binOp .add 9 (vs s77) (vs ⟨#[32, 115, 108, 105, 100, 101, 32]⟩))) h90 (vs s78)) ∧ ((Rd Tryd.prog ((eqGuard .add 9 (.tmp 60) (.tmp 64) (vs s73) (vs s76) >>= fun _ => binOp .add 9 (vs s73) (vs s76))) h90 (vs s77)) ∧ ((Rd Tryd.prog ((eqGuard .add 9 (.tmp 59) (.const (vs ⟨#[32, 119, 105, 110, 100, 111, 119, 32]⟩)) (vs s71) (vs ⟨#[32, 119, 105, 110, 100, 111, 119, 32]⟩) >>= fun _ => binOp .add 9 (vs s71) (vs ⟨#[32, 119, 105, 110, 100, 111, 119, 32]⟩))) h90 (vs s73)) ∧ (∃ (s92 : ByteArray), (Rd Tryd.prog ((eqGuard .add 9 (.tmp 78) (.tmp 82) (vs s88) (vs s91) >>= fun _ => binOp .add 9 (vs s88) (vs s91))) h90 (vs s92)) ∧ R (vs s92) h90)))))))))))))))))))))))))))); (((decide ((((u_qByn : Nat) : Int) : Int) > 0)) = true → (CallOK Tryd.prog 17 [(vsl u_qBya u_qByn u_qByc)] h61 fun v62 h63 => ∃ (s64 : ByteArray), v62 = (vs s64) ∧ (∃ (s65 : ByteArray), (Rd Tryd.prog ((eqGuard .add 9 (.const (vs ⟨#[32, 103, 114, 111, 117, 112, 32, 98, 121, 32]⟩)) (.tmp 56) (vs ⟨#[32, 103, 114, 111, 117, 112, 32, 98, 121, 32]⟩) (vs s64) >>= fun _ => binOp .add 9 (vs ⟨#[32, 103, 114, 111, 117, 112, 32, 98, 121, 32]⟩) (vs s64))) h63 (vs s65)) ∧ (∃ (s66 : ByteArray), (Rd Tryd.prog ((eqGuard .add 9 (.tmp 53) (.tmp 57) (vs s60) (vs s65) >>= fun _ => binOp .add 9 (vs s60) (vs s65))) h63 (vs s66)) ∧ (J69 s66 h63))))) ∧ ((decide ((((u_qByn : Nat) : Int) : Int) > 0)) = false → (J69 s60 h61)))); (((decide ((((u_qWheren : Nat) : Int) : Int) > 0)) = true → (CallOK Tryd.prog 17 [(vsl u_qWherea u_qWheren u_qWherec)] h43 fun v47 h48 => ∃ (s49 : ByteArray), v47 = (vs s49) ∧ (∃ (s50 : ByteArray), (Rd Tryd.prog ((eqGuard .add 9 (.const (vs ⟨#[32, 119, 104, 101, 114, 101, 32]⟩)) (.tmp 46) (vs ⟨#[32, 119, 104, 101, 114, 101, 32]⟩) (vs s49) >>= fun _ => binOp .add 9 (vs ⟨#[32, 119, 104, 101, 114, 101, 32]⟩) (vs s49))) h48 (vs s50)) ∧ (∃ (s51 : ByteArray), (Rd Tryd.prog ((eqGuard .add 9 (.tmp 43) (.tmp 47) (vs s46) (vs s50) >>= fun _ => binOp .add 9 (vs s46) (vs s50))) h48 (vs s51)) ∧ (J54 s51 h48))))) ∧ ((decide ((((u_qWheren : Nat) : Int) : Int) > 0)) = false → (J54 s46 h43))))))))))
theorem ok_query_Text {u_qAggsa : Option Addr} {u_qAggsn u_qAggsc : Nat} {u_qWherea : Option Addr} {u_qWheren u_qWherec : Nat} {u_qBya : Option Addr} {u_qByn u_qByc : Nat} {u_qSize : Int} {u_qSlide : Int} {u_qDelay : Int} {u_qLate : Int} {h : Hp} {R : Value → Hp → Prop} (H : VC_query_Text u_qAggsa u_qAggsn u_qAggsc u_qWherea u_qWheren u_qWherec u_qBya u_qByn u_qByc u_qSize u_qSlide u_qDelay u_qLate h R) : CallOK Tryd.prog 5 [(vag [(vsl u_qAggsa u_qAggsn u_qAggsc), (vsl u_qWherea u_qWheren u_qWherec), (vsl u_qBya u_qByn u_qByc), (vi u_qSize), (vi u_qSlide), (vi u_qDelay), (vi u_qLate)])] h R :=
  call_of (cfg := ⟨[], [(3, ([3, 12], [.one (.slice), .one (.int .i64)], []))], [(16, [0, 1, 2, 3, 4, 8, 9, 10, 14, 15, 16, 20, 21, 22, 5, 6, 7, 11, 12, 13, 17, 18, 19, 23, 24, 25])]⟩) noNG mixed Tryd.func5 [.ag [.v (vsl u_qAggsa u_qAggsn u_qAggsc), .v (vsl u_qWherea u_qWheren u_qWherec), .v (vsl u_qBya u_qByn u_qByc), .v (vi u_qSize), .v (vi u_qSlide), .v (vi u_qDelay), .v (vi u_qLate)]] (by kernel_rfl) rfl (by kernel_rfl) H

end Go.Proofs.YtonlacplogbodaaDoor
/-
  Contracts: package query: Text. Conditions: that the question may be; that the library's tables and the names of fields lie as laid.
-/
namespace Go.Proofs.YtonlacplogbodaaDoor
open Go Go.Vc Go.Txt Go.RowKit
set_option linter.unusedVariables false
set_option maxRecDepth 100000

theorem strings_Join_ok {a : Option Addr} {n c : Nat} {l : List Wd} {sep : Wd} {h : Hp} {R : Value → Hp → Prop} (S : SlB h a n l) (hn : 0 < n) (hc : n ≤ c) (hn2 : n ≤ 1000000) (hlen : (Lib.join l sep).length ≤ 1000000) (hK : R (vs (bs (Lib.join l sep))) h) : CallOK Tryd.prog 18 [vsl a n c, vs (bs sep)] h R := by
  obtain rfl := S.1
  obtain ⟨b, o, ha, hcell⟩ := SlP.get1 S hn
  subst ha
  have hmap : ((l.map bs).map fun x => x.data.toList) = l := by
    rw [List.map_map]
    have : ((fun x : ByteArray => x.data.toList) ∘ bs) = id := by funext x; simp [bs]
    rw [this, List.map_id]
  have hs : (bs sep).data.toList = sep := by simp [bs]
  have hl : (l.map bs).length = l.length := by simp
  refine callOK_below fun w hw => ?_
  have hcs : ∀ (j : Nat) x, (l.map bs)[j]? = some x → w.cell? ⟨b, o + j, none⟩ = some (.string x) := by
    intro j x hx
    rw [List.getElem?_map, Option.map_eq_some_iff] at hx
    obtain ⟨y, hy, rfl⟩ := hx
    have hj := (List.getElem?_eq_some_iff.1 hy).1
    obtain ⟨b', o', e, hc'⟩ := SlP.get1 S hj
    cases e
    rw [List.getD_eq_getElem?_getD, hy, Nat.mul_one] at hc'
    exact cell_cell hc' hw
  have hbk : b < w.heap.size := by
    have h1 := cell_cell hcell hw
    unfold World.cell? at h1
    cases hb : w.heap[b]? with
    | none => rw [hb] at h1; cases h1
    | some ob => exact (Array.getElem?_eq_some_iff.1 hb).1
  have := Tryd.strings_Join b o c (l.map bs) (bs sep) w hcs hbk (by rw [hl]; omega) (by rw [hl]; exact hc) (by rw [hmap, hs]; omega)
  rw [hl, hmap, hs] at this
  refine this.mono fun e w' ⟨he, hB⟩ => ⟨_, he, hB, hK⟩
theorem rd_mapI {h : Hp} {b : Nat} {es : Array MapEntry} {clock : Nat} (hb : h b = some (.map es clock)) {x : Int} {w : Wd} {i : Nat} (hf : Instr.findNow (.int .i64) (vi x) es.toList 0 = some (some (i, vs (bs w)))) : Rd Tryd.prog (Instr.lookup 71 (.map (some b)) (vi x) false) h (vs (bs w)) :=
  rd_lookup (k := 3) (e := 9) (d := .int .i64) (by kernel_rfl) (by kernel_rfl) hb rfl hf
theorem sem_mapI {h : Hp} {b : Nat} {es : Array MapEntry} {clock : Nat} (hb : h b = some (.map es clock)) {x : Int} {v : Value} (hf : Instr.findNow (.int .i64) (vi x) es.toList 0 = some none) {K : Hp → Prop} (hK : K (h.set b (.map (es.push { key := vi x, val := v, born := clock }) (clock + 1)))) : SemOKu Tryd.prog (Instr.mapUpdate 71 (.map (some b)) (vi x) v) h K :=
  sem_mapNew (k := 3) (e := 9) (d := .int .i64) (key := vi x) (by kernel_rfl) (by kernel_rfl) hb rfl hf hK
theorem query_signs_ok {h : Hp} {R : Value → Hp → Prop} (hK : ∀ y h', h.le h' → (∀ op, 6 ≤ op → op ≤ 12 → Rd Tryd.prog (Instr.lookup 71 y (vi op) false) h' (vs (bs (signW op)))) → R y h') : CallOK Tryd.prog 32 [] h R := by
  refine ok_query_signs ?_
  unfold VC_query_signs
  refine sem_makeMap fun b hb => ⟨_, rfl, ?_⟩
  refine sem_mapI (Hp.set_same _ _ _) rfl (sem_mapI (Hp.set_same _ _ _) rfl (sem_mapI (Hp.set_same _ _ _) rfl (sem_mapI (Hp.set_same _ _ _) rfl (sem_mapI (Hp.set_same _ _ _) rfl (sem_mapI (Hp.set_same _ _ _) rfl (sem_mapI (Hp.set_same _ _ _) rfl ?_))))))
  simp only [Hp.set_set]
  refine hK _ _ (Hp.le_set (Hp.le_refl h) hb _) fun op h1 h2 => ?_
  have hop : op = 6 ∨ op = 7 ∨ op = 8 ∨ op = 9 ∨ op = 10 ∨ op = 11 ∨ op = 12 := by omega
  rcases hop with rfl | rfl | rfl | rfl | rfl | rfl | rfl
  · exact rd_mapI (Hp.set_same _ _ _) (i := 0) rfl
  · exact rd_mapI (Hp.set_same _ _ _) (i := 1) rfl
  · exact rd_mapI (Hp.set_same _ _ _) (i := 2) rfl
  · exact rd_mapI (Hp.set_same _ _ _) (i := 3) rfl
  · exact rd_mapI (Hp.set_same _ _ _) (i := 4) rfl
  · exact rd_mapI (Hp.set_same _ _ _) (i := 5) rfl
  · exact rd_mapI (Hp.set_same _ _ _) (i := 6) rfl
theorem cat_le {l m : Wd} (h1 : l.length ≤ 1000000000) (h2 : m.length ≤ 1000000000) : l.length + m.length ≤ maxLen := by unfold maxLen; omega
theorem query_exprText_ok {a : Option Addr} {m c : Nat} {l : List Nd} {h : Hp} (S : SlP encN h a m l) (hx0 : exprF l = 0) (T : TabQ h) {R : Value → Hp → Prop} (hK : ∀ h', h.le h' → R (vs (bs (txE l))) h') : CallOK Tryd.prog 17 [vsl a m c] h R := by
  refine ok_query_exprText ?_
  unfold VC_query_exprText
  obtain rfl := S.1
  obtain ⟨O, hl40⟩ := exprF_ok hx0
  have W := O.wf
  have hpos := O.pos
  refine Vec.make (enc := encB) (x := []) elStr (z := [vs ⟨#[]⟩]) (by kernel_rfl) rfl rfl (by omega) (by omega) fun a3 h2 V2 => ⟨_, _, _, rfl, ?_⟩
  refine ⟨fun vs' hh => ∃ (i : Nat) (outs : List Wd), vs' = [vi i] ∧ i ≤ l.length ∧ outs.length = l.length ∧ outs.take i = fwd [] txF (l.take i) ∧ Vec encB 1 9 h hh a3 l.length outs, fun vs' hh => l.length - (vint vs' 0).toNat,
    ⟨0, _, rfl, Nat.zero_le _, by simp, rfl, V2⟩, ?_⟩
  rintro vs' hh ⟨i, outs, rfl, hi, hlo, ho, V⟩
  refine ⟨i, rfl, fun q => ?_, fun q => ?_⟩
  · have hlt : i < l.length := by have := of_decide_eq_true q; omega
    have hx : l[i]? = some l[i] := List.getElem?_eq_getElem hlt
    have Wn := W _ _ hx
    have hgv := nodeF_v (O.n _ (List.mem_of_getElem? hx))
    have hv : txAt l i = _ := fAt_wf own_txF hx Wn
    have hset := outs_set ho hx hlo
    have hTL := fun (k : Nat) (hk : k < l.length) => tx_len O hl40 hk
    obtain ⟨b, o, ha, hr⟩ := (S.le V.le0).get encN_len (by decide) hx
    generalize l[i] = n at *
    have hout : outs[i]? = some (outs[i]'(by omega)) := List.getElem?_eq_getElem (by omega)
    intro J92
    have hJ : ∀ h', Vec encB 1 9 h h' a3 l.length (outs.set i (txAt l i)) → J92 h' := by
      intro h' V'
      exact ⟨_, isW (by unfold InR; omega), ⟨i + 1, _, rfl, by omega, by rw [List.length_set]; exact hlo, hset, V'⟩, by simp [vint]; omega⟩
    clear_value J92
    obtain ⟨b3, o3, ha3, _⟩ := V.put encB_len (x' := txAt l i) (k := 0) (vs := encB (txAt l i)) hout (by rw [encB_len]; decide) (by rw [encB_len]; decide) rfl
    have A3 : ∀ {x : Int}, 0 ≤ x → x < l.length → a3 = some ⟨b3, o3, none⟩ ∧ (0 : Int) ≤ x ∧ x < (l.length : Nat) := fun h0 h1 => ⟨ha3, h0, h1⟩
    have Ai : a3 = some ⟨b3, o3, none⟩ ∧ (0 : Int) ≤ i ∧ (i : Int) < (l.length : Nat) := A3 (by omega) (by omega)
    have rdo : ∀ {h' : Hp} {x : Int}, hh.le h' → 0 ≤ x → x < i → h'.cell b3 (o3 + x.toNat * 1) = some (vs (bs (txAt l x.toNat))) := by
      intro h' x hl h0 h1
      obtain ⟨b', o', ha', hr'⟩ := (V.slp encB_len (by decide)).get encB_len (by decide) (outs_get ho hi (k := x.toNat) (by omega))
      rw [ha3] at ha'
      cases ha'
      exact Hp.cell_le hl (Hp.row_cell hr' (i := 0) rfl)
    have fin : ∀ {h' : Hp} {v : Wd}, hh.le h' → v = txAt l i → h'.store b3 (o3 + i * 1) [vs (bs v)] J92 := by
      rintro h' v hl rfl
      have V' : Vec encB 1 9 h h' a3 l.length outs := V.keep0 hl
      obtain ⟨b', o', ha', hput⟩ := V'.put encB_len (x' := txAt l i) (k := 0) (vs := encB (txAt l i)) hout (by rw [encB_len]; decide) (by rw [encB_len]; decide) rfl
      rw [ha3] at ha'
      cases ha'
      exact hput _ hJ
    have ar := ar0 Wn.a
    have hfold : txAt l = fAt [] txF l := rfl
    rw [← hfold] at hv
    have T2 := T.le V.le0
    have hL : ∀ {x : Int}, 0 ≤ x → x < i → (txAt l x.toNat).length ≤ 800 := fun h0 h1 => hTL _ (by omega)
    unfold txF at hv
    refine ⟨b, o, ⟨ha, by omega, by omega⟩, _, _, _, _, _, _, hr, fun q => ?_, fun q1 => ⟨fun q => ?_, fun q2 => ⟨fun q => ?_, fun q3 => ⟨fun q => ?_, fun q4 => ⟨fun q => ?_, fun q5 => ?_⟩⟩⟩⟩⟩
    · rw [if_pos (of_decide_eq_true q)] at hv
      have hin : InR n.v.2 := by unfold goodV at hgv; unfold InR; omega
      refine value_Text_ok (v := n.v) hin T2.p ⟨_, rfl, b3, o3, Ai, ?_⟩
      have V' := V
      obtain ⟨b', o', ha', hput⟩ := V.put encB_len (x' := textV n.v) (k := 0) (vs := encB (textV n.v)) hout (by rw [encB_len]; decide) (by rw [encB_len]; decide) rfl
      rw [ha3] at ha'
      cases ha'
      refine hput _ fun h25 V25 => ⟨fun g => ?_, fun g => ?_⟩
      · rw [if_pos (of_decide_eq_true g)] at hv
        have hneg : InR (-n.v.2) := by unfold InR at *; unfold goodV at hgv; omega
        have hil := itoa_len (n := -n.v.2) (by unfold goodV at hgv; omega) (by unfold goodV at hgv; omega)
        refine ⟨_, isW hneg, strconv_Itoa_ok hneg (T.le V25.le0).p ⟨_, rfl, _, rd_cat (l := [40, 48, 32, 45, 32]) (cat_le (by decide) (by omega)), _, rd_cat (m := [41]) (cat_le (by rw [List.length_append]; simp; omega) (by decide)), b3, o3, Ai, ?_⟩⟩
        have hout2 : (outs.set i (textV n.v))[i]? = some (textV n.v) := by rw [List.getElem?_set_self (by omega)]
        obtain ⟨b', o', ha', hput2⟩ := V25.put encB_len (x' := txAt l i) (k := 0) (vs := encB (txAt l i)) hout2 (by rw [encB_len]; decide) (by rw [encB_len]; decide) rfl
        rw [ha3] at ha'
        cases ha'
        rw [List.set_set] at hput2
        have e : [vs (bs ([40, 48, 32, 45, 32] ++ Lib.itoa (-n.v.2) ++ [41]))] = encB (txAt l i) := by rw [hv]; rfl
        rw [e]
        exact hput2 _ hJ
      · rw [if_neg (of_decide_eq_false g)] at hv
        rw [← hv] at V25
        exact hJ h25 V25
    · rw [if_neg (of_decide_eq_false q1), if_pos (of_decide_eq_true q)] at hv
      obtain ⟨fa, fc, hf, hfs⟩ := T2.f
      have hfn := Wn.f (of_decide_eq_true q)
      obtain ⟨b', o', ha', hc'⟩ := SlP.get1 hfs (i := n.n.toNat) (by omega)
      exact ⟨_, _, _, hf, b', o', ⟨ha', by omega, by omega⟩, _, hc', b3, o3, Ai, fin (Hp.le_refl _) hv.symm⟩
    · rw [if_neg (of_decide_eq_false q1), if_neg (of_decide_eq_false q2), if_pos (of_decide_eq_true q)] at hv
      have := of_decide_eq_true q
      have hX := Wn.x (by omega)
      have hl1 := hL hX.1 hX.2
      exact ⟨b3, o3, A3 (by omega) (by omega), _, rdo (Hp.le_refl _) hX.1 hX.2, _, rd_cat (l := [40, 45, 32]) (cat_le (by decide) (by omega)), _, rd_cat (m := [41]) (cat_le (by rw [List.length_append]; simp; omega) (by decide)), b3, o3, Ai, fin (Hp.le_refl _) hv.symm⟩
    · rw [if_neg (of_decide_eq_false q1), if_neg (of_decide_eq_false q2), if_neg (of_decide_eq_false q3), if_pos (of_decide_eq_true q)] at hv
      have := of_decide_eq_true q
      have hX := Wn.x (by omega)
      have hl1 := hL hX.1 hX.2
      exact ⟨b3, o3, A3 (by omega) (by omega), _, rdo (Hp.le_refl _) hX.1 hX.2, _, rd_cat (l := [40, 110, 111, 116, 32]) (cat_le (by decide) (by omega)), _, rd_cat (m := [41]) (cat_le (by rw [List.length_append]; simp; omega) (by decide)), b3, o3, Ai, fin (Hp.le_refl _) hv.symm⟩
    · rw [if_neg (of_decide_eq_false q1), if_neg (of_decide_eq_false q2), if_neg (of_decide_eq_false q3), if_neg (of_decide_eq_false q4), if_pos (of_decide_eq_true q)] at hv
      have := of_decide_eq_true q
      have hX := Wn.x (by omega)
      have hl1 := hL hX.1 hX.2
      exact ⟨b3, o3, A3 (by omega) (by omega), _, rdo (Hp.le_refl _) hX.1 hX.2, _, rd_cat (l := [40]) (cat_le (by decide) (by omega)), _, rd_cat (m := [32, 105, 115, 32, 110, 117, 108, 108, 41]) (cat_le (by rw [List.length_append]; simp; omega) (by decide)), b3, o3, Ai, fin (Hp.le_refl _) hv.symm⟩
    · have p1 := of_decide_eq_false q1
      have p2 := of_decide_eq_false q2
      have p3 := of_decide_eq_false q3
      have p4 := of_decide_eq_false q4
      have p5 := of_decide_eq_false q5
      rw [if_neg p1, if_neg p2, if_neg p3, if_neg p4, if_neg p5] at hv
      have h2 : arI n.op = 2 := by rcases arI_range Wn.a with h | h | h <;> omega
      have hX := Wn.x (by omega)
      have hY := Wn.y (by omega)
      have hl1 := hL hX.1 hX.2
      have hl2 := hL hY.1 hY.2
      have hl3 := signW_len n.op
      have c1 : ∀ {h' : Hp}, hh.le h' → h'.cell b3 (o3 + n.x.toNat * 1) = some (vs (bs (txAt l n.x.toNat))) := fun hl => rdo hl hX.1 hX.2
      have c2 : ∀ {h' : Hp}, hh.le h' → h'.cell b3 (o3 + n.y.toNat * 1) = some (vs (bs (txAt l n.y.toNat))) := fun hl => rdo hl hY.1 hY.2
      have k1 : ([40] : Wd).length + (txAt l n.x.toNat).length ≤ maxLen := cat_le (by decide) (by omega)
      have k2 : (([40] : Wd) ++ txAt l n.x.toNat).length + ([32] : Wd).length ≤ maxLen := cat_le (by rw [List.length_append]; simp; omega) (by decide)
      have k3 : (([40] : Wd) ++ txAt l n.x.toNat ++ [32]).length + (signW n.op).length ≤ maxLen := cat_le (by simp only [List.length_append, List.length_cons, List.length_nil]; omega) (by omega)
      have k4 : (([40] : Wd) ++ txAt l n.x.toNat ++ [32] ++ signW n.op).length + ([32] : Wd).length ≤ maxLen := cat_le (by simp only [List.length_append, List.length_cons, List.length_nil]; omega) (by decide)
      have k5 : (([40] : Wd) ++ txAt l n.x.toNat ++ [32] ++ signW n.op ++ [32]).length + (txAt l n.y.toNat).length ≤ maxLen := cat_le (by simp only [List.length_append, List.length_cons, List.length_nil]; omega) (by omega)
      have k6 : (([40] : Wd) ++ txAt l n.x.toNat ++ [32] ++ signW n.op ++ [32] ++ txAt l n.y.toNat).length + ([41] : Wd).length ≤ maxLen := cat_le (by simp only [List.length_append, List.length_cons, List.length_nil]; omega) (by decide)
      refine ⟨b3, o3, A3 (by omega) (by omega), _, c1 (Hp.le_refl _), _, rd_cat (l := [40]) k1, _, rd_cat (m := [32]) k2, b3, o3, A3 (by omega) (by omega), _, c2 (Hp.le_refl _), ?_⟩
      refine query_signs_ok fun y h81 l81 hlk => ⟨_, rfl, c2 l81, rd_cat (m := [32]) k2, rd_cat (l := [40]) k1, c1 l81, _, hlk n.op (by omega) (by omega), _, rd_cat k3, _, rd_cat (m := [32]) k4, _, rd_cat k5, _, rd_cat (m := [41]) k6, b3, o3, Ai, fin l81 hv.symm⟩
  · have hge : i = l.length := by have := of_decide_eq_false q; omega
    subst hge
    obtain ⟨b', o', ha', hr'⟩ := (V.slp encB_len (by decide)).get encB_len (by decide) (outs_get ho (Nat.le_refl _) (k := l.length - 1) (by omega))
    refine ⟨_, isW (by unfold InR; omega), b', o', ⟨ha', by omega, by omega⟩, _, ?_, hK hh V.le0⟩
    have e1 : (((l.length : Nat) : Int) - 1).toNat = l.length - 1 := by omega
    rw [e1]
    exact Hp.row_cell hr' (i := 0) rfl
end Go.Proofs.YtonlacplogbodaaDoor
/-
  Contracts: package query: Text, the whole. Conditions: that the question may be; that the library's tables and the names lie as laid.
-/
namespace Go.Proofs.YtonlacplogbodaaDoor
open Go Go.Vc Go.Txt Go.RowKit
set_option linter.unusedVariables false
set_option maxRecDepth 100000

theorem aggsW_len (i : Nat) : (aggsW.getD i []).length ≤ 5 := by
  match i with
  | 0 => decide
  | 1 => decide
  | 2 => decide
  | 3 => decide
  | 4 => decide
  | 5 => decide
  | n + 6 => exact Nat.zero_le _
theorem one_encB1 (x : Wd) : ∀ u ∈ encB x, u.oneCell' = true := by
  intro u hu
  have : u = vs (bs x) := by simpa [encB] using hu
  rw [this]; rfl
theorem inv_Itoa {n : Int} (hn : InR n) {h : Hp} (T : TabP h) {K : Value → Hp → Prop} (hK : K (vs (bs (Lib.itoa n))) h) : InvOK Tryd.prog (.func (.func 19) #[] #[]) [vi n] h K :=
  ⟨_, _, _, rfl, ⟨_, Tryd.func19, by kernel_rfl, by kernel_rfl⟩, strconv_Itoa_ok hn T hK⟩
set_option maxHeartbeats 1000000 in
theorem query_Text_ok {q : Qy} {a1 : Option Addr} {n1 c1 : Nat} {a2 : Option Addr} {n2 c2 : Nat} {a3 : Option Addr} {n3 c3 : Nat} {h : Hp} {R : Value → Hp → Prop} (Q : QAt h q a1 n1 a2 n2 a3 n3) (B : QOk q) (T : TabQ h) (hK : ∀ h', h.le h' → R (vs (bs (queryT q))) h') : CallOK Tryd.prog 5 [qV a1 n1 c1 a2 n2 c2 a3 n3 c3 q] h R := by
  refine ok_query_Text ?_
  unfold VC_query_Text
  have hn1 := Q.g.len
  have hn2 := Q.w.1
  have hn3 := Q.b.1
  have b1 := B.n1
  have b2 := B.n2
  refine ⟨fun vs' hh => ∃ (i : Nat) (a : Option Addr) (c : Nat), vs' = [vsl a i c, vi i] ∧ i ≤ n1 ∧ Vec encB 1 9 h hh a c ((q.aggs.take i).map aggT), fun vs' hh => n1 - (vint vs' 1).toNat, ⟨0, none, 0, rfl, Nat.zero_le _, OwnV.nil (Hp.le_refl h) _ _⟩, ?_⟩
  rintro vs' hh ⟨i, a, c, rfl, hi, V⟩
  refine ⟨_, _, _, _, rfl, fun g => ?_, fun g => ?_⟩
  · have hlt : i < n1 := by have := of_decide_eq_true g; omega
    have hx : q.aggs[i]? = some q.aggs[i] := List.getElem?_eq_getElem (by omega)
    have hmem := List.mem_of_getElem? hx
    have hgd := B.g _ hmem
    have hal := aggT_len B hmem
    have htk : (q.aggs.take (i + 1)).map aggT = (q.aggs.take i).map aggT ++ [aggT q.aggs[i]] := by
      rw [List.take_succ_eq_append_getElem (by omega), List.map_append]; rfl
    have hlen : ((q.aggs.take i).map aggT).length = i := by rw [List.length_map, List.length_take]; omega
    generalize q.aggs[i] = y at *
    obtain ⟨k, l⟩ := y
    obtain ⟨b, o, a', c', ha, hrow, hS⟩ := (Q.g.le V.le0).row aggRw_len (by decide) hx
    simp only at hgd
    refine ⟨b, o, ⟨ha, by omega, by omega⟩, k, a', l.length, c', by rw [Int.toNat_natCast]; exact hrow, ?_⟩
    intro J19
    have hJ : ∀ (h27 : Hp) (t : Wd), t = (if k = 1 then [42] else txE l) → t.length ≤ 800 → hh.le h27 → J19 (bs t) h27 := by
      intro h27 t ht htl l27
      have V27 : Vec encB 1 9 h h27 a c ((q.aggs.take i).map aggT) := V.keep0 l27
      obtain ⟨qa, qc, hq, hqs⟩ := (T.le V27.le0).a
      obtain ⟨b', o', ha', hc'⟩ := SlP.get1 hqs (i := k.toNat) (by omega)
      have w1 := aggsW_len k.toNat
      refine ⟨_, _, _, hq, b', o', ⟨ha', by omega, by omega⟩, _, hc', _, rd_cat (m := [40]) (cat_le (by omega) (by decide)), _, rd_cat (cat_le (by simp only [List.length_append, List.length_cons, List.length_nil]; omega) (by omega)), _, rd_cat (m := [41]) (cat_le (by simp only [List.length_append, List.length_cons, List.length_nil]; omega) (by decide)), ?_⟩
      intro b35 hb35 h36
      have e : aggsW.getD k.toNat [] ++ [40] ++ t ++ [41] = aggT (k, l) := by rw [ht]; rfl
      have e2 : h36 = h27.set b35 (cellsO (encB (aggT (k, l))) 9) := by rw [← e]; rfl
      rw [e2]
      have key := V27.app (x := aggT (k, l)) (ty := 36) elStr encB_len one_encB1 (by omega) (by omega) hb35 (K := fun v h' => ∃ (a' : Option Addr) (c' : Nat), v = vsl a' (i + 1) c' ∧ Vec encB 1 9 h h' a' c' ((q.aggs.take (i + 1)).map aggT)) fun a' c' h' V' => by
        rw [← htk] at V'
        refine ⟨a', c', ?_, V'⟩
        rw [List.length_append, hlen]
        rfl
      rw [hlen] at key
      refine key.mono fun v h' hv => ?_
      obtain ⟨a', c', rfl, V'⟩ := hv
      exact ⟨_, _, _, rfl, _, isW (by unfold InR; omega), ⟨i + 1, a', c', rfl, by omega, V'⟩, by simp [vint]; omega⟩
    clear_value J19
    refine ⟨fun g2 => ?_, fun g2 => ?_⟩
    · have g2 : k ≠ 1 := of_decide_eq_true g2
      have hxl := hgd.2.2.1 g2
      exact query_exprText_ok hS hxl (T.le V.le0) fun h15 l15 => ⟨_, rfl, hJ h15 _ (by rw [if_neg g2]) (txE_len hxl) l15⟩
    · have g2 : k = 1 := by simpa using g2
      exact hJ hh _ (by rw [if_pos g2]) (by decide) (Hp.le_refl _)
  · have hge : i = n1 := by have := of_decide_eq_false g; omega
    rw [List.take_of_length_le (by omega)] at V
    have hjl : (Lib.join (q.aggs.map aggT) wSep).length ≤ 4000 := by
      have := join_len (q.aggs.map aggT) wSep 810 (fun x hx => by
        obtain ⟨y, hy, rfl⟩ := List.mem_map.1 hx
        exact aggT_len B hy)
      rw [List.length_map] at this
      have hw : wSep.length = 2 := rfl
      rw [hw] at this
      omega
    have hcap := (OwnV.own V).cap
    have hvl : (q.aggs.map aggT).length = i := by rw [List.length_map]; omega
    have hS : SlB hh a i (q.aggs.map aggT) := by
      have := V.slp encB_len (by decide)
      rw [hvl] at this
      exact this
    refine strings_Join_ok (sep := wSep) hS (by omega) (by omega) (by omega) (by omega) ⟨_, rfl, _, rd_cat (l := wSel) (cat_le (by decide) (by omega)), _, rd_cat (m := wFrE) (cat_le (by rw [List.length_append]; have : wSel.length = 7 := rfl; omega) (by decide)), ?_⟩
    have Q2 := Q.le V.le0
    have l0 := V.le0
    have hs0 : (wSel ++ Lib.join (q.aggs.map aggT) wSep ++ wFrE).length ≤ 5000 := by
      simp only [List.length_append]
      have : wSel.length = 7 := rfl
      have : wFrE.length = 12 := rfl
      omega
    have hfin : queryT q = numsT (byT (whT (wSel ++ Lib.join (q.aggs.map aggT) wSep ++ wFrE) q) q) q := rfl
    generalize wSel ++ Lib.join (q.aggs.map aggT) wSep ++ wFrE = s0 at *
    rw [hfin] at hK
    clear hfin
    intro J54
    have h54 : ∀ h61, hh.le h61 → (whT s0 q).length ≤ 6000 → J54 (bs (whT s0 q)) h61 := by
      intro h61 l61 hl61
      generalize whT s0 q = s1 at *
      unfold J54
      intro J69
      have h69 : ∀ h72, hh.le h72 → (byT s1 q).length ≤ 7000 → J69 (bs (byT s1 q)) h72 := by
        intro h72 l72 hl72
        generalize byT s1 q = s2 at *
        have Tp := (T.le (Hp.le_trans l0 l72)).p
        have i1 := itoa_len (n := q.size) (by have := B.s; omega) (by have := B.s; omega)
        have i2 := itoa_len (n := q.slide) (by have := B.l; omega) (by have := B.l; omega)
        have i3 := itoa_len (n := q.delay) (by have := B.d; omega) (by have := B.d; omega)
        have i4 := itoa_len (n := q.late) (by have := B.t; omega) (by have := B.t; omega)
        have hw1 : wWin.length = 8 := rfl
        have hw2 : wSli.length = 7 := rfl
        have hw3 : wDel.length = 7 := rfl
        have hw4 : wLat.length = 6 := rfl
        unfold numsT at hK
        have k1 : s2.length + wWin.length ≤ maxLen := cat_le (by omega) (by omega)
        have k2 : (s2 ++ wWin).length + (Lib.itoa q.size).length ≤ maxLen := cat_le (by simp only [List.length_append]; omega) (by omega)
        have k3 : (s2 ++ wWin ++ Lib.itoa q.size).length + wSli.length ≤ maxLen := cat_le (by simp only [List.length_append]; omega) (by omega)
        have k4 : (s2 ++ wWin ++ Lib.itoa q.size ++ wSli).length + (Lib.itoa q.slide).length ≤ maxLen := cat_le (by simp only [List.length_append]; omega) (by omega)
        have k5 : (s2 ++ wWin ++ Lib.itoa q.size ++ wSli ++ Lib.itoa q.slide).length + wDel.length ≤ maxLen := cat_le (by simp only [List.length_append]; omega) (by omega)
        have k6 : (s2 ++ wWin ++ Lib.itoa q.size ++ wSli ++ Lib.itoa q.slide ++ wDel).length + (Lib.itoa q.delay).length ≤ maxLen := cat_le (by simp only [List.length_append]; omega) (by omega)
        have k7 : (s2 ++ wWin ++ Lib.itoa q.size ++ wSli ++ Lib.itoa q.slide ++ wDel ++ Lib.itoa q.delay).length + wLat.length ≤ maxLen := cat_le (by simp only [List.length_append]; omega) (by omega)
        have k8 : (s2 ++ wWin ++ Lib.itoa q.size ++ wSli ++ Lib.itoa q.slide ++ wDel ++ Lib.itoa q.delay ++ wLat).length + (Lib.itoa q.late).length ≤ maxLen := cat_le (by simp only [List.length_append]; omega) (by omega)
        have z1 : InR q.size := by have := B.s; unfold InR; omega
        have z2 : InR q.slide := by have := B.l; unfold InR; omega
        have z3 : InR q.delay := by have := B.d; unfold InR; omega
        have z4 : InR q.late := by have := B.t; unfold InR; omega
        refine ⟨_, rd_cat (m := wWin) k1, inv_Itoa z1 Tp ⟨_, rfl, rd_cat (m := wWin) k1, _, rd_cat k2, _, rd_cat (m := wSli) k3, ?_⟩⟩
        refine inv_Itoa z2 Tp ⟨_, rfl, rd_cat (m := wSli) k3, rd_cat k2, rd_cat (m := wWin) k1, _, rd_cat k4, _, rd_cat (m := wDel) k5, ?_⟩
        refine inv_Itoa z3 Tp ⟨_, rfl, rd_cat (m := wDel) k5, rd_cat k4, rd_cat (m := wSli) k3, rd_cat k2, rd_cat (m := wWin) k1, _, rd_cat k6, _, rd_cat (m := wLat) k7, ?_⟩
        exact inv_Itoa z4 Tp ⟨_, rfl, rd_cat (m := wLat) k7, rd_cat k6, rd_cat (m := wDel) k5, rd_cat k4, rd_cat (m := wSli) k3, rd_cat k2, rd_cat (m := wWin) k1, _, rd_cat k8, hK h72 (Hp.le_trans l0 l72)⟩
      clear_value J69
      unfold byT at h69
      refine ⟨fun g2 => ?_, fun g2 => ?_⟩
      · have hne : ¬ q.by_ = [] := by have := of_decide_eq_true g2; rw [nil_len]; omega
        rw [if_neg hne] at h69
        have hxl := B.b hne
        have hl := txE_len hxl
        have hw : wGrp.length = 10 := rfl
        refine query_exprText_ok (Q2.le l61).b hxl (T.le (Hp.le_trans l0 l61)) fun h63 l63 => ⟨_, rfl, _, rd_cat (l := wGrp) (cat_le (by decide) (by omega)), _, rd_cat (cat_le (by omega) (by rw [List.length_append]; omega)), h69 h63 (Hp.le_trans l61 l63) (by simp only [List.length_append]; omega)⟩
      · have hnil : q.by_ = [] := by have := of_decide_eq_false g2; rw [nil_len]; omega
        rw [if_pos hnil] at h69
        exact h69 h61 l61 (by omega)
    clear_value J54
    unfold whT at h54
    refine ⟨fun g2 => ?_, fun g2 => ?_⟩
    · have hne : ¬ q.wh = [] := by have := of_decide_eq_true g2; rw [nil_len]; omega
      rw [if_neg hne] at h54
      have hxl := B.w hne
      have hl := txE_len hxl
      have hw : wWhr.length = 7 := rfl
      refine query_exprText_ok Q2.w hxl (T.le l0) fun h48 l48 => ⟨_, rfl, _, rd_cat (l := wWhr) (cat_le (by decide) (by omega)), _, rd_cat (cat_le (by omega) (by rw [List.length_append]; omega)), h54 h48 l48 (by simp only [List.length_append]; omega)⟩
    · have hnil : q.wh = [] := by have := of_decide_eq_false g2; rw [nil_len]; omega
      rw [if_pos hnil] at h54
      exact h54 hh (Hp.le_refl _) (by omega)
end Go.Proofs.YtonlacplogbodaaDoor
/-
  What functions of the program ask, in words: each is what the framework reckons from the loaded code (the kernel holds the two together), and gives the function's call. Conditions: none.
-/
namespace Go.Proofs.YtonlacplogbodaaDoor
open Go Go.Vc
set_option maxRecDepth 100000
set_option linter.unusedVariables false
/-- What 'penstock/penstocktop.TopText' asks. -/
def VC_top_TopText (u_s : ByteArray) (h : Hp) (R : Value → Hp → Prop) : Prop :=
  (CallOK Tryd.prog 4 [(vs ⟨#[115, 101, 108, 101, 99, 116, 32, 99, 111, 117, 110, 116, 40, 42, 41, 32, 102, 114, 111, 109, 32, 101, 118, 101, 110, 116, 115, 32, 119, 105, 110, 100, 111, 119, 32, 55]⟩)] h fun v1 h2 => ∃ (a3 : Option Addr) (n3 c3 : Nat) (a4 : Option Addr) (n4 c4 : Nat) (a5 : Option Addr) (n5 c5 : Nat) (x6 : Int) (x7 : Int) (x8 : Int) (x9 : Int) (e10 : Option (TypeId × Value)), v1 = (vtup [(vag [(vsl a3 n3 c3), (vsl a4 n4 c4), (vsl a5 n5 c5), (vi x6), (vi x7), (vi x8), (vi x9)]), (ifv e10)]) ∧ (∃ (J11 : SV → Hp → Prop), ((Option.isSome e10) = false → (CallOK Tryd.prog 5 [(vag [(vsl a3 n3 c3), (vsl a4 n4 c4), (vsl a5 n5 c5), (vi x6), (vi x7), (vi x8), (vi x9)])] h2 fun v12 h13 => ∃ (s14 : ByteArray), v12 = (vs s14) ∧ J11 (.t (.one (.v (vs s14)))) h13)) ∧ (¬ ((Option.isSome e10) = false) → J11 (.t (.one (.v (vs ⟨#[]⟩)))) h2) ∧ ∀ (h15 : Hp) (s16 : ByteArray), J11 (.t (.one (.v (vs s16)))) h15 → (∃ (p17 : Bool), ((Option.isSome e10) = false → Rd Tryd.prog ((eqGuard .neq 9 (.tmp 15) (.const (vs ⟨#[115, 101, 108, 101, 99, 116, 32, 99, 111, 117, 110, 116, 40, 42, 41, 32, 102, 114, 111, 109, 32, 101, 118, 101, 110, 116, 115, 32, 119, 105, 110, 100, 111, 119, 32, 55, 32, 115, 108, 105, 100, 101, 32, 55, 32, 100, 101, 108, 97, 121, 32, 48, 32, 108, 97, 116, 101, 32, 48]⟩)) (vs s16) (vs ⟨#[115, 101, 108, 101, 99, 116, 32, 99, 111, 117, 110, 116, 40, 42, 41, 32, 102, 114, 111, 109, 32, 101, 118, 101, 110, 116, 115, 32, 119, 105, 110, 100, 111, 119, 32, 55, 32, 115, 108, 105, 100, 101, 32, 55, 32, 100, 101, 108, 97, 121, 32, 48, 32, 108, 97, 116, 101, 32, 48]⟩) >>= fun _ => binOp .neq 9 (vs s16) (vs ⟨#[115, 101, 108, 101, 99, 116, 32, 99, 111, 117, 110, 116, 40, 42, 41, 32, 102, 114, 111, 109, 32, 101, 118, 101, 110, 116, 115, 32, 119, 105, 110, 100, 111, 119, 32, 55, 32, 115, 108, 105, 100, 101, 32, 55, 32, 100, 101, 108, 97, 121, 32, 48, 32, 108, 97, 116, 101, 32, 48]⟩))) h15 (vb p17)) ∧ (((bif (Option.isSome e10) then true else p17) = true → R (vb false) h15) ∧ ((bif (Option.isSome e10) then true else p17) = false → (CallOK Tryd.prog 6 [(vs u_s)] h15 fun v19 h20 => ∃ (a21 : Option Addr) (n21 c21 : Nat) (a22 : Option Addr) (n22 c22 : Nat) (a23 : Option Addr) (n23 c23 : Nat) (x24 : Int) (x25 : Int) (x26 : Int) (x27 : Int) (p28 : Bool), v19 = (vtup [(vag [(vsl a21 n21 c21), (vsl a22 n22 c22), (vsl a23 n23 c23), (vi x24), (vi x25), (vi x26), (vi x27)]), (vb p28)]) ∧ (((!p28) = true → R (vb true) h20) ∧ ((!p28) = false → (CallOK Tryd.prog 5 [(vag [(vsl a21 n21 c21), (vsl a22 n22 c22), (vsl a23 n23 c23), (vi x24), (vi x25), (vi x26), (vi x27)])] h20 fun v30 h31 => ∃ (s32 : ByteArray), v30 = (vs s32) ∧ (CallOK Tryd.prog 4 [(vs s32)] h31 fun v33 h34 => ∃ (a35 : Option Addr) (n35 c35 : Nat) (a36 : Option Addr) (n36 c36 : Nat) (a37 : Option Addr) (n37 c37 : Nat) (x38 : Int) (x39 : Int) (x40 : Int) (x41 : Int) (e42 : Option (TypeId × Value)), v33 = (vtup [(vag [(vsl a35 n35 c35), (vsl a36 n36 c36), (vsl a37 n37 c37), (vi x38), (vi x39), (vi x40), (vi x41)]), (ifv e42)]) ∧ (CallOK Tryd.prog 7 [(ifv e42)] h34 fun v43 h44 => ∃ (x45 : Int), v43 = (vi x45) ∧ (∃ (J46 : SV → Hp → Prop), (((decide ((x45 : Int) = 2)) = false ∧ (Option.isNone e42) = true) → (CallOK Tryd.prog 8 [(vag [(vsl a35 n35 c35), (vsl a36 n36 c36), (vsl a37 n37 c37), (vi x38), (vi x39), (vi x40), (vi x41)]), (vag [(vsl a21 n21 c21), (vsl a22 n22 c22), (vsl a23 n23 c23), (vi x24), (vi x25), (vi x26), (vi x27)])] h44 fun v47 h48 => ∃ (p49 : Bool), v47 = (vb p49) ∧ J46 (.t (.one (.v (vb p49)))) h48)) ∧ (¬ ((decide ((x45 : Int) = 2)) = false ∧ (Option.isNone e42) = true) → J46 (.t (.one (.v (vb false)))) h44) ∧ ∀ (h50 : Hp) (p51 : Bool), J46 (.t (.one (.v (vb p51)))) h50 → R (vb (bif (decide ((x45 : Int) = 2)) then true else (bif (Option.isNone e42) then p51 else false))) h50))))))))))))
theorem ok_top_TopText {u_s : ByteArray} {h : Hp} {R : Value → Hp → Prop} (H : VC_top_TopText u_s h R) : CallOK Tryd.prog 3 [(vs u_s)] h R :=
  call_of (cfg := ⟨[], [], []⟩) noNG mixed Tryd.func3 [.one (.v (vs u_s))] (by kernel_rfl) rfl (by kernel_rfl) H

end Go.Proofs.YtonlacplogbodaaDoor
/-
  What the law TopText gives, for every argument: true; nothing of what was there has turned. Conditions: that the library's tables and errors and the names lie as laid.
-/
namespace Go.Proofs.YtonlacplogbodaaDoor
open Go Go.Vc Go.Txt Go.RowKit
set_option linter.unusedVariables false
set_option maxRecDepth 100000

def tWin : Wd := [115, 101, 108, 101, 99, 116, 32, 99, 111, 117, 110, 116, 40, 42, 41, 32, 102, 114, 111, 109, 32, 101, 118, 101, 110, 116, 115, 32, 119, 105, 110, 100, 111, 119, 32, 55]
def tWin2 : Wd := [115, 101, 108, 101, 99, 116, 32, 99, 111, 117, 110, 116, 40, 42, 41, 32, 102, 114, 111, 109, 32, 101, 118, 101, 110, 116, 115, 32, 119, 105, 110, 100, 111, 119, 32, 55, 32, 115, 108, 105, 100, 101, 32, 55, 32, 100, 101, 108, 97, 121, 32, 48, 32, 108, 97, 116, 101, 32, 48]
theorem tWin_read : (parseQ tWin).2 = 0 ∧ queryT (parseQ tWin).1 = tWin2 := by decide +kernel
theorem law_TopText_ok {s : Wd} {h : Hp} (T : TabQ h) : CallOK Tryd.prog 3 [vs (bs s)] h fun v h' => v = vb true ∧ h.le h' := by
  refine ok_top_TopText ?_
  unfold VC_top_TopText
  obtain ⟨e0, e1⟩ := tWin_read
  refine query_Parse_ok (l := tWin) T fun a1 n1 c1 a2 n2 c2 a3 n3 c3 h2 l2 Q => ⟨_, _, _, _, _, _, _, _, _, _, _, _, _, _, rfl, ?_⟩
  rw [errV_some, decide_eq_true e0]
  refine ⟨fun x hh => h.le hh ∧ x = .t (.one (.v (vs (bs tWin2)))), fun _ => query_Text_ok Q (posQ_parse e0).1 (T.le l2) fun h13 l13 => ⟨_, rfl, Hp.le_trans l2 l13, by rw [e1]⟩, fun e => absurd rfl e, ?_⟩
  rintro h15 s16 ⟨l15, e⟩
  cases e
  refine ⟨decide (bs tWin2 ≠ bs tWin2), fun _ => rd_neBs, ?_⟩
  have ec : (bif !true then true else decide (bs tWin2 ≠ bs tWin2)) = false := by simp
  rw [ec]
  refine ⟨fun e => (by cases e), fun _ => ?_⟩
  refine top_asked_ok (T.le l15) (fun a1 n1 c1 a2 n2 c2 a3 n3 c3 x4 x5 x6 x7 h' l' => ⟨_, _, _, _, _, _, _, _, _, _, _, _, _, _, rfl, fun _ => ⟨rfl, Hp.le_trans l15 l'⟩, fun e => (by cases e)⟩) ?_
  intro hf Qk a1 n1 c1 a2 n2 c2 a3 n3 c3 h20 l20 Q20
  refine ⟨_, _, _, _, _, _, _, _, _, _, _, _, _, _, rfl, fun e => (by cases e), fun _ => ?_⟩
  have l20' := Hp.le_trans l15 l20
  refine query_Text_ok Q20 Qk (T.le l20') fun h31 l31 => ⟨_, rfl, ?_⟩
  have l31' := Hp.le_trans l20' l31
  refine query_Parse_ok (T.le l31') fun b1 m1 d1 b2 m2 d2 b3 m3 d3 h34 l34 Q34 => ⟨_, _, _, _, _, _, _, _, _, _, _, _, _, _, rfl, ?_⟩
  have l34' := Hp.le_trans l31' l34
  refine top_number_ok ⟨_, rfl, ?_⟩
  rcases text_read hf with k | k
  · rw [k]
    refine ⟨fun x hh => hh = h34, fun e => absurd e.1 (by decide), fun _ => rfl, ?_⟩
    rintro h50 p51 rfl
    exact ⟨rfl, l34'⟩
  · rw [k] at Q34 ⊢
    refine ⟨fun x hh => hh = h34 ∧ x = .t (.one (.v (vb true))), fun _ => R_SameQuery_ok Q34 (Q20.le (Hp.le_trans l31 l34)) (qbig_of Qk) ⟨_, rfl, rfl, rfl⟩, fun e => absurd ⟨rfl, rfl⟩ e, ?_⟩
    rintro h50 p51 ⟨rfl, e⟩
    cases e
    exact ⟨rfl, l34'⟩
end Go.Proofs.YtonlacplogbodaaDoor
/-
  THE STATEMENT Rows.TopTextCardSaid, proved: for every input the law returns true, and the input reads as it did. Conditions: none.
-/
namespace Go.Proofs.YtonlacplogbodaaDoor.topText
open Go.ChangeShapes Go.WideShapes Go.ChangeAt Go.RowKit Go.Vc
set_option linter.unusedVariables false
set_option maxRecDepth 100000

theorem own : ownKnob Tryd.prog.godebug = none := by kernel_rfl

abbrev lay := Rows.topTextRow.laid
/-- The library's tables, as they lie when the call begins. -/
theorem tabs {W : World} (hL : laidMetH Tryd.prog lay W) : TabP (hpOf W) := by
  rw [MakeChecks.laidMetH_plain _ _ _ (by kernel_rfl)] at hL
  have h3 : laidMet Tryd.prog (("internal/strconv.uint64pow10", Lib.tabData .u64 Lib.pow10Tab) :: lay.drop 3) W := hL.tail.tail
  have hT := Lib.tabIs_of_head (g := 5) (n := 20) (by kernel_rfl) (t := 117) (by kernel_rfl) (e := 102) (by kernel_rfl) (by kernel_rfl) (by kernel_rfl) (by kernel_rfl) h3
  intro w hs
  exact var_sub hT hs
theorem star : "*" ++ "errors.errorString" = "*errors.errorString" := by decide
theorem rowE (u : TypeId) (h : Tryd.prog.typeName? 3 u = some "*errors.errorString") : u = 122 :=
  typeName_ptr_named (nm := "errors.errorString") (by rw [star]; kernel_rfl) (by kernel_rfl) (by decide) u (by rw [star]; exact h)
/-- The library's two errors, as they lie when the call begins. -/
theorem errs {W : World} (hL : laidMetH Tryd.prog lay W) : TabE (hpOf W) := by
  rw [MakeChecks.laidMetH_plain _ _ _ (by kernel_rfl)] at hL
  have h4 : laidMet Tryd.prog (("strconv.ErrRange", _) :: ("strconv.ErrSyntax", _) :: lay.drop 5) W := hL.tail.tail.tail
  obtain ⟨a0, s0, hv0, _⟩ := laid_sentinel (g := 3) (ti := 27) h4 (by kernel_rfl) (by kernel_rfl) Tryd.underlying27 rowE Tryd.underlying122 Tryd.underlying124 rfl rfl Tryd.underlying9 (by kernel_rfl) (by kernel_rfl)
  obtain ⟨a1, s1, hv1, _⟩ := laid_sentinel (g := 2) (ti := 27) h4.tail (by kernel_rfl) (by kernel_rfl) Tryd.underlying27 rowE Tryd.underlying122 Tryd.underlying124 rfl rfl Tryd.underlying9 (by kernel_rfl) (by kernel_rfl)
  exact ⟨⟨_, _, fun w hs => vars_sub hv1 hs⟩, ⟨_, _, fun w hs => vars_sub hv0 hs⟩⟩
/-- All that is laid, as it lies when the call begins. -/
theorem names {W : World} (hL : laidMetH Tryd.prog lay W) : TabQ (hpOf W) := by
  have T := tabs hL
  have E := errs hL
  rw [MakeChecks.laidMetH_plain _ _ _ (by kernel_rfl)] at hL
  have h6 : laidMet Tryd.prog (("penstock/query.fields", _) :: ("penstock/query.aggs", _) :: lay.drop 7) W := hL.tail.tail.tail.tail.tail
  exact ⟨T, E, laid_texts (texts := fieldW) (g := 1) (t := 36) (e := 9) h6 (by kernel_rfl) (by kernel_rfl) (by kernel_rfl) (by kernel_rfl) (by kernel_rfl) (by decide), laid_texts (texts := aggsW) (g := 0) (t := 36) (e := 9) h6.tail (by kernel_rfl) (by kernel_rfl) (by kernel_rfl) (by kernel_rfl) (by kernel_rfl) (by decide)⟩
/-- The door's own heap meets the condition. -/
theorem door_met (os : Os) (args : Array Value) : laidMetH Tryd.prog lay ((World.doorLaid Tryd.prog 400 os).forCall (fun _ _ => 0) ⟨#[], args, []⟩).memory :=
  laidMetH_of_parts3 (fuel := 8) (laidMet_of_run' 8 (by kernel_rfl) (by kernel_rfl)) (by kernel_rfl) (by kernel_rfl)

set_option maxRecDepth 100000 in
theorem lifted (os : Os) (started : os.Started) (H : Type) (enc : TypeId × Value → H) :
    ReturnsInHanded {} Tryd.checked os 3 .any (fun w args => (Rows.topTextSpec.pre enc Tryd.prog Tryd.f3 Rows.topTextRow.domain false w args ∧ laidMetH Tryd.prog lay w) ∧ sizedMet enc Tryd.prog Tryd.f3 (OpenSpec.ofChange Rows.topTextSpec) false w args) (Rows.topTextSpec.post enc Tryd.prog Tryd.f3 false true false false) := by
  refine returnsInHanded_of_change_and (C := Tryd.checked) (X := fun w _ => laidMetH Tryd.prog lay w) (fun _ _ _ hh h => h.of_heap hh) own started (by kernel_rfl) Tryd.func3
    (ChangeSpec.witness_shaped (enc := enc) (C := Tryd.checked) (os := os) (X := fun w _ => laidMetH Tryd.prog lay w) false (World.doorLaid Tryd.prog 400 os) #[.string ⟨#[]⟩] 8 rfl (World.shaped_of_RefB (by kernel_rfl) (by kernel_rfl)) (by kernel_rfl) (by kernel_rfl) (by kernel_rfl) (door_met os _)) ?_
  intro W base args ds gs before hval0 hW hcnd _ hL _
  have T := tabs hL
  have E := errs hL
  have TQ := names hL
  have hval : ∀ (j : Nat) t v, Tryd.f3.params[j]? = some t → args[j]? = some v → Value.okWide Tryd.prog W .any base t v := hval0
  have hW' := hW
  obtain ⟨p, q, hA0, hV, rfl, hfz, hnd⟩ := hW
  have hA : DataW.TrodAll enc Tryd.prog W 0 (fun _ => true) true Tryd.f3.params.toList args.toList ds p := hA0
  rw [Tryd.params3] at hA hval
  obtain ⟨v0, vs0, d0, ds0, p0, q0, hargs, rfl, rfl, h0, r0⟩ := trodAll_cons hA
  obtain ⟨rfl, rfl, rfl⟩ := trodAll_nil r0
  obtain rfl : args = #[v0] := by cases args; simp_all
  obtain ⟨rfl, rfl⟩ := trodVars_none hV
  obtain ⟨s0, rfl⟩ := okWide_string Tryd.underlying9 (hval 0 9 v0 rfl rfl)
  obtain ⟨b0, e0, _, z0⟩ := leaf_string smTrue Tryd.underlying9 (leafC_of (Sm := fun _ => True) h0 trivial)
  cases e0
  refine (calls_law (law_TopText_ok (s := s0.data.toList) TQ)).mono fun e W' ⟨he, hg⟩ => ?_
  subst he
  exact ⟨_, rfl, law_post big hW' hg (by kernel_rfl) (tb := 4) (by kernel_rfl) (by kernel_rfl) rfl⟩

theorem over : Rows.topTextRow.holds Tryd.pinned (OpenSpec.ofChange Rows.topTextSpec) :=
  OpenClaim.holds_of_wide 3 Tryd.f3 rfl rfl rfl rfl rfl rfl rfl ⟨rfl, rfl, rfl, rfl, rfl⟩ rfl rfl rfl rfl rfl (by kernel_rfl) Tryd.func3 (by kernel_rfl)
    (of_decide_eq_true (by kernel_rfl)) (by unfold Func.isWrapper; first | (rw [if_pos (by decide +kernel)]; kernel_rfl) | (rw [if_neg (by decide +kernel)]; exact ⟨rfl, rfl⟩))
    (fun os started H enc _ => lifted os started H enc)

theorem proved : Rows.TopTextCardSaid :=
  Claim7.holds_tied_plain_at .later [] _ true _ true
    over (fun _ h => by cases h) (by kernel_rfl) (fun _ h => by cases h) topText_row_tie rfl ⟨rfl, rfl⟩ (by kernel_rfl) rfl
    (fun f fn hf hfn => by
      obtain rfl : f = 3 := Option.some.inj ((show Tryd.prog.funcNamed "penstock/penstocktop.TopText" = some 3 by kernel_rfl).symm.trans hf) |>.symm
      obtain rfl : fn = Tryd.f3 := (Option.some.inj (Tryd.func3.symm.trans hfn)).symm
      exact ⟨by kernel_rfl, fun j t ht => by
        rw [Tryd.params3] at ht
        have hm : t ∈ [9] := by simpa using Array.mem_of_getElem? ht
        have hall : ([9].all fun u => !Tryd.prog.wantsStandIn u) = true := by kernel_rfl
        exact (show Tryd.prog.wantsStandIn t = false by simpa using List.all_eq_true.1 hall t hm)⟩)
    (by kernel_rfl)
end Go.Proofs.YtonlacplogbodaaDoor.topText
