/-
  Laws and contracts on which the statement's proof stands, part 3. Conditions: those stated at each.
-/
import Derived.Lib.ItoaNum
import Derived.Lib.AtoiAll
import Derived.Lib.ConvBytes
import Derived.MapKept
import Derived.Test.YtonlacplogbodaaGreatDoorQb2
/-
  What functions of the program ask, in words: each is what the framework reckons from the loaded code (the kernel holds the two together), and gives the function's call. Conditions: none.
-/
namespace Go.Proofs.YtonlacplogbodaaGreatDoor
open Go Go.Vc
set_option maxRecDepth 100000
set_option linter.unusedVariables false
/-- What '(*penstock/query.reader).fail' asks. -/
def VC_query_reader_fail (u_rb u_ro : Nat) (u_err : Option (TypeId × Value)) (h : Hp) (R : Value → Hp → Prop) : Prop :=
  (∃ (e1 : Option (TypeId × Value)), (Hp.cell h u_rb (u_ro + 2) = some (ifv e1)) ∧ (let J5 : Hp → Prop := fun (h6 : Hp) => (Hp.store h6 u_rb u_ro [(vsl none 0 0)] fun h7 => R (vtup []) h7); (((Option.isNone e1) = true → (Hp.store h u_rb (u_ro + 2) [(ifv u_err)] fun h2 => (J5 h2))) ∧ ((Option.isNone e1) = false → (J5 h)))))
theorem ok_query_reader_fail {u_rb u_ro : Nat} {u_err : Option (TypeId × Value)} {h : Hp} {R : Value → Hp → Prop} (H : VC_query_reader_fail u_rb u_ro u_err h R) : CallOK Tryz.prog 50 [(vhp u_rb u_ro), (ifv u_err)] h R :=
  call_of (cfg := ⟨[], [], []⟩) noNG mixed Tryz.func50 [.one (.hp u_rb u_ro), .one (.ifc u_err)] (by kernel_rfl) rfl (by kernel_rfl) H

/-- What '(*penstock/query.reader).is' asks. -/
def VC_query_reader_is (u_rb u_ro : Nat) (u_wordsa : Option Addr) (u_wordsn u_wordsc : Nat) (h : Hp) (R : Value → Hp → Prop) : Prop :=
  (∃ (a1 : Option Addr) (n1 c1 : Nat), (Hp.cell h u_rb u_ro = some (vsl a1 n1 c1)) ∧ (∃ (a2 : Option Addr) (n2 c2 : Nat), ((decide ((((n1 : Nat) : Int) : Int) = 0)) = false → Hp.cell h u_rb u_ro = some (vsl a2 n2 c2)) ∧ (∃ (b3 o4 : Nat), ((decide ((((n1 : Nat) : Int) : Int) = 0)) = false → (a2 = some ⟨b3, o4, none⟩ ∧ (0 : Int) ≤ 0 ∧ 0 < ((n2 : Nat) : Int))) ∧ (∃ (s5 : ByteArray), ((decide ((((n1 : Nat) : Int) : Int) = 0)) = false → Hp.cell h b3 (o4 + (0 : Int).toNat * 1) = some (vs s5)) ∧ (∃ (J6 : SV → Hp → Prop), ((decide ((((n1 : Nat) : Int) : Int) = 0)) = false → (CallOK Tryz.prog 52 [(vsl u_wordsa u_wordsn u_wordsc), (vs s5)] h fun v7 h8 => ∃ (p9 : Bool), v7 = (vb p9) ∧ J6 (.t (.one (.v (vb p9)))) h8)) ∧ (¬ ((decide ((((n1 : Nat) : Int) : Int) = 0)) = false) → J6 (.t (.one (.v (vb false)))) h) ∧ ∀ (h10 : Hp) (p11 : Bool), J6 (.t (.one (.v (vb p11)))) h10 → (((bif (decide ((((n1 : Nat) : Int) : Int) = 0)) then true else (!p11)) = true → R (vs ⟨#[]⟩) h10) ∧ ((bif (decide ((((n1 : Nat) : Int) : Int) = 0)) then true else (!p11)) = false → (∃ (a13 : Option Addr) (n13 c13 : Nat), (Hp.cell h10 u_rb u_ro = some (vsl a13 n13 c13)) ∧ (∃ (b14 o15 : Nat), (a13 = some ⟨b14, o15, none⟩ ∧ (0 : Int) ≤ 0 ∧ 0 < ((n13 : Nat) : Int)) ∧ (∃ (s16 : ByteArray), (Hp.cell h10 b14 (o15 + (0 : Int).toNat * 1) = some (vs s16)) ∧ (∃ (a17 : Option Addr) (n17 c17 : Nat), (Hp.cell h10 u_rb u_ro = some (vsl a17 n17 c17)) ∧ (∃ (a18 : Option Addr) (n18 c18 : Nat), (Rd Tryz.prog (Instr.sliceAt 47 (vsl a17 n17 c17) (some (vi 1)) none none) h10 (vsl a18 n18 c18)) ∧ (Hp.store h10 u_rb u_ro [(vsl a18 n18 c18)] fun h19 => R (vs s16) h19)))))))))))))
theorem ok_query_reader_is {u_rb u_ro : Nat} {u_wordsa : Option Addr} {u_wordsn u_wordsc : Nat} {h : Hp} {R : Value → Hp → Prop} (H : VC_query_reader_is u_rb u_ro u_wordsa u_wordsn u_wordsc h R) : CallOK Tryz.prog 26 [(vhp u_rb u_ro), (vsl u_wordsa u_wordsn u_wordsc)] h R :=
  call_of (cfg := ⟨[], [], []⟩) noNG mixed Tryz.func26 [.one (.hp u_rb u_ro), .one (.v (vsl u_wordsa u_wordsn u_wordsc))] (by kernel_rfl) rfl (by kernel_rfl) H

/-- What '(*penstock/query.reader).must' asks. -/
def VC_query_reader_must (u_rb u_ro : Nat) (u_word : ByteArray) (h : Hp) (R : Value → Hp → Prop) : Prop :=
  (∀ (b1 : Nat), h b1 = none → let h2 : Hp := Hp.set h b1 (cellsO [(vs u_word)] 9); (CallOK Tryz.prog 26 [(vhp u_rb u_ro), (vsl (some (⟨b1, 0, none⟩ : Addr)) 1 1)] h2 fun v3 h4 => ∃ (s5 : ByteArray), v3 = (vs s5) ∧ (∃ (p6 : Bool), (Rd Tryz.prog ((eqGuard .eql 9 (.tmp 7) (.const (vs ⟨#[]⟩)) (vs s5) (vs ⟨#[]⟩) >>= fun _ => binOp .eql 9 (vs s5) (vs ⟨#[]⟩))) h4 (vb p6)) ∧ ((p6 = true → (CallOK Tryz.prog 50 [(vhp u_rb u_ro), (ifv (some (44, (vi 4))))] h4 fun v7 h8 => v7 = (vtup []) ∧ R (vtup []) h8)) ∧ (p6 = false → R (vtup []) h4)))))
theorem ok_query_reader_must {u_rb u_ro : Nat} {u_word : ByteArray} {h : Hp} {R : Value → Hp → Prop} (H : VC_query_reader_must u_rb u_ro u_word h R) : CallOK Tryz.prog 24 [(vhp u_rb u_ro), (vs u_word)] h R :=
  call_of (cfg := ⟨[], [], []⟩) noNG mixed Tryz.func24 [.one (.hp u_rb u_ro), .one (.v (vs u_word))] (by kernel_rfl) rfl (by kernel_rfl) H

/-- What '(*penstock/query.reader).number' asks. -/
def VC_query_reader_number (u_rb u_ro : Nat) (u_most : Int) (h : Hp) (R : Value → Hp → Prop) : Prop :=
  (∃ (a1 : Option Addr) (n1 c1 : Nat), (Hp.cell h u_rb u_ro = some (vsl a1 n1 c1)) ∧ (((decide ((((n1 : Nat) : Int) : Int) = 0)) = true → (CallOK Tryz.prog 50 [(vhp u_rb u_ro), (ifv (some (44, (vi 4))))] h fun v2 h3 => v2 = (vtup []) ∧ R (vi 0) h3)) ∧ ((decide ((((n1 : Nat) : Int) : Int) = 0)) = false → (∃ (a5 : Option Addr) (n5 c5 : Nat), (Hp.cell h u_rb u_ro = some (vsl a5 n5 c5)) ∧ (∃ (b6 o7 : Nat), (a5 = some ⟨b6, o7, none⟩ ∧ (0 : Int) ≤ 0 ∧ 0 < ((n5 : Nat) : Int)) ∧ (∃ (s8 : ByteArray), (Hp.cell h b6 (o7 + (0 : Int).toNat * 1) = some (vs s8)) ∧ (CallOK Tryz.prog 55 [(vs s8)] h fun v9 h10 => ∃ (x11 : Int) (e12 : Option (TypeId × Value)), v9 = (vtup [(vi x11), (ifv e12)]) ∧ (∃ (a13 : Option Addr) (n13 c13 : Nat), ((Option.isSome e12) = false → Hp.cell h10 u_rb u_ro = some (vsl a13 n13 c13)) ∧ (∃ (b14 o15 : Nat), ((Option.isSome e12) = false → (a13 = some ⟨b14, o15, none⟩ ∧ (0 : Int) ≤ 0 ∧ 0 < ((n13 : Nat) : Int))) ∧ (∃ (s16 : ByteArray), ((Option.isSome e12) = false → Hp.cell h10 b14 (o15 + (0 : Int).toNat * 1) = some (vs s16)) ∧ (∃ (x17 : Int), ((Option.isSome e12) = false → Rd Tryz.prog (Instr.index 9 (vs s16) (vi 0)) h10 (vk .u8 x17)) ∧ (∃ (a18 : Option Addr) (n18 c18 : Nat), ((bif (Option.isSome e12) then true else (decide ((x17 : Int) < 48))) = false → Hp.cell h10 u_rb u_ro = some (vsl a18 n18 c18)) ∧ (∃ (b19 o20 : Nat), ((bif (Option.isSome e12) then true else (decide ((x17 : Int) < 48))) = false → (a18 = some ⟨b19, o20, none⟩ ∧ (0 : Int) ≤ 0 ∧ 0 < ((n18 : Nat) : Int))) ∧ (∃ (s21 : ByteArray), ((bif (Option.isSome e12) then true else (decide ((x17 : Int) < 48))) = false → Hp.cell h10 b19 (o20 + (0 : Int).toNat * 1) = some (vs s21)) ∧ (∃ (x22 : Int), ((bif (Option.isSome e12) then true else (decide ((x17 : Int) < 48))) = false → Rd Tryz.prog (Instr.index 9 (vs s21) (vi 0)) h10 (vk .u8 x22)) ∧ (((bif (bif (bif (Option.isSome e12) then true else (decide ((x17 : Int) < 48))) then true else (decide ((x22 : Int) > 57))) then true else (decide ((x11 : Int) > u_most))) = true → (CallOK Tryz.prog 50 [(vhp u_rb u_ro), (ifv (some (44, (vi 4))))] h10 fun v23 h24 => v23 = (vtup []) ∧ R (vi 0) h24)) ∧ ((bif (bif (bif (Option.isSome e12) then true else (decide ((x17 : Int) < 48))) then true else (decide ((x22 : Int) > 57))) then true else (decide ((x11 : Int) > u_most))) = false → (∃ (a26 : Option Addr) (n26 c26 : Nat), (Hp.cell h10 u_rb u_ro = some (vsl a26 n26 c26)) ∧ (∃ (a27 : Option Addr) (n27 c27 : Nat), (Rd Tryz.prog (Instr.sliceAt 47 (vsl a26 n26 c26) (some (vi 1)) none none) h10 (vsl a27 n27 c27)) ∧ (Hp.store h10 u_rb u_ro [(vsl a27 n27 c27)] fun h28 => R (vi x11) h28))))))))))))))))))))
theorem ok_query_reader_number {u_rb u_ro : Nat} {u_most : Int} {h : Hp} {R : Value → Hp → Prop} (H : VC_query_reader_number u_rb u_ro u_most h R) : CallOK Tryz.prog 28 [(vhp u_rb u_ro), (vi u_most)] h R :=
  call_of (cfg := ⟨[], [], []⟩) noNG mixed Tryz.func28 [.one (.hp u_rb u_ro), .one (.v (vi u_most))] (by kernel_rfl) rfl (by kernel_rfl) H

/-- What 'penstock/query.leaf' asks. -/
def VC_query_leaf (u_nOp : Int) (u_nX : Int) (u_nY : Int) (u_nN : Int) (u_nValKind : Int) (u_nValN : Int) (h : Hp) (R : Value → Hp → Prop) : Prop :=
  (∀ (b1 : Nat), h b1 = none → let h2 : Hp := Hp.set h b1 (cellsO [(vi u_nOp), (vi u_nX), (vi u_nY), (vi u_nN), (vi u_nValKind), (vi u_nValN)] 82); R (vsl (some (⟨b1, 0, none⟩ : Addr)) 1 1) h2)
theorem ok_query_leaf {u_nOp : Int} {u_nX : Int} {u_nY : Int} {u_nN : Int} {u_nValKind : Int} {u_nValN : Int} {h : Hp} {R : Value → Hp → Prop} (H : VC_query_leaf u_nOp u_nX u_nY u_nN u_nValKind u_nValN h R) : CallOK Tryz.prog 87 [(vag [(vi u_nOp), (vi u_nX), (vi u_nY), (vi u_nN), (vi u_nValKind), (vi u_nValN)])] h R :=
  call_of (cfg := ⟨[], [], []⟩) noNG mixed Tryz.func87 [.ag [.v (vi u_nOp), .v (vi u_nX), .v (vi u_nY), .v (vi u_nN), .v (vi u_nValKind), .v (vi u_nValN)]] (by kernel_rfl) rfl (by kernel_rfl) H

/-- What '(*penstock/query.reader).join' asks. -/
def VC_query_reader_join (u_rb u_ro : Nat) (u_op : Int) (u_xa : Option Addr) (u_xn u_xc : Nat) (u_ya : Option Addr) (u_yn u_yc : Nat) (h : Hp) (R : Value → Hp → Prop) : Prop :=
  (∃ (x1 : Int), (IsW x1 (((u_xn : Nat) : Int) + ((u_yn : Nat) : Int))) ∧ (((decide ((x1 : Int) ≥ 40)) = true → (CallOK Tryz.prog 50 [(vhp u_rb u_ro), (ifv (some (44, (vi 2))))] h fun v2 h3 => v2 = (vtup []) ∧ (CallOK Tryz.prog 87 [(vag [(vi 1), (vi 0), (vi 0), (vi 0), (vi 0), (vi 0)])] h3 fun v4 h5 => ∃ (a6 : Option Addr) (n6 c6 : Nat), v4 = (vsl a6 n6 c6) ∧ R (vsl a6 n6 c6) h5))) ∧ ((decide ((x1 : Int) ≥ 40)) = false → (CallOK Tryz.prog 88 [(vi u_op), (vsl u_xa u_xn u_xc), (vsl u_ya u_yn u_yc)] h fun v8 h9 => ∃ (a10 : Option Addr) (n10 c10 : Nat), v8 = (vsl a10 n10 c10) ∧ R (vsl a10 n10 c10) h9))))
theorem ok_query_reader_join {u_rb u_ro : Nat} {u_op : Int} {u_xa : Option Addr} {u_xn u_xc : Nat} {u_ya : Option Addr} {u_yn u_yc : Nat} {h : Hp} {R : Value → Hp → Prop} (H : VC_query_reader_join u_rb u_ro u_op u_xa u_xn u_xc u_ya u_yn u_yc h R) : CallOK Tryz.prog 73 [(vhp u_rb u_ro), (vi u_op), (vsl u_xa u_xn u_xc), (vsl u_ya u_yn u_yc)] h R :=
  call_of (cfg := ⟨[], [], []⟩) noNG mixed Tryz.func73 [.one (.hp u_rb u_ro), .one (.v (vi u_op)), .one (.v (vsl u_xa u_xn u_xc)), .one (.v (vsl u_ya u_yn u_yc))] (by kernel_rfl) rfl (by kernel_rfl) H

/-- What '(*penstock/query.reader).down' asks. -/
def VC_query_reader_down (u_rb u_ro : Nat) (u_f : Value) (h : Hp) (R : Value → Hp → Prop) : Prop :=
  (∃ (x1 : Int), (Hp.cell h u_rb (u_ro + 1) = some (vi x1)) ∧ (∃ (x2 : Int), (IsW x2 (x1 + 1)) ∧ (Hp.store h u_rb (u_ro + 1) [(vi x2)] fun h3 => (∃ (x4 : Int), (Hp.cell h3 u_rb (u_ro + 1) = some (vi x4)) ∧ (let J9 : Hp → Prop := fun (h10 : Hp) => (InvOK Tryz.prog u_f [] h10 fun v11 h12 => ∃ (a13 : Option Addr) (n13 c13 : Nat), v11 = (vsl a13 n13 c13) ∧ (∃ (x14 : Int), (Hp.cell h12 u_rb (u_ro + 1) = some (vi x14)) ∧ (∃ (x15 : Int), (IsW x15 (x14 - 1)) ∧ (Hp.store h12 u_rb (u_ro + 1) [(vi x15)] fun h16 => R (vsl a13 n13 c13) h16)))); (((decide ((x4 : Int) > 12)) = true → (CallOK Tryz.prog 50 [(vhp u_rb u_ro), (ifv (some (44, (vi 2))))] h3 fun v5 h6 => v5 = (vtup []) ∧ (J9 h6))) ∧ ((decide ((x4 : Int) > 12)) = false → (J9 h3))))))))
theorem ok_query_reader_down {u_rb u_ro : Nat} {u_f : Value} {h : Hp} {R : Value → Hp → Prop} (H : VC_query_reader_down u_rb u_ro u_f h R) : CallOK Tryz.prog 90 [(vhp u_rb u_ro), u_f] h R :=
  call_of (cfg := ⟨[], [], []⟩) noNG mixed Tryz.func90 [.one (.hp u_rb u_ro), .one (.v u_f)] (by kernel_rfl) rfl (by kernel_rfl) H

/-- What '(*penstock/query.reader).atom' asks. -/
def VC_query_reader_atom (u_rb u_ro : Nat) (h : Hp) (R : Value → Hp → Prop) : Prop :=
  (∀ (b1 : Nat), h b1 = none → let h2 : Hp := Hp.set h b1 (cellsO [(vs ⟨#[40]⟩), (vs ⟨#[110, 117, 108, 108]⟩), (vs ⟨#[116, 114, 117, 101]⟩), (vs ⟨#[102, 97, 108, 115, 101]⟩), (vs ⟨#[116]⟩), (vs ⟨#[107]⟩), (vs ⟨#[97]⟩), (vs ⟨#[98]⟩)] 9); (CallOK Tryz.prog 26 [(vhp u_rb u_ro), (vsl (some (⟨b1, 0, none⟩ : Addr)) 8 8)] h2 fun v3 h4 => ∃ (s5 : ByteArray), v3 = (vs s5) ∧ (∃ (p6 : Bool), (Rd Tryz.prog ((eqGuard .eql 9 (.tmp 10) (.const (vs ⟨#[40]⟩)) (vs s5) (vs ⟨#[40]⟩) >>= fun _ => binOp .eql 9 (vs s5) (vs ⟨#[40]⟩))) h4 (vb p6)) ∧ ((p6 = true → (CallOK Tryz.prog 90 [(vhp u_rb u_ro), (Value.func (.func 27) #[(vhp u_rb u_ro)] #[])] h4 fun v7 h8 => ∃ (a9 : Option Addr) (n9 c9 : Nat), v7 = (vsl a9 n9 c9) ∧ (CallOK Tryz.prog 24 [(vhp u_rb u_ro), (vs ⟨#[41]⟩)] h8 fun v10 h11 => v10 = (vtup []) ∧ R (vsl a9 n9 c9) h11))) ∧ (p6 = false → (∃ (p12 : Bool), (Rd Tryz.prog ((eqGuard .eql 9 (.tmp 10) (.const (vs ⟨#[110, 117, 108, 108]⟩)) (vs s5) (vs ⟨#[110, 117, 108, 108]⟩) >>= fun _ => binOp .eql 9 (vs s5) (vs ⟨#[110, 117, 108, 108]⟩))) h4 (vb p12)) ∧ (let J18 : Bool → Prop := fun (p19 : Bool) => ((p19 = true → (CallOK Tryz.prog 115 [(vs s5)] h4 fun v20 h21 => ∃ (x22 : Int) (x23 : Int) (e24 : Option (TypeId × Value)), v20 = (vtup [(vag [(vi x22), (vi x23)]), (ifv e24)]) ∧ (CallOK Tryz.prog 87 [(vag [(vi 1), (vi 0), (vi 0), (vi 0), (vi x22), (vi x23)])] h21 fun v25 h26 => ∃ (a27 : Option Addr) (n27 c27 : Nat), v25 = (vsl a27 n27 c27) ∧ R (vsl a27 n27 c27) h26))) ∧ (p19 = false → (∃ (p28 : Bool), (Rd Tryz.prog ((eqGuard .eql 9 (.tmp 10) (.const (vs ⟨#[]⟩)) (vs s5) (vs ⟨#[]⟩) >>= fun _ => binOp .eql 9 (vs s5) (vs ⟨#[]⟩))) h4 (vb p28)) ∧ ((p28 = true → (CallOK Tryz.prog 28 [(vhp u_rb u_ro), (vi 1000000000)] h4 fun v29 h30 => ∃ (x31 : Int), v29 = (vi x31) ∧ (CallOK Tryz.prog 116 [(vi x31)] h30 fun v32 h33 => ∃ (x34 : Int) (x35 : Int), v32 = (vag [(vi x34), (vi x35)]) ∧ (CallOK Tryz.prog 87 [(vag [(vi 1), (vi 0), (vi 0), (vi 0), (vi x34), (vi x35)])] h33 fun v36 h37 => ∃ (a38 : Option Addr) (n38 c38 : Nat), v36 = (vsl a38 n38 c38) ∧ R (vsl a38 n38 c38) h37)))) ∧ (p28 = false → (∃ (a39 : Option Addr) (n39 c39 : Nat), (Hp.cell h4 1 0 = some (vsl a39 n39 c39)) ∧ (CallOK Tryz.prog 51 [(vsl a39 n39 c39), (vs s5)] h4 fun v40 h41 => ∃ (x42 : Int), v40 = (vi x42) ∧ (CallOK Tryz.prog 87 [(vag [(vi 2), (vi 0), (vi 0), (vi x42), (vi 0), (vi 0)])] h41 fun v43 h44 => ∃ (a45 : Option Addr) (n45 c45 : Nat), v43 = (vsl a45 n45 c45) ∧ R (vsl a45 n45 c45) h44)))))))); ((p12 = true → (J18 p12)) ∧ (p12 = false → (∃ (p14 : Bool), (Rd Tryz.prog ((eqGuard .eql 9 (.tmp 10) (.const (vs ⟨#[116, 114, 117, 101]⟩)) (vs s5) (vs ⟨#[116, 114, 117, 101]⟩) >>= fun _ => binOp .eql 9 (vs s5) (vs ⟨#[116, 114, 117, 101]⟩))) h4 (vb p14)) ∧ ((p14 = true → (J18 p14)) ∧ (p14 = false → (∃ (p16 : Bool), (Rd Tryz.prog ((eqGuard .eql 9 (.tmp 10) (.const (vs ⟨#[102, 97, 108, 115, 101]⟩)) (vs s5) (vs ⟨#[102, 97, 108, 115, 101]⟩) >>= fun _ => binOp .eql 9 (vs s5) (vs ⟨#[102, 97, 108, 115, 101]⟩))) h4 (vb p16)) ∧ (J18 p16))))))))))))))
theorem ok_query_reader_atom {u_rb u_ro : Nat} {h : Hp} {R : Value → Hp → Prop} (H : VC_query_reader_atom u_rb u_ro h R) : CallOK Tryz.prog 114 [(vhp u_rb u_ro)] h R :=
  call_of (cfg := ⟨[], [], []⟩) noNG mixed Tryz.func114 [.one (.hp u_rb u_ro)] (by kernel_rfl) rfl (by kernel_rfl) H

/-- What '(*penstock/query.reader).unary' asks. -/
def VC_query_reader_unary (u_rb u_ro : Nat) (h : Hp) (R : Value → Hp → Prop) : Prop :=
  (∀ (b1 : Nat), h b1 = none → let h2 : Hp := Hp.set h b1 (cellsO [(vs ⟨#[45]⟩)] 9); (CallOK Tryz.prog 26 [(vhp u_rb u_ro), (vsl (some (⟨b1, 0, none⟩ : Addr)) 1 1)] h2 fun v3 h4 => ∃ (s5 : ByteArray), v3 = (vs s5) ∧ (∃ (p6 : Bool), (Rd Tryz.prog ((eqGuard .eql 9 (.tmp 5) (.const (vs ⟨#[]⟩)) (vs s5) (vs ⟨#[]⟩) >>= fun _ => binOp .eql 9 (vs s5) (vs ⟨#[]⟩))) h4 (vb p6)) ∧ ((p6 = true → (CallOK Tryz.prog 114 [(vhp u_rb u_ro)] h4 fun v7 h8 => ∃ (a9 : Option Addr) (n9 c9 : Nat), v7 = (vsl a9 n9 c9) ∧ R (vsl a9 n9 c9) h8)) ∧ (p6 = false → (CallOK Tryz.prog 90 [(vhp u_rb u_ro), (Value.func (.func 113) #[(vhp u_rb u_ro)] #[])] h4 fun v11 h12 => ∃ (a13 : Option Addr) (n13 c13 : Nat), v11 = (vsl a13 n13 c13) ∧ (CallOK Tryz.prog 73 [(vhp u_rb u_ro), (vi 3), (vsl a13 n13 c13), (vsl none 0 0)] h12 fun v14 h15 => ∃ (a16 : Option Addr) (n16 c16 : Nat), v14 = (vsl a16 n16 c16) ∧ R (vsl a16 n16 c16) h15)))))))
theorem ok_query_reader_unary {u_rb u_ro : Nat} {h : Hp} {R : Value → Hp → Prop} (H : VC_query_reader_unary u_rb u_ro h R) : CallOK Tryz.prog 113 [(vhp u_rb u_ro)] h R :=
  call_of (cfg := ⟨[], [], []⟩) noNG mixed Tryz.func113 [.one (.hp u_rb u_ro)] (by kernel_rfl) rfl (by kernel_rfl) H

/-- What '(*penstock/query.reader).row' asks. -/
def VC_query_reader_row (u_rb u_ro : Nat) (u_next : Value) (u_ops : Value) (u_wordsa : Option Addr) (u_wordsn u_wordsc : Nat) (h : Hp) (R : Value → Hp → Prop) : Prop :=
  (InvOK Tryz.prog u_next [] h fun v1 h2 => ∃ (a3 : Option Addr) (n3 c3 : Nat), v1 = (vsl a3 n3 c3) ∧ (let J26 : Option Addr → Nat → Nat → Hp → Prop := fun (a28 : Option Addr) (n28 c28 : Nat) (h29 : Hp) => R (vsl a28 n28 c28) h29; (∃ (I5 : List Value → Hp → Prop) (m6 : List Value → Hp → Nat), I5 [(vsl a3 n3 c3)] h2 ∧ ∀ (vs7 : List Value) (h8 : Hp), I5 vs7 h8 → ∃ (a9 : Option Addr) (n9 c9 : Nat), vs7 = [(vsl a9 n9 c9)] ∧ (∃ (e10 : Option (TypeId × Value)), (Hp.cell h8 u_rb (u_ro + 2) = some (ifv e10)) ∧ (((Option.isNone e10) = true → (CallOK Tryz.prog 26 [(vhp u_rb u_ro), (vsl u_wordsa u_wordsn u_wordsc)] h8 fun v13 h14 => ∃ (s15 : ByteArray), v13 = (vs s15) ∧ (∃ (p16 : Bool), (Rd Tryz.prog ((eqGuard .eql 9 (.tmp 21) (.const (vs ⟨#[]⟩)) (vs s15) (vs ⟨#[]⟩) >>= fun _ => binOp .eql 9 (vs s15) (vs ⟨#[]⟩))) h14 (vb p16)) ∧ ((p16 = true → (J26 a9 n9 c9 h14)) ∧ (p16 = false → (∃ (x19 : Int), (Rd Tryz.prog (Instr.lookup 97 u_ops (vs s15) false) h14 (vi x19)) ∧ (InvOK Tryz.prog u_next [] h14 fun v20 h21 => ∃ (a22 : Option Addr) (n22 c22 : Nat), v20 = (vsl a22 n22 c22) ∧ ((Rd Tryz.prog (Instr.lookup 97 u_ops (vs s15) false) h21 (vi x19)) ∧ (CallOK Tryz.prog 73 [(vhp u_rb u_ro), (vi x19), (vsl a9 n9 c9), (vsl a22 n22 c22)] h21 fun v23 h24 => ∃ (a25 : Option Addr) (n25 c25 : Nat), v23 = (vsl a25 n25 c25) ∧ (I5 [(vsl a25 n25 c25)] h24 ∧ m6 [(vsl a25 n25 c25)] h24 < m6 vs7 h8)))))))))) ∧ ((Option.isNone e10) = false → (J26 a9 n9 c9 h8)))))))
theorem ok_query_reader_row {u_rb u_ro : Nat} {u_next : Value} {u_ops : Value} {u_wordsa : Option Addr} {u_wordsn u_wordsc : Nat} {h : Hp} {R : Value → Hp → Prop} (H : VC_query_reader_row u_rb u_ro u_next u_ops u_wordsa u_wordsn u_wordsc h R) : CallOK Tryz.prog 53 [(vhp u_rb u_ro), u_next, u_ops, (vsl u_wordsa u_wordsn u_wordsc)] h R :=
  call_of (cfg := ⟨[], [(2, ([9], [.one (.slice)], []))], [(5, [0, 1, 2, 3, 4, 5, 6, 7, 8])]⟩) noNG mixed Tryz.func53 [.one (.hp u_rb u_ro), .one (.v u_next), .one (.v u_ops), .one (.v (vsl u_wordsa u_wordsn u_wordsc))] (by kernel_rfl) rfl (by kernel_rfl) H

/-- What '(*penstock/query.reader).product' asks. -/
def VC_query_reader_product (u_rb u_ro : Nat) (h : Hp) (R : Value → Hp → Prop) : Prop :=
  (SemOK Tryz.prog (Instr.makeMap 97 none) h fun v1 h2 => ∃ (y3 : Value), v1 = y3 ∧ (SemOKu Tryz.prog (Instr.mapUpdate 97 y3 (vs ⟨#[42]⟩) (vi 8)) h2 fun h4 => (∀ (b5 : Nat), h4 b5 = none → let h6 : Hp := Hp.set h4 b5 (cellsO [(vs ⟨#[42]⟩)] 9); (CallOK Tryz.prog 53 [(vhp u_rb u_ro), (Value.func (.func 113) #[(vhp u_rb u_ro)] #[]), y3, (vsl (some (⟨b5, 0, none⟩ : Addr)) 1 1)] h6 fun v7 h8 => ∃ (a9 : Option Addr) (n9 c9 : Nat), v7 = (vsl a9 n9 c9) ∧ R (vsl a9 n9 c9) h8))))
theorem ok_query_reader_product {u_rb u_ro : Nat} {h : Hp} {R : Value → Hp → Prop} (H : VC_query_reader_product u_rb u_ro h R) : CallOK Tryz.prog 110 [(vhp u_rb u_ro)] h R :=
  call_of (cfg := ⟨[], [], []⟩) noNG mixed Tryz.func110 [.one (.hp u_rb u_ro)] (by kernel_rfl) rfl (by kernel_rfl) H

/-- What '(*penstock/query.reader).sum' asks. -/
def VC_query_reader_sum (u_rb u_ro : Nat) (h : Hp) (R : Value → Hp → Prop) : Prop :=
  (SemOK Tryz.prog (Instr.makeMap 97 none) h fun v1 h2 => ∃ (y3 : Value), v1 = y3 ∧ (SemOKu Tryz.prog (Instr.mapUpdate 97 y3 (vs ⟨#[43]⟩) (vi 6)) h2 fun h4 => (SemOKu Tryz.prog (Instr.mapUpdate 97 y3 (vs ⟨#[45]⟩) (vi 7)) h4 fun h5 => (∀ (b6 : Nat), h5 b6 = none → let h7 : Hp := Hp.set h5 b6 (cellsO [(vs ⟨#[43]⟩), (vs ⟨#[45]⟩)] 9); (CallOK Tryz.prog 53 [(vhp u_rb u_ro), (Value.func (.func 110) #[(vhp u_rb u_ro)] #[]), y3, (vsl (some (⟨b6, 0, none⟩ : Addr)) 2 2)] h7 fun v8 h9 => ∃ (a10 : Option Addr) (n10 c10 : Nat), v8 = (vsl a10 n10 c10) ∧ R (vsl a10 n10 c10) h9)))))
theorem ok_query_reader_sum {u_rb u_ro : Nat} {h : Hp} {R : Value → Hp → Prop} (H : VC_query_reader_sum u_rb u_ro h R) : CallOK Tryz.prog 104 [(vhp u_rb u_ro)] h R :=
  call_of (cfg := ⟨[], [], []⟩) noNG mixed Tryz.func104 [.one (.hp u_rb u_ro)] (by kernel_rfl) rfl (by kernel_rfl) H

/-- What '(*penstock/query.reader).compare' asks. -/
def VC_query_reader_compare (u_rb u_ro : Nat) (h : Hp) (R : Value → Hp → Prop) : Prop :=
  (CallOK Tryz.prog 104 [(vhp u_rb u_ro)] h fun v1 h2 => ∃ (a3 : Option Addr) (n3 c3 : Nat), v1 = (vsl a3 n3 c3) ∧ (∀ (b4 : Nat), h2 b4 = none → let h5 : Hp := Hp.set h2 b4 (cellsO [(vs ⟨#[60]⟩), (vs ⟨#[62]⟩), (vs ⟨#[60, 61]⟩), (vs ⟨#[62, 61]⟩), (vs ⟨#[61]⟩), (vs ⟨#[60, 62]⟩), (vs ⟨#[105, 115]⟩)] 9); (CallOK Tryz.prog 26 [(vhp u_rb u_ro), (vsl (some (⟨b4, 0, none⟩ : Addr)) 7 7)] h5 fun v6 h7 => ∃ (s8 : ByteArray), v6 = (vs s8) ∧ (let J78 : Option Addr → Nat → Nat → Hp → Prop := fun (a80 : Option Addr) (n80 c80 : Nat) (h81 : Hp) => R (vsl a80 n80 c80) h81; (∃ (p9 : Bool), (Rd Tryz.prog ((eqGuard .eql 9 (.tmp 11) (.const (vs ⟨#[60]⟩)) (vs s8) (vs ⟨#[60]⟩) >>= fun _ => binOp .eql 9 (vs s8) (vs ⟨#[60]⟩))) h7 (vb p9)) ∧ ((p9 = true → (CallOK Tryz.prog 104 [(vhp u_rb u_ro)] h7 fun v10 h11 => ∃ (a12 : Option Addr) (n12 c12 : Nat), v10 = (vsl a12 n12 c12) ∧ (CallOK Tryz.prog 73 [(vhp u_rb u_ro), (vi 11), (vsl a3 n3 c3), (vsl a12 n12 c12)] h11 fun v13 h14 => ∃ (a15 : Option Addr) (n15 c15 : Nat), v13 = (vsl a15 n15 c15) ∧ R (vsl a15 n15 c15) h14))) ∧ (p9 = false → (∃ (p16 : Bool), (Rd Tryz.prog ((eqGuard .eql 9 (.tmp 11) (.const (vs ⟨#[62]⟩)) (vs s8) (vs ⟨#[62]⟩) >>= fun _ => binOp .eql 9 (vs s8) (vs ⟨#[62]⟩))) h7 (vb p16)) ∧ ((p16 = true → (CallOK Tryz.prog 104 [(vhp u_rb u_ro)] h7 fun v17 h18 => ∃ (a19 : Option Addr) (n19 c19 : Nat), v17 = (vsl a19 n19 c19) ∧ (CallOK Tryz.prog 73 [(vhp u_rb u_ro), (vi 11), (vsl a19 n19 c19), (vsl a3 n3 c3)] h18 fun v20 h21 => ∃ (a22 : Option Addr) (n22 c22 : Nat), v20 = (vsl a22 n22 c22) ∧ R (vsl a22 n22 c22) h21))) ∧ (p16 = false → (∃ (p23 : Bool), (Rd Tryz.prog ((eqGuard .eql 9 (.tmp 11) (.const (vs ⟨#[60, 61]⟩)) (vs s8) (vs ⟨#[60, 61]⟩) >>= fun _ => binOp .eql 9 (vs s8) (vs ⟨#[60, 61]⟩))) h7 (vb p23)) ∧ ((p23 = true → (CallOK Tryz.prog 104 [(vhp u_rb u_ro)] h7 fun v24 h25 => ∃ (a26 : Option Addr) (n26 c26 : Nat), v24 = (vsl a26 n26 c26) ∧ (CallOK Tryz.prog 73 [(vhp u_rb u_ro), (vi 11), (vsl a26 n26 c26), (vsl a3 n3 c3)] h25 fun v27 h28 => ∃ (a29 : Option Addr) (n29 c29 : Nat), v27 = (vsl a29 n29 c29) ∧ (CallOK Tryz.prog 73 [(vhp u_rb u_ro), (vi 4), (vsl a29 n29 c29), (vsl none 0 0)] h28 fun v30 h31 => ∃ (a32 : Option Addr) (n32 c32 : Nat), v30 = (vsl a32 n32 c32) ∧ R (vsl a32 n32 c32) h31)))) ∧ (p23 = false → (∃ (p33 : Bool), (Rd Tryz.prog ((eqGuard .eql 9 (.tmp 11) (.const (vs ⟨#[62, 61]⟩)) (vs s8) (vs ⟨#[62, 61]⟩) >>= fun _ => binOp .eql 9 (vs s8) (vs ⟨#[62, 61]⟩))) h7 (vb p33)) ∧ ((p33 = true → (CallOK Tryz.prog 104 [(vhp u_rb u_ro)] h7 fun v34 h35 => ∃ (a36 : Option Addr) (n36 c36 : Nat), v34 = (vsl a36 n36 c36) ∧ (CallOK Tryz.prog 73 [(vhp u_rb u_ro), (vi 11), (vsl a3 n3 c3), (vsl a36 n36 c36)] h35 fun v37 h38 => ∃ (a39 : Option Addr) (n39 c39 : Nat), v37 = (vsl a39 n39 c39) ∧ (CallOK Tryz.prog 73 [(vhp u_rb u_ro), (vi 4), (vsl a39 n39 c39), (vsl none 0 0)] h38 fun v40 h41 => ∃ (a42 : Option Addr) (n42 c42 : Nat), v40 = (vsl a42 n42 c42) ∧ R (vsl a42 n42 c42) h41)))) ∧ (p33 = false → (∃ (p43 : Bool), (Rd Tryz.prog ((eqGuard .eql 9 (.tmp 11) (.const (vs ⟨#[61]⟩)) (vs s8) (vs ⟨#[61]⟩) >>= fun _ => binOp .eql 9 (vs s8) (vs ⟨#[61]⟩))) h7 (vb p43)) ∧ ((p43 = true → (CallOK Tryz.prog 104 [(vhp u_rb u_ro)] h7 fun v44 h45 => ∃ (a46 : Option Addr) (n46 c46 : Nat), v44 = (vsl a46 n46 c46) ∧ (CallOK Tryz.prog 73 [(vhp u_rb u_ro), (vi 12), (vsl a3 n3 c3), (vsl a46 n46 c46)] h45 fun v47 h48 => ∃ (a49 : Option Addr) (n49 c49 : Nat), v47 = (vsl a49 n49 c49) ∧ R (vsl a49 n49 c49) h48))) ∧ (p43 = false → (∃ (p50 : Bool), (Rd Tryz.prog ((eqGuard .eql 9 (.tmp 11) (.const (vs ⟨#[60, 62]⟩)) (vs s8) (vs ⟨#[60, 62]⟩) >>= fun _ => binOp .eql 9 (vs s8) (vs ⟨#[60, 62]⟩))) h7 (vb p50)) ∧ ((p50 = true → (CallOK Tryz.prog 104 [(vhp u_rb u_ro)] h7 fun v51 h52 => ∃ (a53 : Option Addr) (n53 c53 : Nat), v51 = (vsl a53 n53 c53) ∧ (CallOK Tryz.prog 73 [(vhp u_rb u_ro), (vi 12), (vsl a3 n3 c3), (vsl a53 n53 c53)] h52 fun v54 h55 => ∃ (a56 : Option Addr) (n56 c56 : Nat), v54 = (vsl a56 n56 c56) ∧ (CallOK Tryz.prog 73 [(vhp u_rb u_ro), (vi 4), (vsl a56 n56 c56), (vsl none 0 0)] h55 fun v57 h58 => ∃ (a59 : Option Addr) (n59 c59 : Nat), v57 = (vsl a59 n59 c59) ∧ R (vsl a59 n59 c59) h58)))) ∧ (p50 = false → (∃ (p60 : Bool), (Rd Tryz.prog ((eqGuard .eql 9 (.tmp 11) (.const (vs ⟨#[105, 115]⟩)) (vs s8) (vs ⟨#[105, 115]⟩) >>= fun _ => binOp .eql 9 (vs s8) (vs ⟨#[105, 115]⟩))) h7 (vb p60)) ∧ ((p60 = true → (∀ (b61 : Nat), h7 b61 = none → let h62 : Hp := Hp.set h7 b61 (cellsO [(vs ⟨#[110, 111, 116]⟩)] 9); (CallOK Tryz.prog 26 [(vhp u_rb u_ro), (vsl (some (⟨b61, 0, none⟩ : Addr)) 1 1)] h62 fun v63 h64 => ∃ (s65 : ByteArray), v63 = (vs s65) ∧ (CallOK Tryz.prog 24 [(vhp u_rb u_ro), (vs ⟨#[110, 117, 108, 108]⟩)] h64 fun v66 h67 => v66 = (vtup []) ∧ (CallOK Tryz.prog 73 [(vhp u_rb u_ro), (vi 5), (vsl a3 n3 c3), (vsl none 0 0)] h67 fun v68 h69 => ∃ (a70 : Option Addr) (n70 c70 : Nat), v68 = (vsl a70 n70 c70) ∧ (∃ (p71 : Bool), (Rd Tryz.prog ((eqGuard .neq 9 (.tmp 70) (.const (vs ⟨#[]⟩)) (vs s65) (vs ⟨#[]⟩) >>= fun _ => binOp .neq 9 (vs s65) (vs ⟨#[]⟩))) h69 (vb p71)) ∧ ((p71 = true → (CallOK Tryz.prog 73 [(vhp u_rb u_ro), (vi 4), (vsl a70 n70 c70), (vsl none 0 0)] h69 fun v72 h73 => ∃ (a74 : Option Addr) (n74 c74 : Nat), v72 = (vsl a74 n74 c74) ∧ (J78 a74 n74 c74 h73))) ∧ (p71 = false → (J78 a70 n70 c70 h69))))))))) ∧ (p60 = false → (J78 a3 n3 c3 h7))))))))))))))))))))))))))
theorem ok_query_reader_compare {u_rb u_ro : Nat} {h : Hp} {R : Value → Hp → Prop} (H : VC_query_reader_compare u_rb u_ro h R) : CallOK Tryz.prog 89 [(vhp u_rb u_ro)] h R :=
  call_of (cfg := ⟨[], [], []⟩) noNG mixed Tryz.func89 [.one (.hp u_rb u_ro)] (by kernel_rfl) rfl (by kernel_rfl) H

/-- What '(*penstock/query.reader).not' asks. -/
def VC_query_reader_not (u_rb u_ro : Nat) (h : Hp) (R : Value → Hp → Prop) : Prop :=
  (∀ (b1 : Nat), h b1 = none → let h2 : Hp := Hp.set h b1 (cellsO [(vs ⟨#[110, 111, 116]⟩)] 9); (CallOK Tryz.prog 26 [(vhp u_rb u_ro), (vsl (some (⟨b1, 0, none⟩ : Addr)) 1 1)] h2 fun v3 h4 => ∃ (s5 : ByteArray), v3 = (vs s5) ∧ (∃ (p6 : Bool), (Rd Tryz.prog ((eqGuard .eql 9 (.tmp 5) (.const (vs ⟨#[]⟩)) (vs s5) (vs ⟨#[]⟩) >>= fun _ => binOp .eql 9 (vs s5) (vs ⟨#[]⟩))) h4 (vb p6)) ∧ ((p6 = true → (CallOK Tryz.prog 89 [(vhp u_rb u_ro)] h4 fun v7 h8 => ∃ (a9 : Option Addr) (n9 c9 : Nat), v7 = (vsl a9 n9 c9) ∧ R (vsl a9 n9 c9) h8)) ∧ (p6 = false → (CallOK Tryz.prog 90 [(vhp u_rb u_ro), (Value.func (.func 74) #[(vhp u_rb u_ro)] #[])] h4 fun v11 h12 => ∃ (a13 : Option Addr) (n13 c13 : Nat), v11 = (vsl a13 n13 c13) ∧ (CallOK Tryz.prog 73 [(vhp u_rb u_ro), (vi 4), (vsl a13 n13 c13), (vsl none 0 0)] h12 fun v14 h15 => ∃ (a16 : Option Addr) (n16 c16 : Nat), v14 = (vsl a16 n16 c16) ∧ R (vsl a16 n16 c16) h15)))))))
theorem ok_query_reader_not {u_rb u_ro : Nat} {h : Hp} {R : Value → Hp → Prop} (H : VC_query_reader_not u_rb u_ro h R) : CallOK Tryz.prog 74 [(vhp u_rb u_ro)] h R :=
  call_of (cfg := ⟨[], [], []⟩) noNG mixed Tryz.func74 [.one (.hp u_rb u_ro)] (by kernel_rfl) rfl (by kernel_rfl) H

/-- What '(*penstock/query.reader).and' asks. -/
def VC_query_reader_and (u_rb u_ro : Nat) (h : Hp) (R : Value → Hp → Prop) : Prop :=
  (SemOK Tryz.prog (Instr.makeMap 97 none) h fun v1 h2 => ∃ (y3 : Value), v1 = y3 ∧ (SemOKu Tryz.prog (Instr.mapUpdate 97 y3 (vs ⟨#[97, 110, 100]⟩) (vi 9)) h2 fun h4 => (∀ (b5 : Nat), h4 b5 = none → let h6 : Hp := Hp.set h4 b5 (cellsO [(vs ⟨#[97, 110, 100]⟩)] 9); (CallOK Tryz.prog 53 [(vhp u_rb u_ro), (Value.func (.func 74) #[(vhp u_rb u_ro)] #[]), y3, (vsl (some (⟨b5, 0, none⟩ : Addr)) 1 1)] h6 fun v7 h8 => ∃ (a9 : Option Addr) (n9 c9 : Nat), v7 = (vsl a9 n9 c9) ∧ R (vsl a9 n9 c9) h8))))
theorem ok_query_reader_and {u_rb u_ro : Nat} {h : Hp} {R : Value → Hp → Prop} (H : VC_query_reader_and u_rb u_ro h R) : CallOK Tryz.prog 54 [(vhp u_rb u_ro)] h R :=
  call_of (cfg := ⟨[], [], []⟩) noNG mixed Tryz.func54 [.one (.hp u_rb u_ro)] (by kernel_rfl) rfl (by kernel_rfl) H

/-- What '(*penstock/query.reader).or' asks. -/
def VC_query_reader_or (u_rb u_ro : Nat) (h : Hp) (R : Value → Hp → Prop) : Prop :=
  (SemOK Tryz.prog (Instr.makeMap 97 none) h fun v1 h2 => ∃ (y3 : Value), v1 = y3 ∧ (SemOKu Tryz.prog (Instr.mapUpdate 97 y3 (vs ⟨#[111, 114]⟩) (vi 10)) h2 fun h4 => (∀ (b5 : Nat), h4 b5 = none → let h6 : Hp := Hp.set h4 b5 (cellsO [(vs ⟨#[111, 114]⟩)] 9); (CallOK Tryz.prog 53 [(vhp u_rb u_ro), (Value.func (.func 54) #[(vhp u_rb u_ro)] #[]), y3, (vsl (some (⟨b5, 0, none⟩ : Addr)) 1 1)] h6 fun v7 h8 => ∃ (a9 : Option Addr) (n9 c9 : Nat), v7 = (vsl a9 n9 c9) ∧ R (vsl a9 n9 c9) h8))))
theorem ok_query_reader_or {u_rb u_ro : Nat} {h : Hp} {R : Value → Hp → Prop} (H : VC_query_reader_or u_rb u_ro h R) : CallOK Tryz.prog 27 [(vhp u_rb u_ro)] h R :=
  call_of (cfg := ⟨[], [], []⟩) noNG mixed Tryz.func27 [.one (.hp u_rb u_ro)] (by kernel_rfl) rfl (by kernel_rfl) H

/-- What '(*penstock/query.reader).agg' asks. -/
def VC_query_reader_agg (u_rb u_ro : Nat) (h : Hp) (R : Value → Hp → Prop) : Prop :=
  (∀ (b1 : Nat), h b1 = none → let h2 : Hp := Hp.set h b1 (cellsO [(vs ⟨#[99, 111, 117, 110, 116]⟩), (vs ⟨#[115, 117, 109]⟩), (vs ⟨#[109, 105, 110]⟩), (vs ⟨#[109, 97, 120]⟩)] 9); (CallOK Tryz.prog 26 [(vhp u_rb u_ro), (vsl (some (⟨b1, 0, none⟩ : Addr)) 4 4)] h2 fun v3 h4 => ∃ (s5 : ByteArray), v3 = (vs s5) ∧ (∃ (p6 : Bool), (Rd Tryz.prog ((eqGuard .eql 9 (.tmp 8) (.const (vs ⟨#[]⟩)) (vs s5) (vs ⟨#[]⟩) >>= fun _ => binOp .eql 9 (vs s5) (vs ⟨#[]⟩))) h4 (vb p6)) ∧ (let J11 : Hp → Prop := fun (h12 : Hp) => (CallOK Tryz.prog 24 [(vhp u_rb u_ro), (vs ⟨#[40]⟩)] h12 fun v13 h14 => v13 = (vtup []) ∧ (∃ (a15 : Option Addr) (n15 c15 : Nat), (Hp.cell h14 0 0 = some (vsl a15 n15 c15)) ∧ (CallOK Tryz.prog 51 [(vsl a15 n15 c15), (vs s5)] h14 fun v16 h17 => ∃ (x18 : Int), v16 = (vi x18) ∧ (let J56 : Int → Option Addr → Nat → Nat → Hp → Prop := fun (x64 : Int) (a65 : Option Addr) (n65 c65 : Nat) (h66 : Hp) => (CallOK Tryz.prog 24 [(vhp u_rb u_ro), (vs ⟨#[41]⟩)] h66 fun v67 h68 => v67 = (vtup []) ∧ R (vag [(vi x64), (vsl a65 n65 c65)]) h68); (∃ (p19 : Bool), (Rd Tryz.prog ((eqGuard .eql 9 (.tmp 23) (.const (vs ⟨#[99, 111, 117, 110, 116]⟩)) (vs s5) (vs ⟨#[99, 111, 117, 110, 116]⟩) >>= fun _ => binOp .eql 9 (vs s5) (vs ⟨#[99, 111, 117, 110, 116]⟩))) h17 (vb p19)) ∧ ((p19 = true → (∀ (b20 : Nat), h17 b20 = none → let h21 : Hp := Hp.set h17 b20 (cellsO [(vs ⟨#[42]⟩)] 9); (∃ (J22 : SV → Hp → Prop), (p19 = true → (CallOK Tryz.prog 26 [(vhp u_rb u_ro), (vsl (some (⟨b20, 0, none⟩ : Addr)) 1 1)] h21 fun v23 h24 => ∃ (s25 : ByteArray), v23 = (vs s25) ∧ J22 (.t (.one (.v (vs s25)))) h24)) ∧ (¬ (p19 = true) → J22 (.t (.one (.v (vs ⟨#[]⟩)))) h21) ∧ ∀ (h26 : Hp) (s27 : ByteArray), J22 (.t (.one (.v (vs s27)))) h26 → (∃ (p28 : Bool), (p19 = true → Rd Tryz.prog ((eqGuard .neq 9 (.tmp 28) (.const (vs ⟨#[]⟩)) (vs s27) (vs ⟨#[]⟩) >>= fun _ => binOp .neq 9 (vs s27) (vs ⟨#[]⟩))) h26 (vb p28)) ∧ (((bif p19 then p28 else false) = true → (J56 x18 none 0 0 h26)) ∧ ((bif p19 then p28 else false) = false → (∃ (p30 : Bool), (Rd Tryz.prog ((eqGuard .eql 9 (.tmp 32) (.const (vs ⟨#[99, 111, 117, 110, 116]⟩)) (vs s5) (vs ⟨#[99, 111, 117, 110, 116]⟩) >>= fun _ => binOp .eql 9 (vs s5) (vs ⟨#[99, 111, 117, 110, 116]⟩))) h26 (vb p30)) ∧ ((p30 = true → (CallOK Tryz.prog 27 [(vhp u_rb u_ro)] h26 fun v31 h32 => ∃ (a33 : Option Addr) (n33 c33 : Nat), v31 = (vsl a33 n33 c33) ∧ (J56 2 a33 n33 c33 h32))) ∧ (p30 = false → (CallOK Tryz.prog 27 [(vhp u_rb u_ro)] h26 fun v35 h36 => ∃ (a37 : Option Addr) (n37 c37 : Nat), v35 = (vsl a37 n37 c37) ∧ (J56 x18 a37 n37 c37 h36))))))))))) ∧ (¬ (p19 = true) → (∃ (J39 : SV → Hp → Prop), (p19 = true → (CallOK Tryz.prog 26 [(vhp u_rb u_ro), (vsl none 0 0)] h17 fun v40 h41 => ∃ (s42 : ByteArray), v40 = (vs s42) ∧ J39 (.t (.one (.v (vs s42)))) h41)) ∧ (¬ (p19 = true) → J39 (.t (.one (.v (vs ⟨#[]⟩)))) h17) ∧ ∀ (h43 : Hp) (s44 : ByteArray), J39 (.t (.one (.v (vs s44)))) h43 → (∃ (p45 : Bool), (p19 = true → Rd Tryz.prog ((eqGuard .neq 9 (.tmp 28) (.const (vs ⟨#[]⟩)) (vs s44) (vs ⟨#[]⟩) >>= fun _ => binOp .neq 9 (vs s44) (vs ⟨#[]⟩))) h43 (vb p45)) ∧ (((bif p19 then p45 else false) = true → (J56 x18 none 0 0 h43)) ∧ ((bif p19 then p45 else false) = false → (∃ (p47 : Bool), (Rd Tryz.prog ((eqGuard .eql 9 (.tmp 32) (.const (vs ⟨#[99, 111, 117, 110, 116]⟩)) (vs s5) (vs ⟨#[99, 111, 117, 110, 116]⟩) >>= fun _ => binOp .eql 9 (vs s5) (vs ⟨#[99, 111, 117, 110, 116]⟩))) h43 (vb p47)) ∧ ((p47 = true → (CallOK Tryz.prog 27 [(vhp u_rb u_ro)] h43 fun v48 h49 => ∃ (a50 : Option Addr) (n50 c50 : Nat), v48 = (vsl a50 n50 c50) ∧ (J56 2 a50 n50 c50 h49))) ∧ (p47 = false → (CallOK Tryz.prog 27 [(vhp u_rb u_ro)] h43 fun v52 h53 => ∃ (a54 : Option Addr) (n54 c54 : Nat), v52 = (vsl a54 n54 c54) ∧ (J56 x18 a54 n54 c54 h53)))))))))))))))); ((p6 = true → (CallOK Tryz.prog 50 [(vhp u_rb u_ro), (ifv (some (44, (vi 4))))] h4 fun v7 h8 => v7 = (vtup []) ∧ (J11 h8))) ∧ (p6 = false → (J11 h4)))))))
theorem ok_query_reader_agg {u_rb u_ro : Nat} {h : Hp} {R : Value → Hp → Prop} (H : VC_query_reader_agg u_rb u_ro h R) : CallOK Tryz.prog 25 [(vhp u_rb u_ro)] h R :=
  call_of (cfg := ⟨[], [], []⟩) noNG mixed Tryz.func25 [.one (.hp u_rb u_ro)] (by kernel_rfl) rfl (by kernel_rfl) H

/-- What '(*penstock/query.reader).optional' asks. -/
def VC_query_reader_optional (u_rb u_ro : Nat) (u_word : ByteArray) (u_otherwise : Int) (h : Hp) (R : Value → Hp → Prop) : Prop :=
  (∀ (b1 : Nat), h b1 = none → let h2 : Hp := Hp.set h b1 (cellsO [(vs u_word)] 9); (CallOK Tryz.prog 26 [(vhp u_rb u_ro), (vsl (some (⟨b1, 0, none⟩ : Addr)) 1 1)] h2 fun v3 h4 => ∃ (s5 : ByteArray), v3 = (vs s5) ∧ (∃ (p6 : Bool), (Rd Tryz.prog ((eqGuard .eql 9 (.tmp 10) (.const (vs ⟨#[]⟩)) (vs s5) (vs ⟨#[]⟩) >>= fun _ => binOp .eql 9 (vs s5) (vs ⟨#[]⟩))) h4 (vb p6)) ∧ ((p6 = true → R (vi u_otherwise) h4) ∧ (p6 = false → (CallOK Tryz.prog 28 [(vhp u_rb u_ro), (vi 1000)] h4 fun v8 h9 => ∃ (x10 : Int), v8 = (vi x10) ∧ R (vi x10) h9))))))
theorem ok_query_reader_optional {u_rb u_ro : Nat} {u_word : ByteArray} {u_otherwise : Int} {h : Hp} {R : Value → Hp → Prop} (H : VC_query_reader_optional u_rb u_ro u_word u_otherwise h R) : CallOK Tryz.prog 29 [(vhp u_rb u_ro), (vs u_word), (vi u_otherwise)] h R :=
  call_of (cfg := ⟨[], [], []⟩) noNG mixed Tryz.func29 [.one (.hp u_rb u_ro), .one (.v (vs u_word)), .one (.v (vi u_otherwise))] (by kernel_rfl) rfl (by kernel_rfl) H

/-- What 'penstock/query.Parse' asks. -/
def VC_query_Parse (u_s : ByteArray) (h : Hp) (R : Value → Hp → Prop) : Prop :=
  (CallOK Tryz.prog 23 [(vs u_s)] h fun v1 h2 => ∃ (a3 : Option Addr) (n3 c3 : Nat) (e4 : Option (TypeId × Value)), v1 = (vtup [(vsl a3 n3 c3), (ifv e4)]) ∧ (((Option.isSome e4) = true → R (vtup [(vag [(vsl none 0 0), (vsl none 0 0), (vsl none 0 0), (vi 0), (vi 0), (vi 0), (vi 0)]), (ifv e4)]) h2) ∧ ((Option.isSome e4) = false → (∀ (b6 : Nat), h2 b6 = none → let h7 : Hp := Hp.set h2 b6 (cellsO [(vsl a3 n3 c3), (vi 0), (ifv none)] 56); (CallOK Tryz.prog 24 [(vhp b6 0), (vs ⟨#[115, 101, 108, 101, 99, 116]⟩)] h7 fun v8 h9 => v8 = (vtup []) ∧ (CallOK Tryz.prog 25 [(vhp b6 0)] h9 fun v10 h11 => ∃ (x12 : Int) (a13 : Option Addr) (n13 c13 : Nat), v10 = (vag [(vi x12), (vsl a13 n13 c13)]) ∧ (∀ (b14 : Nat), h11 b14 = none → let h15 : Hp := Hp.set h11 b14 (cellsO [(vi x12), (vsl a13 n13 c13)] 42); (SemOK Tryz.prog (Builtin.append_ #[22, 22] 22 #[(vsl none 0 0), (vsl (some (⟨b14, 0, none⟩ : Addr)) 1 1)]) h15 fun v16 h17 => ∃ (a18 : Option Addr) (n18 c18 : Nat), v16 = (vsl a18 n18 c18) ∧ (let J48 : Option Addr → Nat → Nat → Option Addr → Nat → Nat → Option Addr → Nat → Nat → Hp → Prop := fun (a256 : Option Addr) (n256 c256 : Nat) (a257 : Option Addr) (n257 c257 : Nat) (a258 : Option Addr) (n258 c258 : Nat) (h259 : Hp) => (CallOK Tryz.prog 24 [(vhp b6 0), (vs ⟨#[102, 114, 111, 109]⟩)] h259 fun v260 h261 => v260 = (vtup []) ∧ (CallOK Tryz.prog 24 [(vhp b6 0), (vs ⟨#[101, 118, 101, 110, 116, 115]⟩)] h261 fun v262 h263 => v262 = (vtup []) ∧ (∀ (b264 : Nat), h263 b264 = none → let h265 : Hp := Hp.set h263 b264 (cellsO [(vs ⟨#[119, 104, 101, 114, 101]⟩)] 9); (CallOK Tryz.prog 26 [(vhp b6 0), (vsl (some (⟨b264, 0, none⟩ : Addr)) 1 1)] h265 fun v266 h267 => ∃ (s268 : ByteArray), v266 = (vs s268) ∧ (∃ (p269 : Bool), (Rd Tryz.prog ((eqGuard .neq 9 (.tmp 46) (.const (vs ⟨#[]⟩)) (vs s268) (vs ⟨#[]⟩) >>= fun _ => binOp .neq 9 (vs s268) (vs ⟨#[]⟩))) h267 (vb p269)) ∧ (let J275 : Option Addr → Nat → Nat → Hp → Prop := fun (a314 : Option Addr) (n314 c314 : Nat) (h315 : Hp) => (∀ (b316 : Nat), h315 b316 = none → let h317 : Hp := Hp.set h315 b316 (cellsO [(vs ⟨#[103, 114, 111, 117, 112]⟩)] 9); (CallOK Tryz.prog 26 [(vhp b6 0), (vsl (some (⟨b316, 0, none⟩ : Addr)) 1 1)] h317 fun v318 h319 => ∃ (s320 : ByteArray), v318 = (vs s320) ∧ (∃ (p321 : Bool), (Rd Tryz.prog ((eqGuard .neq 9 (.tmp 53) (.const (vs ⟨#[]⟩)) (vs s320) (vs ⟨#[]⟩) >>= fun _ => binOp .neq 9 (vs s320) (vs ⟨#[]⟩))) h319 (vb p321)) ∧ (let J329 : Option Addr → Nat → Nat → Hp → Prop := fun (a353 : Option Addr) (n353 c353 : Nat) (h354 : Hp) => (CallOK Tryz.prog 24 [(vhp b6 0), (vs ⟨#[119, 105, 110, 100, 111, 119]⟩)] h354 fun v355 h356 => v355 = (vtup []) ∧ (CallOK Tryz.prog 28 [(vhp b6 0), (vi 1000)] h356 fun v357 h358 => ∃ (x359 : Int), v357 = (vi x359) ∧ (CallOK Tryz.prog 29 [(vhp b6 0), (vs ⟨#[115, 108, 105, 100, 101]⟩), (vi x359)] h358 fun v360 h361 => ∃ (x362 : Int), v360 = (vi x362) ∧ (CallOK Tryz.prog 29 [(vhp b6 0), (vs ⟨#[100, 101, 108, 97, 121]⟩), (vi 0)] h361 fun v363 h364 => ∃ (x365 : Int), v363 = (vi x365) ∧ (CallOK Tryz.prog 29 [(vhp b6 0), (vs ⟨#[108, 97, 116, 101]⟩), (vi 0)] h364 fun v366 h367 => ∃ (x368 : Int), v366 = (vi x368) ∧ (∃ (e369 : Option (TypeId × Value)), (Hp.cell h367 b6 (0 + 2) = some (ifv e369)) ∧ (∃ (a370 : Option Addr) (n370 c370 : Nat), ((Option.isNone e369) = true → Hp.cell h367 b6 0 = some (vsl a370 n370 c370)) ∧ (let J374 : Hp → Prop := fun (h375 : Hp) => (∃ (e376 : Option (TypeId × Value)), (Hp.cell h375 b6 (0 + 2) = some (ifv e376)) ∧ (let J383 : Hp → Prop := fun (h384 : Hp) => (∃ (e385 : Option (TypeId × Value)), (Hp.cell h384 b6 (0 + 2) = some (ifv e385)) ∧ (((Option.isSome e385) = true → (∃ (e386 : Option (TypeId × Value)), (Hp.cell h384 b6 (0 + 2) = some (ifv e386)) ∧ ((Hp.cell h384 b6 (0 + 2) = some (ifv e386)) ∧ R (vtup [(vag [(vsl none 0 0), (vsl none 0 0), (vsl none 0 0), (vi 0), (vi 0), (vi 0), (vi 0)]), (ifv e386)]) h384))) ∧ ((Option.isSome e385) = false → R (vtup [(vag [(vsl a256 n256 c256), (vsl a314 n314 c314), (vsl a353 n353 c353), (vi x359), (vi x362), (vi x365), (vi x368)]), (ifv none)]) h384))); (((Option.isNone e376) = true → (CallOK Tryz.prog 8 [(vag [(vsl a256 n256 c256), (vsl a314 n314 c314), (vsl a353 n353 c353), (vi x359), (vi x362), (vi x365), (vi x368)])] h375 fun v377 h378 => ∃ (e379 : Option (TypeId × Value)), v377 = (ifv e379) ∧ (Hp.store h378 b6 (0 + 2) [(ifv e379)] fun h380 => (J383 h380)))) ∧ ((Option.isNone e376) = false → (J383 h375))))); (((bif (Option.isNone e369) then (decide ((((n370 : Nat) : Int) : Int) > 0)) else false) = true → (Hp.store h367 b6 (0 + 2) [(ifv (some (44, (vi 4))))] fun h371 => (J374 h371))) ∧ ((bif (Option.isNone e369) then (decide ((((n370 : Nat) : Int) : Int) > 0)) else false) = false → (J374 h367))))))))))); ((p321 = true → (CallOK Tryz.prog 24 [(vhp b6 0), (vs ⟨#[98, 121]⟩)] h319 fun v322 h323 => v322 = (vtup []) ∧ (CallOK Tryz.prog 27 [(vhp b6 0)] h323 fun v324 h325 => ∃ (a326 : Option Addr) (n326 c326 : Nat), v324 = (vsl a326 n326 c326) ∧ (J329 a326 n326 c326 h325)))) ∧ (p321 = false → (J329 a258 n258 c258 h319))))))); ((p269 = true → (CallOK Tryz.prog 27 [(vhp b6 0)] h267 fun v270 h271 => ∃ (a272 : Option Addr) (n272 c272 : Nat), v270 = (vsl a272 n272 c272) ∧ (J275 a272 n272 c272 h271))) ∧ (p269 = false → (J275 a257 n257 c257 h267))))))))); (∃ (I20 : List Value → Hp → Prop) (m21 : List Value → Hp → Nat), I20 [(vsl a18 n18 c18), (vsl none 0 0), (vsl none 0 0), (vi 0), (vi 0), (vi 0), (vi 0)] h17 ∧ ∀ (vs22 : List Value) (h23 : Hp), I20 vs22 h23 → ∃ (a24 : Option Addr) (n24 c24 : Nat) (a25 : Option Addr) (n25 c25 : Nat) (a26 : Option Addr) (n26 c26 : Nat) (x27 : Int) (x28 : Int) (x29 : Int) (x30 : Int), vs22 = [(vsl a24 n24 c24), (vsl a25 n25 c25), (vsl a26 n26 c26), (vi x27), (vi x28), (vi x29), (vi x30)] ∧ (∀ (b31 : Nat), h23 b31 = none → let h32 : Hp := Hp.set h23 b31 (cellsO [(vs ⟨#[44]⟩)] 9); (CallOK Tryz.prog 26 [(vhp b6 0), (vsl (some (⟨b31, 0, none⟩ : Addr)) 1 1)] h32 fun v33 h34 => ∃ (s35 : ByteArray), v33 = (vs s35) ∧ (∃ (p36 : Bool), (Rd Tryz.prog ((eqGuard .neq 9 (.tmp 31) (.const (vs ⟨#[]⟩)) (vs s35) (vs ⟨#[]⟩) >>= fun _ => binOp .neq 9 (vs s35) (vs ⟨#[]⟩))) h34 (vb p36)) ∧ ((p36 = true → (CallOK Tryz.prog 25 [(vhp b6 0)] h34 fun v39 h40 => ∃ (x41 : Int) (a42 : Option Addr) (n42 c42 : Nat), v39 = (vag [(vi x41), (vsl a42 n42 c42)]) ∧ (∀ (b43 : Nat), h40 b43 = none → let h44 : Hp := Hp.set h40 b43 (cellsO [(vi x41), (vsl a42 n42 c42)] 42); (SemOK Tryz.prog (Builtin.append_ #[22, 22] 22 #[(vsl a24 n24 c24), (vsl (some (⟨b43, 0, none⟩ : Addr)) 1 1)]) h44 fun v45 h46 => ∃ (a47 : Option Addr) (n47 c47 : Nat), v45 = (vsl a47 n47 c47) ∧ (I20 [(vsl a47 n47 c47), (vsl a25 n25 c25), (vsl a26 n26 c26), (vi x27), (vi x28), (vi x29), (vi x30)] h46 ∧ m21 [(vsl a47 n47 c47), (vsl a25 n25 c25), (vsl a26 n26 c26), (vi x27), (vi x28), (vi x29), (vi x30)] h46 < m21 vs22 h23))))) ∧ (p36 = false → (J48 a24 n24 c24 a25 n25 c25 a26 n26 c26 h34))))))))))))))))
theorem ok_query_Parse {u_s : ByteArray} {h : Hp} {R : Value → Hp → Prop} (H : VC_query_Parse u_s h R) : CallOK Tryz.prog 11 [(vs u_s)] h R :=
  call_of (cfg := ⟨[19], [(8, ([], [], [(1, [.slice, .slice, .slice, .int .i64, .int .i64, .int .i64, .int .i64])]))], [(7, [0, 1, 2, 3, 4, 5, 6, 7]), (9, [0, 1, 2, 3, 4, 5, 6, 7]), (27, [0, 1, 2, 3, 4, 5, 6])]⟩) noNG mixed Tryz.func11 [.one (.v (vs u_s))] (by kernel_rfl) rfl (by kernel_rfl) H

/-- What 'slices.Index[[]string,string]' asks. -/
def VC_slices_Index_string_string (u_sa : Option Addr) (u_sn u_sc : Nat) (u_v : ByteArray) (h : Hp) (R : Value → Hp → Prop) : Prop :=
  (∃ (I2 : List Value → Hp → Prop) (m3 : List Value → Hp → Nat), I2 [(vi 0)] h ∧ ∀ (vs4 : List Value) (h5 : Hp), I2 vs4 h5 → ∃ (x6 : Int), vs4 = [(vi x6)] ∧ (((decide ((x6 : Int) < ((u_sn : Nat) : Int))) = true → (∃ (b9 o10 : Nat), (u_sa = some ⟨b9, o10, none⟩ ∧ (0 : Int) ≤ x6 ∧ x6 < ((u_sn : Nat) : Int)) ∧ (∃ (s11 : ByteArray), (Hp.cell h5 b9 (o10 + x6.toNat * 1) = some (vs s11)) ∧ (∃ (p12 : Bool), (Rd Tryz.prog ((eqGuard .eql 9 (.tmp 11) (.tmp 15) (vs u_v) (vs s11) >>= fun _ => binOp .eql 9 (vs u_v) (vs s11))) h5 (vb p12)) ∧ ((p12 = true → R (vi x6) h5) ∧ (p12 = false → (∃ (x14 : Int), (IsW x14 (x6 + 1)) ∧ (I2 [(vi x14)] h5 ∧ m3 [(vi x14)] h5 < m3 vs4 h5)))))))) ∧ ((decide ((x6 : Int) < ((u_sn : Nat) : Int))) = false → R (vi (-1)) h5)))
theorem ok_slices_Index_string_string {u_sa : Option Addr} {u_sn u_sc : Nat} {u_v : ByteArray} {h : Hp} {R : Value → Hp → Prop} (H : VC_slices_Index_string_string u_sa u_sn u_sc u_v h R) : CallOK Tryz.prog 51 [(vsl u_sa u_sn u_sc), (vs u_v)] h R :=
  call_of (cfg := ⟨[], [(2, ([8], [.one (.int .i64)], []))], []⟩) noNG mixed Tryz.func51 [.one (.v (vsl u_sa u_sn u_sc)), .one (.v (vs u_v))] (by kernel_rfl) rfl (by kernel_rfl) H

/-- What 'slices.Contains[[]string,string]' asks. -/
def VC_slices_Contains_string_string (u_sa : Option Addr) (u_sn u_sc : Nat) (u_v : ByteArray) (h : Hp) (R : Value → Hp → Prop) : Prop :=
  (CallOK Tryz.prog 51 [(vsl u_sa u_sn u_sc), (vs u_v)] h fun v1 h2 => ∃ (x3 : Int), v1 = (vi x3) ∧ R (vb (decide ((x3 : Int) ≥ 0))) h2)
theorem ok_slices_Contains_string_string {u_sa : Option Addr} {u_sn u_sc : Nat} {u_v : ByteArray} {h : Hp} {R : Value → Hp → Prop} (H : VC_slices_Contains_string_string u_sa u_sn u_sc u_v h R) : CallOK Tryz.prog 52 [(vsl u_sa u_sn u_sc), (vs u_v)] h R :=
  call_of (cfg := ⟨[], [], []⟩) noNG mixed Tryz.func52 [.one (.v (vsl u_sa u_sn u_sc)), .one (.v (vs u_v))] (by kernel_rfl) rfl (by kernel_rfl) H

end Go.Proofs.YtonlacplogbodaaGreatDoor
/-
  What functions of the program ask, in words: each is what the framework reckons from the loaded code (the kernel holds the two together), and gives the function's call. Conditions: none.
-/
namespace Go.Proofs.YtonlacplogbodaaGreatDoor
open Go Go.Vc
set_option maxRecDepth 100000
set_option linter.unusedVariables false
/-- What 'penstock/value.Truth' asks. -/
def VC_value_Truth (u_is : Bool) (h : Hp) (R : Value → Hp → Prop) : Prop :=
  ((u_is = true → R (vag [(vi 2), (vi 1)]) h) ∧ (u_is = false → R (vag [(vi 2), (vi 0)]) h))
theorem ok_value_Truth {u_is : Bool} {h : Hp} {R : Value → Hp → Prop} (H : VC_value_Truth u_is h R) : CallOK Tryz.prog 118 [(vb u_is)] h R :=
  call_of (cfg := ⟨[], [], []⟩) noNG mixed Tryz.func118 [.one (.v (vb u_is))] (by kernel_rfl) rfl (by kernel_rfl) H

/-- What 'penstock/value.numbers' asks. -/
def VC_value_numbers (u_aKind : Int) (u_aN : Int) (u_bKind : Int) (u_bN : Int) (h : Hp) (R : Value → Hp → Prop) : Prop :=
  R (vb (bif (decide ((u_aKind : Int) = 1)) then (decide ((u_bKind : Int) = 1)) else false)) h
/-- What 'penstock/value.And' asks. -/
def VC_value_And (u_aKind : Int) (u_aN : Int) (u_bKind : Int) (u_bN : Int) (h : Hp) (R : Value → Hp → Prop) : Prop :=
  (CallOK Tryz.prog 118 [(vb false)] h fun v1 h2 => ∃ (x3 : Int) (x4 : Int), v1 = (vag [(vi x3), (vi x4)]) ∧ (∃ (p5 : Bool), (Rd Tryz.prog ((eqGuard .eql 80 (.tmp 8) (.tmp 9) (vag [(vi u_aKind), (vi u_aN)]) (vag [(vi x3), (vi x4)]) >>= fun _ => binOp .eql 80 (vag [(vi u_aKind), (vi u_aN)]) (vag [(vi x3), (vi x4)]))) h2 (vb p5)) ∧ (∃ (p6 : Bool), (p5 = false → Rd Tryz.prog ((eqGuard .eql 80 (.tmp 12) (.tmp 13) (vag [(vi u_bKind), (vi u_bN)]) (vag [(vi x3), (vi x4)]) >>= fun _ => binOp .eql 80 (vag [(vi u_bKind), (vi u_bN)]) (vag [(vi x3), (vi x4)]))) h2 (vb p6)) ∧ (((bif p5 then true else p6) = true → R (vag [(vi x3), (vi x4)]) h2) ∧ ((bif p5 then true else p6) = false → (((bif (decide ((u_aKind : Int) = 2)) then (decide ((u_bKind : Int) = 2)) else false) = true → (CallOK Tryz.prog 118 [(vb true)] h2 fun v7 h8 => ∃ (x9 : Int) (x10 : Int), v7 = (vag [(vi x9), (vi x10)]) ∧ R (vag [(vi x9), (vi x10)]) h8)) ∧ ((bif (decide ((u_aKind : Int) = 2)) then (decide ((u_bKind : Int) = 2)) else false) = false → (CallOK Tryz.prog 117 [] h2 fun v12 h13 => ∃ (x14 : Int) (x15 : Int), v12 = (vag [(vi x14), (vi x15)]) ∧ R (vag [(vi x14), (vi x15)]) h13))))))))
/-- What 'penstock/value.Not' asks. -/
def VC_value_Not (u_aKind : Int) (u_aN : Int) (h : Hp) (R : Value → Hp → Prop) : Prop :=
  (((decide ((u_aKind : Int) ≠ 2)) = true → (CallOK Tryz.prog 117 [] h fun v1 h2 => ∃ (x3 : Int) (x4 : Int), v1 = (vag [(vi x3), (vi x4)]) ∧ R (vag [(vi x3), (vi x4)]) h2)) ∧ ((decide ((u_aKind : Int) ≠ 2)) = false → (CallOK Tryz.prog 118 [(vb (decide ((u_aN : Int) = 0)))] h fun v6 h7 => ∃ (x8 : Int) (x9 : Int), v6 = (vag [(vi x8), (vi x9)]) ∧ R (vag [(vi x8), (vi x9)]) h7)))
/-- What 'penstock/value.Neg' asks. -/
def VC_value_Neg (u_aKind : Int) (u_aN : Int) (h : Hp) (R : Value → Hp → Prop) : Prop :=
  (((decide ((u_aKind : Int) ≠ 1)) = true → (CallOK Tryz.prog 117 [] h fun v1 h2 => ∃ (x3 : Int) (x4 : Int), v1 = (vag [(vi x3), (vi x4)]) ∧ R (vag [(vi x3), (vi x4)]) h2)) ∧ ((decide ((u_aKind : Int) ≠ 1)) = false → (∃ (x6 : Int), (IsW x6 (-u_aN)) ∧ (CallOK Tryz.prog 116 [(vi x6)] h fun v7 h8 => ∃ (x9 : Int) (x10 : Int), v7 = (vag [(vi x9), (vi x10)]) ∧ R (vag [(vi x9), (vi x10)]) h8))))
end Go.Proofs.YtonlacplogbodaaGreatDoor
/-
  What functions of the program ask, in words: each is what the framework reckons from the loaded code (the kernel holds the two together), and gives the function's call. Conditions: none.
-/
namespace Go.Proofs.YtonlacplogbodaaGreatDoor
open Go Go.Vc
set_option maxRecDepth 100000
set_option linter.unusedVariables false
/-- What 'penstock/value.Null' asks. -/
def VC_value_Null  (h : Hp) (R : Value → Hp → Prop) : Prop :=
  R (vag [(vi 0), (vi 0)]) h
theorem ok_value_Null  {h : Hp} {R : Value → Hp → Prop} (H : VC_value_Null  h R) : CallOK Tryz.prog 117 [] h R :=
  call_of (cfg := ⟨[], [], []⟩) noNG mixed Tryz.func117 [] (by kernel_rfl) rfl (by kernel_rfl) H

/-- What 'penstock/value.Number' asks. -/
def VC_value_Number (u_n : Int) (h : Hp) (R : Value → Hp → Prop) : Prop :=
  (((bif (decide ((u_n : Int) < (-1000000000))) then true else (decide ((u_n : Int) > 1000000000))) = true → R (vag [(vi 0), (vi 0)]) h) ∧ ((bif (decide ((u_n : Int) < (-1000000000))) then true else (decide ((u_n : Int) > 1000000000))) = false → R (vag [(vi 1), (vi u_n)]) h))
theorem ok_value_Number {u_n : Int} {h : Hp} {R : Value → Hp → Prop} (H : VC_value_Number u_n h R) : CallOK Tryz.prog 116 [(vi u_n)] h R :=
  call_of (cfg := ⟨[], [], []⟩) noNG mixed Tryz.func116 [.one (.v (vi u_n))] (by kernel_rfl) rfl (by kernel_rfl) H

end Go.Proofs.YtonlacplogbodaaGreatDoor
/-
  Contracts: package value: what a value is, numbers, '=='. Conditions: none.
-/
namespace Go.Proofs.YtonlacplogbodaaGreatDoor
open Go Go.Vc
set_option linter.unusedVariables false

/-- A value's cells: its kind, its number. -/
def encV (v : Int × Int) : List Value := [vi v.1, vi v.2]
theorem encV_len (v : Int × Int) : (encV v).length = 2 := rfl
theorem one_vals (l : List (Int × Int)) : ∀ u ∈ l.flatMap encV, u.oneCell' = true := by
  intro u hu
  obtain ⟨v, _, hv⟩ := List.mem_flatMap.1 hu
  simp [encV] at hv
  rcases hv with rfl | rfl <;> rfl
def numV (n : Int) : Int × Int := if n < -1000000000 ∨ n > 1000000000 then (0, 0) else (1, n)
theorem value_Number_ok {n : Int} {h : Hp} {R : Value → Hp → Prop} (hK : R (vag (encV (numV n))) h) : CallOK Tryz.prog 116 [vi n] h R := by
  refine ok_value_Number ?_
  unfold VC_value_Number
  refine ⟨fun e => ?_, fun e => ?_⟩
  · simp [Bool.cond_eq_ite] at e
    have : numV n = (0, 0) := by unfold numV; rw [if_pos (by omega)]
    rw [this] at hK
    exact hK
  · simp [Bool.cond_eq_ite] at e
    have : numV n = (1, n) := by unfold numV; rw [if_neg (by omega)]
    rw [this] at hK
    exact hK
theorem value_Null_ok {h : Hp} {R : Value → Hp → Prop} (hK : R (vag (encV (0, 0))) h) : CallOK Tryz.prog 117 [] h R := ok_value_Null hK
theorem eqFl_V (a b c d : Int) : eqFl Tryz.prog 8 80 [vi a, vi b] [vi c, vi d] = some (decide (a = c) && (decide (b = d) && true)) := by kernel_rfl
theorem dec_V (a b : Int × Int) : (decide (a.1 = b.1) && (decide (a.2 = b.2) && true)) = decide (a = b) := by
  obtain ⟨a1, a2⟩ := a
  obtain ⟨b1, b2⟩ := b
  rw [Bool.eq_iff_iff]
  simp [Prod.ext_iff]
/-- '==' and '!=' of two values. -/
theorem rd_eqV {h : Hp} {x y : Operand} {a b : Int × Int} : Rd Tryz.prog (eqGuard .eql 80 x y (vag (encV a)) (vag (encV b)) >>= fun _ => binOp .eql 80 (vag (encV a)) (vag (encV b))) h (vb (decide (a = b))) := by
  rw [← dec_V]
  exact rd_eql (eqFl_V _ _ _ _) (by kernel_rfl) (by kernel_rfl)
theorem rd_neqV {h : Hp} {x y : Operand} {a b : Int × Int} : Rd Tryz.prog (eqGuard .neq 80 x y (vag (encV a)) (vag (encV b)) >>= fun _ => binOp .neq 80 (vag (encV a)) (vag (encV b))) h (vb (!decide (a = b))) := by
  rw [← dec_V]
  exact rd_neq (eqFl_V _ _ _ _) (by kernel_rfl) (by kernel_rfl)

def smallV (v : Int × Int) : Prop := -1000000000 ≤ v.2 ∧ v.2 ≤ 1000000000
def goodV (v : Int × Int) : Prop := (v.1 = 0 ∧ v.2 = 0) ∨ (v.1 = 1 ∧ -1000000000 ≤ v.2 ∧ v.2 ≤ 1000000000) ∨ (v.1 = 2 ∧ (v.2 = 0 ∨ v.2 = 1))
instance (v : Int × Int) : Decidable (goodV v) := by unfold goodV; infer_instance
theorem goodV.small {v : Int × Int} (h : goodV v) : smallV v := by
  unfold goodV at h
  unfold smallV
  omega
end Go.Proofs.YtonlacplogbodaaGreatDoor
/-
  An error, told by its number. Conditions: none.
-/
namespace Go.Proofs.YtonlacplogbodaaGreatDoor
open Go Go.Vc
/-- The error of a number; nought: none. -/
def errV (f : Int) : Option (TypeId × Value) := if f = 0 then none else some (44, vi f)
theorem errV_none {f : Int} : (errV f).isNone = decide (f = 0) := by
  unfold errV
  by_cases h : f = 0 <;> simp [h]
theorem errV_some {f : Int} : (errV f).isSome = !decide (f = 0) := by
  unfold errV
  by_cases h : f = 0 <;> simp [h]
end Go.Proofs.YtonlacplogbodaaGreatDoor
/-
  Contracts: package value. Conditions: none.
-/
namespace Go.Proofs.YtonlacplogbodaaGreatDoor
open Go Go.Vc
set_option linter.unusedVariables false

def w64 (x : Int) : Int := IntKind.i64.wrap x
theorem w64_isW (x : Int) : IsW (w64 x) x := rfl
theorem w64_in {x : Int} (h : InR x) : w64 x = x := (isW h).symm
def truthV (b : Bool) : Int × Int := (2, if b then 1 else 0)
def andV (a b : Int × Int) : Int × Int := if a = (2, 0) ∨ b = (2, 0) then (2, 0) else if a.1 = 2 ∧ b.1 = 2 then (2, 1) else (0, 0)
def notV (a : Int × Int) : Int × Int := if a.1 = 2 then truthV (decide (a.2 = 0)) else (0, 0)
def negV (a : Int × Int) : Int × Int := if a.1 = 1 then numV (w64 (-a.2)) else (0, 0)
def doV (op : Int) (a b : Int × Int) : Int × Int :=
  if op = 9 then andV a b else if op = 10 then notV (andV (notV a) (notV b)) else if a.1 = 1 ∧ b.1 = 1 then
    (if op = 6 then numV (w64 (a.2 + b.2)) else if op = 7 then numV (w64 (a.2 - b.2)) else if op = 8 then numV (w64 (a.2 * b.2)) else if op = 11 then truthV (decide (a.2 < b.2)) else if op = 12 then truthV (decide (a.2 = b.2)) else (0, 0))
  else (0, 0)
def cmpI (x y : Int) : Int := if x < y then -1 else if x > y then 1 else 0
def cmpV (a b : Int × Int) : Int := if cmpI a.1 b.1 ≠ 0 then cmpI a.1 b.1 else cmpI a.2 b.2

theorem value_Truth_ok {b : Bool} {h : Hp} {R : Value → Hp → Prop} (hK : R (vag (encV (truthV b))) h) : CallOK Tryz.prog 118 [vb b] h R := by
  refine ok_value_Truth ?_
  unfold VC_value_Truth
  cases b with
  | true => exact ⟨fun _ => hK, fun e => by cases e⟩
  | false => exact ⟨fun e => by (cases e), fun _ => hK⟩
end Go.Proofs.YtonlacplogbodaaGreatDoor
/-
  What functions of the program ask, in words: each is what the framework reckons from the loaded code (the kernel holds the two together), and gives the function's call. Conditions: none.
-/
namespace Go.Proofs.YtonlacplogbodaaGreatDoor
open Go Go.Vc
set_option maxRecDepth 100000
set_option linter.unusedVariables false
/-- What 'penstock/penstockref.ValueFault' asks. -/
def VC_R_ValueFault (u_vKind : Int) (u_vN : Int) (h : Hp) (R : Value → Hp → Prop) : Prop :=
  (((bif (bif (bif (decide ((u_vKind : Int) = 0)) then (decide ((u_vN : Int) = 0)) else false) then true else (bif (bif (decide ((u_vKind : Int) = 1)) then (decide ((u_vN : Int) ≥ (-1000000000))) else false) then (decide ((u_vN : Int) ≤ 1000000000)) else false)) then true else (bif (decide ((u_vKind : Int) = 2)) then (bif (decide ((u_vN : Int) = 0)) then true else (decide ((u_vN : Int) = 1))) else false)) = true → R (vi 0) h) ∧ ((bif (bif (bif (decide ((u_vKind : Int) = 0)) then (decide ((u_vN : Int) = 0)) else false) then true else (bif (bif (decide ((u_vKind : Int) = 1)) then (decide ((u_vN : Int) ≥ (-1000000000))) else false) then (decide ((u_vN : Int) ≤ 1000000000)) else false)) then true else (bif (decide ((u_vKind : Int) = 2)) then (bif (decide ((u_vN : Int) = 0)) then true else (decide ((u_vN : Int) = 1))) else false)) = false → R (vi 3) h))
theorem ok_R_ValueFault {u_vKind : Int} {u_vN : Int} {h : Hp} {R : Value → Hp → Prop} (H : VC_R_ValueFault u_vKind u_vN h R) : CallOK Tryz.prog 64 [(vag [(vi u_vKind), (vi u_vN)])] h R :=
  call_of (cfg := ⟨[], [], []⟩) noNG mixed Tryz.func64 [.ag [.v (vi u_vKind), .v (vi u_vN)]] (by kernel_rfl) rfl (by kernel_rfl) H

end Go.Proofs.YtonlacplogbodaaGreatDoor
/-
  Events: how they lie, how they are compared; which may be; the contract of a value that may be, as the document has it. Conditions: none.
-/
namespace Go.Proofs.YtonlacplogbodaaGreatDoor
open Go Go.Vc
set_option linter.unusedVariables false
set_option maxRecDepth 100000

/-- An event: its time, K, A, B. -/
abbrev EvL := Int × (Int × Int) × (Int × Int) × (Int × Int)
def encE (e : EvL) : List Value := [vi e.1, vi e.2.1.1, vi e.2.1.2, vi e.2.2.1.1, vi e.2.2.1.2, vi e.2.2.2.1, vi e.2.2.2.2]
theorem encE_len (e : EvL) : (encE e).length = 7 := rfl
theorem one_encE (e : EvL) : ∀ u ∈ encE e, u.oneCell' = true := by
  intro u hu
  simp [encE] at hu
  rcases hu with rfl | rfl | rfl | rfl | rfl | rfl | rfl <;> rfl
theorem one_evs (l : List EvL) : ∀ u ∈ l.flatMap encE, u.oneCell' = true := by
  intro u hu
  obtain ⟨v, _, hv⟩ := List.mem_flatMap.1 hu
  exact one_encE v u hv
theorem dec_E (x y : EvL) : (decide (x.1 = y.1) && ((decide (x.2.1.1 = y.2.1.1) && (decide (x.2.1.2 = y.2.1.2) && true)) && ((decide (x.2.2.1.1 = y.2.2.1.1) && (decide (x.2.2.1.2 = y.2.2.1.2) && true)) && ((decide (x.2.2.2.1 = y.2.2.2.1) && (decide (x.2.2.2.2 = y.2.2.2.2) && true)) && true)))) = decide (x = y) := by
  obtain ⟨x1, ⟨x2, x3⟩, ⟨x4, x5⟩, ⟨x6, x7⟩⟩ := x
  obtain ⟨y1, ⟨y2, y3⟩, ⟨y4, y5⟩, ⟨y6, y7⟩⟩ := y
  rw [Bool.eq_iff_iff]
  simp [and_assoc]
def chkV (v : Int × Int) : Int := if ¬ goodV v ∨ v.1 = 2 then 3 else if v.2 < -1000 ∨ v.2 > 1000 then 1 else 0
def chkL : List (Int × Int) → Int
  | [] => 0
  | v :: l => if chkV v = 0 then chkL l else chkV v
/-- What is wrong with an event; 0: nothing. -/
def chkE (e : EvL) : Int := if e.1 < 0 ∨ e.1 > 9999 then 1 else chkL [e.2.1, e.2.2.1, e.2.2.2]
theorem chkV_2 (v : Int × Int) : 0 ≤ chkV v := by unfold chkV; split <;> (try split) <;> decide
theorem chkL_2 : ∀ l : List (Int × Int), 0 ≤ chkL l
  | [] => Int.le_refl 0
  | v :: l => by
    rw [chkL]
    split
    · exact chkL_2 l
    · exact chkV_2 v
theorem chkE_2 (e : EvL) : 0 ≤ chkE e := by
  unfold chkE
  split
  · decide
  · exact chkL_2 _
theorem R_ValueFault_ok {v : Int × Int} {h : Hp} {R : Value → Hp → Prop} (hK : R (vi (if goodV v then 0 else 3)) h) : CallOK Tryz.prog 64 [vag (encV v)] h R := by
  refine ok_R_ValueFault ?_
  unfold VC_R_ValueFault
  refine ⟨fun e => ?_, fun e => ?_⟩
  · rw [if_pos (by unfold goodV; simp [Bool.cond_eq_ite] at e; omega)] at hK; exact hK
  · rw [if_neg (by unfold goodV; simp [Bool.cond_eq_ite] at e; omega)] at hK; exact hK
theorem drop_get {α : Type} {l : List α} {i : Nat} (h : i < l.length) : l.drop i = l[i] :: l.drop (i + 1) := List.drop_eq_getElem_cons h
end Go.Proofs.YtonlacplogbodaaGreatDoor
/-
  The plain law of expressions: which may be, what they are worth, of which kind they are, what is cut out of them and put together. No program in sight. Conditions: none.
-/
namespace Go.Proofs.YtonlacplogbodaaGreatDoor
open Go Go.Vc
set_option linter.unusedVariables false

structure Nd where
  op : Int
  x : Int
  y : Int
  n : Int
  v : Int × Int
deriving DecidableEq
def arI (op : Int) : Int := if op = 1 ∨ op = 2 then 0 else if 3 ≤ op ∧ op ≤ 5 then 1 else if 6 ≤ op ∧ op ≤ 12 then 2 else -1
/-- What is wrong with a node as it stands. -/
def nodeF (n : Nd) : Int :=
  if arI n.op < 0 then 3 else if (n.op ≠ 1 ∧ n.v ≠ (0, 0)) ∨ (n.op ≠ 2 ∧ n.n ≠ 0) ∨ (arI n.op < 2 ∧ n.y ≠ 0) ∨ (arI n.op < 1 ∧ n.x ≠ 0) then 3 else if n.op = 2 ∧ (n.n < 0 ∨ n.n > 3) then 1 else if ¬ goodV n.v then 3 else 0
/-- Those that are nobody's yet, the last one ahead: a node takes its own. -/
def popN (n : Nd) (st : List Int) : Option (List Int) :=
  if arI n.op = 0 then some st else if arI n.op = 1 then
    match st with
    | a :: s => if a = n.x then some s else none
    | [] => none
  else
    match st with
    | b :: a :: s => if a = n.x ∧ b = n.y then some s else none
    | _ => none
def chkGo (st : List Int) (i : Nat) : List Nd → Int
  | [] => if st.length = 1 then 0 else 3
  | n :: l => if nodeF n ≠ 0 then nodeF n else match popN n st with
    | none => 3
    | some s => chkGo (i :: s) (i + 1) l
def exprF (l : List Nd) : Int := if l.length > 40 then 2 else chkGo [] 0 l
theorem nodeF_2 (n : Nd) : 0 ≤ nodeF n := by unfold nodeF; split <;> (try split) <;> (try split) <;> (try split) <;> decide
theorem chkGo_2 : ∀ (l : List Nd) (st : List Int) (i : Nat), 0 ≤ chkGo st i l
  | [], st, i => by rw [chkGo]; split <;> decide
  | n :: l, st, i => by
    rw [chkGo]
    split
    · exact nodeF_2 n
    · split
      · decide
      · exact chkGo_2 l _ _
theorem exprF_2 (l : List Nd) : 0 ≤ exprF l := by
  unfold exprF
  split
  · decide
  · exact chkGo_2 _ _ _

/-- Nodes f up to e are one expression, its root the last. -/
inductive Blk (l : List Nd) : Nat → Nat → Prop where
  | leaf {i : Nat} {n : Nd} : l[i]? = some n → arI n.op = 0 → Blk l i (i + 1)
  | one {f i : Nat} {n : Nd} : Blk l f i → l[i]? = some n → arI n.op = 1 → n.x = (i : Int) - 1 → Blk l f (i + 1)
  | two {f g i : Nat} {n : Nd} : Blk l f g → Blk l g i → l[i]? = some n → arI n.op = 2 → n.x = (g : Int) - 1 → n.y = (i : Int) - 1 → Blk l f (i + 1)
theorem Blk.lt {l : List Nd} {f e : Nat} (B : Blk l f e) : f < e ∧ e ≤ l.length := by
  induction B with
  | leaf h _ => exact ⟨Nat.lt_succ_self _, (List.getElem?_eq_some_iff.1 h).1⟩
  | one _ h _ _ ih => exact ⟨by omega, (List.getElem?_eq_some_iff.1 h).1⟩
  | two _ _ h _ _ _ ih1 ih2 => exact ⟨by omega, (List.getElem?_eq_some_iff.1 h).1⟩
/-- What stands open: expressions, one behind the other. -/
inductive Stk (l : List Nd) : List Int → Nat → Prop where
  | nil : Stk l [] 0
  | push {s : List Int} {f e : Nat} : Stk l s f → Blk l f e → Stk l (((e : Int) - 1) :: s) e
theorem arI_range {op : Int} (h : 0 ≤ arI op) : arI op = 0 ∨ arI op = 1 ∨ arI op = 2 := by
  unfold arI at *
  split <;> (try split) <;> (try split) <;> simp_all
theorem nodeF_ar {n : Nd} (h : nodeF n = 0) : 0 ≤ arI n.op := by
  unfold nodeF at h
  split at h
  · cases h
  · omega
theorem popN_stk {l : List Nd} {st s : List Int} {i : Nat} {n : Nd} (hn : l[i]? = some n) (h0 : nodeF n = 0) (S : Stk l st i) (h : popN n st = some s) : Stk l ((i : Int) :: s) (i + 1) := by
  have key : ∀ {f : Nat} {s : List Int}, Stk l s f → Blk l f (i + 1) → Stk l ((i : Int) :: s) (i + 1) := by
    intro f s S B
    have := Stk.push S B
    rw [show ((i + 1 : Nat) : Int) - 1 = i by omega] at this
    exact this
  unfold popN at h
  rcases arI_range (nodeF_ar h0) with h1 | h1 | h1
  · rw [if_pos h1] at h
    cases h
    exact key S (.leaf hn h1)
  · rw [if_neg (by omega), if_pos h1] at h
    cases S with
    | nil => cases h
    | push S B =>
      simp only at h
      split at h
      · rename_i hx
        cases h
        exact key S (.one B hn h1 hx.symm)
      · cases h
  · rw [if_neg (by omega), if_neg (by omega)] at h
    cases S with
    | nil => cases h
    | push S B =>
      cases S with
      | nil => cases h
      | push S B' =>
        simp only at h
        split at h
        · rename_i hx
          cases h
          exact key S (.two B' B hn h1 hx.1.symm hx.2.symm)
        · cases h
theorem chkGo_ok (l : List Nd) : ∀ (r : List Nd) (st : List Int) (i : Nat), l.drop i = r → i ≤ l.length → Stk l st i → chkGo st i r = 0 → (∀ n ∈ r, nodeF n = 0) ∧ ∃ z, Stk l [z] l.length
  | [], st, i, hr, hi, S, h => by
    have : i = l.length := by
      have := congrArg List.length hr
      simp at this
      omega
    subst this
    rw [chkGo] at h
    split at h
    · rename_i h1
      match st, h1 with
      | [z], _ => exact ⟨by simp, z, S⟩
    · cases h
  | n :: r, st, i, hr, hi, S, h => by
    have hlt : i < l.length := by
      have := congrArg List.length hr
      simp at this
      omega
    have hn : l[i]? = some n := by
      have := congrArg List.head? hr
      rw [List.head?_drop] at this
      exact this
    have hr' : l.drop (i + 1) = r := by
      rw [← List.drop_drop, hr]; rfl
    rw [chkGo] at h
    split at h
    · rename_i h1; exact absurd h h1
    · rename_i h1
      have h0 : nodeF n = 0 := by simpa using h1
      split at h
      · cases h
      · rename_i s hs
        obtain ⟨q1, q2⟩ := chkGo_ok l r _ (i + 1) hr' hlt (popN_stk hn h0 S hs) h
        refine ⟨fun m hm => ?_, q2⟩
        rcases List.mem_cons.1 hm with rfl | hm
        · exact h0
        · exact q1 m hm
theorem stk_one {l : List Nd} {z : Int} {e : Nat} (S : Stk l [z] e) : Blk l 0 e := by
  cases S with
  | push S B =>
    cases S with
    | nil => exact B
/-- An expression that may be. -/
structure OkE (l : List Nd) : Prop where
  n : ∀ n ∈ l, nodeF n = 0
  b : Blk l 0 l.length
theorem chkGo_okE {l : List Nd} (h : chkGo [] 0 l = 0) : OkE l := by
  obtain ⟨h1, z, h2⟩ := chkGo_ok l l [] 0 rfl (Nat.zero_le _) .nil h
  exact ⟨h1, stk_one h2⟩
theorem exprF_ok {l : List Nd} (h : exprF l = 0) : OkE l ∧ l.length ≤ 40 := by
  unfold exprF at h
  split at h
  · cases h
  · exact ⟨chkGo_okE h, by omega⟩
theorem OkE.pos {l : List Nd} (O : OkE l) : 0 < l.length := O.b.lt.1

/-- Each node ends an expression. -/
theorem Blk.sub {l : List Nd} {f e : Nat} (B : Blk l f e) : ∀ i, f ≤ i → i < e → ∃ g, f ≤ g ∧ Blk l g (i + 1) := by
  induction B with
  | @leaf j n h h0 => intro i h1 h2; obtain rfl : i = j := by omega
                      exact ⟨i, Nat.le_refl _, .leaf h h0⟩
  | @one f j n B h h0 hx ih =>
    intro i h1 h2
    by_cases hij : i = j
    · subst hij; exact ⟨f, Nat.le_refl _, .one B h h0 hx⟩
    · exact ih i h1 (by omega)
  | @two f g j n B B' h h0 hx hy ih1 ih2 =>
    intro i h1 h2
    have := B.lt
    by_cases hij : i = j
    · subst hij; exact ⟨f, Nat.le_refl _, .two B B' h h0 hx hy⟩
    · by_cases hg : i < g
      · exact ih1 i h1 hg
      · obtain ⟨k, hk, hb⟩ := ih2 i (by omega) (by omega)
        exact ⟨k, by omega, hb⟩
/-- What a node looks at stands ahead of it. -/
structure WfN (i : Nat) (n : Nd) : Prop where
  a : 0 ≤ arI n.op
  f : n.op = 2 → 0 ≤ n.n ∧ n.n ≤ 3
  x : 1 ≤ arI n.op → 0 ≤ n.x ∧ n.x < i
  y : 2 ≤ arI n.op → 0 ≤ n.y ∧ n.y < i
def WfL (l : List Nd) : Prop := ∀ (i : Nat) (n : Nd), l[i]? = some n → WfN i n
theorem nodeF_f {n : Nd} (h : nodeF n = 0) (h2 : n.op = 2) : 0 ≤ n.n ∧ n.n ≤ 3 := by
  unfold nodeF at h
  split at h
  · cases h
  · split at h
    · cases h
    · split at h
      · cases h
      · omega
theorem OkE.wf {l : List Nd} (O : OkE l) : WfL l := by
  intro i n hn
  have hlt := (List.getElem?_eq_some_iff.1 hn).1
  have h0 := O.n n (List.mem_of_getElem? hn)
  obtain ⟨g, _, B⟩ := O.b.sub i (Nat.zero_le _) hlt
  refine ⟨nodeF_ar h0, nodeF_f h0, fun h1 => ?_, fun h1 => ?_⟩
  · cases B with
    | leaf h ha => rw [hn] at h; cases h; omega
    | one B h ha hx => rw [hn] at h; cases h; have := B.lt; omega
    | two B B' h ha hx hy => rw [hn] at h; cases h; have := B.lt; have := B'.lt; omega
  · cases B with
    | leaf h ha => rw [hn] at h; cases h; omega
    | one B h ha hx => rw [hn] at h; cases h; omega
    | two B B' h ha hx hy => rw [hn] at h; cases h; have := B.lt; have := B'.lt; omega

/-- A node whose own stand elsewhere. -/
def shN (d : Int) (n : Nd) : Nd := { n with x := if 0 < arI n.op then n.x + d else n.x, y := if 1 < arI n.op then n.y + d else n.y }
theorem shN_op (d : Int) (n : Nd) : (shN d n).op = n.op := rfl
theorem shN_0 (n : Nd) : shN 0 n = n := by
  unfold shN
  simp
theorem shN_F {d : Int} {n : Nd} (h : nodeF n = 0) : nodeF (shN d n) = 0 := by
  have ha := nodeF_ar h
  have hy : (arI n.op < 2 ∧ (shN d n).y ≠ 0) ↔ (arI n.op < 2 ∧ n.y ≠ 0) := by
    unfold shN
    simp only
    constructor <;> (rintro ⟨h1, h2⟩; rw [if_neg (by omega)] at *; exact ⟨h1, h2⟩)
  have hx : (arI n.op < 1 ∧ (shN d n).x ≠ 0) ↔ (arI n.op < 1 ∧ n.x ≠ 0) := by
    unfold shN
    simp only
    constructor <;> (rintro ⟨h1, h2⟩; rw [if_neg (by omega)] at *; exact ⟨h1, h2⟩)
  have e : nodeF (shN d n) = nodeF n := by
    unfold nodeF
    rw [shN_op]
    simp only [hx, hy]
    rfl
  rw [e]; exact h
def seg (l : List Nd) (f e : Nat) : List Nd := (l.drop f).take (e - f)
theorem seg_snoc {l : List Nd} {f i : Nat} {n : Nd} (hf : f ≤ i) (h : l[i]? = some n) : seg l f (i + 1) = seg l f i ++ [n] := by
  unfold seg
  rw [show i + 1 - f = (i - f) + 1 by omega, List.take_add_one, List.getElem?_drop, show f + (i - f) = i by omega, h]
  rfl
theorem seg_nil {l : List Nd} {f : Nat} : seg l f f = [] := by unfold seg; simp
theorem seg_app {l : List Nd} {f g e : Nat} (h1 : f ≤ g) (h2 : g ≤ e) : seg l f e = seg l f g ++ seg l g e := by
  unfold seg
  rw [show e - f = (g - f) + (e - g) by omega, List.take_add, List.drop_drop, show f + (g - f) = g by omega]
theorem seg_all (l : List Nd) : seg l 0 l.length = l := by unfold seg; simp
theorem Blk.seg_mem {l : List Nd} {f e : Nat} : ∀ n ∈ seg l f e, n ∈ l := fun n hn => List.mem_of_mem_drop (List.mem_of_mem_take hn)
/-- An expression, elsewhere: it is one there. -/
theorem Blk.chk {l : List Nd} (hN : ∀ n ∈ l, nodeF n = 0) {f e : Nat} (B : Blk l f e) : ∀ (st : List Int) (i : Nat) (r : List Nd),
    chkGo st i ((seg l f e).map (shN ((i : Int) - f)) ++ r) = chkGo ((((i + (e - f) : Nat) : Int) - 1) :: st) (i + (e - f)) r := by
  induction B with
  | @leaf j n h h0 =>
    intro st i r
    rw [seg_snoc (Nat.le_refl _) h, seg_nil]
    simp only [List.nil_append, List.map_cons, List.map_nil, List.cons_append]
    rw [chkGo, if_neg (by simp [shN_F (hN n (List.mem_of_getElem? h))])]
    unfold popN
    rw [shN_op, if_pos h0]
    simp only
    rw [show j + 1 - j = 1 by omega, show ((i + 1 : Nat) : Int) - 1 = i by omega]
  | @one f j n B h h0 hx ih =>
    intro st i r
    have hlt := B.lt
    rw [seg_snoc (by omega) h, List.map_append, List.append_assoc, ih]
    simp only [List.map_cons, List.map_nil, List.cons_append, List.nil_append]
    rw [chkGo, if_neg (by simp [shN_F (hN n (List.mem_of_getElem? h))])]
    unfold popN
    rw [shN_op, if_neg (by omega), if_pos h0]
    have e1 : (((i + (j - f) : Nat) : Int) - 1) = (shN ((i : Int) - f) n).x := by
      unfold shN
      simp only
      rw [if_pos (by omega), hx]
      omega
    simp only
    rw [if_pos e1, show j + 1 - f = (j - f) + 1 by omega]
    simp only
    rw [show ((i + (j - f + 1) : Nat) : Int) - 1 = ((i + (j - f) : Nat) : Int) by omega, ← Nat.add_assoc]
  | @two f g j n B B' h h0 hx hy ih1 ih2 =>
    intro st i r
    have hlt := B.lt
    have hlt' := B'.lt
    rw [seg_snoc (by omega) h, seg_app (g := g) (by omega) (by omega), List.map_append, List.map_append, List.append_assoc, List.append_assoc, ih1]
    have e0 : ((i : Int) - f) = (((i + (g - f) : Nat) : Int) - g) := by omega
    have e00 : (seg l g j).map (shN ((i : Int) - f)) = (seg l g j).map (shN (((i + (g - f) : Nat) : Int) - g)) := by rw [e0]
    rw [e00, ih2]
    simp only [List.map_cons, List.map_nil, List.cons_append, List.nil_append]
    rw [chkGo, if_neg (by simp [shN_F (hN n (List.mem_of_getElem? h))])]
    unfold popN
    rw [shN_op, if_neg (by omega), if_neg (by omega)]
    have e1 : (((i + (g - f) : Nat) : Int) - 1) = (shN ((i : Int) - f) n).x := by
      unfold shN
      simp only
      rw [if_pos (by omega), hx]
      omega
    have e2 : (((i + (g - f) + (j - g) : Nat) : Int) - 1) = (shN ((i : Int) - f) n).y := by
      unfold shN
      simp only
      rw [if_pos (by omega), hy]
      omega
    simp only
    rw [if_pos ⟨e1, e2⟩]
    simp only
    rw [show i + (g - f) + (j - g) + 1 = i + (j + 1 - f) by omega, show ((i + (g - f) + (j - g) : Nat) : Int) = ((i + (j + 1 - f) : Nat) : Int) - 1 by omega]
def cutL (l : List Nd) (f e : Nat) : List Nd := (seg l f e).map (shN (-(f : Int)))
theorem cutL_chk {l : List Nd} (hN : ∀ n ∈ l, nodeF n = 0) {f e : Nat} (B : Blk l f e) : chkGo [] 0 (cutL l f e) = 0 := by
  have := B.chk hN [] 0 []
  rw [List.append_nil, show ((0 : Nat) : Int) - f = -(f : Int) by omega] at this
  unfold cutL
  rw [this]
  rfl
theorem cutL_length {l : List Nd} {f e : Nat} (B : Blk l f e) : (cutL l f e).length = e - f := by
  have := B.lt
  unfold cutL seg
  rw [List.length_map, List.length_take, List.length_drop]
  omega
theorem cutL_ok {l : List Nd} (hN : ∀ n ∈ l, nodeF n = 0) (hl : l.length ≤ 40) {f e : Nat} (B : Blk l f e) : exprF (cutL l f e) = 0 := by
  have := B.lt
  unfold exprF
  rw [if_neg (by rw [cutL_length B]; omega)]
  exact cutL_chk hN B
def joinL (op : Int) (l m : List Nd) : List Nd := l ++ m.map (shN l.length) ++ [⟨op, (l.length : Int) - 1, if 1 < arI op then ((l.length + m.length : Nat) : Int) - 1 else 0, 0, (0, 0)⟩]
theorem joinL_length (op : Int) (l m : List Nd) : (joinL op l m).length = l.length + m.length + 1 := by simp [joinL]; omega
theorem OkE.chk {l : List Nd} (O : OkE l) (st : List Int) (i : Nat) (r : List Nd) : chkGo st i (l.map (shN (i : Int)) ++ r) = chkGo ((((i + l.length : Nat) : Int) - 1) :: st) (i + l.length) r := by
  have := O.b.chk O.n st i r
  rw [seg_all, Nat.sub_zero, show ((i : Int) - (0 : Nat)) = i by omega] at this
  exact this
theorem map_sh0 (l : List Nd) : l.map (shN ((0 : Nat) : Int)) = l := by
  have : shN ((0 : Nat) : Int) = id := by funext n; exact shN_0 n
  rw [this, List.map_id]
theorem goodV0 : goodV (0, 0) := by unfold goodV; simp
theorem joinL_chk2 {op : Int} (ho : arI op = 2) {l m : List Nd} (O : OkE l) (O' : OkE m) : chkGo [] 0 (joinL op l m) = 0 := by
  have h1 := O.chk [] 0 (m.map (shN (l.length : Int)) ++ [⟨op, (l.length : Int) - 1, if 1 < arI op then ((l.length + m.length : Nat) : Int) - 1 else 0, 0, (0, 0)⟩])
  rw [map_sh0, Nat.zero_add] at h1
  unfold joinL
  rw [List.append_assoc, h1, O'.chk]
  have hF : nodeF ⟨op, (l.length : Int) - 1, if 1 < arI op then ((l.length + m.length : Nat) : Int) - 1 else 0, 0, (0, 0)⟩ = 0 := by
    unfold nodeF
    simp only
    rw [if_neg (by omega), if_neg (by rintro (⟨_, h⟩ | ⟨_, h⟩ | ⟨h, _⟩ | ⟨h, _⟩) <;> first | exact h rfl | omega), if_neg (by omega), if_neg (by simp [goodV0])]
  have hp : popN ⟨op, (l.length : Int) - 1, if 1 < arI op then ((l.length + m.length : Nat) : Int) - 1 else 0, 0, (0, 0)⟩ [((l.length + m.length : Nat) : Int) - 1, (l.length : Int) - 1] = some [] := by
    unfold popN
    rw [if_neg (by omega : ¬ arI op = 0), if_neg (by omega : ¬ arI op = 1)]
    exact if_pos ⟨rfl, by simp only; rw [if_pos (by omega)]⟩
  rw [chkGo, if_neg (fun h => h hF), hp]
  rfl
theorem joinL_chk1 {op : Int} (ho : arI op = 1) {l : List Nd} (O : OkE l) : chkGo [] 0 (joinL op l []) = 0 := by
  have h1 := O.chk [] 0 ([⟨op, (l.length : Int) - 1, if 1 < arI op then ((l.length + ([] : List Nd).length : Nat) : Int) - 1 else 0, 0, (0, 0)⟩])
  rw [map_sh0, Nat.zero_add] at h1
  unfold joinL
  rw [List.map_nil, List.append_nil, h1]
  have hF : nodeF ⟨op, (l.length : Int) - 1, if 1 < arI op then ((l.length + ([] : List Nd).length : Nat) : Int) - 1 else 0, 0, (0, 0)⟩ = 0 := by
    unfold nodeF
    simp only
    rw [if_neg (by omega), if_neg (by rw [if_neg (by omega)]; rintro (⟨_, h⟩ | ⟨_, h⟩ | ⟨_, h⟩ | ⟨h, _⟩) <;> first | exact h rfl | omega), if_neg (by omega), if_neg (by simp [goodV0])]
  have hp : popN ⟨op, (l.length : Int) - 1, if 1 < arI op then ((l.length + ([] : List Nd).length : Nat) : Int) - 1 else 0, 0, (0, 0)⟩ [(l.length : Int) - 1] = some [] := by
    unfold popN
    rw [if_neg (by omega : ¬ arI op = 0), if_pos ho]
    exact if_pos rfl
  rw [chkGo, if_neg (fun h => h hF), hp]
  rfl
end Go.Proofs.YtonlacplogbodaaGreatDoor
/-
  The plain law of expressions, part 2: values and kinds, node by node; what they are in what is put together. No program in sight. Conditions: none.
-/
namespace Go.Proofs.YtonlacplogbodaaGreatDoor
open Go Go.Vc
set_option linter.unusedVariables false

section
variable {β : Type} (d : β) (F : Nd → β → β → β)
/-- What each node is worth, from the first on. -/
def fwd (l : List Nd) : List β := l.foldl (fun outs n => outs ++ [F n (outs.getD n.x.toNat d) (outs.getD n.y.toNat d)]) []
def fAt (l : List Nd) (i : Nat) : β := (fwd d F l).getD i d
/-- A node looks at its own alone. -/
def Own2 : Prop := ∀ (n : Nd) (a b a' b' : β), 0 ≤ arI n.op → (1 ≤ arI n.op → a = a') → (2 ≤ arI n.op → b = b') → F n a b = F n a' b'
end
section
variable {β : Type} {d : β} {F : Nd → β → β → β}
theorem fwd_snoc (l : List Nd) (n : Nd) : fwd d F (l ++ [n]) = fwd d F l ++ [F n ((fwd d F l).getD n.x.toNat d) ((fwd d F l).getD n.y.toNat d)] := by
  unfold fwd
  rw [List.foldl_append]
  rfl
theorem fwd_nil : fwd d F [] = [] := rfl
theorem fwd_length (l : List Nd) : (fwd d F l).length = l.length := by
  have key : ∀ (l : List Nd) (o : List β), (l.foldl (fun outs n => outs ++ [F n (outs.getD n.x.toNat d) (outs.getD n.y.toNat d)]) o).length = o.length + l.length := by
    intro l
    induction l with
    | nil => intro o; rfl
    | cons n l ih => intro o; rw [List.foldl_cons, ih]; simp; omega
  have := key l []
  simpa [fwd] using this
theorem fwd_pre (l r : List Nd) : ∃ t, fwd d F (l ++ r) = fwd d F l ++ t := by
  have key : ∀ (l : List Nd) (o : List β), ∃ t, l.foldl (fun outs n => outs ++ [F n (outs.getD n.x.toNat d) (outs.getD n.y.toNat d)]) o = o ++ t := by
    intro l
    induction l with
    | nil => intro o; exact ⟨[], by simp⟩
    | cons n l ih =>
      intro o
      rw [List.foldl_cons]
      obtain ⟨t, ht⟩ := ih (o ++ [F n (o.getD n.x.toNat d) (o.getD n.y.toNat d)])
      exact ⟨_, by rw [ht, List.append_assoc]⟩
  unfold fwd
  rw [List.foldl_append]
  exact key r _
theorem fAt_pre (l r : List Nd) {i : Nat} (h : i < l.length) : fAt d F (l ++ r) i = fAt d F l i := by
  obtain ⟨t, ht⟩ := fwd_pre (d := d) (F := F) l r
  unfold fAt
  rw [ht, List.getD_eq_getElem?_getD, List.getElem?_append_left (by rw [fwd_length]; exact h), ← List.getD_eq_getElem?_getD]
theorem fAt_take (l : List Nd) {i k : Nat} (h : i < k) (hk : k ≤ l.length) : (fwd d F (l.take k)).getD i d = fAt d F l i := by
  have := fAt_pre (d := d) (F := F) (l.take k) (l.drop k) (i := i) (by rw [List.length_take]; omega)
  rw [List.take_append_drop] at this
  rw [this]
  rfl
theorem fwd_take (l : List Nd) {i : Nat} {n : Nd} (hn : l[i]? = some n) : fwd d F (l.take (i + 1)) = fwd d F (l.take i) ++ [fAt d F l i] := by
  have hlt := (List.getElem?_eq_some_iff.1 hn).1
  have e : l.take (i + 1) = l.take i ++ [n] := by rw [List.take_add_one, hn]; rfl
  have e2 : fAt d F l i = F n ((fwd d F (l.take i)).getD n.x.toNat d) ((fwd d F (l.take i)).getD n.y.toNat d) := by
    rw [← fAt_take l (Nat.lt_succ_self i) hlt, e, fwd_snoc, List.getD_eq_getElem?_getD, List.getElem?_append_right (by rw [fwd_length, List.length_take]; omega)]
    rw [fwd_length, List.length_take, Nat.min_eq_left (by omega), Nat.sub_self]
    rfl
  rw [e, fwd_snoc, ← e2]
theorem fAt_wf (hF : Own2 F) {l : List Nd} {i : Nat} {n : Nd} (hn : l[i]? = some n) (W : WfN i n) : fAt d F l i = F n (fAt d F l n.x.toNat) (fAt d F l n.y.toNat) := by
  have hlt := (List.getElem?_eq_some_iff.1 hn).1
  have e : l.take (i + 1) = l.take i ++ [n] := by rw [List.take_add_one, hn]; rfl
  rw [← fAt_take l (Nat.lt_succ_self i) hlt, e, fwd_snoc, List.getD_eq_getElem?_getD, List.getElem?_append_right (by rw [fwd_length, List.length_take]; omega)]
  rw [fwd_length, List.length_take, Nat.min_eq_left (by omega), Nat.sub_self]
  refine hF n _ _ _ _ W.a (fun h => ?_) fun h => ?_
  · have := W.x h; exact fAt_take l (by omega) (by omega)
  · have := W.y h; exact fAt_take l (by omega) (by omega)
theorem WfN.sh {i d : Nat} {n : Nd} (W : WfN i n) : WfN (d + i) (shN d n) where
  a := W.a
  f := W.f
  x := fun h => by
    have h : 1 ≤ arI n.op := h
    have := W.x h
    unfold shN
    simp only
    rw [if_pos (by omega)]
    omega
  y := fun h => by
    have h : 2 ≤ arI n.op := h
    have := W.y h
    unfold shN
    simp only
    rw [if_pos (by omega)]
    omega
theorem fAt_sh (hF : Own2 F) (hS : ∀ (k : Int) n a b, F (shN k n) a b = F n a b) {m : List Nd} (W : WfL m) (l r : List Nd) : ∀ k, k < m.length → fAt d F (l ++ m.map (shN l.length) ++ r) (l.length + k) = fAt d F m k := by
  intro k
  induction k using Nat.strongRecOn with
  | _ k ih =>
    intro hk
    have hm : m[k]? = some m[k] := List.getElem?_eq_getElem hk
    have hj : (l ++ m.map (shN l.length) ++ r)[l.length + k]? = some (shN l.length m[k]) := by
      rw [List.append_assoc, List.getElem?_append_right (by omega), show l.length + k - l.length = k by omega, List.getElem?_append_left (by simpa using hk), List.getElem?_map, hm]
      rfl
    have Wk := W k _ hm
    rw [fAt_wf hF hj Wk.sh, fAt_wf hF hm Wk, hS]
    refine hF _ _ _ _ _ Wk.a (fun h => ?_) fun h => ?_
    · have hx := Wk.x h
      have : (shN (l.length : Int) m[k]).x.toNat = l.length + m[k].x.toNat := by
        unfold shN
        simp only
        rw [if_pos (by omega)]
        omega
      rw [this]
      exact ih _ (by omega) (by omega)
    · have hy := Wk.y h
      have : (shN (l.length : Int) m[k]).y.toNat = l.length + m[k].y.toNat := by
        unfold shN
        simp only
        rw [if_pos (by omega)]
        omega
      rw [this]
      exact ih _ (by omega) (by omega)
end

def fieldV (e : EvL) (n : Int) : Int × Int := if n = 0 then numV e.1 else if n = 1 then e.2.1 else if n = 2 then e.2.2.1 else e.2.2.2
def stepF (e : EvL) (n : Nd) (a b : Int × Int) : Int × Int :=
  if n.op = 1 then n.v else if n.op = 2 then fieldV e n.n else if n.op = 3 then negV a else if n.op = 4 then notV a else if n.op = 5 then truthV (decide (a.1 = 0)) else doV n.op a b
abbrev vAt (e : EvL) (l : List Nd) (i : Nat) : Int × Int := fAt (0, 0) (stepF e) l i
def wantT (op : Int) : Int := if op = 4 ∨ op = 9 ∨ op = 10 then 2 else 1
def tyG (op : Int) : Option Int → Option Int → Option Int
  | some a, some b => if op = 5 then some 2 else if (a ≠ 0 ∧ a ≠ wantT op) ∨ (b ≠ 0 ∧ b ≠ wantT op) then none else if op = 11 ∨ op = 12 then some 2 else some (wantT op)
  | _, _ => none
def tyF (n : Nd) (a b : Option Int) : Option Int := if n.op = 1 then some n.v.1 else if n.op = 2 then some 1 else tyG n.op a (if arI n.op = 2 then b else a)
abbrev tAt (l : List Nd) (i : Nat) : Option Int := fAt none tyF l i
theorem ar0 {op : Int} (h : 0 ≤ arI op) : (arI op = 0 ↔ op = 1 ∨ op = 2) ∧ (arI op = 1 ↔ op = 3 ∨ op = 4 ∨ op = 5) ∧ (arI op = 2 ↔ 6 ≤ op ∧ op ≤ 12) := by
  unfold arI at *
  split
  · omega
  · split
    · omega
    · split
      · omega
      · rename_i h1 h2 h3; rw [if_neg h1, if_neg h2, if_neg h3] at h; cases h
theorem own_stepF (e : EvL) : Own2 (stepF e) := by
  intro n a b a' b' h ha hb
  have := ar0 h
  unfold stepF
  split
  · rfl
  · split
    · rfl
    · have h1 : 1 ≤ arI n.op := by rcases arI_range h with q | q | q <;> omega
      rw [ha h1]
      split
      · rfl
      · split
        · rfl
        · split
          · rfl
          · rw [hb (by rcases arI_range h with q | q | q <;> omega)]
theorem own_tyF : Own2 tyF := by
  intro n a b a' b' h ha hb
  have := ar0 h
  unfold tyF
  split
  · rfl
  · split
    · rfl
    · have h1 : 1 ≤ arI n.op := by rcases arI_range h with q | q | q <;> omega
      rw [ha h1]
      split
      · rename_i h2; rw [hb (by omega)]
      · rfl
theorem stepF_sh (e : EvL) (k : Int) (n : Nd) (a b : Int × Int) : stepF e (shN k n) a b = stepF e n a b := rfl
theorem tyF_op {n : Nd} (h1 : ¬ n.op = 1) (h2 : ¬ n.op = 2) (a b : Option Int) : tyF n a b = tyG n.op a (if arI n.op = 2 then b else a) := by
  unfold tyF
  rw [if_neg h1, if_neg h2]
theorem stepF_do (e : EvL) {n : Nd} (h : 6 ≤ n.op) (a b : Int × Int) : stepF e n a b = doV n.op a b := by
  unfold stepF
  rw [if_neg (by omega), if_neg (by omega), if_neg (by omega), if_neg (by omega), if_neg (by omega)]
theorem tyG_none (op : Int) (b : Option Int) : tyG op none b = none ∧ tyG op b none = none := by
  cases b <;> exact ⟨rfl, rfl⟩
/-- A node that has a kind: so do all that it has. -/
theorem Blk.ty {l : List Nd} (W : WfL l) {f e : Nat} (B : Blk l f e) : tAt l (e - 1) ≠ none → ∀ i, f ≤ i → i < e → tAt l i ≠ none := by
  induction B with
  | @leaf j n h h0 => intro ht i h1 h2; obtain rfl : i = j := by omega
                      exact ht
  | @one f j n B h h0 hx ih =>
    intro ht i h1 h2
    by_cases hij : i = j
    · subst hij; exact ht
    · have hw := W j n h
      have := ar0 hw.a
      have hlt := B.lt
      refine ih (fun hn => ht ?_) i h1 (by omega)
      rw [Nat.add_sub_cancel, tAt, fAt_wf own_tyF h hw]
      rw [tyF_op (by omega) (by omega), show n.x.toNat = j - 1 by omega, (show fAt none tyF l _ = none from hn)]
      exact (tyG_none _ _).1
  | @two f g j n B B' h h0 hx hy ih1 ih2 =>
    intro ht i h1 h2
    have hlt := B.lt
    have hlt' := B'.lt
    have hw := W j n h
    have := ar0 hw.a
    by_cases hij : i = j
    · subst hij; exact ht
    · by_cases hg : i < g
      · refine ih1 (fun hn => ht ?_) i h1 hg
        rw [Nat.add_sub_cancel, tAt, fAt_wf own_tyF h hw]
        rw [tyF_op (by omega) (by omega), show n.x.toNat = g - 1 by omega, (show fAt none tyF l _ = none from hn)]
        exact (tyG_none _ _).1
      · refine ih2 (fun hn => ht ?_) i (by omega) (by omega)
        rw [Nat.add_sub_cancel, tAt, fAt_wf own_tyF h hw]
        rw [tyF_op (by omega) (by omega), if_pos h0, show n.y.toNat = j - 1 by omega, (show fAt none tyF l _ = none from hn)]
        exact (tyG_none _ _).2
/-- The value of a whole expression; its kind. -/
def valE (e : EvL) (l : List Nd) : Int × Int := vAt e l (l.length - 1)
def typE (l : List Nd) : Int × Int := match tAt l (l.length - 1) with
  | some t => (t, 0)
  | none => (0, 3)
theorem WfL.join {op : Int} (ho : 0 ≤ arI op) {l m : List Nd} (W : WfL l) (W' : WfL m) (hl : 0 < l.length) (hm : 2 ≤ arI op → 0 < m.length) (h2 : op ≠ 2) : WfL (joinL op l m) := by
  intro i n hn
  unfold joinL at hn
  by_cases h1 : i < l.length
  · rw [List.append_assoc, List.getElem?_append_left h1] at hn
    exact W i n hn
  · rw [List.append_assoc, List.getElem?_append_right (by omega)] at hn
    by_cases h3 : i - l.length < m.length
    · rw [List.getElem?_append_left (by simpa using h3), List.getElem?_map, Option.map_eq_some_iff] at hn
      obtain ⟨n', hn', rfl⟩ := hn
      have := (W' _ _ hn').sh (d := l.length)
      rw [show l.length + (i - l.length) = i by omega] at this
      exact this
    · rw [List.getElem?_append_right (by simp; omega), List.getElem?_singleton] at hn
      split at hn
      · rename_i h4
        cases hn
        rw [List.length_map] at h4
        refine ⟨ho, fun h => absurd h h2, fun h => ?_, fun h => ?_⟩
        · simp only; omega
        · simp only at h ⊢
          have := hm h
          rw [if_pos (by omega)]
          omega
      · cases hn
theorem valE_join2 (e : EvL) {op : Int} (ho : arI op = 2) {l m : List Nd} (W : WfL l) (W' : WfL m) (hl : 0 < l.length) (hm : 0 < m.length) : valE e (joinL op l m) = doV op (valE e l) (valE e m) := by
  have ha := ar0 (op := op) (by omega)
  have WJ := WfL.join (op := op) (by omega) W W' hl (fun _ => hm) (by omega)
  unfold valE
  rw [joinL_length, show l.length + m.length + 1 - 1 = l.length + m.length by omega]
  have hj : (joinL op l m)[l.length + m.length]? = some ⟨op, (l.length : Int) - 1, if 1 < arI op then ((l.length + m.length : Nat) : Int) - 1 else 0, 0, (0, 0)⟩ := by
    unfold joinL
    rw [List.getElem?_append_right (by simp)]
    simp
  rw [vAt, fAt_wf (own_stepF e) hj (WJ _ _ hj)]
  rw [stepF_do e (by simp only; omega)]
  simp only
  rw [if_pos (by omega : 1 < arI op)]
  have e1 : ((l.length : Int) - 1).toNat = l.length - 1 := by omega
  have e2 : (((l.length + m.length : Nat) : Int) - 1).toNat = l.length + (m.length - 1) := by omega
  rw [e1, e2]
  have q1 : fAt (0, 0) (stepF e) (joinL op l m) (l.length - 1) = fAt (0, 0) (stepF e) l (l.length - 1) := by
    unfold joinL
    rw [List.append_assoc]
    exact fAt_pre _ _ (by omega)
  have q2 : fAt (0, 0) (stepF e) (joinL op l m) (l.length + (m.length - 1)) = fAt (0, 0) (stepF e) m (m.length - 1) :=
    fAt_sh (own_stepF e) (stepF_sh e) W' l _ _ (by omega)
  rw [q1, q2]
theorem valE_joinN (e : EvL) {l : List Nd} (W : WfL l) (hl : 0 < l.length) : valE e (joinL 5 l []) = truthV (decide ((valE e l).1 = 0)) := by
  have WJ := WfL.join (op := 5) (by decide) W (m := []) (by intro i n hn; cases hn) hl (fun h => absurd h (by decide)) (by decide)
  unfold valE
  rw [joinL_length, show l.length + ([] : List Nd).length + 1 - 1 = l.length by simp]
  have hj : (joinL 5 l [])[l.length]? = some ⟨5, (l.length : Int) - 1, 0, 0, (0, 0)⟩ := by
    unfold joinL
    rw [List.getElem?_append_right (by simp)]
    simp [arI]
  rw [vAt, fAt_wf (own_stepF e) hj (WJ _ _ hj)]
  have e1 : ((l.length : Int) - 1).toNat = l.length - 1 := by omega
  have q1 : fAt (0, 0) (stepF e) (joinL 5 l []) (l.length - 1) = fAt (0, 0) (stepF e) l (l.length - 1) := by
    unfold joinL
    rw [List.append_assoc]
    exact fAt_pre _ _ (by omega)
  simp only [e1, q1]
  rfl
end Go.Proofs.YtonlacplogbodaaGreatDoor
/-
  The plain law of numbers as texts: what is read is what is written, and nothing else. No program in sight. Conditions: none.
-/
namespace Go.Txt
open Go.Lib
set_option linter.unusedVariables false

def isD (c : UInt8) : Prop := 48 ≤ c.toNat ∧ c.toNat ≤ 57
instance (c : UInt8) : Decidable (isD c) := by unfold isD; infer_instance
def dv (c : UInt8) : Nat := c.toNat - 48
def valF : Nat → List UInt8 → Nat
  | a, [] => a
  | a, c :: l => valF (10 * a + dv c) l
theorem valF_snoc : ∀ (l : List UInt8) (a : Nat) (c : UInt8), valF a (l ++ [c]) = 10 * valF a l + dv c
  | [], a, c => rfl
  | x :: l, a, c => by
    exact valF_snoc l (10 * a + dv x) c
theorem valF_ge : ∀ (l : List UInt8) (a : Nat), a ≤ valF a l
  | [], a => Nat.le_refl _
  | c :: l, a => by
    have := valF_ge l (10 * a + dv c)
    have e : valF a (c :: l) = valF (10 * a + dv c) l := rfl
    omega
theorem ofNat_toNat {d : Nat} (h : d < 10) : (UInt8.ofNat (48 + d)).toNat = 48 + d := by
  simp
  omega
theorem dec_spec : ∀ u : Nat, (∀ c ∈ decDigits u, isD c) ∧ valF 0 (decDigits u) = u ∧ decDigits u ≠ [] ∧ ((decDigits u).head? = some 48 → u = 0) := by
  intro u
  induction u using Nat.strongRecOn with
  | _ u ih =>
    by_cases h : u < 10
    · rw [decDigits_one h]
      have e := ofNat_toNat h
      refine ⟨fun c hc => ?_, ?_, by simp, fun hh => ?_⟩
      · rw [List.mem_singleton] at hc; subst hc; unfold isD; omega
      · show 10 * 0 + dv (UInt8.ofNat (48 + u)) = u
        unfold dv; omega
      · simp only [List.head?_cons, Option.some.injEq] at hh
        have := congrArg UInt8.toNat hh
        rw [e] at this
        simp at this
        omega
    · obtain ⟨h1, h2, h3, h4⟩ := ih (u / 10) (by omega)
      have hd : decDigits u = decDigits (u / 10) ++ [UInt8.ofNat (48 + u % 10)] := by rw [decDigits, dif_neg h]
      have e := ofNat_toNat (d := u % 10) (by omega)
      rw [hd]
      refine ⟨fun c hc => ?_, ?_, by simp, fun hh => ?_⟩
      · rcases List.mem_append.1 hc with hc | hc
        · exact h1 c hc
        · rw [List.mem_singleton] at hc; subst hc; unfold isD; omega
      · rw [valF_snoc, h2]; unfold dv; omega
      · match hx : decDigits (u / 10), h3 with
        | x :: l, _ =>
          rw [hx] at hh h4
          have := h4 hh
          omega
/-- Digits without noughts ahead are what is written of their number. -/
theorem digits_dec : ∀ (k : Nat) (l : List UInt8), l.length = k → l ≠ [] → (∀ c ∈ l, isD c) → (l.head? = some 48 → l.length = 1) → decDigits (valF 0 l) = l := by
  intro k
  induction k using Nat.strongRecOn with
  | _ k ih =>
    intro l hk hne hd hh
    obtain ⟨l', c, rfl⟩ : ∃ l' c, l = l' ++ [c] := ⟨l.dropLast, l.getLast hne, (List.dropLast_concat_getLast hne).symm⟩
    have hc := hd c (by simp)
    unfold isD at hc
    have ec : UInt8.ofNat (48 + dv c) = c := by
      unfold dv
      rw [show 48 + (c.toNat - 48) = c.toNat by omega]
      simp
    rw [valF_snoc]
    match l', hk, hd, hh, hne with
    | [], _, _, _, _ =>
      show decDigits (10 * 0 + dv c) = [c]
      rw [Nat.mul_zero, Nat.zero_add, decDigits_one (by unfold dv; omega), ec]
    | x :: l2, hk, hd, hh, _ =>
      have hx : x ≠ 48 := fun e => by
        have := hh (by rw [e]; rfl)
        simp at this
      have h1 := ih (x :: l2).length (by simp at hk ⊢; omega) (x :: l2) rfl (by simp) (fun c hc => hd c (List.mem_append_left _ hc)) (fun e => absurd (by simpa using e) hx)
      have h2 : valF 0 (x :: l2) ≠ 0 := fun e => by
        rw [e, decDigits_one (by decide)] at h1
        have := congrArg List.head? h1
        simp at this
        exact hx this.symm
      have e1 : (10 * valF 0 (x :: l2) + dv c) / 10 = valF 0 (x :: l2) := by unfold dv; omega
      have e2 : (10 * valF 0 (x :: l2) + dv c) % 10 = dv c := by unfold dv; omega
      rw [decDigits, dif_neg (by omega), e1, e2, h1, ec]
/-- A natural number of a text, as the document reads it. -/
def natGo (most : Int) : Int → List UInt8 → Int
  | a, [] => a
  | a, c :: l => if c.toNat < 48 ∨ c.toNat > 57 then -1 else if 10 * a + ((c.toNat : Int) - 48) > most then -1 else natGo most (10 * a + ((c.toNat : Int) - 48)) l
def natF (l : List UInt8) (most : Int) (plain : Bool) : Int := if l = [] ∨ (plain = true ∧ l.head? = some 48 ∧ 1 < l.length) then -1 else natGo most 0 l
theorem natGo_spec (most : Int) : ∀ (l : List UInt8) (a : Nat), (a : Int) ≤ most → natGo most a l = if (∀ c ∈ l, isD c) ∧ (valF a l : Int) ≤ most then (valF a l : Int) else -1
  | [], a, ha => by
    have hv0 : valF a [] = a := rfl
    rw [natGo, hv0, if_pos ⟨by simp, ha⟩]
  | c :: l, a, ha => by
    have hv0 : valF a (c :: l) = valF (10 * a + dv c) l := rfl
    rw [natGo, hv0]
    by_cases hc : isD c
    · have hc' := hc
      unfold isD at hc'
      have e : (10 * (a : Int) + ((c.toNat : Int) - 48)) = ((10 * a + dv c : Nat) : Int) := by unfold dv; omega
      rw [if_neg (by omega), e]
      by_cases hm : ((10 * a + dv c : Nat) : Int) > most
      · rw [if_pos hm, if_neg]
        rintro ⟨_, h⟩
        have := valF_ge l (10 * a + dv c)
        omega
      · rw [if_neg hm, natGo_spec most l _ (by omega)]
        have : (∀ x ∈ c :: l, isD x) ↔ ∀ x ∈ l, isD x := ⟨fun h x hx => h x (List.mem_cons_of_mem _ hx), fun h x hx => by
          rcases List.mem_cons.1 hx with rfl | hx
          · exact hc
          · exact h x hx⟩
        simp only [this]
    · have hc' := hc
      unfold isD at hc'
      rw [if_pos (by omega), if_neg]
      rintro ⟨h, _⟩
      exact hc (h c (List.mem_cons_self ..))
/-- It reads what is written, and nothing else. -/
theorem natF_dec {k : Nat} {most : Int} (h : (k : Int) ≤ most) (hm : 0 ≤ most) : natF (decDigits k) most true = k := by
  obtain ⟨h1, h2, h3, h4⟩ := dec_spec k
  unfold natF
  rw [if_neg]
  · have := natGo_spec most (decDigits k) 0 hm
    rw [h2, if_pos ⟨h1, h⟩] at this
    exact this
  · rintro (h | ⟨_, h, h5⟩)
    · exact h3 h
    · have := h4 h
      subst this
      rw [decDigits_one (by decide)] at h5
      simp at h5
theorem natF_inv {l : List UInt8} {most : Int} (hm : 0 ≤ most) (h : 0 ≤ natF l most true) : l = decDigits (natF l most true).toNat ∧ natF l most true ≤ most := by
  unfold natF at h ⊢
  split at h
  · omega
  · rename_i h1
    have hg := natGo_spec most l 0 hm
    simp only [Int.natCast_zero] at hg
    rw [if_neg h1]
    rw [hg] at h ⊢
    split at h
    · rename_i h2
      rw [if_pos h2]
      refine ⟨?_, h2.2⟩
      rw [Int.toNat_natCast]
      refine (digits_dec _ l rfl (fun e => h1 (.inl e)) h2.1 fun e => ?_).symm
      have : ¬ 1 < l.length := fun h3 => h1 (.inr ⟨rfl, e, h3⟩)
      have : l ≠ [] := fun e => h1 (.inl e)
      have := List.length_pos_iff.2 this
      omega
    · omega
theorem parse_spec : ∀ (l : List UInt8) (a : Nat), (∀ c ∈ l, isD c) → valF a l < 1844674407370955162 → parseUint10 a l = .ok (valF a l)
  | [], a, _, _ => rfl
  | c :: l, a, hd, hv => by
    have hc := hd c (List.mem_cons_self ..)
    have hc' := hc
    unfold isD at hc'
    have hv0 : valF a (c :: l) = valF (10 * a + dv c) l := rfl
    rw [hv0] at hv ⊢
    have hg := valF_ge l (10 * a + dv c)
    have ed : dv c = c.toNat - 48 := rfl
    rw [parseUint10, if_pos hc', if_neg (by omega), if_neg (by omega)]
    have := parse_spec l (10 * a + dv c) (fun x hx => hd x (List.mem_cons_of_mem _ hx)) hv
    rw [ed, Nat.mul_comm] at this
    rw [this, ed, Nat.mul_comm]
theorem atoi_itoa {n : Int} (h0 : -1000000000000 ≤ n) (h1 : n ≤ 1000000000000) : atoiAll (itoa n) = .ok n := by
  unfold itoa
  split
  · rename_i hn
    obtain ⟨d1, d2, d3, d4⟩ := dec_spec n.natAbs
    unfold atoiAll
    simp only
    rw [if_pos (.inr (by decide))]
    unfold parseMag
    rw [if_neg d3, parse_spec _ _ d1 (by rw [d2]; omega), d2]
    simp only
    rw [if_neg (by intro h; exact h.1 (by decide)), if_neg (by omega), if_pos (by decide)]
    congr 1
    omega
  · rename_i hn
    obtain ⟨d1, d2, d3, d4⟩ := dec_spec n.toNat
    have hp : parseMag (decDigits n.toNat) = .ok n.toNat := by
      unfold parseMag
      rw [if_neg d3, parse_spec _ _ d1 (by rw [d2]; omega), d2]
    unfold atoiAll
    match hx : decDigits n.toNat, d3 with
    | c :: r, _ =>
      rw [hx] at d1 hp
      have hc := d1 c (List.mem_cons_self ..)
      unfold isD at hc
      simp only
      rw [if_neg (by omega), hp]
      simp only
      rw [if_neg (by omega), if_neg (by omega), if_neg (by omega)]
      congr 1
      omega
end Go.Txt
/-
  Words of values. Conditions: none.
-/
namespace Go.Proofs.YtonlacplogbodaaGreatDoor
def wNull : List UInt8 := [110, 117, 108, 108]
def wTrue : List UInt8 := [116, 114, 117, 101]
def wFalse : List UInt8 := [102, 97, 108, 115, 101]
end Go.Proofs.YtonlacplogbodaaGreatDoor
/-
  Plain law: a question is read from words. Conditions: none.
-/
namespace Go.Proofs.YtonlacplogbodaaGreatDoor
open Go Go.Vc Go.Txt
set_option linter.unusedVariables false

abbrev Wd := List UInt8
/-- What a reader has: words that are left, how deep it is, what is wrong (0: nothing); behind a fault there are no words. -/
structure RS where
  ws : List Wd
  deep : Int
  f : Int
def RS.fail (s : RS) (f : Int) : RS := ⟨[], s.deep, if s.f = 0 then f else s.f⟩
def RS.is (s : RS) (l : List Wd) : Wd × RS :=
  match s.ws with
  | [] => ([], s)
  | w :: r => if w ∈ l then (w, ⟨r, s.deep, s.f⟩) else ([], s)
def RS.must (s : RS) (w : Wd) : RS := if (s.is [w]).1 = [] then (s.is [w]).2.fail 4 else (s.is [w]).2
def RS.number (s : RS) (most : Int) : Int × RS :=
  match s.ws with
  | [] => (0, s.fail 4)
  | w :: r => if natF w most false < 0 then (0, s.fail 4) else (natF w most false, ⟨r, s.deep, s.f⟩)
def leafN : Nd := ⟨1, 0, 0, 0, (0, 0)⟩
def joinP (op : Int) (x y : List Nd) (s : RS) : List Nd × RS := if x.length + y.length ≥ 40 then ([leafN], s.fail 2) else (joinL op x y, s)
abbrev Ps := RS → List Nd × RS
def downP (p : Ps) : Ps := fun s =>
  let s1 : RS := ⟨s.ws, s.deep + 1, s.f⟩
  let s2 : RS := if s.deep + 1 > 12 then s1.fail 2 else s1
  let r := p s2
  (r.1, ⟨r.2.ws, r.2.deep - 1, r.2.f⟩)
def wOpen : Wd := [40]
def wClose : Wd := [41]
def wNot : Wd := [110, 111, 116]
def wIs : Wd := [105, 115]
def wAnd : Wd := [97, 110, 100]
def wOr : Wd := [111, 114]
def wStar : Wd := [42]
def wPlus : Wd := [43]
def wMinus : Wd := [45]
def wLt : Wd := [60]
def wGt : Wd := [62]
def wLe : Wd := [60, 61]
def wGe : Wd := [62, 61]
def wEq : Wd := [61]
def wNe : Wd := [60, 62]
def fieldW : List Wd := [[116], [107], [97], [98]]
/-- The value of such a word. -/
def constV (w : Wd) : Int × Int := if w = wNull then (0, 0) else (2, if w = wTrue then 1 else 0)
def constW : List Wd := [wNull, wTrue, wFalse]
def atomP (orP : Ps) : Ps := fun s =>
  let w := (s.is ([wOpen] ++ constW ++ fieldW)).1
  let s1 := (s.is ([wOpen] ++ constW ++ fieldW)).2
  if w = wOpen then ((downP orP s1).1, (downP orP s1).2.must wClose)
  else if w ∈ constW then ([⟨1, 0, 0, 0, constV w⟩], s1)
  else if w = [] then ([⟨1, 0, 0, 0, (1, (s1.number 1000000000).1)⟩], (s1.number 1000000000).2)
  else ([⟨2, 0, 0, fieldW.idxOf w, (0, 0)⟩], s1)
def unaryP (un atom : Ps) : Ps := fun s =>
  if (s.is [wMinus]).1 = [] then atom s else
    joinP 3 (downP un (s.is [wMinus]).2).1 [] (downP un (s.is [wMinus]).2).2
def opOf (ops : List (Wd × Int)) (w : Wd) : Int := ((ops.find? fun p => p.1 = w).map (·.2)).getD 0
def rowL (next : Ps) (ops : List (Wd × Int)) : Nat → List Nd → Ps
  | 0, x, s => (x, s)
  | k + 1, x, s => if s.f ≠ 0 then (x, s) else
    let w := (s.is (ops.map (·.1))).1
    let s1 := (s.is (ops.map (·.1))).2
    if w = [] then (x, s1) else
      let j := joinP (opOf ops w) x (next s1).1 (next s1).2
      rowL next ops k j.1 j.2
def rowP (next : Ps) (ops : List (Wd × Int)) : Ps := fun s => rowL next ops ((next s).2.ws.length + 1) (next s).1 (next s).2
def cmpP (sum : Ps) : Ps := fun s =>
  let x := (sum s).1
  let s0 := (sum s).2
  let w := (s0.is [wLt, wGt, wLe, wGe, wEq, wNe, wIs]).1
  let s1 := (s0.is [wLt, wGt, wLe, wGe, wEq, wNe, wIs]).2
  let y := (sum s1).1
  let s2 := (sum s1).2
  if w = wLt then joinP 11 x y s2
  else if w = wGt then joinP 11 y x s2
  else if w = wLe then joinP 4 (joinP 11 y x s2).1 [] (joinP 11 y x s2).2
  else if w = wGe then joinP 4 (joinP 11 x y s2).1 [] (joinP 11 x y s2).2
  else if w = wEq then joinP 12 x y s2
  else if w = wNe then joinP 4 (joinP 12 x y s2).1 [] (joinP 12 x y s2).2
  else if w = wIs then
    let n := (s1.is [wNot]).1
    let s3 := (s1.is [wNot]).2.must wNull
    let j := joinP 5 x [] s3
    if n ≠ [] then joinP 4 j.1 [] j.2 else j
  else (x, s1)
def notP (no cmp : Ps) : Ps := fun s =>
  if (s.is [wNot]).1 = [] then cmp s else
    joinP 4 (downP no (s.is [wNot]).2).1 [] (downP no (s.is [wNot]).2).2
structure Three where
  o : Ps
  n : Ps
  u : Ps
def unS (t : Three) : Ps := unaryP t.u (atomP t.o)
def prodS (t : Three) : Ps := rowP (unS t) [(wStar, 8)]
def sumS (t : Three) : Ps := rowP (prodS t) [(wPlus, 6), (wMinus, 7)]
def cmpS (t : Three) : Ps := cmpP (sumS t)
def notS (t : Three) : Ps := notP t.n (cmpS t)
def andS (t : Three) : Ps := rowP (notS t) [(wAnd, 9)]
def orS (t : Three) : Ps := rowP (andS t) [(wOr, 10)]
def noP : Ps := fun s => ([leafN], s)
/-- The readers of expressions, as deep as n words can go. -/
def allP : Nat → Three
  | 0 => ⟨noP, noP, noP⟩
  | n + 1 => ⟨orS (allP n), notS (allP n), unS (allP n)⟩

theorem joinL_pos (op : Int) (x y : List Nd) : 1 ≤ (joinL op x y).length := by rw [joinL_length]; omega
def RS.good (s : RS) : Prop := s.f ≠ 0 → s.ws = []
/-- What every reader keeps: behind a fault no words; never more words; nodes that go together. -/
structure Keeps (r : List Nd × RS) (s : RS) : Prop where
  len : r.2.ws.length ≤ s.ws.length
  ok : r.2.good
  deep : r.2.deep = s.deep
  pos : 1 ≤ r.1.length
  le : r.1.length ≤ 40
  wf : WfL r.1
  fst : s.f ≠ 0 → r.2.f = s.f
def KP (p : Ps) (n : Nat) : Prop := ∀ s : RS, s.good → s.ws.length ≤ n → Keeps (p s) s
theorem RS.fail_good (s : RS) (f : Int) : (s.fail f).good := fun _ => rfl
theorem RS.fail_f (s : RS) (f : Int) (h : s.f ≠ 0) : (s.fail f).f = s.f := if_neg h
theorem RS.is_spec (s : RS) (l : List Wd) : ((s.is l).1 = [] ∧ (s.is l).2 = s) ∨ (∃ w r, s.ws = w :: r ∧ w ∈ l ∧ (s.is l).1 = w ∧ (s.is l).2 = ⟨r, s.deep, s.f⟩) := by
  unfold RS.is
  split
  · exact .inl ⟨rfl, rfl⟩
  · rename_i w r h
    split
    · rename_i hm; exact .inr ⟨w, r, h, hm, rfl, rfl⟩
    · exact .inl ⟨rfl, rfl⟩
/-- A step that keeps what readers keep of the state. -/
structure Goes (t s : RS) : Prop where
  len : t.ws.length ≤ s.ws.length
  ok : t.good
  deep : t.deep = s.deep
  fst : s.f ≠ 0 → t.f = s.f
theorem Goes.refl {s : RS} (h : s.good) : Goes s s := ⟨Nat.le_refl _, h, rfl, fun _ => rfl⟩
theorem Goes.trans {t s u : RS} (a : Goes t s) (b : Goes u t) : Goes u s := ⟨Nat.le_trans b.len a.len, b.ok, b.deep.trans a.deep, fun h => (b.fst (by rw [a.fst h]; exact h)).trans (a.fst h)⟩
theorem goes_fail (s : RS) (f : Int) : Goes (s.fail f) s := ⟨Nat.zero_le _, fun _ => rfl, rfl, fun h => s.fail_f f h⟩
theorem goes_is {s : RS} (h : s.good) (l : List Wd) : Goes (s.is l).2 s := by
  rcases s.is_spec l with ⟨_, e⟩ | ⟨w, r, h1, _, _, e⟩
  · rw [e]; exact Goes.refl h
  · rw [e]
    refine ⟨by rw [h1]; simp, fun hf => ?_, rfl, fun _ => rfl⟩
    have := h hf
    rw [h1] at this; cases this
theorem goes_must {s : RS} (h : s.good) (w : Wd) : Goes (s.must w) s := by
  unfold RS.must
  split
  · exact (goes_is h _).trans (goes_fail _ _)
  · exact goes_is h _
theorem goes_number {s : RS} (h : s.good) (m : Int) : Goes (s.number m).2 s := by
  unfold RS.number
  split
  · exact goes_fail _ _
  · rename_i w r e
    split
    · exact goes_fail _ _
    · refine ⟨by rw [e]; simp, fun hf => ?_, rfl, fun _ => rfl⟩
      have := h hf
      rw [e] at this; cases this
theorem taken {s : RS} {l : List Wd} (h : (s.is l).1 ≠ []) : (s.is l).2.ws.length + 1 = s.ws.length := by
  rcases s.is_spec l with ⟨e, _⟩ | ⟨w, r, h1, _, _, e⟩
  · exact absurd e h
  · rw [e, h1]; rfl
theorem Keeps.goes {r : List Nd × RS} {s : RS} (k : Keeps r s) : Goes r.2 s := ⟨k.len, k.ok, k.deep, k.fst⟩
theorem Keeps.mk2 {l : List Nd} {t s : RS} (g : Goes t s) (h1 : 1 ≤ l.length) (h2 : l.length ≤ 40) (h3 : WfL l) : Keeps (l, t) s := ⟨g.len, g.ok, g.deep, h1, h2, h3, g.fst⟩
theorem wf_one (n : Nd) (h : arI n.op = 0) (h2 : n.op = 2 → 0 ≤ n.n ∧ n.n ≤ 3) : WfL [n] := by
  intro i m hm
  match i, hm with
  | 0, hm =>
    cases hm
    exact ⟨by omega, h2, fun h3 => by omega, fun h3 => by omega⟩
theorem keeps_leaf {t s : RS} (g : Goes t s) (n : Nd) (h : arI n.op = 0) (h2 : n.op = 2 → 0 ≤ n.n ∧ n.n ≤ 3) : Keeps ([n], t) s := Keeps.mk2 g (by simp) (by simp) (wf_one n h h2)
/-- A sign that puts together. -/
def Opr (op : Int) : Prop := 0 ≤ arI op ∧ op ≠ 2
instance (op : Int) : Decidable (Opr op) := by unfold Opr; infer_instance
theorem wf_join {op : Int} (ho : Opr op) {x y : List Nd} (hx : WfL x) (hy : WfL y) (h1 : 1 ≤ x.length) (h2 : 1 < arI op → 1 ≤ y.length) : WfL (joinL op x y) :=
  WfL.join ho.1 hx hy h1 (fun h => h2 (by omega)) ho.2
theorem keeps_join {op : Int} (ho : Opr op) {x y : List Nd} {t s : RS} (g : Goes t s) (hx : WfL x) (hy : WfL y) (h1 : 1 ≤ x.length) (h2 : 1 < arI op → 1 ≤ y.length) : Keeps (joinP op x y t) s := by
  unfold joinP
  split
  · exact keeps_leaf (g.trans (goes_fail _ _)) leafN (by decide) (by decide)
  · exact Keeps.mk2 g (joinL_pos _ _ _) (by rw [joinL_length]; omega) (wf_join ho hx hy h1 h2)
theorem wf_nil : WfL [] := fun i n h => by simp at h
theorem keeps_down {p : Ps} {n : Nat} (hp : KP p n) {t s : RS} (g : Goes t s) (hl : t.ws.length ≤ n) : Keeps (downP p t) s := by
  unfold downP
  have key : ∀ u : RS, u.good → u.ws.length ≤ n → Goes u ⟨t.ws, t.deep + 1, t.f⟩ → Keeps ((p u).1, ⟨(p u).2.ws, (p u).2.deep - 1, (p u).2.f⟩) s := by
    intro u hu hul gu
    have k := hp u hu hul
    refine ⟨Nat.le_trans k.len (Nat.le_trans gu.len g.len), k.ok, ?_, k.pos, k.le, k.wf, fun h => ?_⟩
    · have e1 := k.deep
      have e2 := gu.deep
      have e3 := g.deep
      simp only at e2 ⊢
      omega
    · have e1 := g.fst h
      have e2 := gu.fst (by show t.f ≠ 0; rw [e1]; exact h)
      have e3 := k.fst (by rw [e2]; show t.f ≠ 0; rw [e1]; exact h)
      exact e3.trans (e2.trans e1)
  by_cases hd : t.deep + 1 > 12
  · simp only [if_pos hd]
    exact key _ (RS.fail_good _ _) (Nat.zero_le _) (goes_fail _ _)
  · simp only [if_neg hd]
    exact key _ g.ok hl (Goes.refl g.ok)
theorem keeps_atom {o : Ps} {n : Nat} (ho : KP o n) : KP (atomP o) (n + 1) := by
  intro s hs hl
  have g := goes_is hs ([wOpen] ++ constW ++ fieldW)
  have tk := @taken s ([wOpen] ++ constW ++ fieldW)
  unfold atomP
  simp only
  split
  · rename_i hw
    have k := keeps_down ho g (by have := tk (by rw [hw]; decide); omega)
    have gm := goes_must k.ok wClose
    exact Keeps.mk2 (k.goes.trans gm) k.pos k.le k.wf
  · split
    · exact keeps_leaf g _ (by simp [arI]) (by simp)
    · split
      · exact keeps_leaf (g.trans (goes_number g.ok _)) _ (by simp [arI]) (by simp)
      · rename_i h1 h2 h3
        refine keeps_leaf g _ (by simp [arI]) (fun _ => ?_)
        have hw : (s.is ([wOpen] ++ constW ++ fieldW)).1 ∈ fieldW := by
          rcases s.is_spec ([wOpen] ++ constW ++ fieldW) with ⟨e, _⟩ | ⟨w, r, _, hm, e, _⟩
          · exact absurd e h3
          · rw [e] at h1 h2 ⊢
            rcases List.mem_append.1 hm with h4 | h4
            · rcases List.mem_append.1 h4 with h5 | h5
              · exact absurd (by simpa using h5) h1
              · exact absurd h5 h2
            · exact h4
        have := List.idxOf_lt_length_of_mem hw
        have e4 : fieldW.length = 4 := rfl
        constructor <;> simp only <;> omega
theorem keeps_unary {u a : Ps} {n : Nat} (hu : KP u n) (ha : KP a (n + 1)) : KP (unaryP u a) (n + 1) := by
  intro s hs hl
  have g := goes_is hs [wMinus]
  have tk := @taken s [wMinus]
  unfold unaryP
  split
  · exact ha s hs hl
  · rename_i hw
    have k := keeps_down hu g (by have := tk hw; omega)
    exact keeps_join (by decide) k.goes k.wf wf_nil k.pos (by decide)
theorem keeps_not {u a : Ps} {n : Nat} (hu : KP u n) (ha : KP a (n + 1)) : KP (notP u a) (n + 1) := by
  intro s hs hl
  have g := goes_is hs [wNot]
  have tk := @taken s [wNot]
  unfold notP
  split
  · exact ha s hs hl
  · rename_i hw
    have k := keeps_down hu g (by have := tk hw; omega)
    exact keeps_join (by decide) k.goes k.wf wf_nil k.pos (by decide)
theorem opOf_opr {ops : List (Wd × Int)} (ho : ∀ q ∈ ops, Opr q.2) {w : Wd} (hw : w ∈ ops.map (·.1)) : Opr (opOf ops w) := by
  unfold opOf
  cases h : ops.find? (fun p => p.1 = w) with
  | none =>
    obtain ⟨q, hq, rfl⟩ := List.mem_map.1 hw
    have := List.find?_eq_none.1 h q hq
    simp at this
  | some q => exact ho q (List.mem_of_find?_eq_some h)
theorem is_mem {s : RS} {l : List Wd} (h : (s.is l).1 ≠ []) : (s.is l).1 ∈ l := by
  rcases s.is_spec l with ⟨e, _⟩ | ⟨w, r, _, hm, e, _⟩
  · exact absurd e h
  · rw [e]; exact hm
theorem keeps_rowL {p : Ps} {n : Nat} (hp : KP p n) {ops : List (Wd × Int)} (ho : ∀ q ∈ ops, Opr q.2) : ∀ (k : Nat) (x : List Nd) (t s : RS), Goes t s → t.ws.length ≤ n → 1 ≤ x.length → x.length ≤ 40 → WfL x → Keeps (rowL p ops k x t) s
  | 0, x, t, s, g, _, h1, h2, h3 => Keeps.mk2 g h1 h2 h3
  | k + 1, x, t, s, g, hl, h1, h2, h3 => by
    have gi := goes_is g.ok (ops.map (·.1))
    have gm := @is_mem t (ops.map (·.1))
    rw [rowL]
    by_cases hf : t.f ≠ 0
    · rw [if_pos hf]; exact Keeps.mk2 g h1 h2 h3
    · rw [if_neg hf]
      simp only
      generalize t.is (ops.map (·.1)) = A at gi gm ⊢
      obtain ⟨w, s1⟩ := A
      simp only at gi gm ⊢
      by_cases hw : w = []
      · rw [if_pos hw]; exact Keeps.mk2 (g.trans gi) h1 h2 h3
      · rw [if_neg hw]
        have hop := opOf_opr ho (gm hw)
        have kn := hp s1 gi.ok (Nat.le_trans gi.len hl)
        generalize opOf ops w = op at hop ⊢
        generalize p s1 = r at kn ⊢
        have kj : Keeps (joinP op x r.1 r.2) s := keeps_join hop ((g.trans gi).trans kn.goes) h3 kn.wf h1 (fun _ => kn.pos)
        have ka : Keeps (joinP op x r.1 r.2) t := keeps_join hop (gi.trans kn.goes) h3 kn.wf h1 (fun _ => kn.pos)
        generalize joinP op x r.1 r.2 = j at kj ka ⊢
        exact keeps_rowL hp ho k j.1 j.2 s kj.goes (Nat.le_trans ka.len hl) kj.pos kj.le kj.wf
theorem keeps_row {p : Ps} {n : Nat} (hp : KP p n) {ops : List (Wd × Int)} (ho : ∀ q ∈ ops, Opr q.2) : KP (rowP p ops) n := by
  intro s hs hl
  have k := hp s hs hl
  exact keeps_rowL hp ho _ _ _ _ k.goes (Nat.le_trans k.len hl) k.pos k.le k.wf
theorem keeps_cmp {p : Ps} {n : Nat} (hp : KP p n) : KP (cmpP p) n := by
  intro s hs hl
  have k := hp s hs hl
  have g := goes_is k.ok [wLt, wGt, wLe, wGe, wEq, wNe, wIs]
  have k2 := hp _ g.ok (Nat.le_trans g.len (Nat.le_trans k.len hl))
  have gg := (k.goes.trans g).trans k2.goes
  unfold cmpP
  simp only
  split
  · exact keeps_join (by decide) gg k.wf k2.wf k.pos (fun _ => k2.pos)
  · split
    · exact keeps_join (by decide) gg k2.wf k.wf k2.pos (fun _ => k.pos)
    · split
      · have j := keeps_join (op := 11) (by decide) gg k2.wf k.wf k2.pos (fun _ => k.pos)
        exact keeps_join (by decide) j.goes j.wf wf_nil j.pos (by decide)
      · split
        · have j := keeps_join (op := 11) (by decide) gg k.wf k2.wf k.pos (fun _ => k2.pos)
          exact keeps_join (by decide) j.goes j.wf wf_nil j.pos (by decide)
        · split
          · exact keeps_join (by decide) gg k.wf k2.wf k.pos (fun _ => k2.pos)
          · split
            · have j := keeps_join (op := 12) (by decide) gg k.wf k2.wf k.pos (fun _ => k2.pos)
              exact keeps_join (by decide) j.goes j.wf wf_nil j.pos (by decide)
            · split
              · have g3 := goes_is g.ok [wNot]
                have g4 := goes_must g3.ok wNull
                have j := keeps_join (op := 5) (by decide) (((k.goes.trans g).trans g3).trans g4) k.wf wf_nil k.pos (by decide)
                split
                · exact keeps_join (by decide) j.goes j.wf wf_nil j.pos (by decide)
                · exact j
              · exact Keeps.mk2 (k.goes.trans g) k.pos k.le k.wf
theorem keeps_S {t : Three} {n : Nat} (h : KP t.o n ∧ KP t.n n ∧ KP t.u n) : KP (orS t) (n + 1) ∧ KP (notS t) (n + 1) ∧ KP (unS t) (n + 1) ∧ KP (prodS t) (n + 1) ∧ KP (sumS t) (n + 1) ∧ KP (cmpS t) (n + 1) ∧ KP (andS t) (n + 1) := by
  have h1 : KP (unS t) (n + 1) := keeps_unary h.2.2 (keeps_atom h.1)
  have h2 : KP (prodS t) (n + 1) := keeps_row h1 (by decide)
  have h3 : KP (sumS t) (n + 1) := keeps_row h2 (by decide)
  have h4 : KP (cmpS t) (n + 1) := keeps_cmp h3
  have h5 : KP (notS t) (n + 1) := keeps_not h.2.1 h4
  have h6 : KP (andS t) (n + 1) := keeps_row h5 (by decide)
  exact ⟨keeps_row h6 (by decide), h5, h1, h2, h3, h4, h6⟩
theorem keeps_noP (n : Nat) : KP noP n := fun s hs _ => keeps_leaf (Goes.refl hs) leafN (by decide) (by decide)
theorem allP_succ (n : Nat) : allP (n + 1) = ⟨orS (allP n), notS (allP n), unS (allP n)⟩ := rfl
theorem keeps_all (n : Nat) : KP (allP n).o n ∧ KP (allP n).n n ∧ KP (allP n).u n := by
  induction n with
  | zero => exact ⟨keeps_noP 0, keeps_noP 0, keeps_noP 0⟩
  | succ n ih =>
    have h := keeps_S ih
    rw [allP_succ]
    exact ⟨h.1, h.2.1, h.2.2.1⟩
end Go.Proofs.YtonlacplogbodaaGreatDoor
/-
  Plain law: a question is read from words: what is gathered, and the rest. Conditions: none.
-/
namespace Go.Proofs.YtonlacplogbodaaGreatDoor
open Go Go.Vc Go.Txt
set_option linter.unusedVariables false

def wCount : Wd := [99, 111, 117, 110, 116]
def wSum : Wd := [115, 117, 109]
def wMin : Wd := [109, 105, 110]
def wMax : Wd := [109, 97, 120]
def wComma : Wd := [44]
def wSelect : Wd := [115, 101, 108, 101, 99, 116]
def wFrom : Wd := [102, 114, 111, 109]
def wEvents : Wd := [101, 118, 101, 110, 116, 115]
def wWhere : Wd := [119, 104, 101, 114, 101]
def wGroup : Wd := [103, 114, 111, 117, 112]
def wBy : Wd := [98, 121]
def wWindow : Wd := [119, 105, 110, 100, 111, 119]
def wSlide : Wd := [115, 108, 105, 100, 101]
def wDelay : Wd := [100, 101, 108, 97, 121]
def wLate : Wd := [108, 97, 116, 101]
/-- What is gathered: its kind, and of what. -/
abbrev Ag := Int × List Nd
/-- A question. -/
structure Qy where
  aggs : List Ag
  wh : List Nd
  by_ : List Nd
  size : Int
  slide : Int
  delay : Int
  late : Int
def noQ : Qy := ⟨[], [], [], 0, 0, 0, 0⟩
def aggKind (w : Wd) : Int := if w = wCount then 1 else if w = wSum then 3 else if w = wMin then 4 else if w = wMax then 5 else 0
/-- One that is gathered. -/
def aggP (o : Ps) (s : RS) : Ag × RS :=
  let w := (s.is [wCount, wSum, wMin, wMax]).1
  let s1 := (s.is [wCount, wSum, wMin, wMax]).2
  let s2 := (if w = [] then s1.fail 4 else s1).must wOpen
  if w = wCount ∧ (s2.is [wStar]).1 ≠ [] then ((1, []), (s2.is [wStar]).2.must wClose)
  else ((if w = wCount then 2 else aggKind w, (o s2).1), (o s2).2.must wClose)
/-- More of them. -/
def aggsP (o : Ps) : Nat → List Ag → RS → List Ag × RS
  | 0, l, s => (l, s)
  | k + 1, l, s => if (s.is [wComma]).1 = [] then (l, s) else aggsP o k (l ++ [(aggP o (s.is [wComma]).2).1]) (aggP o (s.is [wComma]).2).2
/-- A part behind a word. -/
def optP (w : Wd) (p : RS → List Nd × RS) (s : RS) : List Nd × RS := if (s.is [w]).1 = [] then ([], s) else p (s.is [w]).2
def optN (w : Wd) (d : Int) (s : RS) : Int × RS := if (s.is [w]).1 = [] then (d, s) else (s.is [w]).2.number 1000
/-- The whole, ahead of what is wrong with its numbers. -/
def readQ (ws : List Wd) : Qy × RS :=
  let o := (allP (ws.length + 1)).o
  let a := aggP o ((⟨ws, 0, 0⟩ : RS).must wSelect)
  let l := aggsP o (a.2.ws.length + 1) [a.1] a.2
  let e := (l.2.must wFrom).must wEvents
  let w := optP wWhere o e
  let g := optP wGroup (fun s => o (s.must wBy)) w.2
  let z := (g.2.must wWindow).number 1000
  let sl := optN wSlide z.1 z.2
  let d := optN wDelay 0 sl.2
  let t := optN wLate 0 d.2
  (⟨l.1, w.1, g.1, z.1, sl.1, d.1, t.1⟩, if t.2.f = 0 ∧ t.2.ws ≠ [] then t.2.fail 4 else t.2)
/-- Nodes that may be read on: none, or nodes that go together. -/
def NdsOK (l : List Nd) : Prop := l.length ≤ 40 ∧ WfL l
theorem Keeps.nds {r : List Nd × RS} {s : RS} (k : Keeps r s) : NdsOK r.1 := ⟨k.le, k.wf⟩
theorem nds_nil : NdsOK [] := ⟨by simp, wf_nil⟩
theorem goes_agg {o : Ps} {n : Nat} (ho : KP o n) {s : RS} (hs : s.good) (hl : s.ws.length ≤ n) : Goes (aggP o s).2 s ∧ NdsOK (aggP o s).1.2 := by
  have g1 := goes_is hs [wCount, wSum, wMin, wMax]
  have g2 : Goes ((if (s.is [wCount, wSum, wMin, wMax]).1 = [] then (s.is [wCount, wSum, wMin, wMax]).2.fail 4 else (s.is [wCount, wSum, wMin, wMax]).2).must wOpen) s := by
    split
    · exact (g1.trans (goes_fail _ _)).trans (goes_must (RS.fail_good _ _) _)
    · exact g1.trans (goes_must g1.ok _)
  unfold aggP
  simp only
  generalize (if (s.is [wCount, wSum, wMin, wMax]).1 = [] then (s.is [wCount, wSum, wMin, wMax]).2.fail 4 else (s.is [wCount, wSum, wMin, wMax]).2).must wOpen = s2 at g2 ⊢
  have g3 := goes_is g2.ok [wStar]
  have k := ho s2 g2.ok (Nat.le_trans g2.len hl)
  split
  · exact ⟨(g2.trans g3).trans (goes_must g3.ok _), nds_nil⟩
  · exact ⟨(g2.trans k.goes).trans (goes_must k.ok _), k.nds⟩
theorem goes_aggs {o : Ps} {n : Nat} (ho : KP o n) : ∀ (k : Nat) (l : List Ag) {s : RS}, s.good → s.ws.length ≤ n → (∀ a ∈ l, NdsOK a.2) → Goes (aggsP o k l s).2 s ∧ ∀ a ∈ (aggsP o k l s).1, NdsOK a.2
  | 0, l, s, hs, _, hL => ⟨Goes.refl hs, hL⟩
  | k + 1, l, s, hs, hl, hL => by
    rw [aggsP]
    split
    · exact ⟨Goes.refl hs, hL⟩
    · have g1 := goes_is hs [wComma]
      have g2 := goes_agg ho g1.ok (Nat.le_trans g1.len hl)
      have g3 := goes_aggs ho k (l ++ [(aggP o (s.is [wComma]).2).1]) g2.1.ok (Nat.le_trans (Nat.le_trans g2.1.len g1.len) hl) (by
        intro a ha
        rcases List.mem_append.1 ha with h1 | h1
        · exact hL a h1
        · rw [List.mem_singleton.1 h1]; exact g2.2)
      exact ⟨(g1.trans g2.1).trans g3.1, g3.2⟩
end Go.Proofs.YtonlacplogbodaaGreatDoor
/-
  The framework, part Z: a text's bytes as a slice; calls of which less is told; what is kept beside a thing that changes. No program in sight. Conditions: none.
-/
namespace Go.Vc
open Go
set_option linter.unusedVariables false

section
variable {P : Program}
theorem CallOK.less {f : FuncId} {vs : List Value} {h : Hp} {R R' : Value → Hp → Prop} (H : CallOK P f vs h R) (hr : ∀ v h', R v h' → ∃ h2, h2.le h' ∧ R' v h2) : CallOK P f vs h R' :=
  fun w hs => (H w hs).mono fun e w' ⟨v, h', h1, h2, h3, h4⟩ => by
    obtain ⟨k, hk, hR⟩ := hr v h' h4
    refine ⟨v, k, h1, fun b o ho => h2 b o (hk b o ho), ⟨h3.os, h3.tape, h3.output, h3.size, fun b hb hn => ⟨(h3.keep b hb hn).1, ?_⟩⟩, hR⟩
    cases e : k b with
    | none => rfl
    | some o => have := hk b o e; rw [(h3.keep b hb hn).2] at this; cases this

theorem row_bytes {h : Hp} {b : Nat} {l : List UInt8} {tail : Array Value} {e : TypeId} {fz : Nat × Nat} (hb : h b = some (.cells ((l.map fun x => vk .u8 (x.toNat : Nat)).toArray ++ tail) e fz)) {i m : Nat} (him : i + m ≤ l.length) :
    h.row b (0 + i) ((l.drop i).take m).length = some (((l.drop i).take m).map fun x => vk .u8 (x.toNat : Nat)) := by
  have hl : ((l.drop i).take m).length = m := by simp; omega
  have hs : ((l.map fun x => vk .u8 (x.toNat : Nat)).toArray ++ tail).size = l.length + tail.size := by simp
  unfold Hp.row
  rw [hb, hl, Nat.zero_add]
  simp only
  rw [if_pos (by rw [hs]; omega), Array.toList_append, List.drop_append_of_le_length (by simp; omega), List.take_append_of_le_length (by simp; omega), List.map_take, List.map_drop]
theorem sem_fromStr {h : Hp} {src dst e : TypeId} (hs : P.underlying src = some .string) (hd : P.underlying dst = some (.slice e)) (he : P.underlying e = some (.int .u8)) {l : List UInt8} {K : Value → Hp → Prop}
    (hK : ∀ b cap tail fz, h b = none → l.length ≤ cap → K (vsl (some ⟨b, 0, none⟩) l.length cap) (h.set b (.cells ((l.map fun x => vk .u8 (x.toNat : Nat)).toArray ++ tail) e fz))) : SemOK P (convert src dst (vs (bs l))) h K := by
  intro w hsub
  have hr := Lib.run_convert_string_bytes (P := P) w src dst e (bs l) hs hd he
  rw [bs_size] at hr
  have e1 : Lib.bytesCells w e (bs l) = (l.map fun x => vk .u8 (x.toNat : Nat)).toArray ++ Array.replicate (grownCap w l.length 0 e - l.length) (.int .u8 0) := by
    unfold Lib.bytesCells
    rw [bs_size]
    simp [bs]
  have hnew := Lib.bytesWorld_at_new w e (bs l)
  rw [e1] at hnew
  have hn : h w.heap.size = none := hsub.none
  obtain ⟨fz, hnew⟩ : ∃ fz, (Lib.bytesWorld w e (bs l)).heap[w.heap.size]? = some (.cells ((l.map fun x => vk .u8 (x.toNat : Nat)).toArray ++ Array.replicate (grownCap w l.length 0 e - l.length) (.int .u8 0)) e fz) := ⟨_, hnew⟩
  refine ⟨_, _, _, hr, ?_, ⟨rfl, rfl, rfl, by rw [Lib.bytesWorld_size]; omega, fun b hb hnb => ⟨Lib.bytesWorld_at_old w e (bs l) b hb, ?_⟩⟩, hK w.heap.size _ (Array.replicate (grownCap w l.length 0 e - l.length) (.int .u8 0)) fz hn (grownCap_ge w l.length 0 e)⟩
  · intro b o hb
    by_cases hbe : b = w.heap.size
    · subst hbe
      rw [Hp.set_same] at hb
      cases hb
      exact hnew
    · rw [Hp.set_other _ _ hbe] at hb
      have := hsub b o hb
      rw [Lib.bytesWorld_at_old w e (bs l) b (Array.getElem?_eq_some_iff.1 this).1]
      exact this
  · rw [Hp.set_other _ _ (by omega)]
    exact hnb
end

/-- Boxes of the call's own (bx) beside what changes (F). -/
structure Bes (F : Nat → Prop) (h : Hp) (F' : Nat → Prop) (h' bx : Hp) : Prop where
  m : Mut F h F' h'
  al : ∀ b, F' b → h' b ≠ none
  x : bx.le h'
  n : ∀ b o, bx b = some o → (h b = none ∨ F b) ∧ ¬ F' b
section
variable {F F' F2 : Nat → Prop} {h h' h2 bx : Hp}
theorem Bes.start (al : ∀ b, F b → h b ≠ none) : Bes F h F h (fun _ => none) := ⟨Mut.of_le (Hp.le_refl h), al, (fun b o ho => by cases ho), (fun b o ho => by cases ho)⟩
theorem Bes.call (S : Bes F h F' h' bx) (M : Mut F' h' F2 h2) (al : ∀ b, F2 b → h2 b ≠ none) : Bes F h F2 h2 bx :=
  ⟨S.m.trans M, al, (fun b o ho => M.keep b o (S.n b o ho).2 (S.x b o ho)), (fun b o ho => ⟨(S.n b o ho).1, fun hf => by
    rcases M.new b hf with h1 | h1
    · exact (S.n b o ho).2 h1
    · rw [S.x b o ho] at h1; cases h1⟩)⟩
theorem Bes.grow (S : Bes F h F' h' bx) (l : h'.le h2) : Bes F h F' h2 bx := S.call (Mut.of_le l) (fun b hb e => by
  cases e2 : h' b with
  | none => exact S.al b hb e2
  | some o => rw [l b o e2] at e; cases e)
theorem Bes.fresh (S : Bes F h F' h' bx) {b : Nat} (hb : h' b = none) : h b = none ∨ F b := by
  by_cases hf : F b
  · exact .inr hf
  · left
    cases e : h b with
    | none => rfl
    | some o => rw [S.m.keep b o hf e] at hb; cases hb
theorem Bes.alloc (S : Bes F h F' h' bx) {b : Nat} (hb : h' b = none) (o : Obj) : Bes F h F' (h'.set b o) (bx.set b o) := by
  refine ⟨(S.grow (Hp.le_set (Hp.le_refl h') hb o)).m, (S.grow (Hp.le_set (Hp.le_refl h') hb o)).al, ?_, ?_⟩
  · intro b2 o2 h2
    by_cases e : b2 = b
    · subst e; rw [Hp.set_same] at h2 ⊢; exact h2
    · rw [Hp.set_other _ _ e] at h2 ⊢; exact S.x b2 o2 h2
  · intro b2 o2 h2
    by_cases e : b2 = b
    · subst e; exact ⟨S.fresh hb, fun hf => S.al _ hf hb⟩
    · rw [Hp.set_other _ _ e] at h2; exact S.n b2 o2 h2
theorem Bes.keepA (S : Bes F h F' h' bx) {b b2 : Nat} {o o2 : Obj} (hx : bx b2 = some o2) (hb : h' b = none) : (bx.set b o) b2 = some o2 := by
  rw [Hp.set_other]
  · exact hx
  · intro e; subst e; rw [S.x _ _ hx] at hb; cases hb
theorem Bes.put (S : Bes F h F' h' bx) {b : Nat} {u v : Value} {t : TypeId} (hx : bx b = some (cellsO [u] t)) {K : Hp → Prop} (hK : Bes F h F' (h'.set b (cellsO [v] t)) (bx.set b (cellsO [v] t)) → K (h'.set b (cellsO [v] t))) : h'.store b 0 [v] K := by
  have hb := S.x b _ hx
  refine store_cells hb (by simp) ?_
  have e : setL [u] 0 [v] = [v] := rfl
  rw [e]
  have hn := S.n b _ hx
  refine hK ⟨⟨fun b2 o hf ho => ?_, S.m.new⟩, fun b2 hf => ?_, ?_, ?_⟩
  · rw [Hp.set_other]
    · exact S.m.keep b2 o hf ho
    · intro e; subst e
      rcases hn.1 with h1 | h1
      · rw [h1] at ho; cases ho
      · exact hf h1
  · by_cases e : b2 = b
    · subst e; rw [Hp.set_same]; simp
    · rw [Hp.set_other _ _ e]; exact S.al b2 hf
  · intro b2 o2 h2
    by_cases e : b2 = b
    · subst e; rw [Hp.set_same] at h2 ⊢; exact h2
    · rw [Hp.set_other _ _ e] at h2 ⊢; exact S.x b2 o2 h2
  · intro b2 o2 h2
    by_cases e : b2 = b
    · subst e; exact hn
    · rw [Hp.set_other _ _ e] at h2; exact S.n b2 o2 h2
theorem Bes.get (S : Bes F h F' h' bx) {b : Nat} {u : Value} {t : TypeId} (hx : bx b = some (cellsO [u] t)) : h'.cell b 0 = some u := cell_cells (S.x b _ hx) rfl
/-- What a change of F leaves: only what is told of, and what was there. -/
theorem Mut.trim (M : Mut F h F' h') : ∃ h2 : Hp, h2.le h' ∧ Mut F h F' h2 ∧ (∀ b, F' b → ∀ o, h' b = some o → h2 b = some o) ∧ ∀ b o, h2 b = some o → (¬ F b ∧ h b = some o) ∨ F' b := by
  classical
  refine ⟨fun b => if (¬ F b ∧ h b ≠ none) ∨ F' b then h' b else none, fun b o ho => ?_, ⟨fun b o hf ho => ?_, M.new⟩, fun b hf o ho => ?_, fun b o ho => ?_⟩
  · simp only at ho; split at ho
    · exact ho
    · cases ho
  · rw [if_pos (.inl ⟨hf, by rw [ho]; simp⟩)]; exact M.keep b o hf ho
  · show (if (¬ F b ∧ h b ≠ none) ∨ F' b then h' b else none) = some o
    rw [if_pos (Or.inr hf)]; exact ho
  · simp only at ho; split at ho
    · rename_i hc
      rcases hc with ⟨h1, h2⟩ | h1
      · left
        refine ⟨h1, ?_⟩
        cases e : h b with
        | none => exact absurd e h2
        | some o2 => rw [M.keep b o2 h1 e] at ho; exact ho
      · exact .inr h1
    · cases ho
theorem Rec.cells {h : Hp} {g : Nat} {t : TypeId} {fs : List Fld} (R : Rec h g t fs) {b : Nat} (hb : ftR g fs b) {o : Obj} (ho : h b = some o) : o.isCells = true := by
  rcases hb with rfl | ⟨j, f, hf, hb⟩
  · rw [R.blk] at ho; cases ho; rfl
  · have O := R.own j f hf
    cases f with
    | v x => exact hb.elim
    | s e sz a n c xs =>
      rcases O.2 with ⟨h1, _⟩ | ⟨g', cur, h1, h2, _⟩
      · have hb' : a = some ⟨b, 0, none⟩ := hb
        rw [h1] at hb'; cases hb'
      · have hb' : a = some ⟨b, 0, none⟩ := hb
        rw [h1] at hb'; cases hb'; rw [h2] at ho; cases ho; rfl
end
end Go.Vc
/-
  The framework, part Mp: maps with keys that are texts or numbers: made, filled, looked up. No program in sight. Conditions: none.
-/
namespace Go.Vc
open Go Go.MapKept
set_option linter.unusedVariables false

section
variable {P : Program} {h : Hp}
theorem sem_makeMap {T : TypeId} {K : Value → Hp → Prop} (hK : ∀ b, h b = none → K (.map (some b)) (h.set b (.map #[] 0))) : SemOK P (Instr.makeMap T none) h K := by
  intro w hs
  refine ⟨.map (some w.heap.size), _, _, ?_, Sub.pushSet hs _, Fr.pushSet h w _, hK _ hs.none⟩
  simp [Instr.makeMap, newObj, Sem.run_bind, Sem.run]
theorem run_getObj {w : World} {r : Nat} {es : Array MapEntry} {c : Nat} (hb : w.heap[r]? = some (.map es c)) : (getObj r).run P w = .ok (.map es c) w := by simp [getObj, Sem.run, hb]
theorem Sub.mapSet {w : World} (hs : Sub h w) {b : Nat} {o o' : Obj} (hb : h b = some o) : Sub (h.set b o') { w with heap := w.heap.setIfInBounds b o' } ∧ Fr h (h.set b o') w { w with heap := w.heap.setIfInBounds b o' } := by
  have hw := hs b _ hb
  obtain ⟨k1, k2⟩ := heap_set (o' := o') hw
  refine ⟨fun c oc hc => ?_, ⟨rfl, rfl, rfl, by simp, fun c hc hn => ?_⟩⟩
  · by_cases e : c = b
    · subst e; rw [Hp.set_same] at hc; cases hc; exact k1
    · rw [Hp.set_other _ _ e] at hc; exact (k2 c e).trans (hs c oc hc)
  · have e : c ≠ b := fun e => by subst e; rw [hn] at hb; cases hb
    exact ⟨k2 c e, by rw [Hp.set_other _ _ e]; exact hn⟩
/-- A key that is not there yet is put in. -/
theorem sem_mapNew {T k e : TypeId} {d : TypeDesc} (hT : P.underlying T = some (.map k e)) (hd : P.underlying k = some d) {b : Nat} {es : Array MapEntry} {clock : Nat} (hb : h b = some (.map es clock)) {key v : Value} (hk : IsKey d key) (hf : Instr.findNow d key es.toList 0 = some none) {K : Hp → Prop}
    (hK : K (h.set b (.map (es.push { key := key, val := v, born := clock }) (clock + 1)))) : SemOKu P (Instr.mapUpdate T (.map (some b)) key v) h K := by
  intro w hs
  have hw := hs b _ hb
  obtain ⟨k1, k2⟩ := hs.mapSet (o' := .map (es.push { key := key, val := v, born := clock }) (clock + 1)) hb
  refine ⟨_, _, ?_, k1, k2, hK⟩
  simp only [Instr.mapUpdate, Sem.run_bind, run_underlying hT, Result.andThen_ok, run_getObj hw, run_checkKey hd hk, run_findKey hd hf, run_setObj_map _ hw]
/-- A key that is there is looked up. -/
theorem rd_lookup {T k e : TypeId} {d : TypeDesc} (hT : P.underlying T = some (.map k e)) (hd : P.underlying k = some d) {b : Nat} {es : Array MapEntry} {clock : Nat} (hb : h b = some (.map es clock)) {key v : Value} (hk : IsKey d key) {i : Nat} (hf : Instr.findNow d key es.toList 0 = some (some (i, v))) : Rd P (Instr.lookup T (.map (some b)) key false) h v := by
  intro w hs
  have hw := hs b _ hb
  simp only [Instr.lookup, Sem.run_bind, run_underlying hT, Result.andThen_ok, run_getObj hw, run_checkKey hd hk, run_findKey hd hf, Sem.run_pure]
  rfl
end
end Go.Vc
/-
  What functions of the program ask, in words: each is what the framework reckons from the loaded code (the kernel holds the two together), and gives the function's call. Conditions: none.
-/
namespace Go.Proofs.YtonlacplogbodaaGreatDoor
open Go Go.Vc
set_option maxRecDepth 100000
set_option linter.unusedVariables false
/-- What 'penstock/expr.Arity' asks. -/
def VC_expr_Arity (u_op : Int) (h : Hp) (R : Value → Hp → Prop) : Prop :=
  (((bif (decide ((u_op : Int) = 1)) then true else (decide ((u_op : Int) = 2))) = true → R (vi 0) h) ∧ ((bif (decide ((u_op : Int) = 1)) then true else (decide ((u_op : Int) = 2))) = false → (((bif (bif (decide ((u_op : Int) = 3)) then true else (decide ((u_op : Int) = 4))) then true else (decide ((u_op : Int) = 5))) = true → R (vi 1) h) ∧ ((bif (bif (decide ((u_op : Int) = 3)) then true else (decide ((u_op : Int) = 4))) then true else (decide ((u_op : Int) = 5))) = false → (((bif (decide ((u_op : Int) ≥ 6)) then (decide ((u_op : Int) ≤ 12)) else false) = true → R (vi 2) h) ∧ ((bif (decide ((u_op : Int) ≥ 6)) then (decide ((u_op : Int) ≤ 12)) else false) = false → R (vi (-1)) h))))))
theorem ok_expr_Arity {u_op : Int} {h : Hp} {R : Value → Hp → Prop} (H : VC_expr_Arity u_op h R) : CallOK Tryz.prog 67 [(vi u_op)] h R :=
  call_of (cfg := ⟨[], [], []⟩) noNG mixed Tryz.func67 [.one (.v (vi u_op))] (by kernel_rfl) rfl (by kernel_rfl) H

/-- What 'penstock/expr.join' asks. -/
def VC_expr_join (u_a : Int) (u_b : Int) (h : Hp) (R : Value → Hp → Prop) : Prop :=
  (((decide ((u_a : Int) = 0)) = true → R (vtup [(vi u_b), (vb true)]) h) ∧ ((decide ((u_a : Int) = 0)) = false → (let J3 : Bool → Prop := fun (p4 : Bool) => ((p4 = true → R (vtup [(vi u_a), (vb true)]) h) ∧ (p4 = false → R (vtup [(vi 0), (vb false)]) h)); (((decide ((u_b : Int) = 0)) = true → (J3 (decide ((u_b : Int) = 0)))) ∧ ((decide ((u_b : Int) = 0)) = false → (J3 (decide ((u_a : Int) = u_b))))))))
theorem ok_expr_join {u_a : Int} {u_b : Int} {h : Hp} {R : Value → Hp → Prop} (H : VC_expr_join u_a u_b h R) : CallOK Tryz.prog 68 [(vi u_a), (vi u_b)] h R :=
  call_of (cfg := ⟨[], [], []⟩) noNG mixed Tryz.func68 [.one (.v (vi u_a)), .one (.v (vi u_b))] (by kernel_rfl) rfl (by kernel_rfl) H

/-- What 'penstock/expr.Type' asks. -/
def VC_expr_Type (u_la : Option Addr) (u_ln u_lc : Nat) (h : Hp) (R : Value → Hp → Prop) : Prop :=
  (SemOK Tryz.prog (Instr.makeSlice 68 (vi ((u_ln : Nat) : Int)) (vi ((u_ln : Nat) : Int))) h fun v1 h2 => ∃ (a3 : Option Addr) (n3 c3 : Nat), v1 = (vsl a3 n3 c3) ∧ (∃ (I5 : List Value → Hp → Prop) (m6 : List Value → Hp → Nat), I5 [(vi 0)] h2 ∧ ∀ (vs7 : List Value) (h8 : Hp), I5 vs7 h8 → ∃ (x9 : Int), vs7 = [(vi x9)] ∧ (((decide ((x9 : Int) < ((u_ln : Nat) : Int))) = true → (let J95 : Hp → Prop := fun (h96 : Hp) => (∃ (x97 : Int), (IsW x97 (x9 + 1)) ∧ (I5 [(vi x97)] h96 ∧ m6 [(vi x97)] h96 < m6 vs7 h8)); (∃ (b12 o13 : Nat), (u_la = some ⟨b12, o13, none⟩ ∧ (0 : Int) ≤ x9 ∧ x9 < ((u_ln : Nat) : Int)) ∧ (∃ (x14 : Int) (x15 : Int) (x16 : Int) (x17 : Int) (x18 : Int) (x19 : Int), (Hp.row h8 b12 (o13 + x9.toNat * 6) 6 = some [(vi x14), (vi x15), (vi x16), (vi x17), (vi x18), (vi x19)]) ∧ (let J39 : Int → Prop := fun (x60 : Int) => (CallOK Tryz.prog 67 [(vi x14)] h8 fun v61 h62 => ∃ (x63 : Int), v61 = (vi x63) ∧ (∀ (b64 : Nat), h62 b64 = none → let h65 : Hp := Hp.set h62 b64 (cellsO [(vi x15), (vi x16)] 3); (∃ (a66 : Option Addr) (n66 c66 : Nat), (Rd Tryz.prog (Instr.sliceAt 68 (vsl (some (⟨b64, 0, none⟩ : Addr)) 2 2) none (some (vi x63)) none) h65 (vsl a66 n66 c66)) ∧ (∃ (I68 : List Value → Hp → Prop) (m69 : List Value → Hp → Nat), I68 [(vi 0)] h65 ∧ ∀ (vs70 : List Value) (h71 : Hp), I68 vs70 h71 → ∃ (x72 : Int), vs70 = [(vi x72)] ∧ (((decide ((x72 : Int) < ((n66 : Nat) : Int))) = true → (∃ (b75 o76 : Nat), (a66 = some ⟨b75, o76, none⟩ ∧ (0 : Int) ≤ x72 ∧ x72 < ((n66 : Nat) : Int)) ∧ (∃ (x77 : Int), (Hp.cell h71 b75 (o76 + x72.toNat * 1) = some (vi x77)) ∧ (∃ (b78 o79 : Nat), (a3 = some ⟨b78, o79, none⟩ ∧ (0 : Int) ≤ x77 ∧ x77 < ((n3 : Nat) : Int)) ∧ (∃ (x80 : Int), (Hp.cell h71 b78 (o79 + x77.toNat * 1) = some (vi x80)) ∧ (CallOK Tryz.prog 68 [(vi x60), (vi x80)] h71 fun v81 h82 => ∃ (x83 : Int) (p84 : Bool), v81 = (vtup [(vi x83), (vb p84)]) ∧ (((!p84) = true → R (vtup [(vi 0), (ifv (some (44, (vi 3))))]) h82) ∧ ((!p84) = false → (∃ (x86 : Int), (IsW x86 (x72 + 1)) ∧ (I68 [(vi x86)] h82 ∧ m69 [(vi x86)] h82 < m69 vs70 h71)))))))))) ∧ ((decide ((x72 : Int) < ((n66 : Nat) : Int))) = false → (∃ (b87 o88 : Nat), (a3 = some ⟨b87, o88, none⟩ ∧ (0 : Int) ≤ x9 ∧ x9 < ((n3 : Nat) : Int)) ∧ (Hp.store h71 b87 (o88 + x9.toNat * 1) [(vi x60)] fun h89 => (((bif (decide ((x14 : Int) = 11)) then true else (decide ((x14 : Int) = 12))) = true → (∃ (b90 o91 : Nat), (a3 = some ⟨b90, o91, none⟩ ∧ (0 : Int) ≤ x9 ∧ x9 < ((n3 : Nat) : Int)) ∧ (Hp.store h89 b90 (o91 + x9.toNat * 1) [(vi 2)] fun h92 => (J95 h92)))) ∧ ((bif (decide ((x14 : Int) = 11)) then true else (decide ((x14 : Int) = 12))) = false → (J95 h89))))))))))); (((decide ((x14 : Int) = 1)) = true → (∃ (b20 o21 : Nat), (a3 = some ⟨b20, o21, none⟩ ∧ (0 : Int) ≤ x9 ∧ x9 < ((n3 : Nat) : Int)) ∧ (Hp.store h8 b20 (o21 + x9.toNat * 1) [(vi x18)] fun h22 => (J95 h22)))) ∧ ((decide ((x14 : Int) = 1)) = false → (((decide ((x14 : Int) = 2)) = true → (∃ (b24 o25 : Nat), (a3 = some ⟨b24, o25, none⟩ ∧ (0 : Int) ≤ x9 ∧ x9 < ((n3 : Nat) : Int)) ∧ (Hp.store h8 b24 (o25 + x9.toNat * 1) [(vi 1)] fun h26 => (J95 h26)))) ∧ ((decide ((x14 : Int) = 2)) = false → (((decide ((x14 : Int) = 5)) = true → (∃ (b28 o29 : Nat), (a3 = some ⟨b28, o29, none⟩ ∧ (0 : Int) ≤ x9 ∧ x9 < ((n3 : Nat) : Int)) ∧ (Hp.store h8 b28 (o29 + x9.toNat * 1) [(vi 2)] fun h30 => (J95 h30)))) ∧ ((decide ((x14 : Int) = 5)) = false → (let J35 : Bool → Prop := fun (p36 : Bool) => ((p36 = true → (J39 2)) ∧ (p36 = false → (J39 1))); (((decide ((x14 : Int) = 4)) = true → (J35 (decide ((x14 : Int) = 4)))) ∧ ((decide ((x14 : Int) = 4)) = false → (((decide ((x14 : Int) = 9)) = true → (J35 (decide ((x14 : Int) = 9)))) ∧ ((decide ((x14 : Int) = 9)) = false → (J35 (decide ((x14 : Int) = 10))))))))))))))))))) ∧ ((decide ((x9 : Int) < ((u_ln : Nat) : Int))) = false → (∃ (x98 : Int), (IsW x98 (((n3 : Nat) : Int) - 1)) ∧ (∃ (b99 o100 : Nat), (a3 = some ⟨b99, o100, none⟩ ∧ (0 : Int) ≤ x98 ∧ x98 < ((n3 : Nat) : Int)) ∧ (∃ (x101 : Int), (Hp.cell h8 b99 (o100 + x98.toNat * 1) = some (vi x101)) ∧ R (vtup [(vi x101), (ifv none)]) h8)))))))
theorem ok_expr_Type {u_la : Option Addr} {u_ln u_lc : Nat} {h : Hp} {R : Value → Hp → Prop} (H : VC_expr_Type u_la u_ln u_lc h R) : CallOK Tryz.prog 40 [(vsl u_la u_ln u_lc)] h R :=
  call_of (cfg := ⟨[], [(18, ([56], [.one (.int .i64)], [])), (3, ([17], [.one (.int .i64)], []))], [(17, [0, 1, 2, 3, 5, 6, 10, 7, 4, 8, 9])]⟩) noNG mixed Tryz.func40 [.one (.v (vsl u_la u_ln u_lc))] (by kernel_rfl) rfl (by kernel_rfl) H

/-- What 'penstock/expr.Cut' asks. -/
def VC_expr_Cut (u_la : Option Addr) (u_ln u_lc : Nat) (u_end : Int) (h : Hp) (R : Value → Hp → Prop) : Prop :=
  (∃ (b1 o2 : Nat), (u_la = some ⟨b1, o2, none⟩ ∧ (0 : Int) ≤ u_end ∧ u_end < ((u_ln : Nat) : Int)) ∧ (∃ (x3 : Int), (Hp.cell h b1 (o2 + u_end.toNat * 6) = some (vi x3)) ∧ (CallOK Tryz.prog 67 [(vi x3)] h fun v4 h5 => ∃ (x6 : Int), v4 = (vi x6) ∧ (∃ (I8 : List Value → Hp → Prop) (m9 : List Value → Hp → Nat), I8 [(vi u_end), (vi x6)] h5 ∧ ∀ (vs10 : List Value) (h11 : Hp), I8 vs10 h11 → ∃ (x12 : Int) (x13 : Int), vs10 = [(vi x12), (vi x13)] ∧ (((decide ((x13 : Int) > 0)) = true → (∃ (x16 : Int), (IsW x16 (x12 - 1)) ∧ (∃ (b17 o18 : Nat), (u_la = some ⟨b17, o18, none⟩ ∧ (0 : Int) ≤ x16 ∧ x16 < ((u_ln : Nat) : Int)) ∧ (∃ (x19 : Int), (Hp.cell h11 b17 (o18 + x16.toNat * 6) = some (vi x19)) ∧ (CallOK Tryz.prog 67 [(vi x19)] h11 fun v20 h21 => ∃ (x22 : Int), v20 = (vi x22) ∧ (∃ (x23 : Int), (IsW x23 (x22 - 1)) ∧ (∃ (x24 : Int), (IsW x24 (x13 + x23)) ∧ (I8 [(vi x16), (vi x24)] h21 ∧ m9 [(vi x16), (vi x24)] h21 < m9 vs10 h11)))))))) ∧ ((decide ((x13 : Int) > 0)) = false → (∃ (x25 : Int), (IsW x25 (u_end + 1)) ∧ (∃ (a26 : Option Addr) (n26 c26 : Nat), (Rd Tryz.prog (Instr.sliceAt 23 (vsl u_la u_ln u_lc) (some (vi x12)) (some (vi x25)) none) h11 (vsl a26 n26 c26)) ∧ (CallOK Tryz.prog 103 [(vsl a26 n26 c26)] h11 fun v27 h28 => ∃ (a29 : Option Addr) (n29 c29 : Nat), v27 = (vsl a29 n29 c29) ∧ (∃ (I31 : List Value → Hp → Prop) (m32 : List Value → Hp → Nat), I31 [(vi 0)] h28 ∧ ∀ (vs33 : List Value) (h34 : Hp), I31 vs33 h34 → ∃ (x35 : Int), vs33 = [(vi x35)] ∧ (((decide ((x35 : Int) < ((n29 : Nat) : Int))) = true → (let J70 : Hp → Prop := fun (h71 : Hp) => (∃ (x72 : Int), (IsW x72 (x35 + 1)) ∧ (I31 [(vi x72)] h71 ∧ m32 [(vi x72)] h71 < m32 vs33 h34)); (∃ (b38 o39 : Nat), (a29 = some ⟨b38, o39, none⟩ ∧ (0 : Int) ≤ x35 ∧ x35 < ((n29 : Nat) : Int)) ∧ (∃ (x40 : Int), (Hp.cell h34 b38 (o39 + x35.toNat * 6) = some (vi x40)) ∧ (CallOK Tryz.prog 67 [(vi x40)] h34 fun v41 h42 => ∃ (x43 : Int), v41 = (vi x43) ∧ (let J53 : Hp → Prop := fun (h54 : Hp) => (∃ (b55 o56 : Nat), (a29 = some ⟨b55, o56, none⟩ ∧ (0 : Int) ≤ x35 ∧ x35 < ((n29 : Nat) : Int)) ∧ (∃ (x57 : Int), (Hp.cell h54 b55 (o56 + x35.toNat * 6) = some (vi x57)) ∧ (CallOK Tryz.prog 67 [(vi x57)] h54 fun v58 h59 => ∃ (x60 : Int), v58 = (vi x60) ∧ (((decide ((x60 : Int) > 1)) = true → (∃ (b61 o62 : Nat), (a29 = some ⟨b61, o62, none⟩ ∧ (0 : Int) ≤ x35 ∧ x35 < ((n29 : Nat) : Int)) ∧ (∃ (x63 : Int), (Hp.cell h59 b61 ((o62 + x35.toNat * 6) + 2) = some (vi x63)) ∧ (∃ (x64 : Int), (IsW x64 (x63 - x12)) ∧ (∃ (b65 o66 : Nat), (a29 = some ⟨b65, o66, none⟩ ∧ (0 : Int) ≤ x35 ∧ x35 < ((n29 : Nat) : Int)) ∧ (Hp.store h59 b65 ((o66 + x35.toNat * 6) + 2) [(vi x64)] fun h67 => (J70 h67))))))) ∧ ((decide ((x60 : Int) > 1)) = false → (J70 h59)))))); (((decide ((x43 : Int) > 0)) = true → (∃ (b44 o45 : Nat), (a29 = some ⟨b44, o45, none⟩ ∧ (0 : Int) ≤ x35 ∧ x35 < ((n29 : Nat) : Int)) ∧ (∃ (x46 : Int), (Hp.cell h42 b44 ((o45 + x35.toNat * 6) + 1) = some (vi x46)) ∧ (∃ (x47 : Int), (IsW x47 (x46 - x12)) ∧ (∃ (b48 o49 : Nat), (a29 = some ⟨b48, o49, none⟩ ∧ (0 : Int) ≤ x35 ∧ x35 < ((n29 : Nat) : Int)) ∧ (Hp.store h42 b48 ((o49 + x35.toNat * 6) + 1) [(vi x47)] fun h50 => (J53 h50))))))) ∧ ((decide ((x43 : Int) > 0)) = false → (J53 h42))))))))) ∧ ((decide ((x35 : Int) < ((n29 : Nat) : Int))) = false → R (vsl a29 n29 c29) h34))))))))))))
/-- What 'penstock/expr.Join' asks. -/
def VC_expr_Join (u_op : Int) (u_xa : Option Addr) (u_xn u_xc : Nat) (u_ya : Option Addr) (u_yn u_yc : Nat) (h : Hp) (R : Value → Hp → Prop) : Prop :=
  (CallOK Tryz.prog 103 [(vsl u_xa u_xn u_xc)] h fun v1 h2 => ∃ (a3 : Option Addr) (n3 c3 : Nat), v1 = (vsl a3 n3 c3) ∧ (∃ (x4 : Int), (IsW x4 (((u_xn : Nat) : Int) - 1)) ∧ (∃ (I6 : List Value → Hp → Prop) (m7 : List Value → Hp → Nat), I6 [(vsl a3 n3 c3), (vi 0)] h2 ∧ ∀ (vs8 : List Value) (h9 : Hp), I6 vs8 h9 → ∃ (a10 : Option Addr) (n10 c10 : Nat) (x11 : Int), vs8 = [(vsl a10 n10 c10), (vi x11)] ∧ (((decide ((x11 : Int) < ((u_yn : Nat) : Int))) = true → (∃ (b14 o15 : Nat), (u_ya = some ⟨b14, o15, none⟩ ∧ (0 : Int) ≤ x11 ∧ x11 < ((u_yn : Nat) : Int)) ∧ (∃ (x16 : Int) (x17 : Int) (x18 : Int) (x19 : Int) (x20 : Int) (x21 : Int), (Hp.row h9 b14 (o15 + x11.toNat * 6) 6 = some [(vi x16), (vi x17), (vi x18), (vi x19), (vi x20), (vi x21)]) ∧ (CallOK Tryz.prog 67 [(vi x16)] h9 fun v22 h23 => ∃ (x24 : Int), v22 = (vi x24) ∧ (let J28 : Int → Prop := fun (x38 : Int) => (CallOK Tryz.prog 67 [(vi x16)] h23 fun v39 h40 => ∃ (x41 : Int), v39 = (vi x41) ∧ (let J45 : Int → Prop := fun (x48 : Int) => (∀ (b49 : Nat), h40 b49 = none → let h50 : Hp := Hp.set h40 b49 (cellsO [(vi x16), (vi x38), (vi x48), (vi x19), (vi x20), (vi x21)] 82); (SemOK Tryz.prog (Builtin.append_ #[23, 23] 23 #[(vsl a10 n10 c10), (vsl (some (⟨b49, 0, none⟩ : Addr)) 1 1)]) h50 fun v51 h52 => ∃ (a53 : Option Addr) (n53 c53 : Nat), v51 = (vsl a53 n53 c53) ∧ (∃ (x55 : Int), (IsW x55 (x11 + 1)) ∧ (I6 [(vsl a53 n53 c53), (vi x55)] h52 ∧ m7 [(vsl a53 n53 c53), (vi x55)] h52 < m7 vs8 h9)))); (((decide ((x41 : Int) > 1)) = true → (∃ (x42 : Int), (IsW x42 (x18 + ((u_xn : Nat) : Int))) ∧ (J45 x42))) ∧ ((decide ((x41 : Int) > 1)) = false → (J45 x18))))); (((decide ((x24 : Int) > 0)) = true → (∃ (x25 : Int), (IsW x25 (x17 + ((u_xn : Nat) : Int))) ∧ (J28 x25))) ∧ ((decide ((x24 : Int) > 0)) = false → (J28 x17)))))))) ∧ ((decide ((x11 : Int) < ((u_yn : Nat) : Int))) = false → (CallOK Tryz.prog 67 [(vi u_op)] h9 fun v56 h57 => ∃ (x58 : Int), v56 = (vi x58) ∧ (let J62 : Int → Prop := fun (x65 : Int) => (∀ (b66 : Nat), h57 b66 = none → let h67 : Hp := Hp.set h57 b66 (cellsO [(vi u_op), (vi x4), (vi x65), (vi 0), (vi 0), (vi 0)] 82); (SemOK Tryz.prog (Builtin.append_ #[23, 23] 23 #[(vsl a10 n10 c10), (vsl (some (⟨b66, 0, none⟩ : Addr)) 1 1)]) h67 fun v68 h69 => ∃ (a70 : Option Addr) (n70 c70 : Nat), v68 = (vsl a70 n70 c70) ∧ R (vsl a70 n70 c70) h69)); (((decide ((x58 : Int) > 1)) = true → (∃ (x59 : Int), (IsW x59 (((n10 : Nat) : Int) - 1)) ∧ (J62 x59))) ∧ ((decide ((x58 : Int) > 1)) = false → (J62 0))))))))))
theorem ok_expr_Join {u_op : Int} {u_xa : Option Addr} {u_xn u_xc : Nat} {u_ya : Option Addr} {u_yn u_yc : Nat} {h : Hp} {R : Value → Hp → Prop} (H : VC_expr_Join u_op u_xa u_xn u_xc u_ya u_yn u_yc h R) : CallOK Tryz.prog 88 [(vi u_op), (vsl u_xa u_xn u_xc), (vsl u_ya u_yn u_yc)] h R :=
  call_of (cfg := ⟨[], [(4, ([7, 20], [.one (.slice), .one (.int .i64)], []))], []⟩) noNG mixed Tryz.func88 [.one (.v (vi u_op)), .one (.v (vsl u_xa u_xn u_xc)), .one (.v (vsl u_ya u_yn u_yc))] (by kernel_rfl) rfl (by kernel_rfl) H

/-- What 'slices.Clone[[]penstock/api.Node,penstock/api.Node]' asks. -/
def VC_slices_Clone_api_Node_api_Node (u_sa : Option Addr) (u_sn u_sc : Nat) (h : Hp) (R : Value → Hp → Prop) : Prop :=
  (∃ (p1 : Bool), (Rd Tryz.prog ((eqGuard .eql 23 (.tmp 3) (.const (vsl none 0 0)) (vsl u_sa u_sn u_sc) (vsl none 0 0) >>= fun _ => binOp .eql 23 (vsl u_sa u_sn u_sc) (vsl none 0 0))) h (vb p1)) ∧ ((p1 = true → R (vsl none 0 0) h) ∧ (p1 = false → (∀ (b3 : Nat), h b3 = none → let h4 : Hp := Hp.set h b3 (cellsO [] 82); (SemOK Tryz.prog (Builtin.append_ #[23, 23] 23 #[(vsl (some (⟨b3, 0, none⟩ : Addr)) 0 0), (vsl u_sa u_sn u_sc)]) h4 fun v5 h6 => ∃ (a7 : Option Addr) (n7 c7 : Nat), v5 = (vsl a7 n7 c7) ∧ R (vsl a7 n7 c7) h6)))))
theorem ok_slices_Clone_api_Node_api_Node {u_sa : Option Addr} {u_sn u_sc : Nat} {h : Hp} {R : Value → Hp → Prop} (H : VC_slices_Clone_api_Node_api_Node u_sa u_sn u_sc h R) : CallOK Tryz.prog 103 [(vsl u_sa u_sn u_sc)] h R :=
  call_of (cfg := ⟨[], [], []⟩) noNG mixed Tryz.func103 [.one (.v (vsl u_sa u_sn u_sc))] (by kernel_rfl) rfl (by kernel_rfl) H

end Go.Proofs.YtonlacplogbodaaGreatDoor
/-
  What functions of the program ask, in words: each is what the framework reckons from the loaded code (the kernel holds the two together), and gives the function's call. Conditions: none.
-/
namespace Go.Proofs.YtonlacplogbodaaGreatDoor
open Go Go.Vc
set_option maxRecDepth 100000
set_option linter.unusedVariables false
/-- What 'penstock/penstockref.Arity' asks. -/
def VC_R_Arity (u_op : Int) (h : Hp) (R : Value → Hp → Prop) : Prop :=
  (((bif (decide ((u_op : Int) = 1)) then true else (decide ((u_op : Int) = 2))) = true → R (vi 0) h) ∧ ((bif (decide ((u_op : Int) = 1)) then true else (decide ((u_op : Int) = 2))) = false → (((bif (decide ((u_op : Int) ≥ 3)) then (decide ((u_op : Int) ≤ 5)) else false) = true → R (vi 1) h) ∧ ((bif (decide ((u_op : Int) ≥ 3)) then (decide ((u_op : Int) ≤ 5)) else false) = false → (((bif (decide ((u_op : Int) ≥ 6)) then (decide ((u_op : Int) ≤ 12)) else false) = true → R (vi 2) h) ∧ ((bif (decide ((u_op : Int) ≥ 6)) then (decide ((u_op : Int) ≤ 12)) else false) = false → R (vi (-1)) h))))))
theorem ok_R_Arity {u_op : Int} {h : Hp} {R : Value → Hp → Prop} (H : VC_R_Arity u_op h R) : CallOK Tryz.prog 63 [(vi u_op)] h R :=
  call_of (cfg := ⟨[], [], []⟩) noNG mixed Tryz.func63 [.one (.v (vi u_op))] (by kernel_rfl) rfl (by kernel_rfl) H

/-- What 'penstock/penstockref.ExprFault' asks. -/
def VC_R_ExprFault (u_la : Option Addr) (u_ln u_lc : Nat) (h : Hp) (R : Value → Hp → Prop) : Prop :=
  (((decide ((((u_ln : Nat) : Int) : Int) > 40)) = true → R (vi 2) h) ∧ ((decide ((((u_ln : Nat) : Int) : Int) > 40)) = false → (∃ (I3 : List Value → Hp → Prop) (m4 : List Value → Hp → Nat), I3 [(vsl none 0 0), (vi 0)] h ∧ ∀ (vs5 : List Value) (h6 : Hp), I3 vs5 h6 → ∃ (a7 : Option Addr) (n7 c7 : Nat) (x8 : Int), vs5 = [(vsl a7 n7 c7), (vi x8)] ∧ (((decide ((x8 : Int) < ((u_ln : Nat) : Int))) = true → (∃ (b11 o12 : Nat), (u_la = some ⟨b11, o12, none⟩ ∧ (0 : Int) ≤ x8 ∧ x8 < ((u_ln : Nat) : Int)) ∧ (∃ (x13 : Int) (x14 : Int) (x15 : Int) (x16 : Int) (x17 : Int) (x18 : Int), (Hp.row h6 b11 (o12 + x8.toNat * 6) 6 = some [(vi x13), (vi x14), (vi x15), (vi x16), (vi x17), (vi x18)]) ∧ (CallOK Tryz.prog 63 [(vi x13)] h6 fun v19 h20 => ∃ (x21 : Int), v19 = (vi x21) ∧ (((decide ((x21 : Int) < 0)) = true → R (vi 3) h20) ∧ ((decide ((x21 : Int) < 0)) = false → (((bif (bif (bif (bif (decide ((x13 : Int) ≠ 1)) then (bif (decide ((x17 : Int) ≠ 0)) then true else (decide ((x18 : Int) ≠ 0))) else false) then true else (bif (decide ((x13 : Int) ≠ 2)) then (decide ((x16 : Int) ≠ 0)) else false)) then true else (bif (decide ((x21 : Int) < 2)) then (decide ((x15 : Int) ≠ 0)) else false)) then true else (bif (decide ((x21 : Int) < 1)) then (decide ((x14 : Int) ≠ 0)) else false)) = true → R (vi 3) h20) ∧ ((bif (bif (bif (bif (decide ((x13 : Int) ≠ 1)) then (bif (decide ((x17 : Int) ≠ 0)) then true else (decide ((x18 : Int) ≠ 0))) else false) then true else (bif (decide ((x13 : Int) ≠ 2)) then (decide ((x16 : Int) ≠ 0)) else false)) then true else (bif (decide ((x21 : Int) < 2)) then (decide ((x15 : Int) ≠ 0)) else false)) then true else (bif (decide ((x21 : Int) < 1)) then (decide ((x14 : Int) ≠ 0)) else false)) = false → (((bif (decide ((x16 : Int) < 0)) then true else (decide ((x16 : Int) > 3))) = true → R (vi 1) h20) ∧ ((bif (decide ((x16 : Int) < 0)) then true else (decide ((x16 : Int) > 3))) = false → (CallOK Tryz.prog 64 [(vag [(vi x17), (vi x18)])] h20 fun v25 h26 => ∃ (x27 : Int), v25 = (vi x27) ∧ (((decide ((x27 : Int) > 0)) = true → R (vi 3) h26) ∧ ((decide ((x27 : Int) > 0)) = false → (∃ (x29 : Int), (IsW x29 (((n7 : Nat) : Int) - x21)) ∧ (∃ (b30 o31 : Nat), (((decide ((x29 : Int) < 0)) = false ∧ (decide ((x21 : Int) > 0)) = true) → (a7 = some ⟨b30, o31, none⟩ ∧ (0 : Int) ≤ x29 ∧ x29 < ((n7 : Nat) : Int))) ∧ (∃ (x32 : Int), (((decide ((x29 : Int) < 0)) = false ∧ (decide ((x21 : Int) > 0)) = true) → Hp.cell h26 b30 (o31 + x29.toNat * 1) = some (vi x32)) ∧ (∃ (x33 : Int), (((bif (decide ((x29 : Int) < 0)) then true else (bif (decide ((x21 : Int) > 0)) then (decide ((x32 : Int) ≠ x14)) else false)) = false ∧ (decide ((x21 : Int) > 1)) = true) → IsW x33 (x29 + 1)) ∧ (∃ (b34 o35 : Nat), (((bif (decide ((x29 : Int) < 0)) then true else (bif (decide ((x21 : Int) > 0)) then (decide ((x32 : Int) ≠ x14)) else false)) = false ∧ (decide ((x21 : Int) > 1)) = true) → (a7 = some ⟨b34, o35, none⟩ ∧ (0 : Int) ≤ x33 ∧ x33 < ((n7 : Nat) : Int))) ∧ (∃ (x36 : Int), (((bif (decide ((x29 : Int) < 0)) then true else (bif (decide ((x21 : Int) > 0)) then (decide ((x32 : Int) ≠ x14)) else false)) = false ∧ (decide ((x21 : Int) > 1)) = true) → Hp.cell h26 b34 (o35 + x33.toNat * 1) = some (vi x36)) ∧ (((bif (bif (decide ((x29 : Int) < 0)) then true else (bif (decide ((x21 : Int) > 0)) then (decide ((x32 : Int) ≠ x14)) else false)) then true else (bif (decide ((x21 : Int) > 1)) then (decide ((x36 : Int) ≠ x15)) else false)) = true → R (vi 3) h26) ∧ ((bif (bif (decide ((x29 : Int) < 0)) then true else (bif (decide ((x21 : Int) > 0)) then (decide ((x32 : Int) ≠ x14)) else false)) then true else (bif (decide ((x21 : Int) > 1)) then (decide ((x36 : Int) ≠ x15)) else false)) = false → (∃ (a38 : Option Addr) (n38 c38 : Nat), (Rd Tryz.prog (Instr.sliceAt 68 (vsl a7 n7 c7) none (some (vi x29)) none) h26 (vsl a38 n38 c38)) ∧ (SemOK Tryz.prog (Builtin.append_ #[68, 68] 68 #[(vsl none 0 0), (vsl a38 n38 c38)]) h26 fun v39 h40 => ∃ (a41 : Option Addr) (n41 c41 : Nat), v39 = (vsl a41 n41 c41) ∧ (∀ (b42 : Nat), h40 b42 = none → let h43 : Hp := Hp.set h40 b42 (cellsO [(vi x8)] 3); (SemOK Tryz.prog (Builtin.append_ #[68, 68] 68 #[(vsl a41 n41 c41), (vsl (some (⟨b42, 0, none⟩ : Addr)) 1 1)]) h43 fun v44 h45 => ∃ (a46 : Option Addr) (n46 c46 : Nat), v44 = (vsl a46 n46 c46) ∧ (∃ (x48 : Int), (IsW x48 (x8 + 1)) ∧ (I3 [(vsl a46 n46 c46), (vi x48)] h45 ∧ m4 [(vsl a46 n46 c46), (vi x48)] h45 < m4 vs5 h6))))))))))))))))))))))))))) ∧ ((decide ((x8 : Int) < ((u_ln : Nat) : Int))) = false → (((decide ((((n7 : Nat) : Int) : Int) ≠ 1)) = true → R (vi 3) h6) ∧ ((decide ((((n7 : Nat) : Int) : Int) ≠ 1)) = false → R (vi 0) h6)))))))
theorem ok_R_ExprFault {u_la : Option Addr} {u_ln u_lc : Nat} {h : Hp} {R : Value → Hp → Prop} (H : VC_R_ExprFault u_la u_ln u_lc h R) : CallOK Tryz.prog 37 [(vsl u_la u_ln u_lc)] h R :=
  call_of (cfg := ⟨[], [(5, ([3, 4], [.one (.slice), .one (.int .i64)], []))], [(18, [0, 1, 2, 3, 4, 5, 6, 7, 8, 9, 10, 11, 12, 13, 14, 15, 16, 17, 18, 19, 20, 21, 22, 23, 24, 25, 26, 27, 28])]⟩) noNG mixed Tryz.func37 [.one (.v (vsl u_la u_ln u_lc))] (by kernel_rfl) rfl (by kernel_rfl) H

/-- What 'penstock/penstockref.typeAt' asks. -/
def VC_R_typeAt (u_la : Option Addr) (u_ln u_lc : Nat) (u_at : Int) (h : Hp) (R : Value → Hp → Prop) : Prop :=
  (∃ (b1 o2 : Nat), (u_la = some ⟨b1, o2, none⟩ ∧ (0 : Int) ≤ u_at ∧ u_at < ((u_ln : Nat) : Int)) ∧ (∃ (x3 : Int) (x4 : Int) (x5 : Int) (x6 : Int) (x7 : Int) (x8 : Int), (Hp.row h b1 (o2 + u_at.toNat * 6) 6 = some [(vi x3), (vi x4), (vi x5), (vi x6), (vi x7), (vi x8)]) ∧ (((decide ((x3 : Int) = 1)) = true → R (vtup [(vi x7), (vb true)]) h) ∧ ((decide ((x3 : Int) = 1)) = false → (((decide ((x3 : Int) = 2)) = true → R (vtup [(vi 1), (vb true)]) h) ∧ ((decide ((x3 : Int) = 2)) = false → (CallOK Tryz.prog 65 [(vsl u_la u_ln u_lc), (vi x4)] h fun v11 h12 => ∃ (x13 : Int) (p14 : Bool), v11 = (vtup [(vi x13), (vb p14)]) ∧ (CallOK Tryz.prog 63 [(vi x3)] h12 fun v15 h16 => ∃ (x17 : Int), v15 = (vi x17) ∧ (let J24 : Int → Bool → Hp → Prop := fun (x34 : Int) (p35 : Bool) (h36 : Hp) => (((bif (!p14) then true else (!p35)) = true → R (vtup [(vi 0), (vb false)]) h36) ∧ ((bif (!p14) then true else (!p35)) = false → (((decide ((x3 : Int) = 5)) = true → R (vtup [(vi 2), (vb true)]) h36) ∧ ((decide ((x3 : Int) = 5)) = false → (let J41 : Int → Prop := fun (x42 : Int) => (((bif (bif (decide ((x13 : Int) ≠ 0)) then (decide ((x13 : Int) ≠ x42)) else false) then true else (bif (decide ((x34 : Int) ≠ 0)) then (decide ((x34 : Int) ≠ x42)) else false)) = true → R (vtup [(vi 0), (vb false)]) h36) ∧ ((bif (bif (decide ((x13 : Int) ≠ 0)) then (decide ((x13 : Int) ≠ x42)) else false) then true else (bif (decide ((x34 : Int) ≠ 0)) then (decide ((x34 : Int) ≠ x42)) else false)) = false → (let J46 : Int → Prop := fun (x47 : Int) => R (vtup [(vi x47), (vb true)]) h36; (((bif (decide ((x3 : Int) = 11)) then true else (decide ((x3 : Int) = 12))) = true → (J46 2)) ∧ ((bif (decide ((x3 : Int) = 11)) then true else (decide ((x3 : Int) = 12))) = false → (J46 x42)))))); (((bif (bif (decide ((x3 : Int) = 4)) then true else (decide ((x3 : Int) = 9))) then true else (decide ((x3 : Int) = 10))) = true → (J41 2)) ∧ ((bif (bif (decide ((x3 : Int) = 4)) then true else (decide ((x3 : Int) = 9))) then true else (decide ((x3 : Int) = 10))) = false → (J41 1)))))))); (((decide ((x17 : Int) = 2)) = true → (CallOK Tryz.prog 65 [(vsl u_la u_ln u_lc), (vi x5)] h16 fun v18 h19 => ∃ (x20 : Int) (p21 : Bool), v18 = (vtup [(vi x20), (vb p21)]) ∧ (J24 x20 p21 h19))) ∧ ((decide ((x17 : Int) = 2)) = false → (J24 x13 p14 h16))))))))))))
theorem ok_R_typeAt {u_la : Option Addr} {u_ln u_lc : Nat} {u_at : Int} {h : Hp} {R : Value → Hp → Prop} (H : VC_R_typeAt u_la u_ln u_lc u_at h R) : CallOK Tryz.prog 65 [(vsl u_la u_ln u_lc), (vi u_at)] h R :=
  call_of (cfg := ⟨[], [], []⟩) noNG mixed Tryz.func65 [.one (.v (vsl u_la u_ln u_lc)), .one (.v (vi u_at))] (by kernel_rfl) rfl (by kernel_rfl) H

/-- What 'penstock/penstockref.Type' asks. -/
def VC_R_Type (u_la : Option Addr) (u_ln u_lc : Nat) (h : Hp) (R : Value → Hp → Prop) : Prop :=
  (∃ (x1 : Int), (IsW x1 (((u_ln : Nat) : Int) - 1)) ∧ (CallOK Tryz.prog 65 [(vsl u_la u_ln u_lc), (vi x1)] h fun v2 h3 => ∃ (x4 : Int) (p5 : Bool), v2 = (vtup [(vi x4), (vb p5)]) ∧ (((!p5) = true → R (vtup [(vi 0), (vi 3)]) h3) ∧ ((!p5) = false → R (vtup [(vi x4), (vi 0)]) h3))))
theorem ok_R_Type {u_la : Option Addr} {u_ln u_lc : Nat} {h : Hp} {R : Value → Hp → Prop} (H : VC_R_Type u_la u_ln u_lc h R) : CallOK Tryz.prog 38 [(vsl u_la u_ln u_lc)] h R :=
  call_of (cfg := ⟨[], [], []⟩) noNG mixed Tryz.func38 [.one (.v (vsl u_la u_ln u_lc))] (by kernel_rfl) rfl (by kernel_rfl) H

end Go.Proofs.YtonlacplogbodaaGreatDoor
/-
  What functions of the program ask, in words: each is what the framework reckons from the loaded code (the kernel holds the two together), and gives the function's call. Conditions: none.
-/
namespace Go.Proofs.YtonlacplogbodaaGreatDoor
open Go Go.Vc
set_option maxRecDepth 100000
set_option linter.unusedVariables false
/-- What 'penstock/penstockref.Num' asks. -/
def VC_R_Num (u_n : Int) (h : Hp) (R : Value → Hp → Prop) : Prop :=
  (((bif (decide ((u_n : Int) < (-1000000000))) then true else (decide ((u_n : Int) > 1000000000))) = true → R (vag [(vi 0), (vi 0)]) h) ∧ ((bif (decide ((u_n : Int) < (-1000000000))) then true else (decide ((u_n : Int) > 1000000000))) = false → R (vag [(vi 1), (vi u_n)]) h))
theorem ok_R_Num {u_n : Int} {h : Hp} {R : Value → Hp → Prop} (H : VC_R_Num u_n h R) : CallOK Tryz.prog 78 [(vi u_n)] h R :=
  call_of (cfg := ⟨[], [], []⟩) noNG mixed Tryz.func78 [.one (.v (vi u_n))] (by kernel_rfl) rfl (by kernel_rfl) H

/-- What 'penstock/penstockref.Truth' asks. -/
def VC_R_Truth (u_is : Bool) (h : Hp) (R : Value → Hp → Prop) : Prop :=
  ((u_is = true → R (vag [(vi 2), (vi 1)]) h) ∧ (u_is = false → R (vag [(vi 2), (vi 0)]) h))
theorem ok_R_Truth {u_is : Bool} {h : Hp} {R : Value → Hp → Prop} (H : VC_R_Truth u_is h R) : CallOK Tryz.prog 96 [(vb u_is)] h R :=
  call_of (cfg := ⟨[], [], []⟩) noNG mixed Tryz.func96 [.one (.v (vb u_is))] (by kernel_rfl) rfl (by kernel_rfl) H

/-- What 'penstock/penstockref.Do' asks. -/
def VC_R_Do (u_op : Int) (u_aKind : Int) (u_aN : Int) (u_bKind : Int) (u_bN : Int) (h : Hp) (R : Value → Hp → Prop) : Prop :=
  (CallOK Tryz.prog 96 [(vb false)] h fun v1 h2 => ∃ (x3 : Int) (x4 : Int), v1 = (vag [(vi x3), (vi x4)]) ∧ (CallOK Tryz.prog 96 [(vb true)] h2 fun v5 h6 => ∃ (x7 : Int) (x8 : Int), v5 = (vag [(vi x7), (vi x8)]) ∧ (((decide ((u_op : Int) = 9)) = true → (∃ (p9 : Bool), (Rd Tryz.prog ((eqGuard .eql 80 (.tmp 13) (.tmp 14) (vag [(vi u_aKind), (vi u_aN)]) (vag [(vi x3), (vi x4)]) >>= fun _ => binOp .eql 80 (vag [(vi u_aKind), (vi u_aN)]) (vag [(vi x3), (vi x4)]))) h6 (vb p9)) ∧ (∃ (p10 : Bool), (p9 = false → Rd Tryz.prog ((eqGuard .eql 80 (.tmp 17) (.tmp 18) (vag [(vi u_bKind), (vi u_bN)]) (vag [(vi x3), (vi x4)]) >>= fun _ => binOp .eql 80 (vag [(vi u_bKind), (vi u_bN)]) (vag [(vi x3), (vi x4)]))) h6 (vb p10)) ∧ (((bif p9 then true else p10) = true → R (vag [(vi x3), (vi x4)]) h6) ∧ ((bif p9 then true else p10) = false → (((bif (decide ((u_aKind : Int) = 2)) then (decide ((u_bKind : Int) = 2)) else false) = true → R (vag [(vi x7), (vi x8)]) h6) ∧ ((bif (decide ((u_aKind : Int) = 2)) then (decide ((u_bKind : Int) = 2)) else false) = false → R (vag [(vi 0), (vi 0)]) h6))))))) ∧ ((decide ((u_op : Int) = 9)) = false → (((decide ((u_op : Int) = 10)) = true → (((bif (bif (decide ((u_aKind : Int) = 2)) then (decide ((u_aN : Int) ≠ 0)) else false) then true else (bif (decide ((u_bKind : Int) = 2)) then (decide ((u_bN : Int) ≠ 0)) else false)) = true → R (vag [(vi x7), (vi x8)]) h6) ∧ ((bif (bif (decide ((u_aKind : Int) = 2)) then (decide ((u_aN : Int) ≠ 0)) else false) then true else (bif (decide ((u_bKind : Int) = 2)) then (decide ((u_bN : Int) ≠ 0)) else false)) = false → (((bif (decide ((u_aKind : Int) = 2)) then (decide ((u_bKind : Int) = 2)) else false) = true → R (vag [(vi x3), (vi x4)]) h6) ∧ ((bif (decide ((u_aKind : Int) = 2)) then (decide ((u_bKind : Int) = 2)) else false) = false → R (vag [(vi 0), (vi 0)]) h6))))) ∧ ((decide ((u_op : Int) = 10)) = false → (((bif (decide ((u_aKind : Int) ≠ 1)) then true else (decide ((u_bKind : Int) ≠ 1))) = true → R (vag [(vi 0), (vi 0)]) h6) ∧ ((bif (decide ((u_aKind : Int) ≠ 1)) then true else (decide ((u_bKind : Int) ≠ 1))) = false → (((decide ((u_op : Int) = 6)) = true → (∃ (x18 : Int), (IsW x18 (u_aN + u_bN)) ∧ (CallOK Tryz.prog 78 [(vi x18)] h6 fun v19 h20 => ∃ (x21 : Int) (x22 : Int), v19 = (vag [(vi x21), (vi x22)]) ∧ R (vag [(vi x21), (vi x22)]) h20))) ∧ ((decide ((u_op : Int) = 6)) = false → (((decide ((u_op : Int) = 7)) = true → (∃ (x23 : Int), (IsW x23 (u_aN - u_bN)) ∧ (CallOK Tryz.prog 78 [(vi x23)] h6 fun v24 h25 => ∃ (x26 : Int) (x27 : Int), v24 = (vag [(vi x26), (vi x27)]) ∧ R (vag [(vi x26), (vi x27)]) h25))) ∧ ((decide ((u_op : Int) = 7)) = false → (((decide ((u_op : Int) = 8)) = true → (∃ (x28 : Int), (IsW x28 (u_aN * u_bN)) ∧ (CallOK Tryz.prog 78 [(vi x28)] h6 fun v29 h30 => ∃ (x31 : Int) (x32 : Int), v29 = (vag [(vi x31), (vi x32)]) ∧ R (vag [(vi x31), (vi x32)]) h30))) ∧ ((decide ((u_op : Int) = 8)) = false → (((decide ((u_op : Int) = 11)) = true → (CallOK Tryz.prog 96 [(vb (decide ((u_aN : Int) < u_bN)))] h6 fun v33 h34 => ∃ (x35 : Int) (x36 : Int), v33 = (vag [(vi x35), (vi x36)]) ∧ R (vag [(vi x35), (vi x36)]) h34)) ∧ ((decide ((u_op : Int) = 11)) = false → (((decide ((u_op : Int) = 12)) = true → (CallOK Tryz.prog 96 [(vb (decide ((u_aN : Int) = u_bN)))] h6 fun v37 h38 => ∃ (x39 : Int) (x40 : Int), v37 = (vag [(vi x39), (vi x40)]) ∧ R (vag [(vi x39), (vi x40)]) h38)) ∧ ((decide ((u_op : Int) = 12)) = false → R (vag [(vi 0), (vi 0)]) h6))))))))))))))))))
end Go.Proofs.YtonlacplogbodaaGreatDoor
/-
  Contracts: values, as the document has them. Conditions: none.
-/
namespace Go.Proofs.YtonlacplogbodaaGreatDoor
open Go Go.Vc
set_option linter.unusedVariables false

theorem R_Num_ok {n : Int} {h : Hp} {R : Value → Hp → Prop} (hK : R (vag (encV (numV n))) h) : CallOK Tryz.prog 78 [vi n] h R := by
  refine ok_R_Num ?_
  unfold VC_R_Num
  refine ⟨fun e => ?_, fun e => ?_⟩
  · simp [Bool.cond_eq_ite] at e
    have : numV n = (0, 0) := by unfold numV; rw [if_pos (by omega)]
    rw [this] at hK
    exact hK
  · simp [Bool.cond_eq_ite] at e
    have : numV n = (1, n) := by unfold numV; rw [if_neg (by omega)]
    rw [this] at hK
    exact hK
theorem R_Truth_ok {b : Bool} {h : Hp} {R : Value → Hp → Prop} (hK : R (vag (encV (truthV b))) h) : CallOK Tryz.prog 96 [vb b] h R := by
  refine ok_R_Truth ?_
  unfold VC_R_Truth
  cases b with
  | true => exact ⟨fun _ => hK, fun e => by cases e⟩
  | false => exact ⟨fun e => by (cases e), fun _ => hK⟩
theorem or10 (a b : Int × Int) : doV 10 a b = if (a.1 = 2 ∧ a.2 ≠ 0) ∨ (b.1 = 2 ∧ b.2 ≠ 0) then (2, 1) else if a.1 = 2 ∧ b.1 = 2 then (2, 0) else (0, 0) := by
  obtain ⟨a1, a2⟩ := a
  obtain ⟨b1, b2⟩ := b
  unfold doV andV notV truthV
  by_cases h1 : a1 = 2 <;> by_cases h2 : b1 = 2 <;> by_cases h3 : a2 = 0 <;> by_cases h4 : b2 = 0 <;> simp [h1, h2, h3, h4]
end Go.Proofs.YtonlacplogbodaaGreatDoor
/-
  Nodes: how they lie. Conditions: none.
-/
namespace Go.Proofs.YtonlacplogbodaaGreatDoor
open Go Go.Vc
set_option linter.unusedVariables false
set_option maxRecDepth 100000

def encN (n : Nd) : List Value := [vi n.op, vi n.x, vi n.y, vi n.n, vi n.v.1, vi n.v.2]
theorem encN_len (n : Nd) : (encN n).length = 6 := rfl
theorem one_encN (n : Nd) : ∀ u ∈ encN n, u.oneCell' = true := by
  intro u hu
  simp [encN] at hu
  rcases hu with rfl | rfl | rfl | rfl | rfl | rfl <;> rfl
theorem one_nds (l : List Nd) : ∀ u ∈ l.flatMap encN, u.oneCell' = true := by
  intro u hu
  obtain ⟨v, _, hv⟩ := List.mem_flatMap.1 hu
  exact one_encN v u hv
theorem elNd : ElT Tryz.prog 23 82 6 48 := .of (by kernel_rfl) (by kernel_rfl) (by decide)
end Go.Proofs.YtonlacplogbodaaGreatDoor
/-
  Contracts: expressions, as the document has them. Conditions: those stated at each.
-/
namespace Go.Proofs.YtonlacplogbodaaGreatDoor
open Go Go.Vc
set_option linter.unusedVariables false
set_option maxRecDepth 100000

theorem R_Arity_ok {op : Int} {h : Hp} {R : Value → Hp → Prop} (hK : R (vi (arI op)) h) : CallOK Tryz.prog 63 [vi op] h R := by
  refine ok_R_Arity ?_
  unfold VC_R_Arity
  unfold arI at hK
  refine ⟨fun e => ?_, fun e => ⟨fun e2 => ?_, fun e2 => ⟨fun e3 => ?_, fun e3 => ?_⟩⟩⟩
  · rw [if_pos (by simp [Bool.cond_eq_ite] at e; omega)] at hK; exact hK
  · rw [if_neg (by simp [Bool.cond_eq_ite] at e; omega), if_pos (by simp [Bool.cond_eq_ite] at e2; omega)] at hK; exact hK
  · rw [if_neg (by simp [Bool.cond_eq_ite] at e; omega), if_neg (by simp [Bool.cond_eq_ite] at e2; omega), if_pos (by simp [Bool.cond_eq_ite] at e3; omega)] at hK; exact hK
  · rw [if_neg (by simp [Bool.cond_eq_ite] at e; omega), if_neg (by simp [Bool.cond_eq_ite] at e2; omega), if_neg (by simp [Bool.cond_eq_ite] at e3; omega)] at hK; exact hK
theorem ne_pair (v : Int × Int) : (v ≠ (0, 0)) = (v.1 ≠ 0 ∨ v.2 ≠ 0) := by
  refine propext ⟨fun h => ?_, fun h e => ?_⟩
  · by_cases h1 : v.1 = 0
    · by_cases h2 : v.2 = 0
      · exact absurd (Prod.ext h1 h2) h
      · exact .inr h2
    · exact .inl h1
  · rw [e] at h; simp at h
/-- A node takes its own: what is left, and what it took. -/
theorem popN_some {n : Nd} {st s : List Int} (ha : 0 ≤ arI n.op) (h : popN n st = some s) : (s.length : Int) = st.length - arI n.op ∧ st.reverse.take s.length = s.reverse := by
  unfold popN at h
  rcases arI_range ha with h1 | h1 | h1
  · rw [if_pos h1] at h
    cases h
    refine ⟨by omega, ?_⟩
    rw [List.take_of_length_le (by simp)]
  · rw [if_neg (by omega), if_pos h1] at h
    match st, h with
    | a :: t, h =>
      simp only at h
      split at h
      · cases h
        refine ⟨by simp; omega, ?_⟩
        rw [List.reverse_cons, List.take_left' (by simp)]
      · cases h
  · rw [if_neg (by omega), if_neg (by omega)] at h
    match st, h with
    | b :: a :: t, h =>
      simp only at h
      split at h
      · cases h
        refine ⟨by simp; omega, ?_⟩
        rw [List.reverse_cons, List.reverse_cons, List.append_assoc, List.take_left' (by simp)]
      · cases h
theorem chk_none {n : Nd} {l : List Nd} {st : List Int} {i : Nat} (h0 : nodeF n = 0) (h : popN n st = none) : chkGo st i (n :: l) = 3 := by
  rw [chkGo, if_neg (fun q => q h0), h]
theorem chk_some {n : Nd} {l : List Nd} {st s : List Int} {i : Nat} (h0 : nodeF n = 0) (h : popN n st = some s) : chkGo st i (n :: l) = chkGo (i :: s) (i + 1) l := by
  rw [chkGo, if_neg (fun q => q h0), h]
theorem chk_fault {n : Nd} {l : List Nd} {st : List Int} {i : Nat} {f : Int} (h0 : nodeF n = f) (hf : f ≠ 0) : chkGo st i (n :: l) = f := by
  rw [chkGo, if_pos (by rw [h0]; exact hf), h0]
theorem R_ExprFault_ok {a : Option Addr} {k c : Nat} {l : List Nd} {h : Hp} {R : Value → Hp → Prop} (S : SlP encN h a k l) (hK : ∀ h', h.le h' → R (vi (exprF l)) h') : CallOK Tryz.prog 37 [vsl a k c] h R := by
  refine ok_R_ExprFault ?_
  unfold VC_R_ExprFault
  have hk := S.1
  subst hk
  refine ⟨fun e => ?_, fun e => ?_⟩
  · have : exprF l = 2 := by unfold exprF; rw [if_pos (by have := of_decide_eq_true e; omega)]
    rw [this] at hK; exact hK h (Hp.le_refl h)
  have h40 : l.length ≤ 40 := by have := of_decide_eq_false e; omega
  have e1 : exprF l = chkGo [] 0 l := by unfold exprF; rw [if_neg (by omega)]
  rw [e1] at hK
  refine ⟨fun vs hh => ∃ (i : Nat) (a : Option Addr) (c : Nat) (st : List Int), vs = [vsl a st.length c, vi i] ∧ i ≤ l.length ∧ st.length ≤ i ∧ chkGo [] 0 l = chkGo st i (l.drop i) ∧ OwnV h hh 3 1 a st.length c (st.reverse.map vi), fun vs hh => l.length - (vint vs 1).toNat,
    ⟨0, none, 0, [], rfl, Nat.zero_le _, Nat.le_refl _, rfl, OwnV.nil (Hp.le_refl h) _ _⟩, ?_⟩
  rintro vs hh ⟨i, a1, c1, st, rfl, hi, hst, hc, O⟩
  refine ⟨_, _, _, _, rfl, fun q => ?_, fun q => ?_⟩
  · have hlt : i < l.length := by have := of_decide_eq_true q; omega
    have hx : l[i]? = some l[i] := List.getElem?_eq_getElem hlt
    rw [drop_get hlt] at hc
    obtain ⟨b, o, ha, hr⟩ := (S.le O.le).get encN_len (by decide) hx
    generalize l[i] = n at *
    refine ⟨b, o, ⟨ha, by omega, by omega⟩, _, _, _, _, _, _, hr, R_Arity_ok ⟨_, rfl, fun q2 => ?_, fun q2 => ⟨fun q3 => ?_, fun q3 => ⟨fun q4 => ?_, fun q4 => R_ValueFault_ok (v := n.v) ⟨_, rfl, fun q5 => ?_, fun q5 => ?_⟩⟩⟩⟩⟩
    · have hf : nodeF n = 3 := by unfold nodeF; rw [if_pos (of_decide_eq_true q2)]
      rw [chk_fault hf (by decide)] at hc
      rw [hc] at hK; exact hK hh O.le
    · have c2 : ¬ arI n.op < 0 := of_decide_eq_false q2
      simp only [cand, cor] at q3
      have c3 := of_decide_eq_true q3
      have hf : nodeF n = 3 := by unfold nodeF; rw [if_neg c2, if_pos (by rw [ne_pair]; omega)]
      rw [chk_fault hf (by decide)] at hc
      rw [hc] at hK; exact hK hh O.le
    · have c2 : ¬ arI n.op < 0 := of_decide_eq_false q2
      simp only [cand, cor] at q3 q4
      have c3 := of_decide_eq_false q3
      have c4 := of_decide_eq_true q4
      have hf : nodeF n = 1 := by unfold nodeF; rw [if_neg c2, if_neg (by rw [ne_pair]; omega), if_pos (by omega)]
      rw [chk_fault hf (by decide)] at hc
      rw [hc] at hK; exact hK hh O.le
    · have c2 : ¬ arI n.op < 0 := of_decide_eq_false q2
      simp only [cand, cor] at q3 q4
      have c3 := of_decide_eq_false q3
      have c4 := of_decide_eq_false q4
      have hf : nodeF n = 3 := by
        unfold nodeF; rw [if_neg c2, if_neg (by rw [ne_pair]; omega), if_neg (by omega), if_pos]
        intro hg
        rw [if_pos hg] at q5
        cases q5
      rw [chk_fault hf (by decide)] at hc
      rw [hc] at hK; exact hK hh O.le
    have c2 : ¬ arI n.op < 0 := of_decide_eq_false q2
    simp only [cand, cor] at q3 q4
    have c3 := of_decide_eq_false q3
    have c4 := of_decide_eq_false q4
    have hf : nodeF n = 0 := by
      unfold nodeF; rw [if_neg c2, if_neg (by rw [ne_pair]; omega), if_neg (by omega), if_neg]
      intro hg
      rw [if_neg hg] at q5
      cases q5
    have har : 0 ≤ arI n.op := by omega
    have SI : SlI hh a1 st.length st.reverse := by have := O.sli; exact this
    refine ⟨_, isW (by unfold InR; rcases arI_range har with h | h | h <;> omega), ?_⟩
    have hbad : popN n st = none → R (vi 3) hh := fun hp => by
      rw [chk_none hf hp] at hc
      rw [hc] at hK; exact hK hh O.le
    have hgood : ∀ s, popN n st = some s → ∀ x : Int, x = (st.length : Nat) - arI n.op → ∀ K : Value → Hp → Prop, (∀ (a46 : Option Addr) (n46 c46 : Nat) (h45 : Hp), OwnV h h45 3 1 a46 n46 c46 ((((i : Int) :: s).reverse).map vi) → n46 = s.length + 1 → K (vsl a46 n46 c46) h45) →
        ∃ (a38 : Option Addr) (n38 c38 : Nat), (Rd Tryz.prog (Instr.sliceAt 68 (vsl a1 st.length c1) none (some (vi x)) none) hh (vsl a38 n38 c38)) ∧ (SemOK Tryz.prog (Builtin.append_ #[68, 68] 68 #[(vsl none 0 0), (vsl a38 n38 c38)]) hh fun v39 h40 => ∃ (a41 : Option Addr) (n41 c41 : Nat), v39 = (vsl a41 n41 c41) ∧ (∀ (b42 : Nat), h40 b42 = none → SemOK Tryz.prog (Builtin.append_ #[68, 68] 68 #[(vsl a41 n41 c41), (vsl (some (⟨b42, 0, none⟩ : Addr)) 1 1)]) (Hp.set h40 b42 (cellsO [(vi i)] 3)) K)) := by
      intro s hs x hx K hK
      rw [hx]
      obtain ⟨p1, p2⟩ := popN_some har hs
      have hcap := O.own.cap
      rw [← p1]
      refine ⟨_, _, _, rd_slice_h (e := 3) (by kernel_rfl) (by kernel_rfl) (by omega) (by omega), ?_⟩
      rw [Int.toNat_natCast]
      have ST : SlI hh a1 s.length s.reverse := by
        have := SI.take (i := s.length) (by omega)
        rw [p2] at this
        exact this
      refine OwnV.append elInt (OwnV.nil O.le _ _) ST.2 (m := s.length) (by simp) (one_ints _) (by omega) (by omega) fun a' c' h' O' _ _ => ⟨_, _, _, rfl, fun b42 hb42 => ?_⟩
      rw [Nat.zero_add, List.nil_append] at *
      refine OwnV.append elInt (OwnV.set hb42 _ O') (HasRow.new _ _ [vi i] _) (m := 1) rfl (by simp [Value.oneCell']) (by omega) (by omega) fun a2 c2 h2 O2 _ _ => hK _ _ _ _ ?_ rfl
      rw [List.reverse_cons, List.map_append]
      exact O2
    have hnext : ∀ s, popN n st = some s → ∀ (a46 : Option Addr) (n46 c46 : Nat) (h45 : Hp), OwnV h h45 3 1 a46 n46 c46 ((((i : Int) :: s).reverse).map vi) → n46 = s.length + 1 → ∃ (x48 : Int), IsW x48 ((i : Int) + 1) ∧ (∃ (i' : Nat) (a : Option Addr) (c : Nat) (st : List Int), [vsl a46 n46 c46, vi x48] = [vsl a st.length c, vi i'] ∧ i' ≤ l.length ∧ st.length ≤ i' ∧ chkGo [] 0 l = chkGo st i' (l.drop i') ∧ OwnV h h45 3 1 a st.length c (st.reverse.map vi)) ∧ l.length - (vint [vsl a46 n46 c46, vi x48] 1).toNat < l.length - (vint [vsl a1 st.length c1, vi i] 1).toNat := by
      intro s hs a46 n46 c46 h45 O45 hn
      subst hn
      obtain ⟨p1, p2⟩ := popN_some har hs
      refine ⟨_, isW (by unfold InR; omega), ⟨i + 1, a46, c46, (i : Int) :: s, rfl, by omega, by simp; omega, ?_, O45⟩, by simp [vint]; omega⟩
      rw [hc, chk_some hf hs]
    rcases arI_range har with h0 | h0 | h0
    · have hs : popN n st = some st := by unfold popN; rw [if_pos h0]
      rw [h0]
      refine ⟨0, 0, fun g => (by cases g.2), 0, fun g => (by cases g.2), 0, fun g => (by cases g.2), 0, 0, fun g => (by cases g.2), 0, fun g => (by cases g.2), fun g => ?_, fun _ => hgood st hs _ (by rw [h0]) _ fun a46 n46 c46 h45 O e => ⟨_, _, _, rfl, hnext st hs a46 n46 c46 h45 O e⟩⟩
      exfalso
      simp only [cand, cor] at g
      have := of_decide_eq_true g
      omega
    · match st with
      | [] =>
        have hs : popN n [] = none := by unfold popN; rw [if_neg (by omega), if_pos h0]
        have := hbad hs
        rw [h0]
        exact ⟨0, 0, fun g => (by cases g.1), 0, fun g => (by cases g.1), 0, fun g => (by cases g.1), 0, 0, fun g => (by cases g.1), 0, fun g => (by cases g.1), fun _ => this, fun g => (by cases g)⟩
      | z :: s =>
        obtain ⟨q, p, hq, hcell⟩ := SI.get (i := s.length) (by simp)
        have ez : ((z :: s).reverse).getD s.length 0 = z := by
          rw [List.getD_eq_getElem?_getD, List.reverse_cons, List.getElem?_append_right (by simp)]
          simp
        rw [ez] at hcell
        have hx29 : (((z :: s).length : Nat) : Int) - arI n.op = (s.length : Nat) := by rw [h0]; simp
        by_cases hz : z = n.x
        · have hs : popN n (z :: s) = some s := by unfold popN; rw [if_neg (by omega), if_pos h0]; simp [hz]
          have hx30 := hx29
          rw [hx29, h0]
          refine ⟨q, p, fun g => ⟨hq, by omega, by simp; omega⟩, z, fun g => hcell, 0, fun g => (by cases g.2), 0, 0, fun g => (by cases g.2), 0, fun g => (by cases g.2), fun g => ?_, fun _ => hgood s hs _ hx30.symm _ fun a46 n46 c46 h45 O e => ⟨_, _, _, rfl, hnext s hs a46 n46 c46 h45 O e⟩⟩
          exfalso
          simp only [cand, cor] at g
          have := of_decide_eq_true g
          omega
        · have hs : popN n (z :: s) = none := by unfold popN; rw [if_neg (by omega), if_pos h0]; simp [hz]
          have := hbad hs
          rw [hx29, h0]
          refine ⟨q, p, fun g => ⟨hq, by omega, by simp; omega⟩, z, fun g => hcell, 0, fun g => (by cases g.2), 0, 0, fun g => (by cases g.2), 0, fun g => (by cases g.2), fun _ => this, fun g => ?_⟩
          exfalso
          simp only [cand, cor] at g
          have := of_decide_eq_false g
          omega
    · match st with
      | [] =>
        have hs : popN n [] = none := by unfold popN; rw [if_neg (by omega), if_neg (by omega)]
        have := hbad hs
        rw [h0]
        exact ⟨0, 0, fun g => (by cases g.1), 0, fun g => (by cases g.1), 0, fun g => (by cases g.1), 0, 0, fun g => (by cases g.1), 0, fun g => (by cases g.1), fun _ => this, fun g => (by cases g)⟩
      | [z] =>
        have hs : popN n [z] = none := by unfold popN; rw [if_neg (by omega), if_neg (by omega)]
        have := hbad hs
        rw [h0]
        exact ⟨0, 0, fun g => (by cases g.1), 0, fun g => (by cases g.1), 0, fun g => (by cases g.1), 0, 0, fun g => (by cases g.1), 0, fun g => (by cases g.1), fun _ => this, fun g => (by cases g)⟩
      | z :: y :: s =>
        obtain ⟨q, p, hq, hcell⟩ := SI.get (i := s.length) (by simp; omega)
        obtain ⟨q', p', hq', hcell'⟩ := SI.get (i := s.length + 1) (by simp)
        have ey : ((z :: y :: s).reverse).getD s.length 0 = y := by
          rw [List.getD_eq_getElem?_getD, List.reverse_cons, List.reverse_cons, List.append_assoc, List.getElem?_append_right (by simp)]
          simp
        have ez : ((z :: y :: s).reverse).getD (s.length + 1) 0 = z := by
          rw [List.getD_eq_getElem?_getD, List.reverse_cons, List.reverse_cons, List.append_assoc, List.getElem?_append_right (by simp)]
          simp
        rw [ey] at hcell
        rw [ez] at hcell'
        have hx29 : (((z :: y :: s).length : Nat) : Int) - arI n.op = (s.length : Nat) := by rw [h0]; simp; omega
        have hw : IsW (((s.length + 1 : Nat) : Int)) ((s.length : Nat) + 1) := isW (by have hst2 : (z :: y :: s).length ≤ i := hst; simp at hst2; unfold InR; omega)
        by_cases hz : y = n.x ∧ z = n.y
        · have hs : popN n (z :: y :: s) = some s := by unfold popN; rw [if_neg (by omega), if_neg (by omega)]; simp [hz.1, hz.2]
          have hx30 := hx29
          rw [hx29, h0]
          refine ⟨q, p, fun g => ⟨hq, by omega, by simp; omega⟩, y, fun g => hcell, ((s.length + 1 : Nat) : Int), fun g => hw, q', p', fun g => ⟨hq', by omega, by simp; omega⟩, z, fun g => hcell', fun g => ?_, fun _ => hgood s hs _ hx30.symm _ fun a46 n46 c46 h45 O e => ⟨_, _, _, rfl, hnext s hs a46 n46 c46 h45 O e⟩⟩
          exfalso
          simp only [cand, cor] at g
          have := of_decide_eq_true g
          omega
        · have hs : popN n (z :: y :: s) = none := by unfold popN; rw [if_neg (by omega), if_neg (by omega)]; simp; intro h1 h2; exact hz ⟨h1, h2⟩
          have := hbad hs
          rw [hx29, h0]
          refine ⟨q, p, fun g => ⟨hq, by omega, by simp; omega⟩, y, fun g => hcell, ((s.length + 1 : Nat) : Int), fun g => hw, q', p', fun g => ⟨hq', by omega, by simp; omega⟩, z, fun g => hcell', fun _ => this, fun g => ?_⟩
          exfalso
          simp only [cand, cor] at g
          have := of_decide_eq_false g
          omega
  · have hge : i = l.length := by have := of_decide_eq_false q; omega
    subst hge
    rw [List.drop_eq_nil_of_le (Nat.le_refl _), chkGo] at hc
    refine ⟨fun q2 => ?_, fun q2 => ?_⟩
    · rw [if_neg (by have := of_decide_eq_true q2; omega)] at hc
      rw [hc] at hK; exact hK hh O.le
    · rw [if_pos (by have := of_decide_eq_false q2; omega)] at hc
      rw [hc] at hK; exact hK hh O.le
end Go.Proofs.YtonlacplogbodaaGreatDoor
/-
  Contracts: package expr: Arity, Check. Conditions: those stated at each.
-/
namespace Go.Proofs.YtonlacplogbodaaGreatDoor
open Go Go.Vc
set_option linter.unusedVariables false
set_option maxRecDepth 100000

theorem expr_Arity_ok {op : Int} {h : Hp} {R : Value → Hp → Prop} (hK : R (vi (arI op)) h) : CallOK Tryz.prog 67 [vi op] h R := by
  refine ok_expr_Arity ?_
  unfold VC_expr_Arity
  unfold arI at hK
  refine ⟨fun e => ?_, fun e => ⟨fun e2 => ?_, fun e2 => ⟨fun e3 => ?_, fun e3 => ?_⟩⟩⟩
  all_goals simp only [cand, cor] at *
  · rw [if_pos (of_decide_eq_true e)] at hK; exact hK
  · rw [if_neg (of_decide_eq_false e), if_pos (by have := of_decide_eq_true e2; omega)] at hK; exact hK
  · rw [if_neg (of_decide_eq_false e), if_neg (by have := of_decide_eq_false e2; omega), if_pos (by have := of_decide_eq_true e3; omega)] at hK; exact hK
  · rw [if_neg (of_decide_eq_false e), if_neg (by have := of_decide_eq_false e2; omega), if_neg (by have := of_decide_eq_false e3; omega)] at hK; exact hK
end Go.Proofs.YtonlacplogbodaaGreatDoor
/-
  What functions of the program ask, in words: each is what the framework reckons from the loaded code (the kernel holds the two together), and gives the function's call. Conditions: none.
-/
namespace Go.Proofs.YtonlacplogbodaaGreatDoor
open Go Go.Vc
set_option maxRecDepth 100000
set_option linter.unusedVariables false
end Go.Proofs.YtonlacplogbodaaGreatDoor
/-
  Contracts: values of expressions, as the document has them. Conditions: that each node's own stand ahead of it.
-/
namespace Go.Proofs.YtonlacplogbodaaGreatDoor
open Go Go.Vc
set_option linter.unusedVariables false
set_option maxRecDepth 100000

section
variable {a : Option Addr} {m c : Nat} {l : List Nd} {h : Hp}
end
end Go.Proofs.YtonlacplogbodaaGreatDoor
/-
  Contracts: values and kinds of expressions, as the document has them. Conditions: that each node's own stand ahead of it.
-/
namespace Go.Proofs.YtonlacplogbodaaGreatDoor
open Go Go.Vc
set_option linter.unusedVariables false
set_option maxRecDepth 100000

section
variable {a : Option Addr} {m c : Nat} {l : List Nd} {h : Hp}
theorem tyG_some (op a b : Int) : tyG op (some a) (some b) = if op = 5 then some 2 else if (a ≠ 0 ∧ a ≠ wantT op) ∨ (b ≠ 0 ∧ b ≠ wantT op) then none else if op = 11 ∨ op = 12 then some 2 else some (wantT op) := rfl
/-- A kind, as it is told. -/
def tyOut : Option Int → Value
  | some t => vtup [vi t, vb true]
  | none => vtup [vi 0, vb false]
theorem R_typeAt_ok (S : SlP encN h a m l) (W : WfL l) : ∀ (k : Nat) (i : Int), i.toNat = k → 0 ≤ i → i < l.length → ∀ (R : Value → Hp → Prop), R (tyOut (tAt l i.toNat)) h → CallOK Tryz.prog 65 [vsl a m c, vi i] h R := by
  intro k
  induction k using Nat.strongRecOn with
  | _ k ih =>
    intro i hik h0 h1 R hK
    refine ok_R_typeAt ?_
    unfold VC_R_typeAt
    have hm := S.1
    have hx : l[i.toNat]? = some (l[i.toNat]'(by omega)) := List.getElem?_eq_getElem (by omega)
    have Wn := W _ _ hx
    have hv : tAt l i.toNat = _ := fAt_wf own_tyF hx Wn
    rw [hv] at hK
    clear hv
    obtain ⟨b, o, ha, hr⟩ := S.get encN_len (by decide) hx
    generalize l[i.toNat]'(by omega) = n at *
    have hX : 1 ≤ arI n.op → ∀ (R : Value → Hp → Prop), R (tyOut (tAt l n.x.toNat)) h → CallOK Tryz.prog 65 [vsl a m c, vi n.x] h R := fun h2 R hR => by
      have := Wn.x h2
      exact ih n.x.toNat (by omega) n.x rfl (by omega) (by omega) R hR
    have hY : 2 ≤ arI n.op → ∀ (R : Value → Hp → Prop), R (tyOut (tAt l n.y.toNat)) h → CallOK Tryz.prog 65 [vsl a m c, vi n.y] h R := fun h2 R hR => by
      have := Wn.y h2
      exact ih n.y.toNat (by omega) n.y rfl (by omega) (by omega) R hR
    have ar := ar0 Wn.a
    have hfold : tAt l = fAt none tyF l := rfl
    rw [← hfold] at hK
    generalize tAt l n.x.toNat = vx at *
    generalize tAt l n.y.toNat = vy at *
    refine ⟨b, o, ⟨ha, h0, by omega⟩, _, _, _, _, _, _, hr, fun q => ?_, fun q1 => ⟨fun q => ?_, fun q2 => ?_⟩⟩
    · unfold tyF at hK
      rw [if_pos (of_decide_eq_true q)] at hK; exact hK
    · unfold tyF at hK
      rw [if_neg (of_decide_eq_false q1), if_pos (of_decide_eq_true q)] at hK; exact hK
    have p1 := of_decide_eq_false q1
    have p2 := of_decide_eq_false q2
    rw [tyF_op p1 p2] at hK
    have h1 : 1 ≤ arI n.op := by rcases arI_range Wn.a with h | h | h <;> omega
    -- what is done once both kinds are there
    have hJ : ∀ (x : Option Int) (p14 p35 : Bool) (x13 x34 : Int), tyOut vx = vtup [vi x13, vb p14] → tyOut x = vtup [vi x34, vb p35] → R (tyOut (tyG n.op vx x)) h →
        (((bif (!p14) then true else (!p35)) = true → R (vtup [(vi 0), (vb false)]) h) ∧ ((bif (!p14) then true else (!p35)) = false → (((decide ((n.op : Int) = 5)) = true → R (vtup [(vi 2), (vb true)]) h) ∧ ((decide ((n.op : Int) = 5)) = false → (let J41 : Int → Prop := fun (x42 : Int) => (((bif (bif (decide ((x13 : Int) ≠ 0)) then (decide ((x13 : Int) ≠ x42)) else false) then true else (bif (decide ((x34 : Int) ≠ 0)) then (decide ((x34 : Int) ≠ x42)) else false)) = true → R (vtup [(vi 0), (vb false)]) h) ∧ ((bif (bif (decide ((x13 : Int) ≠ 0)) then (decide ((x13 : Int) ≠ x42)) else false) then true else (bif (decide ((x34 : Int) ≠ 0)) then (decide ((x34 : Int) ≠ x42)) else false)) = false → (let J46 : Int → Prop := fun (x47 : Int) => R (vtup [(vi x47), (vb true)]) h; (((bif (decide ((n.op : Int) = 11)) then true else (decide ((n.op : Int) = 12))) = true → (J46 2)) ∧ ((bif (decide ((n.op : Int) = 11)) then true else (decide ((n.op : Int) = 12))) = false → (J46 x42)))))); (((bif (bif (decide ((n.op : Int) = 4)) then true else (decide ((n.op : Int) = 9))) then true else (decide ((n.op : Int) = 10))) = true → (J41 2)) ∧ ((bif (bif (decide ((n.op : Int) = 4)) then true else (decide ((n.op : Int) = 9))) then true else (decide ((n.op : Int) = 10))) = false → (J41 1)))))))) := by
      intro x p14 p35 x13 x34 e1 e2 hR
      match vx, x, e1, e2, hR with
      | none, x, e1, e2, hR =>
        cases e1
        rw [(tyG_none n.op x).1] at hR
        exact ⟨fun _ => hR, fun g => (by cases g)⟩
      | some t, none, e1, e2, hR =>
        cases e1
        cases e2
        rw [(tyG_none n.op _).2] at hR
        exact ⟨fun _ => hR, fun g => (by cases g)⟩
      | some t, some u, e1, e2, hR =>
        cases e1
        cases e2
        rw [tyG_some] at hR
        refine ⟨fun g => (by cases g), fun _ => ⟨fun g => ?_, fun g => ?_⟩⟩
        · rw [if_pos (of_decide_eq_true g)] at hR; exact hR
        rw [if_neg (of_decide_eq_false g)] at hR
        intro J41
        have hw : J41 (wantT n.op) := by
          refine ⟨fun g => ?_, fun g => ?_⟩
          · simp only [cand, cor] at g
            rw [if_pos (of_decide_eq_true g)] at hR; exact hR
          · simp only [cand, cor] at g
            rw [if_neg (of_decide_eq_false g)] at hR
            intro J46
            refine ⟨fun g => ?_, fun g => ?_⟩
            · simp only [cand, cor] at g
              rw [if_pos (of_decide_eq_true g)] at hR; exact hR
            · simp only [cand, cor] at g
              rw [if_neg (of_decide_eq_false g)] at hR; exact hR
        clear_value J41
        unfold wantT at hw
        refine ⟨fun g => ?_, fun g => ?_⟩
        · simp only [cand, cor] at g
          have := of_decide_eq_true g
          rw [if_pos (by omega)] at hw; exact hw
        · simp only [cand, cor] at g
          have := of_decide_eq_false g
          rw [if_neg (by omega)] at hw; exact hw
    have out : ∀ x : Option Int, ∃ (t : Int) (p : Bool), tyOut x = vtup [vi t, vb p] := by
      intro x
      cases x with
      | none => exact ⟨_, _, rfl⟩
      | some t => exact ⟨_, _, rfl⟩
    obtain ⟨t1, p1', o1⟩ := out vx
    refine hX h1 _ ⟨t1, p1', o1, R_Arity_ok ⟨_, rfl, ?_⟩⟩
    intro J24
    refine ⟨fun g => ?_, fun g => ?_⟩
    · have h2 := of_decide_eq_true g
      obtain ⟨t2, p2', o2⟩ := out vy
      rw [if_pos h2] at hK
      exact hY (by omega) _ ⟨t2, p2', o2, hJ _ _ _ _ _ o1 o2 hK⟩
    · rw [if_neg (of_decide_eq_false g)] at hK
      exact hJ _ _ _ _ _ o1 o1 hK
theorem R_Type_ok (S : SlP encN h a m l) (W : WfL l) (hl : 0 < l.length) (hm : l.length ≤ 1000000) {R : Value → Hp → Prop} (hK : R (vtup [vi (typE l).1, vi (typE l).2]) h) : CallOK Tryz.prog 38 [vsl a m c] h R := by
  refine ok_R_Type ?_
  unfold VC_R_Type
  have hm := S.1
  refine ⟨_, isW (by unfold InR; omega), R_typeAt_ok S W _ ((m : Int) - 1) rfl (by omega) (by omega) _ ?_⟩
  have e1 : ((m : Int) - 1).toNat = l.length - 1 := by omega
  rw [e1]
  unfold typE at hK
  cases ht : tAt l (l.length - 1) with
  | none =>
    rw [ht] at hK
    exact ⟨_, _, rfl, fun _ => hK, fun g => (by cases g)⟩
  | some t =>
    rw [ht] at hK
    exact ⟨_, _, rfl, fun g => (by cases g), fun _ => hK⟩
end
end Go.Proofs.YtonlacplogbodaaGreatDoor
/-
  Contracts: package expr: Eval, Type. Conditions: that each node's own stand ahead of it.
-/
namespace Go.Proofs.YtonlacplogbodaaGreatDoor
open Go Go.Vc
set_option linter.unusedVariables false
set_option maxRecDepth 100000

/-- What is known of the nodes up to one. -/
theorem outs_get {β : Type} {d : β} {F : Nd → β → β → β} {l : List Nd} {outs : List β} {i k : Nat} (ho : outs.take i = fwd d F (l.take i)) (hi : i ≤ l.length) (hk : k < i) : outs[k]? = some (fAt d F l k) := by
  have h1 : outs[k]? = (outs.take i)[k]? := by rw [List.getElem?_take, if_pos hk]
  rw [h1, ho]
  have hlen : (fwd d F (l.take i)).length = i := by rw [fwd_length, List.length_take]; omega
  rw [← fAt_take l hk hi, List.getD_eq_getElem?_getD, List.getElem?_eq_getElem (by omega)]
  rfl
theorem outs_set {β : Type} {d : β} {F : Nd → β → β → β} {l : List Nd} {outs : List β} {i : Nat} {n : Nd} (ho : outs.take i = fwd d F (l.take i)) (hn : l[i]? = some n) (hl : outs.length = l.length) : (outs.set i (fAt d F l i)).take (i + 1) = fwd d F (l.take (i + 1)) := by
  have hlt := (List.getElem?_eq_some_iff.1 hn).1
  rw [fwd_take l hn, ← ho, List.take_succ_eq_append_getElem (by rw [List.length_set]; omega), List.take_set_of_le (Nat.le_refl _), List.getElem_set_self]
section
variable {a : Option Addr} {m c : Nat} {l : List Nd} {h : Hp}
theorem expr_join_ok {x y : Int} {R : Value → Hp → Prop} (hK : R (vtup [vi (if x = 0 then y else if y = 0 ∨ x = y then x else 0), vb (decide (x = 0 ∨ y = 0 ∨ x = y))]) h) : CallOK Tryz.prog 68 [vi x, vi y] h R := by
  refine ok_expr_join ?_
  unfold VC_expr_join
  refine ⟨fun q => ?_, fun q => ?_⟩
  · have q := of_decide_eq_true q
    rw [if_pos q, decide_eq_true (.inl q)] at hK; exact hK
  have q := of_decide_eq_false q
  rw [if_neg q] at hK
  intro J3
  refine ⟨fun q2 => ⟨fun _ => ?_, fun q3 => ?_⟩, fun q2 => ⟨fun q3 => ?_, fun q3 => ?_⟩⟩
  · have q2 := of_decide_eq_true q2
    rw [if_pos (.inl q2), decide_eq_true (.inr (.inl q2))] at hK; exact hK
  · rw [q2] at q3; cases q3
  · have q3 := of_decide_eq_true q3
    rw [if_pos (.inr q3), decide_eq_true (.inr (.inr q3))] at hK; exact hK
  · have q2 := of_decide_eq_false q2
    have q3 := of_decide_eq_false q3
    rw [if_neg (by omega), decide_eq_false (by omega)] at hK; exact hK
def encI (x : Int) : List Value := [vi x]
theorem encI_len (x : Int) : (encI x).length = 1 := rfl
theorem expr_Type_ok (S : SlP encN h a m l) (O : OkE l) (hm : l.length ≤ 1000000) {R : Value → Hp → Prop} (hK : ∀ h', h.le h' → R (vtup [vi (typE l).1, ifv (errV (typE l).2)]) h') : CallOK Tryz.prog 40 [vsl a m c] h R := by
  have W := O.wf
  have hl := O.pos
  refine ok_expr_Type ?_
  unfold VC_expr_Type
  obtain rfl := S.1
  refine Vec.make (enc := encI) (x := 0) elInt (z := [vi 0]) (by kernel_rfl) rfl rfl hm (by omega) fun a3 h2 V2 => ⟨_, _, _, rfl, ?_⟩
  refine ⟨fun vs hh => ∃ (i : Nat) (outs : List Int), vs = [vi i] ∧ i ≤ l.length ∧ outs.length = l.length ∧ (outs.map some).take i = fwd none tyF (l.take i) ∧ Vec encI 1 3 h hh a3 l.length outs, fun vs hh => l.length - (vint vs 0).toNat,
    ⟨0, _, rfl, Nat.zero_le _, by simp, rfl, V2⟩, ?_⟩
  rintro vs hh ⟨i, outs, rfl, hi, hlo, ho, V⟩
  have get : ∀ {k : Nat}, k < i → ∃ t, outs[k]? = some t ∧ tAt l k = some t := by
    intro k hk
    have := outs_get ho hi hk
    rw [List.getElem?_map, Option.map_eq_some_iff] at this
    obtain ⟨t, h1, h2⟩ := this
    exact ⟨t, h1, h2.symm⟩
  refine ⟨i, rfl, fun q => ?_, fun q => ?_⟩
  · have hlt : i < l.length := by have := of_decide_eq_true q; omega
    have hx : l[i]? = some l[i] := List.getElem?_eq_getElem hlt
    have Wn := W _ _ hx
    have hv : tAt l i = _ := fAt_wf own_tyF hx Wn
    have hset := fun t (e : tAt l i = some t) => (by
      have := outs_set (outs := outs.map some) ho hx (by simpa using hlo)
      rw [show fAt none tyF l i = some t from e, ← List.map_set] at this
      exact this : ((outs.set i t).map some).take (i + 1) = fwd none tyF (l.take (i + 1)))
    obtain ⟨b, o, ha, hr⟩ := (S.le V.le0).get encN_len (by decide) hx
    generalize l[i] = n at *
    have hout : outs[i]? = some (outs[i]'(by omega)) := List.getElem?_eq_getElem (by omega)
    obtain ⟨b3, o3, ha3, _⟩ := V.put encI_len (x' := 0) (k := 0) (vs := [vi 0]) hout (by decide) (by decide) rfl
    have A3 : ∀ {x : Int}, 0 ≤ x → x < l.length → a3 = some ⟨b3, o3, none⟩ ∧ (0 : Int) ≤ x ∧ x < (l.length : Nat) := fun h0 h1 => ⟨ha3, h0, h1⟩
    have put : ∀ (outs' : List Int) (hh' : Hp), outs'.length = l.length → Vec encI 1 3 h hh' a3 l.length outs' → ∀ (t : Int) (K : Hp → Prop), (∀ h', Vec encI 1 3 h h' a3 l.length (outs'.set i t) → K h') → hh'.store b3 (o3 + i * 1) [vi t] K := by
      intro outs' hh' h1 V' t K hK
      obtain ⟨b', o', ha', hp⟩ := V'.put encI_len (i := i) (x := outs'[i]'(by omega)) (x' := t) (k := 0) (vs := [vi t]) (List.getElem?_eq_getElem (by omega)) (Nat.succ_pos 0) (Nat.le_refl 1) rfl
      rw [ha3] at ha'
      cases ha'
      exact hp K hK
    intro J95
    have hJ : ∀ t, tAt l i = some t → ∀ h', Vec encI 1 3 h h' a3 l.length (outs.set i t) → J95 h' := by
      intro t e h' V'
      exact ⟨_, isW (by unfold InR; omega), ⟨i + 1, _, rfl, by omega, by rw [List.length_set]; exact hlo, hset t e, V'⟩, by simp [vint]; omega⟩
    clear_value J95
    have ar := ar0 Wn.a
    have hfold : tAt l = fAt none tyF l := rfl
    rw [← hfold] at hv
    have Ai : a3 = some ⟨b3, o3, none⟩ ∧ (0 : Int) ≤ i ∧ (i : Int) < (l.length : Nat) := A3 (by omega) (by omega)
    refine ⟨b, o, ⟨ha, by omega, by omega⟩, _, _, _, _, _, _, hr, ?_⟩
    intro J39
    have bad : tAt l i = none → ∀ h', h.le h' → R (vtup [vi 0, ifv (errV 3)]) h' := by
      intro e h' l'
      have : typE l = (0, 3) := by
        unfold typE
        cases ht : tAt l (l.length - 1) with
        | none => rfl
        | some t => exact absurd e (O.b.ty W (by rw [ht]; simp) i (Nat.zero_le _) hlt)
      rw [this] at hK
      exact hK h' l'
    have hJ39 : ¬ n.op = 1 → ¬ n.op = 2 → ¬ n.op = 5 → J39 (wantT n.op) := by
      intro p1 p2 p5
      have har : 1 ≤ arI n.op := by rcases arI_range Wn.a with h | h | h <;> omega
      rw [tyF_op p1 p2] at hv
      have hX := Wn.x har
      obtain ⟨tx, ox, ex⟩ := get (k := n.x.toNat) (by omega)
      have hy : ∃ ty, 2 ≤ arI n.op → outs[n.y.toNat]? = some ty ∧ tAt l n.y.toNat = some ty := by
        by_cases h2 : 2 ≤ arI n.op
        · have hY := Wn.y h2
          obtain ⟨ty, q⟩ := get (k := n.y.toNat) (by omega)
          exact ⟨ty, fun _ => q⟩
        · exact ⟨0, fun h => absurd h h2⟩
      obtain ⟨ty, hy⟩ := hy
      have hv2 : tAt l i = tyG n.op (some tx) (some (if arI n.op = 2 then ty else tx)) := by
        rw [hv, ex]
        by_cases h2 : arI n.op = 2
        · rw [if_pos h2, if_pos h2, (hy (by omega)).2]
        · rw [if_neg h2, if_neg h2]
      rw [tyG_some, if_neg p5] at hv2
      have hw0 : wantT n.op ≠ 0 := by unfold wantT; split <;> decide
      generalize hwd : wantT n.op = want at *
      refine expr_Arity_ok ⟨_, rfl, fun b64 hb64 => ?_⟩
      intro h65
      have S65 : SlI h65 (some ⟨b64, 0, none⟩) 2 [n.x, n.y] := ⟨rfl, HasRow.new _ _ [vi n.x, vi n.y] _⟩
      have V65 : Vec encI 1 3 h h65 a3 l.length outs := V.keep0 (Hp.le_set (Hp.le_refl hh) hb64 _)
      clear_value h65
      refine ⟨_, _, _, rd_slice_h (e := 3) (by kernel_rfl) (by kernel_rfl) (by omega) (by rcases arI_range Wn.a with h | h | h <;> omega), ?_⟩
      have rdo : ∀ {x t : Int}, 0 ≤ x → outs[x.toNat]? = some t → h65.cell b3 (o3 + x.toNat * 1) = some (vi t) := by
        intro x t h0 h1
        obtain ⟨b', o', ha', hr'⟩ := (V65.slp encI_len (by decide)).cell (j := 0) encI_len (by decide) h1 rfl
        rw [ha3] at ha'
        cases ha'
        exact hr'
      refine ⟨fun vs h' => h' = h65 ∧ ∃ j : Nat, vs = [vi j] ∧ (j : Int) ≤ arI n.op ∧ (1 ≤ j → tx = 0 ∨ tx = want) ∧ (2 ≤ j → ty = 0 ∨ ty = want), fun vs hh => (arI n.op).toNat - (vint vs 0).toNat, ⟨rfl, 0, rfl, by omega, by omega, by omega⟩, ?_⟩
      rintro vs h71 ⟨rfl, j, rfl, hj, f1, f2⟩
      refine ⟨j, rfl, fun g => ?_, fun g => ?_⟩
      · have hj2 : (j : Int) < arI n.op := by have := of_decide_eq_true g; omega
        have fact : ∃ x t : Int, [n.x, n.y].getD j 0 = x ∧ 0 ≤ x ∧ x < l.length ∧ outs[x.toNat]? = some t ∧ (¬ (t = 0 ∨ t = want) → tAt l i = none) ∧ (j = 0 → t = tx) ∧ (j = 1 → t = ty) := by
          by_cases hj0 : j = 0
          · subst hj0
            refine ⟨n.x, tx, rfl, hX.1, by omega, ox, fun hb => ?_, fun _ => rfl, fun h => by omega⟩
            rw [hv2, if_pos (by omega)]
          · have hj1 : j = 1 := by rcases arI_range Wn.a with h | h | h <;> omega
            subst hj1
            have hY := Wn.y (by omega)
            refine ⟨n.y, ty, rfl, hY.1, by omega, (hy (by omega)).1, fun hb => ?_, fun h => by omega, fun _ => rfl⟩
            rw [hv2, if_pos]
            rw [if_pos (by rcases arI_range Wn.a with h | h | h <;> omega)]
            omega
        obtain ⟨x, t, e0, h0, h1, e1, hb, u1, u2⟩ := fact
        obtain ⟨q, p, hq, hcell⟩ := S65.get (i := j) (by rcases arI_range Wn.a with h | h | h <;> omega)
        rw [e0] at hcell
        refine ⟨q, p, ⟨hq, by omega, by omega⟩, _, hcell, b3, o3, A3 h0 h1, _, rdo h0 e1, expr_join_ok ⟨_, _, rfl, fun g => ?_, fun g => ?_⟩⟩
        · rw [cnot] at g
          have g := of_decide_eq_true g
          exact bad (hb (by omega)) h71 V65.le0
        · rw [cnot] at g
          have g := of_decide_eq_false g
          refine ⟨_, isW (by unfold InR; rcases arI_range Wn.a with h | h | h <;> omega), ⟨rfl, j + 1, rfl, by omega, fun _ => ?_, fun h => ?_⟩, by simp [vint]; omega⟩
          · by_cases hj0 : j = 0
            · have := u1 hj0; omega
            · exact f1 (by omega)
          · have := u2 (by rcases arI_range Wn.a with h | h | h <;> omega); omega
      · have hje : (j : Int) = arI n.op := by have := of_decide_eq_false g; omega
        have hfine : tAt l i = some (if n.op = 11 ∨ n.op = 12 then 2 else want) := by
          rw [hv2, if_neg]
          · split <;> rfl
          · have := f1 (by omega)
            by_cases h2 : arI n.op = 2
            · rw [if_pos h2]
              have := f2 (by omega)
              omega
            · rw [if_neg h2]
              omega
        refine ⟨b3, o3, Ai, put outs _ hlo V65 want _ fun h89 V89 => ⟨fun g => ?_, fun g => ?_⟩⟩
        · rw [cor] at g
          have g := of_decide_eq_true g
          rw [if_pos g] at hfine
          refine ⟨b3, o3, Ai, put _ h89 (by rw [List.length_set]; exact hlo) V89 2 _ fun h92 V92 => hJ 2 hfine h92 ?_⟩
          rw [List.set_set] at V92
          exact V92
        · rw [cor] at g
          have g := of_decide_eq_false g
          rw [if_neg g] at hfine
          exact hJ want hfine h89 V89
    clear_value J39
    refine ⟨fun q => ?_, fun q1 => ⟨fun q => ?_, fun q2 => ⟨fun q => ?_, fun q5 => ?_⟩⟩⟩
    · have e : tAt l i = some n.v.1 := by rw [hv]; unfold tyF; exact if_pos (of_decide_eq_true q)
      exact ⟨b3, o3, Ai, put outs hh hlo V _ _ (hJ _ e)⟩
    · have e : tAt l i = some 1 := by rw [hv]; unfold tyF; rw [if_neg (of_decide_eq_false q1)]; exact if_pos (of_decide_eq_true q)
      exact ⟨b3, o3, Ai, put outs hh hlo V _ _ (hJ _ e)⟩
    · have h5 := of_decide_eq_true q
      have hX := Wn.x (by omega)
      obtain ⟨tx, ox, ex⟩ := get (k := n.x.toNat) (by omega)
      have e : tAt l i = some 2 := by
        rw [hv, tyF_op (by omega) (by omega), if_neg (by omega), ex, tyG_some, if_pos h5]
      exact ⟨b3, o3, Ai, put outs hh hlo V _ _ (hJ _ e)⟩
    · have p1 := of_decide_eq_false q1
      have p2 := of_decide_eq_false q2
      have p5 := of_decide_eq_false q5
      have hw := hJ39 p1 p2 p5
      unfold wantT at hw
      intro J35
      refine ⟨fun g => ⟨fun _ => ?_, fun g2 => ?_⟩, fun g1 => ⟨fun g => ⟨fun _ => ?_, fun g2 => ?_⟩, fun g2 => ⟨fun g => ?_, fun g => ?_⟩⟩⟩
      · rw [if_pos (.inl (of_decide_eq_true g))] at hw; exact hw
      · rw [g] at g2; cases g2
      · rw [if_pos (.inr (.inl (of_decide_eq_true g)))] at hw; exact hw
      · rw [g] at g2; cases g2
      · rw [if_pos (.inr (.inr (of_decide_eq_true g)))] at hw; exact hw
      · have a1 := of_decide_eq_false g1
        have a2 := of_decide_eq_false g2
        have a3 := of_decide_eq_false g
        rw [if_neg (by omega)] at hw; exact hw
  · have hge : i = l.length := by have := of_decide_eq_false q; omega
    subst hge
    obtain ⟨t, ot, et⟩ := get (k := l.length - 1) (by omega)
    obtain ⟨b', o', ha', hr'⟩ := (V.slp encI_len (by decide)).cell (j := 0) encI_len (by decide) ot rfl
    refine ⟨_, isW (by unfold InR; omega), b', o', ⟨ha', by omega, by omega⟩, t, ?_, ?_⟩
    · have e1 : (((l.length : Nat) : Int) - 1).toNat = l.length - 1 := by omega
      rw [e1]
      exact hr'
    · have : typE l = (t, 0) := by unfold typE; rw [et]
      rw [this] at hK
      exact hK hh V.le0
end
end Go.Proofs.YtonlacplogbodaaGreatDoor
/-
  Contracts: package expr: Cut, Join. Conditions: those stated at each.
-/
namespace Go.Proofs.YtonlacplogbodaaGreatDoor
open Go Go.Vc
set_option linter.unusedVariables false
set_option maxRecDepth 100000

abbrev NdVec := Vec encN 6 82
theorem cloneN_ok {a : Option Addr} {n c : Nat} {l : List Nd} {h : Hp} {R : Value → Hp → Prop} (S : SlP encN h a n l) (hn : n ≤ 1000000) (hK : ∀ a' c' h', NdVec h h' a' c' l → R (vsl a' l.length c') h') :
    CallOK Tryz.prog 103 [vsl a n c] h R := by
  refine ok_slices_Clone_api_Node_api_Node ?_
  unfold VC_slices_Clone_api_Node_api_Node
  have hl := S.1
  subst hl
  have hfl : (l.flatMap encN).length = l.length * 6 := by rw [flatMap_length encN_len]
  refine ⟨_, rd_eqNilS (e := 82) (by kernel_rfl), fun e => ?_, fun e => ?_⟩
  · have h0 : l.flatMap encN = [] := by
      rcases S.2 with h1 | ⟨b, o, ha, _⟩
      · exact h1
      · rw [ha] at e; cases e
    rw [h0] at hfl
    have hn0 : l = [] := List.eq_nil_of_length_eq_zero (by simp at hfl; omega)
    subst hn0
    exact hK none 0 h (OwnV.nil (Hp.le_refl h) _ _)
  · intro b3 hb3 h4
    have O0 : OwnV h h4 82 6 (some ⟨b3, 0, none⟩) 0 0 [] := OwnV.mk_new (Hp.le_refl h) hb3 _ [] rfl (by simp [maxLen])
    refine OwnV.append elNd O0 (S.le (Hp.le_set (Hp.le_refl h) hb3 _)).2 hfl (one_nds l) (by omega) (by omega) fun a' c' h' O' _ _ => ⟨_, _, _, rfl, ?_⟩
    rw [Nat.zero_add, List.nil_append] at *
    exact hK a' c' h' O'
/-- Expressions that are yet to be passed, on the way down to f. -/
inductive Pend (l : List Nd) (f : Nat) : Nat → Nat → Prop where
  | nil : Pend l f f 0
  | cons {g e k : Nat} : Blk l g e → Pend l f g k → Pend l f e (k + 1)
theorem Pend.open {l : List Nd} {f g i k : Nat} {n : Nd} (B : Blk l g (i + 1)) (Q : Pend l f g k) (hn : l[i]? = some n) : Pend l f i (k + (arI n.op).toNat) := by
  cases B with
  | leaf h ha =>
    rw [hn] at h
    cases h
    rw [ha]
    exact Q
  | one B h ha _ =>
    rw [hn] at h
    cases h
    rw [ha]
    exact .cons B Q
  | two B B' h ha _ _ =>
    rw [hn] at h
    cases h
    rw [ha]
    exact .cons B' (.cons B Q)
section
variable {a : Option Addr} {m c : Nat} {l : List Nd} {h : Hp}
theorem expr_Join_ok {op : Int} {a2 : Option Addr} {m2 c2 : Nat} {l2 : List Nd} (S : SlP encN h a m l) (S2 : SlP encN h a2 m2 l2) (W2 : WfL l2) (hm : l.length ≤ 1000000) (hm2 : l2.length ≤ 1000000) {R : Value → Hp → Prop}
    (hK : ∀ a' c' h', NdVec h h' a' c' (joinL op l l2) → R (vsl a' (joinL op l l2).length c') h') : CallOK Tryz.prog 88 [vi op, vsl a m c, vsl a2 m2 c2] h R := by
  refine ok_expr_Join ?_
  unfold VC_expr_Join
  obtain rfl := S.1
  obtain rfl := S2.1
  refine cloneN_ok S hm fun a3 c3 h2 V2 => ⟨_, _, _, rfl, _, isW (by unfold InR; omega), ?_⟩
  refine ⟨fun vs hh => ∃ (i : Nat) (a : Option Addr) (c : Nat), vs = [vsl a (l ++ (l2.take i).map (shN l.length)).length c, vi i] ∧ i ≤ l2.length ∧ NdVec h hh a c (l ++ (l2.take i).map (shN l.length)), fun vs hh => l2.length - (vint vs 1).toNat,
    ⟨0, a3, c3, by simp, Nat.zero_le _, by simpa using V2⟩, ?_⟩
  rintro vs hh ⟨i, a4, c4, rfl, hi, V⟩
  have hlen : (l ++ (l2.take i).map (shN l.length)).length = l.length + i := by simp; omega
  refine ⟨_, _, _, _, rfl, fun g => ?_, fun g => ?_⟩
  · have hlt : i < l2.length := by have := of_decide_eq_true g; omega
    have hx : l2[i]? = some l2[i] := List.getElem?_eq_getElem hlt
    have wn := W2 _ _ hx
    obtain ⟨b, o, ha, hr⟩ := (S2.le V.le0).get encN_len (by decide) hx
    have tk : (l2.take (i + 1)).map (shN l.length) = (l2.take i).map (shN l.length) ++ [shN l.length l2[i]] := by
      rw [List.take_succ_eq_append_getElem hlt, List.map_append]; rfl
    generalize l2[i] = y at *
    refine ⟨b, o, ⟨ha, by omega, by omega⟩, _, _, _, _, _, _, hr, expr_Arity_ok ⟨_, rfl, ?_⟩⟩
    intro J28
    have fin : ∀ (x' y' : Int), x' = (shN (l.length : Int) y).x → y' = (shN (l.length : Int) y).y → ∀ (b49 : Nat), hh b49 = none → SemOK Tryz.prog (Builtin.append_ #[23, 23] 23 #[(vsl a4 (l ++ (l2.take i).map (shN l.length)).length c4), (vsl (some (⟨b49, 0, none⟩ : Addr)) 1 1)]) (Hp.set hh b49 (cellsO [(vi y.op), (vi x'), (vi y'), (vi y.n), (vi y.v.1), (vi y.v.2)] 82)) fun v51 h52 => ∃ (a53 : Option Addr) (n53 c53 : Nat), v51 = (vsl a53 n53 c53) ∧ (∃ (x55 : Int), (IsW x55 ((i : Int) + 1)) ∧ ((∃ (i' : Nat) (a : Option Addr) (c : Nat), [vsl a53 n53 c53, vi x55] = [vsl a (l ++ (l2.take i').map (shN l.length)).length c, vi i'] ∧ i' ≤ l2.length ∧ NdVec h h52 a c (l ++ (l2.take i').map (shN l.length))) ∧ l2.length - (vint [vsl a53 n53 c53, vi x55] 1).toNat < l2.length - (vint [vsl a4 (l ++ (l2.take i).map (shN l.length)).length c4, vi i] 1).toNat)) := by
      rintro x' y' rfl rfl b49 hb49
      refine V.app (x := shN (l.length : Int) y) elNd encN_len one_encN (by omega) (by omega) hb49 fun a' c' h' V' => ⟨_, _, _, rfl, _, isW (by unfold InR; omega), ⟨i + 1, a', c', ?_, by omega, ?_⟩, by simp [vint]; omega⟩
      · rw [tk, ← List.append_assoc]; rfl
      · rw [tk, ← List.append_assoc]; exact V'
    have hJ : ∀ x', x' = (shN (l.length : Int) y).x → J28 x' := by
      intro x' hx'
      refine expr_Arity_ok ⟨_, rfl, ?_⟩
      intro J45
      refine ⟨fun g => ?_, fun g => ?_⟩
      · have g := of_decide_eq_true g
        have hy := wn.y (by omega)
        refine ⟨_, isW (by unfold InR; omega), fin _ _ hx' ?_⟩
        unfold shN
        simp only
        rw [if_pos (show 1 < arI y.op by omega)]
      · have g := of_decide_eq_false g
        refine fin _ _ hx' ?_
        unfold shN
        simp only
        rw [if_neg (show ¬ 1 < arI y.op by omega)]
    clear_value J28
    refine ⟨fun g => ?_, fun g => ?_⟩
    · have g := of_decide_eq_true g
      have hX := wn.x (by omega)
      refine ⟨_, isW (by unfold InR; omega), hJ _ ?_⟩
      unfold shN
      simp only
      rw [if_pos (show 0 < arI y.op by omega)]
    · have g := of_decide_eq_false g
      refine hJ _ ?_
      unfold shN
      simp only
      rw [if_neg (show ¬ 0 < arI y.op by omega)]
  · have hge : i = l2.length := by have := of_decide_eq_false g; omega
    subst hge
    rw [List.take_of_length_le (Nat.le_refl _)] at V hlen ⊢
    refine expr_Arity_ok ⟨_, rfl, ?_⟩
    intro J62
    have hJ : ∀ y', y' = (if 1 < arI op then ((l.length + l2.length : Nat) : Int) - 1 else 0) → J62 y' := by
      rintro y' rfl b66 hb66
      intro h67
      exact V.app (x := ⟨op, (l.length : Int) - 1, if 1 < arI op then ((l.length + l2.length : Nat) : Int) - 1 else 0, 0, (0, 0)⟩) elNd encN_len one_encN (by omega) (by omega) hb66 fun a' c' h' V' => ⟨_, _, _, rfl, hK a' c' h' V'⟩
    clear_value J62
    refine ⟨fun g => ?_, fun g => ?_⟩
    · have g := of_decide_eq_true g
      refine ⟨_, isW (by unfold InR; omega), hJ _ ?_⟩
      rw [if_pos (show 1 < arI op by omega), hlen]
    · have g := of_decide_eq_false g
      refine hJ _ ?_
      rw [if_neg (show ¬ 1 < arI op by omega)]
end
end Go.Proofs.YtonlacplogbodaaGreatDoor
/-
  Contracts: package query: the reader of words. Conditions: those stated at each.
-/
namespace Go.Proofs.YtonlacplogbodaaGreatDoor
open Go Go.Vc Go.Txt
set_option linter.unusedVariables false
set_option maxRecDepth 100000

/-- A reader's block; its words were there ahead of it. -/
structure RdAt (h0 h : Hp) (g : Nat) (s : RS) : Prop where
  b : ∃ a c, h g = some (cellsO [vsl a s.ws.length c, vi s.deep, ifv (errV s.f)] 56) ∧ SlB h0 a s.ws.length s.ws ∧ s.ws.length ≤ c
  l : h0.le h
  n : h0 g = none
  w : ∀ x ∈ s.ws, x.length ≤ 1000000
theorem le_put {h0 h : Hp} {g : Nat} (l : h0.le h) (hg : h0 g = none) (o : Obj) : h0.le (h.set g o) := fun b p hb => by
  rw [Hp.set_other _ _ (fun e => by rw [e, hg] at hb; cases hb)]
  exact l b p hb
theorem slices_Index_ok {a : Option Addr} {n c : Nat} {l : List Wd} {w : Wd} {h : Hp} (S : SlB h a n l) (hn : n ≤ 1000000) {R : Value → Hp → Prop} (hK : R (vi (if w ∈ l then (l.idxOf w : Int) else -1)) h) : CallOK Tryz.prog 51 [vsl a n c, vs (bs w)] h R := by
  refine ok_slices_Index_string_string ?_
  unfold VC_slices_Index_string_string
  have hl := S.1
  refine ⟨fun v hh => hh = h ∧ ∃ i : Nat, v = [vi i] ∧ i ≤ n ∧ w ∉ l.take i, fun v _ => n - (vint v 0).toNat, ⟨rfl, 0, rfl, Nat.zero_le _, by simp⟩, ?_⟩
  rintro v hh ⟨rfl, i, rfl, hi, hno⟩
  refine ⟨i, rfl, fun e => ?_, fun e => ?_⟩
  · have hlt : i < n := by have := of_decide_eq_true e; omega
    obtain ⟨b, o, ha, hc⟩ := SlP.get1 S hlt
    refine ⟨b, o, ⟨ha, by omega, by omega⟩, _, hc, _, rd_eqBs, fun e2 => ?_, fun e2 => ?_⟩
    · have e3 := of_decide_eq_true e2
      have hx : l.getD i [] = l[i]'(by omega) := by rw [List.getD_eq_getElem?_getD, List.getElem?_eq_getElem (by omega)]; rfl
      rw [hx] at e3
      have hm : w ∈ l := by rw [e3]; exact List.getElem_mem _
      have hidx : l.idxOf w = i := by
        have hsp : l = l.take i ++ l[i]'(by omega) :: l.drop (i + 1) := by rw [← List.drop_eq_getElem_cons, List.take_append_drop]
        rw [hsp, List.idxOf_append, if_neg hno, ← e3, List.idxOf_cons_self, List.length_take]
        omega
      rw [if_pos hm, hidx] at hK
      exact hK
    · have e3 := of_decide_eq_false e2
      have hx : l.getD i [] = l[i]'(by omega) := by rw [List.getD_eq_getElem?_getD, List.getElem?_eq_getElem (by omega)]; rfl
      rw [hx] at e3
      refine ⟨_, isW (by unfold InR; omega), ⟨rfl, i + 1, rfl, by omega, ?_⟩, ?_⟩
      · rw [List.take_succ_eq_append_getElem (by omega)]
        intro hm
        rcases List.mem_append.1 hm with h1 | h1
        · exact hno h1
        · exact e3 (by simpa using h1)
      · show n - ((i : Int) + 1).toNat < n - (i : Int).toNat
        omega
  · have hge : i = n := by have := of_decide_eq_false e; omega
    rw [hge, List.take_of_length_le (by omega)] at hno
    rw [if_neg hno] at hK
    exact hK
theorem slices_Contains_ok {a : Option Addr} {n c : Nat} {l : List Wd} {w : Wd} {h : Hp} (S : SlB h a n l) (hn : n ≤ 1000000) {R : Value → Hp → Prop} (hK : R (vb (decide (w ∈ l))) h) : CallOK Tryz.prog 52 [vsl a n c, vs (bs w)] h R := by
  refine ok_slices_Contains_string_string ?_
  unfold VC_slices_Contains_string_string
  refine slices_Index_ok S hn ⟨_, rfl, ?_⟩
  have : decide ((if w ∈ l then (l.idxOf w : Int) else -1) ≥ 0) = decide (w ∈ l) := by
    by_cases hm : w ∈ l
    · simp [hm]
    · simp [hm]
  rw [this]
  exact hK
def At (g : Nat) : Nat → Prop := fun b => b = g
theorem mut_set (h : Hp) (g : Nat) (o : Obj) : Mut (At g) h (At g) (h.set g o) := ⟨fun b o2 hb ho => by rw [Hp.set_other _ _ (fun e => hb e)]; exact ho, fun b hb => .inl hb⟩
theorem rd_block {h : Hp} {g : Nat} {x y z : Value} {T : TypeId} (hb : h g = some (cellsO [x, y, z] T)) : h.cell g 0 = some x ∧ h.cell g (0 + 1) = some y ∧ h.cell g (0 + 2) = some z := ⟨cell_cells hb rfl, cell_cells hb rfl, cell_cells hb rfl⟩
theorem rd_put0 {h : Hp} {g : Nat} {x y z x' : Value} {T : TypeId} (hb : h g = some (cellsO [x, y, z] T)) {K : Hp → Prop} (hK : K (h.set g (cellsO [x', y, z] T))) : h.store g 0 [x'] K := store_cells hb (by simp) hK
theorem rd_put1 {h : Hp} {g : Nat} {x y z y' : Value} {T : TypeId} (hb : h g = some (cellsO [x, y, z] T)) {K : Hp → Prop} (hK : K (h.set g (cellsO [x, y', z] T))) : h.store g (0 + 1) [y'] K := store_cells hb (by simp) hK
theorem rd_put2 {h : Hp} {g : Nat} {x y z z' : Value} {T : TypeId} (hb : h g = some (cellsO [x, y, z] T)) {K : Hp → Prop} (hK : K (h.set g (cellsO [x, y, z'] T))) : h.store g (0 + 2) [z'] K := store_cells hb (by simp) hK
theorem slb_nil (h : Hp) : SlB h none 0 [] := ⟨rfl, (OwnS.nil h 9 1).row⟩
theorem reader_fail_ok {h0 h : Hp} {g : Nat} {s : RS} (D : RdAt h0 h g s) {f : Int} (hf : f ≠ 0) {R : Value → Hp → Prop} (hK : ∀ h', RdAt h0 h' g (s.fail f) → Mut (At g) h (At g) h' → R (vtup []) h') : CallOK Tryz.prog 50 [vhp g 0, ifv (some (44, vi f))] h R := by
  obtain ⟨a, c, hb, hS, hc⟩ := D.b
  refine ok_query_reader_fail ?_
  unfold VC_query_reader_fail
  refine ⟨_, (rd_block hb).2.2, ?_⟩
  intro J5
  refine ⟨fun e => ?_, fun e => ?_⟩
  · have e0 : s.f = 0 := by unfold errV at e; split at e <;> simp_all
    refine rd_put2 hb (rd_put0 (Hp.set_same _ _ _) ?_)
    refine hK _ ⟨⟨none, 0, ?_, slb_nil _, Nat.le_refl _⟩, le_put (le_put D.l D.n _) D.n _, D.n, fun x hx => by cases hx⟩ ((mut_set _ _ _).trans (mut_set _ _ _))
    rw [Hp.set_same]
    show _ = some (cellsO [vsl none 0 0, vi s.deep, ifv (errV (if s.f = 0 then f else s.f))] 56)
    rw [if_pos e0]
    unfold errV
    rw [if_neg hf]
  · have e0 : s.f ≠ 0 := by intro e1; rw [e1] at e; cases e
    refine rd_put0 hb ?_
    refine hK _ ⟨⟨none, 0, ?_, slb_nil _, Nat.le_refl _⟩, le_put D.l D.n _, D.n, fun x hx => by cases hx⟩ (mut_set _ _ _)
    rw [Hp.set_same]
    show _ = some (cellsO [vsl none 0 0, vi s.deep, ifv (errV (if s.f = 0 then f else s.f))] 56)
    rw [if_neg e0]
theorem reader_is_ok {h0 h : Hp} {g : Nat} {s : RS} (D : RdAt h0 h g s) {wa : Option Addr} {wn wc : Nat} {l : List Wd} (S : SlB h wa wn l) (hwn : wn ≤ 1000) (hwl : s.ws.length ≤ 1000000) {R : Value → Hp → Prop} (hK : ∀ h', RdAt h0 h' g (s.is l).2 → Mut (At g) h (At g) h' → R (vs (bs (s.is l).1)) h') : CallOK Tryz.prog 26 [vhp g 0, vsl wa wn wc] h R := by
  obtain ⟨a, c, hb, hS, hc⟩ := D.b
  refine ok_query_reader_is ?_
  unfold VC_query_reader_is
  obtain ⟨ws, dp, f⟩ := s
  simp only at hb hS hc hwl
  have hcell := (rd_block hb).1
  cases ws with
  | nil =>
    refine ⟨_, _, _, hcell, none, 0, 0, fun e => by simp at e, 0, 0, fun e => by simp at e, ⟨#[]⟩, fun e => by simp at e, fun v hh => hh = h ∧ v = .t (.one (.v (vb false))), fun e => by simp at e, fun _ => ⟨rfl, rfl⟩, ?_⟩
    rintro h10 p11 ⟨rfl, e⟩
    cases e
    refine ⟨fun _ => hK _ D (Mut.of_le (Hp.le_refl _)), fun e => by simp at e⟩
  | cons w r =>
    obtain ⟨b, o, ha, hc0⟩ := SlP.get1 (SlP.le D.l hS) (i := 0) (by simp)
    have hc1 : h.cell b (o + (0 : Int).toNat * 1) = some (vs (bs w)) := hc0
    refine ⟨_, _, _, hcell, _, _, _, fun _ => hcell, b, o, fun _ => ⟨ha, by decide, by simp⟩, _, fun _ => hc1, fun v hh => hh = h ∧ v = .t (.one (.v (vb (decide (w ∈ l))))), fun _ => slices_Contains_ok S (by omega) ⟨_, rfl, rfl, rfl⟩, fun e => absurd (by simp; omega) e, ?_⟩
    rintro h10 p11 ⟨rfl, e⟩
    cases e
    refine ⟨fun e => ?_, fun e => ?_⟩
    · have hno : w ∉ l := by
        intro hm
        simp [hm] at e
        omega
      have h1 : (⟨w :: r, dp, f⟩ : RS).is l = ([], ⟨w :: r, dp, f⟩) := by unfold RS.is; simp only; rw [if_neg hno]
      rw [h1] at hK
      exact hK _ D (Mut.of_le (Hp.le_refl _))
    · have hm : w ∈ l := by
        rcases Decidable.em (w ∈ l) with hm | hm
        · exact hm
        · simp [hm] at e
      have h1 : (⟨w :: r, dp, f⟩ : RS).is l = (w, ⟨r, dp, f⟩) := by unfold RS.is; simp only; rw [if_pos hm]
      rw [h1] at hK
      have hsz : szT Tryz.prog 9 = 1 := by kernel_rfl
      have hr := rd_slice_l (P := Tryz.prog) (h := h10) (t := 47) (e := 9) (by kernel_rfl) (by kernel_rfl) (a := a) (n := (w :: r).length) (c := c) (x := 1) (by decide) (by simp; omega)
      rw [hsz] at hr
      refine ⟨_, _, _, hcell, b, o, ⟨ha, by decide, by simp⟩, _, hc1, _, _, _, hcell, _, _, _, hr, rd_put0 hb ?_⟩
      have hS2 := SlP.drop encB_len hS (i := 1) (by simp) hc
      exact hK _ ⟨⟨_, _, Hp.set_same _ _ _, ⟨rfl, hS2.2⟩, by simp at hc ⊢; omega⟩, le_put D.l D.n _, D.n, fun x hx => D.w x (List.mem_cons_of_mem _ hx)⟩ (mut_set _ _ _)
theorem RdAt.le {h0 h h' : Hp} {g : Nat} {s : RS} (D : RdAt h0 h g s) (l : h.le h') : RdAt h0 h' g s := by
  obtain ⟨a, c, hb, hS, hc⟩ := D.b
  exact ⟨⟨a, c, l g _ hb, hS, hc⟩, Hp.le_trans D.l l, D.n, D.w⟩
theorem slb_one (h : Hp) (b : Nat) (w : Wd) : SlB (h.set b (cellsO [vs (bs w)] 9)) (some ⟨b, 0, none⟩) 1 [w] := ⟨rfl, (OwnS.new h b 9 (sz := 1) (n := 1) [vs (bs w)] rfl (by decide)).row⟩
theorem reader_must_ok {h0 h : Hp} {g : Nat} {s : RS} (D : RdAt h0 h g s) (hwl : s.ws.length ≤ 1000000) {w : Wd} {R : Value → Hp → Prop} (hK : ∀ h', RdAt h0 h' g (s.must w) → Mut (At g) h (At g) h' → R (vtup []) h') : CallOK Tryz.prog 24 [vhp g 0, vs (bs w)] h R := by
  refine ok_query_reader_must ?_
  unfold VC_query_reader_must
  intro b1 hb1 h2
  have hl : h.le h2 := Hp.le_set (Hp.le_refl h) hb1 _
  unfold RS.must at hK
  refine reader_is_ok (D.le hl) (slb_one h b1 w) (by decide) hwl fun h4 D4 M4 => ⟨_, rfl, _, rd_eqBs (b := []), fun e => ?_, fun e => ?_⟩
  · rw [if_pos (of_decide_eq_true e)] at hK
    exact reader_fail_ok D4 (by decide) fun h5 D5 M5 => ⟨rfl, hK h5 D5 (((Mut.of_le hl).trans M4).trans M5)⟩
  · rw [if_neg (of_decide_eq_false e)] at hK
    exact hK h4 D4 ((Mut.of_le hl).trans M4)
/-- Nodes that are new since hB. -/
structure NdAt (hB h : Hp) (a : Option Addr) (n : Nat) (l : List Nd) : Prop where
  s : SlP encN h a n l
  nw : ∀ b o, a = some ⟨b, o, none⟩ → hB b = none
theorem NdAt.base {hB hC h : Hp} {a : Option Addr} {n : Nat} {l : List Nd} (N : NdAt hC h a n l) (hh : ∀ b, hC b = none → hB b = none) : NdAt hB h a n l := ⟨N.s, fun b o e => hh b (N.nw b o e)⟩
theorem NdAt.le {hB h h' : Hp} {a : Option Addr} {n : Nat} {l : List Nd} (N : NdAt hB h a n l) (hl : h.le h') : NdAt hB h' a n l := ⟨N.s.le hl, N.nw⟩
theorem NdAt.mut {hB h h' : Hp} {g : Nat} {a : Option Addr} {n : Nat} {l : List Nd} (N : NdAt hB h a n l) (hg : hB g ≠ none) (M : Mut (At g) h (At g) h') : NdAt hB h' a n l := by
  have ne : ∀ b o, a = some ⟨b, o, none⟩ → b ≠ g := fun b o e q => hg (by rw [← q]; exact N.nw b o e)
  refine ⟨⟨N.s.1, (HasRow.del N.s.2 ne).le fun b o hb => ?_⟩, N.nw⟩
  by_cases e : b = g
  · subst e; simp [Hp.del] at hb
  · refine M.keep b o (fun h => e h) ?_
    simpa [Hp.del, e] using hb
theorem nd_nil (hB h : Hp) : NdAt hB h none 0 [] := ⟨⟨rfl, (OwnS.nil h 82 6).row⟩, fun b o e => by cases e⟩
/-- What is not there now was not there ahead. -/
theorem _root_.Go.Vc.Mut.up {h h' : Hp} {g : Nat} (M : Mut (At g) h (At g) h') (hg : h' g ≠ none) : ∀ b, h' b = none → h b = none := by
  intro b hb
  cases e : h b with
  | none => rfl
  | some o =>
    by_cases q : b = g
    · subst q; exact absurd hb hg
    · rw [M.keep b o (fun h => q h) e] at hb; cases hb
theorem le_up {h h' : Hp} (l : h.le h') : ∀ b, h' b = none → h b = none := fun b hb => Hp.none_of_le l hb
theorem query_leaf_ok {h : Hp} (n : Nd) {R : Value → Hp → Prop} (hK : ∀ a c h', NdAt h h' a 1 [n] → 1 ≤ c → h.le h' → R (vsl a 1 c) h') : CallOK Tryz.prog 87 [vag (encN n)] h R := by
  refine ok_query_leaf ?_
  unfold VC_query_leaf
  intro b1 hb1 h2
  refine hK _ _ _ ⟨⟨rfl, (OwnS.new h b1 82 (sz := 6) (n := 1) (encN n) rfl (by decide)).row⟩, fun b o e => ?_⟩ (by decide) (Hp.le_set (Hp.le_refl h) hb1 _)
  cases e
  exact hb1
theorem RdAt.al {h0 h : Hp} {g : Nat} {s : RS} (D : RdAt h0 h g s) : h g ≠ none := by
  obtain ⟨a, c, hb, _⟩ := D.b
  rw [hb]; simp
theorem reader_join_ok {h0 h : Hp} {g : Nat} {s : RS} (D : RdAt h0 h g s) {op : Int} {ax ay : Option Addr} {nx ny cx cy : Nat} {x y : List Nd} (X : SlP encN h ax nx x) (Y : SlP encN h ay ny y) (Wy : WfL y) (hx : x.length ≤ 1000) (hy : y.length ≤ 1000) {R : Value → Hp → Prop}
    (hK : ∀ a c h', RdAt h0 h' g (joinP op x y s).2 → NdAt h h' a (joinP op x y s).1.length (joinP op x y s).1 → Mut (At g) h (At g) h' → R (vsl a (joinP op x y s).1.length c) h') : CallOK Tryz.prog 73 [vhp g 0, vi op, vsl ax nx cx, vsl ay ny cy] h R := by
  refine ok_query_reader_join ?_
  unfold VC_query_reader_join
  have hnx := X.1
  have hny := Y.1
  unfold joinP at hK
  refine ⟨_, isW (by unfold InR; omega), fun e => ?_, fun e => ?_⟩
  · have e2 := of_decide_eq_true e
    rw [if_pos (by omega)] at hK
    refine reader_fail_ok D (by decide) fun h3 D3 M3 => ⟨rfl, query_leaf_ok leafN fun a c h5 N5 _ l5 => ⟨_, _, _, rfl, ?_⟩⟩
    exact hK a c h5 (D3.le l5) (N5.base (M3.up D3.al)) (M3.trans (Mut.of_le l5))
  · have e2 := of_decide_eq_false e
    rw [if_neg (by omega)] at hK
    refine expr_Join_ok X Y Wy (by omega) (by omega) fun a' c' h' V => ⟨_, _, _, rfl, ?_⟩
    refine hK a' c' h' (D.le V.le0) ⟨V.slp encN_len (by decide), fun b o e => ?_⟩ (Mut.of_le V.le0)
    obtain rfl := (OwnV.own V).at0 b o e
    exact OwnV.new V b e
end Go.Proofs.YtonlacplogbodaaGreatDoor
