/-
  Laws and contracts on which the statement's proof stands, part 5. Conditions: those stated at each.
-/
import Derived.Test.YtejefijpcggkfaaGreatDoorBs4
namespace Go.Proofs.YtejefijpcggkfaaGreatDoor
open Go Go.Vc
set_option maxRecDepth 100000
set_option linter.unusedVariables false
def VC_R_asks (u_qAggsa : Option Addr) (u_qAggsn u_qAggsc : Nat) (u_qWherea : Option Addr) (u_qWheren u_qWherec : Nat) (u_qBya : Option Addr) (u_qByn u_qByc : Nat) (u_qSize : Int) (u_qSlide : Int) (u_qDelay : Int) (u_qLate : Int) (u_eTime : Int) (u_eKKind : Int) (u_eKN : Int) (u_eAKind : Int) (u_eAN : Int) (u_eBKind : Int) (u_eBN : Int) (h : Hp) (R : Value → Hp → Prop) : Prop :=
  (((decide ((((u_qWheren : Nat) : Int) : Int) = 0)) = true → R (vb true) h) ∧ ((decide ((((u_qWheren : Nat) : Int) : Int) = 0)) = false → (CallOK Tryz.prog 63 [(vsl u_qWherea u_qWheren u_qWherec), (vag [(vi u_eTime), (vi u_eKKind), (vi u_eKN), (vi u_eAKind), (vi u_eAN), (vi u_eBKind), (vi u_eBN)])] h fun v2 h3 => ∃ (x4 : Int) (x5 : Int), v2 = (vag [(vi x4), (vi x5)]) ∧ R (vb (bif (decide ((x4 : Int) = 2)) then (decide ((x5 : Int) = 1)) else false)) h3)))
theorem ok_R_asks {u_qAggsa : Option Addr} {u_qAggsn u_qAggsc : Nat} {u_qWherea : Option Addr} {u_qWheren u_qWherec : Nat} {u_qBya : Option Addr} {u_qByn u_qByc : Nat} {u_qSize : Int} {u_qSlide : Int} {u_qDelay : Int} {u_qLate : Int} {u_eTime : Int} {u_eKKind : Int} {u_eKN : Int} {u_eAKind : Int} {u_eAN : Int} {u_eBKind : Int} {u_eBN : Int} {h : Hp} {R : Value → Hp → Prop} (H : VC_R_asks u_qAggsa u_qAggsn u_qAggsc u_qWherea u_qWheren u_qWherec u_qBya u_qByn u_qByc u_qSize u_qSlide u_qDelay u_qLate u_eTime u_eKKind u_eKN u_eAKind u_eAN u_eBKind u_eBN h R) : CallOK Tryz.prog 31 [(vag [(vsl u_qAggsa u_qAggsn u_qAggsc), (vsl u_qWherea u_qWheren u_qWherec), (vsl u_qBya u_qByn u_qByc), (vi u_qSize), (vi u_qSlide), (vi u_qDelay), (vi u_qLate)]), (vag [(vi u_eTime), (vi u_eKKind), (vi u_eKN), (vi u_eAKind), (vi u_eAN), (vi u_eBKind), (vi u_eBN)])] h R :=
  call_of (cfg := ⟨[], [], []⟩) noNG mixed Tryz.func31 [.ag [.v (vsl u_qAggsa u_qAggsn u_qAggsc), .v (vsl u_qWherea u_qWheren u_qWherec), .v (vsl u_qBya u_qByn u_qByc), .v (vi u_qSize), .v (vi u_qSlide), .v (vi u_qDelay), .v (vi u_qLate)], .ag [.v (vi u_eTime), .v (vi u_eKKind), .v (vi u_eKN), .v (vi u_eAKind), .v (vi u_eAN), .v (vi u_eBKind), .v (vi u_eBN)]] (by kernel_rfl) rfl (by kernel_rfl) H
def VC_R_keyOf (u_qAggsa : Option Addr) (u_qAggsn u_qAggsc : Nat) (u_qWherea : Option Addr) (u_qWheren u_qWherec : Nat) (u_qBya : Option Addr) (u_qByn u_qByc : Nat) (u_qSize : Int) (u_qSlide : Int) (u_qDelay : Int) (u_qLate : Int) (u_eTime : Int) (u_eKKind : Int) (u_eKN : Int) (u_eAKind : Int) (u_eAN : Int) (u_eBKind : Int) (u_eBN : Int) (h : Hp) (R : Value → Hp → Prop) : Prop :=
  (((decide ((((u_qByn : Nat) : Int) : Int) = 0)) = true → R (vag [(vi 0), (vi 0)]) h) ∧ ((decide ((((u_qByn : Nat) : Int) : Int) = 0)) = false → (CallOK Tryz.prog 63 [(vsl u_qBya u_qByn u_qByc), (vag [(vi u_eTime), (vi u_eKKind), (vi u_eKN), (vi u_eAKind), (vi u_eAN), (vi u_eBKind), (vi u_eBN)])] h fun v2 h3 => ∃ (x4 : Int) (x5 : Int), v2 = (vag [(vi x4), (vi x5)]) ∧ R (vag [(vi x4), (vi x5)]) h3)))
theorem ok_R_keyOf {u_qAggsa : Option Addr} {u_qAggsn u_qAggsc : Nat} {u_qWherea : Option Addr} {u_qWheren u_qWherec : Nat} {u_qBya : Option Addr} {u_qByn u_qByc : Nat} {u_qSize : Int} {u_qSlide : Int} {u_qDelay : Int} {u_qLate : Int} {u_eTime : Int} {u_eKKind : Int} {u_eKN : Int} {u_eAKind : Int} {u_eAN : Int} {u_eBKind : Int} {u_eBN : Int} {h : Hp} {R : Value → Hp → Prop} (H : VC_R_keyOf u_qAggsa u_qAggsn u_qAggsc u_qWherea u_qWheren u_qWherec u_qBya u_qByn u_qByc u_qSize u_qSlide u_qDelay u_qLate u_eTime u_eKKind u_eKN u_eAKind u_eAN u_eBKind u_eBN h R) : CallOK Tryz.prog 34 [(vag [(vsl u_qAggsa u_qAggsn u_qAggsc), (vsl u_qWherea u_qWheren u_qWherec), (vsl u_qBya u_qByn u_qByc), (vi u_qSize), (vi u_qSlide), (vi u_qDelay), (vi u_qLate)]), (vag [(vi u_eTime), (vi u_eKKind), (vi u_eKN), (vi u_eAKind), (vi u_eAN), (vi u_eBKind), (vi u_eBN)])] h R :=
  call_of (cfg := ⟨[], [], []⟩) noNG mixed Tryz.func34 [.ag [.v (vsl u_qAggsa u_qAggsn u_qAggsc), .v (vsl u_qWherea u_qWheren u_qWherec), .v (vsl u_qBya u_qByn u_qByc), .v (vi u_qSize), .v (vi u_qSlide), .v (vi u_qDelay), .v (vi u_qLate)], .ag [.v (vi u_eTime), .v (vi u_eKKind), .v (vi u_eKN), .v (vi u_eAKind), .v (vi u_eAN), .v (vi u_eBKind), .v (vi u_eBN)]] (by kernel_rfl) rfl (by kernel_rfl) H
def VC_R_pane_add (u_pb u_po : Nat) (u_qAggsa : Option Addr) (u_qAggsn u_qAggsc : Nat) (u_qWherea : Option Addr) (u_qWheren u_qWherec : Nat) (u_qBya : Option Addr) (u_qByn u_qByc : Nat) (u_qSize : Int) (u_qSlide : Int) (u_qDelay : Int) (u_qLate : Int) (u_eTime : Int) (u_eKKind : Int) (u_eKN : Int) (u_eAKind : Int) (u_eAN : Int) (u_eBKind : Int) (u_eBN : Int) (h : Hp) (R : Value → Hp → Prop) : Prop :=
  (∃ (I2 : List Value → Hp → Prop) (m3 : List Value → Hp → Nat), I2 [(vi 0)] h ∧ ∀ (vs4 : List Value) (h5 : Hp), I2 vs4 h5 → ∃ (x6 : Int), vs4 = [(vi x6)] ∧ (((decide ((x6 : Int) < ((u_qAggsn : Nat) : Int))) = true → (∃ (b8 o9 : Nat), (u_qAggsa = some ⟨b8, o9, none⟩ ∧ (0 : Int) ≤ x6 ∧ x6 < ((u_qAggsn : Nat) : Int)) ∧ (∃ (x10 : Int), (Hp.cell h5 b8 (o9 + x6.toNat * 2) = some (vi x10)) ∧ (let J20 : Int → Int → Hp → Prop := fun (x38 : Int) (x39 : Int) (h40 : Hp) => (∃ (a41 : Option Addr) (n41 c41 : Nat), (Hp.cell h40 u_pb (u_po + 3) = some (vsl a41 n41 c41)) ∧ (∃ (a42 : Option Addr) (n42 c42 : Nat), (Hp.cell h40 u_pb (u_po + 3) = some (vsl a42 n42 c42)) ∧ (∃ (b43 o44 : Nat), (a42 = some ⟨b43, o44, none⟩ ∧ (0 : Int) ≤ x6 ∧ x6 < ((n42 : Nat) : Int)) ∧ (∃ (a45 : Option Addr) (n45 c45 : Nat), (Hp.cell h40 b43 (o44 + x6.toNat * 1) = some (vsl a45 n45 c45)) ∧ (∀ (b46 : Nat), h40 b46 = none → let h47 : Hp := Hp.set h40 b46 (cellsO [(vi x38), (vi x39)] 33); (SemOK Tryz.prog (Builtin.append_ #[49, 49] 49 #[(vsl a45 n45 c45), (vsl (some (⟨b46, 0, none⟩ : Addr)) 1 1)]) h47 fun v48 h49 => ∃ (a50 : Option Addr) (n50 c50 : Nat), v48 = (vsl a50 n50 c50) ∧ ((Hp.cell h49 u_pb (u_po + 3) = some (vsl a41 n41 c41)) ∧ (∃ (b51 o52 : Nat), (a41 = some ⟨b51, o52, none⟩ ∧ (0 : Int) ≤ x6 ∧ x6 < ((n41 : Nat) : Int)) ∧ (Hp.store h49 b51 (o52 + x6.toNat * 1) [(vsl a50 n50 c50)] fun h53 => (∃ (x55 : Int), (IsW x55 (x6 + 1)) ∧ (I2 [(vi x55)] h53 ∧ m3 [(vi x55)] h53 < m3 vs4 h5))))))))))); (((decide ((x10 : Int) > 1)) = true → (∃ (b11 o12 : Nat), (u_qAggsa = some ⟨b11, o12, none⟩ ∧ (0 : Int) ≤ x6 ∧ x6 < ((u_qAggsn : Nat) : Int)) ∧ (∃ (a13 : Option Addr) (n13 c13 : Nat), (Hp.cell h5 b11 ((o12 + x6.toNat * 2) + 1) = some (vsl a13 n13 c13)) ∧ (CallOK Tryz.prog 63 [(vsl a13 n13 c13), (vag [(vi u_eTime), (vi u_eKKind), (vi u_eKN), (vi u_eAKind), (vi u_eAN), (vi u_eBKind), (vi u_eBN)])] h5 fun v14 h15 => ∃ (x16 : Int) (x17 : Int), v14 = (vag [(vi x16), (vi x17)]) ∧ (J20 x16 x17 h15))))) ∧ ((decide ((x10 : Int) > 1)) = false → (J20 0 0 h5))))))) ∧ ((decide ((x6 : Int) < ((u_qAggsn : Nat) : Int))) = false → R (vtup []) h5)))
theorem ok_R_pane_add {u_pb u_po : Nat} {u_qAggsa : Option Addr} {u_qAggsn u_qAggsc : Nat} {u_qWherea : Option Addr} {u_qWheren u_qWherec : Nat} {u_qBya : Option Addr} {u_qByn u_qByc : Nat} {u_qSize : Int} {u_qSlide : Int} {u_qDelay : Int} {u_qLate : Int} {u_eTime : Int} {u_eKKind : Int} {u_eKN : Int} {u_eAKind : Int} {u_eAN : Int} {u_eBKind : Int} {u_eBN : Int} {h : Hp} {R : Value → Hp → Prop} (H : VC_R_pane_add u_pb u_po u_qAggsa u_qAggsn u_qAggsc u_qWherea u_qWheren u_qWherec u_qBya u_qByn u_qByc u_qSize u_qSlide u_qDelay u_qLate u_eTime u_eKKind u_eKN u_eAKind u_eAN u_eBKind u_eBN h R) : CallOK Tryz.prog 35 [(vhp u_pb u_po), (vag [(vsl u_qAggsa u_qAggsn u_qAggsc), (vsl u_qWherea u_qWheren u_qWherec), (vsl u_qBya u_qByn u_qByc), (vi u_qSize), (vi u_qSlide), (vi u_qDelay), (vi u_qLate)]), (vag [(vi u_eTime), (vi u_eKKind), (vi u_eKN), (vi u_eAKind), (vi u_eAN), (vi u_eBKind), (vi u_eBN)])] h R :=
  call_of (cfg := ⟨[], [(2, ([6], [.one (.int .i64)], []))], [(6, [0, 1, 2, 3, 4, 5, 6, 7, 8]), (7, [0, 1, 2, 3, 4, 5, 6, 7, 8, 9, 10, 11, 12, 13, 14, 15, 16])]⟩) noNG mixed Tryz.func35 [.one (.hp u_pb u_po), .ag [.v (vsl u_qAggsa u_qAggsn u_qAggsc), .v (vsl u_qWherea u_qWheren u_qWherec), .v (vsl u_qBya u_qByn u_qByc), .v (vi u_qSize), .v (vi u_qSlide), .v (vi u_qDelay), .v (vi u_qLate)], .ag [.v (vi u_eTime), .v (vi u_eKKind), .v (vi u_eKN), .v (vi u_eAKind), .v (vi u_eAN), .v (vi u_eBKind), .v (vi u_eBN)]] (by kernel_rfl) rfl (by kernel_rfl) H
def VC_R_pane_out (u_pb u_po : Nat) (u_qAggsa : Option Addr) (u_qAggsn u_qAggsc : Nat) (u_qWherea : Option Addr) (u_qWheren u_qWherec : Nat) (u_qBya : Option Addr) (u_qByn u_qByc : Nat) (u_qSize : Int) (u_qSlide : Int) (u_qDelay : Int) (u_qLate : Int) (h : Hp) (R : Value → Hp → Prop) : Prop :=
  (∃ (x1 : Int), (Hp.cell h u_pb u_po = some (vi x1)) ∧ (∃ (x2 : Int) (x3 : Int), (Hp.row h u_pb (u_po + 1) 2 = some [(vi x2), (vi x3)]) ∧ (let J34 : Int → Int → Int → Option Addr → Nat → Nat → Hp → Prop := fun (x45 : Int) (x46 : Int) (x47 : Int) (a48 : Option Addr) (n48 c48 : Nat) (h49 : Hp) => R (vag [(vi x45), (vi x46), (vi x47), (vsl a48 n48 c48)]) h49; (∃ (I5 : List Value → Hp → Prop) (m6 : List Value → Hp → Nat), I5 [(vi 0), (vi x1), (vi x2), (vi x3), (vsl none 0 0)] h ∧ ∀ (vs7 : List Value) (h8 : Hp), I5 vs7 h8 → ∃ (x9 : Int) (x10 : Int) (x11 : Int) (x12 : Int) (a13 : Option Addr) (n13 c13 : Nat), vs7 = [(vi x9), (vi x10), (vi x11), (vi x12), (vsl a13 n13 c13)] ∧ (((decide ((x9 : Int) < ((u_qAggsn : Nat) : Int))) = true → (∃ (b16 o17 : Nat), (u_qAggsa = some ⟨b16, o17, none⟩ ∧ (0 : Int) ≤ x9 ∧ x9 < ((u_qAggsn : Nat) : Int)) ∧ (∃ (x18 : Int), (Hp.cell h8 b16 (o17 + x9.toNat * 2) = some (vi x18)) ∧ (∃ (a19 : Option Addr) (n19 c19 : Nat), (Hp.cell h8 u_pb (u_po + 3) = some (vsl a19 n19 c19)) ∧ (∃ (b20 o21 : Nat), (a19 = some ⟨b20, o21, none⟩ ∧ (0 : Int) ≤ x9 ∧ x9 < ((n19 : Nat) : Int)) ∧ (∃ (a22 : Option Addr) (n22 c22 : Nat), (Hp.cell h8 b20 (o21 + x9.toNat * 1) = some (vsl a22 n22 c22)) ∧ (CallOK Tryz.prog 65 [(vi x18), (vsl a22 n22 c22)] h8 fun v23 h24 => ∃ (x25 : Int) (x26 : Int), v23 = (vag [(vi x25), (vi x26)]) ∧ (∀ (b27 : Nat), h24 b27 = none → let h28 : Hp := Hp.set h24 b27 (cellsO [(vi x25), (vi x26)] 33); (SemOK Tryz.prog (Builtin.append_ #[49, 49] 49 #[(vsl a13 n13 c13), (vsl (some (⟨b27, 0, none⟩ : Addr)) 1 1)]) h28 fun v29 h30 => ∃ (a31 : Option Addr) (n31 c31 : Nat), v29 = (vsl a31 n31 c31) ∧ (∃ (x33 : Int), (IsW x33 (x9 + 1)) ∧ (I5 [(vi x33), (vi x10), (vi x11), (vi x12), (vsl a31 n31 c31)] h30 ∧ m6 [(vi x33), (vi x10), (vi x11), (vi x12), (vsl a31 n31 c31)] h30 < m6 vs7 h8))))))))))) ∧ ((decide ((x9 : Int) < ((u_qAggsn : Nat) : Int))) = false → (J34 x10 x11 x12 a13 n13 c13 h8)))))))
theorem ok_R_pane_out {u_pb u_po : Nat} {u_qAggsa : Option Addr} {u_qAggsn u_qAggsc : Nat} {u_qWherea : Option Addr} {u_qWheren u_qWherec : Nat} {u_qBya : Option Addr} {u_qByn u_qByc : Nat} {u_qSize : Int} {u_qSlide : Int} {u_qDelay : Int} {u_qLate : Int} {h : Hp} {R : Value → Hp → Prop} (H : VC_R_pane_out u_pb u_po u_qAggsa u_qAggsn u_qAggsc u_qWherea u_qWheren u_qWherec u_qBya u_qByn u_qByc u_qSize u_qSlide u_qDelay u_qLate h R) : CallOK Tryz.prog 36 [(vhp u_pb u_po), (vag [(vsl u_qAggsa u_qAggsn u_qAggsc), (vsl u_qWherea u_qWheren u_qWherec), (vsl u_qBya u_qByn u_qByc), (vi u_qSize), (vi u_qSlide), (vi u_qDelay), (vi u_qLate)])] h R :=
  call_of (cfg := ⟨[], [(3, ([6], [.one (.int .i64)], [(2, [.int .i64, .int .i64, .int .i64, .slice])]))], [(1, [0, 1, 2, 3, 4, 5, 6, 7, 8, 9, 10]), (5, [0, 1, 2, 3, 4, 5, 6, 7, 8, 9, 10, 11, 12, 13, 14, 15])]⟩) noNG mixed Tryz.func36 [.one (.hp u_pb u_po), .ag [.v (vsl u_qAggsa u_qAggsn u_qAggsc), .v (vsl u_qWherea u_qWheren u_qWherec), .v (vsl u_qBya u_qByn u_qByc), .v (vi u_qSize), .v (vi u_qSlide), .v (vi u_qDelay), .v (vi u_qLate)]] (by kernel_rfl) rfl (by kernel_rfl) H
def VC_R_less (u_ab u_ao : Nat) (u_bb u_bo : Nat) (h : Hp) (R : Value → Hp → Prop) : Prop :=
  (∃ (x1 : Int), (Hp.cell h u_ab u_ao = some (vi x1)) ∧ (∃ (x2 : Int), (Hp.cell h u_bb u_bo = some (vi x2)) ∧ (((decide ((x1 : Int) ≠ x2)) = true → (∃ (x3 : Int), (Hp.cell h u_ab u_ao = some (vi x3)) ∧ (∃ (x4 : Int), (Hp.cell h u_bb u_bo = some (vi x4)) ∧ R (vb (decide ((x3 : Int) < x4))) h))) ∧ ((decide ((x1 : Int) ≠ x2)) = false → (∃ (x6 : Int), (Hp.cell h u_ab (u_ao + 1) = some (vi x6)) ∧ (∃ (x7 : Int), (Hp.cell h u_bb (u_bo + 1) = some (vi x7)) ∧ (((decide ((x6 : Int) ≠ x7)) = true → (∃ (x8 : Int), (Hp.cell h u_ab (u_ao + 1) = some (vi x8)) ∧ (∃ (x9 : Int), (Hp.cell h u_bb (u_bo + 1) = some (vi x9)) ∧ R (vb (decide ((x8 : Int) < x9))) h))) ∧ ((decide ((x6 : Int) ≠ x7)) = false → (∃ (x11 : Int), (Hp.cell h u_ab ((u_ao + 1) + 1) = some (vi x11)) ∧ (∃ (x12 : Int), (Hp.cell h u_bb ((u_bo + 1) + 1) = some (vi x12)) ∧ R (vb (decide ((x11 : Int) < x12))) h))))))))))
theorem ok_R_less {u_ab u_ao : Nat} {u_bb u_bo : Nat} {h : Hp} {R : Value → Hp → Prop} (H : VC_R_less u_ab u_ao u_bb u_bo h R) : CallOK Tryz.prog 64 [(vhp u_ab u_ao), (vhp u_bb u_bo)] h R :=
  call_of (cfg := ⟨[], [], [(1, [0, 1, 2, 3, 4, 5, 6, 7, 8]), (2, [0, 1, 2, 3, 4, 5, 6, 7, 8, 9]), (3, [0, 1, 2, 3, 4, 5, 6, 7, 8, 9, 10]), (4, [0, 1, 2, 3, 4, 5, 6, 7, 8, 9, 10, 11]), (5, [0, 1, 2, 3, 4, 5, 6, 7, 8, 9, 10, 11])]⟩) noNG mixed Tryz.func64 [.one (.hp u_ab u_ao), .one (.hp u_bb u_bo)] (by kernel_rfl) rfl (by kernel_rfl) H
def VC_R_find (u_la : Option Addr) (u_ln u_lc : Nat) (u_start : Int) (u_keyKind : Int) (u_keyN : Int) (u_many : Int) (h : Hp) (R : Value → Hp → Prop) : Prop :=
  (SemOK Tryz.prog (Instr.makeSlice 116 (vi u_many) (vi u_many)) h fun v1 h2 => ∃ (a3 : Option Addr) (n3 c3 : Nat), v1 = (vsl a3 n3 c3) ∧ (∀ (b4 : Nat), h2 b4 = none → let h5 : Hp := Hp.set h2 b4 (cellsO [(vi u_start), (vi u_keyKind), (vi u_keyN), (vsl a3 n3 c3), (vb false)] 118); (let J23 : Int → Hp → Prop := fun (x25 : Int) (h26 : Hp) => (∃ (b27 o28 : Nat), ((decide ((x25 : Int) < ((u_ln : Nat) : Int))) = true → (u_la = some ⟨b27, o28, none⟩ ∧ (0 : Int) ≤ x25 ∧ x25 < ((u_ln : Nat) : Int))) ∧ (∃ (q29 : Option Addr), ((decide ((x25 : Int) < ((u_ln : Nat) : Int))) = true → Hp.cell h26 b27 (o28 + x25.toNat * 1) = some (vp q29)) ∧ (∃ (b30 o31 : Nat), ((decide ((x25 : Int) < ((u_ln : Nat) : Int))) = true → q29 = some ⟨b30, o31, none⟩) ∧ (∃ (x32 : Int), ((decide ((x25 : Int) < ((u_ln : Nat) : Int))) = true → Hp.cell h26 b30 o31 = some (vi x32)) ∧ (∃ (b33 o34 : Nat), ((bif (decide ((x25 : Int) < ((u_ln : Nat) : Int))) then (decide ((x32 : Int) = u_start)) else false) = true → (u_la = some ⟨b33, o34, none⟩ ∧ (0 : Int) ≤ x25 ∧ x25 < ((u_ln : Nat) : Int))) ∧ (∃ (q35 : Option Addr), ((bif (decide ((x25 : Int) < ((u_ln : Nat) : Int))) then (decide ((x32 : Int) = u_start)) else false) = true → Hp.cell h26 b33 (o34 + x25.toNat * 1) = some (vp q35)) ∧ (∃ (b36 o37 : Nat), ((bif (decide ((x25 : Int) < ((u_ln : Nat) : Int))) then (decide ((x32 : Int) = u_start)) else false) = true → q35 = some ⟨b36, o37, none⟩) ∧ (∃ (x38 : Int) (x39 : Int), ((bif (decide ((x25 : Int) < ((u_ln : Nat) : Int))) then (decide ((x32 : Int) = u_start)) else false) = true → Hp.row h26 b36 (o37 + 1) 2 = some [(vi x38), (vi x39)]) ∧ (∃ (p40 : Bool), ((bif (decide ((x25 : Int) < ((u_ln : Nat) : Int))) then (decide ((x32 : Int) = u_start)) else false) = true → Rd Tryz.prog ((eqGuard .eql 33 (.tmp 56) (.tmp 57) (vag [(vi x38), (vi x39)]) (vag [(vi u_keyKind), (vi u_keyN)]) >>= fun _ => binOp .eql 33 (vag [(vi x38), (vi x39)]) (vag [(vi u_keyKind), (vi u_keyN)]))) h26 (vb p40)) ∧ (((bif (bif (decide ((x25 : Int) < ((u_ln : Nat) : Int))) then (decide ((x32 : Int) = u_start)) else false) then p40 else false) = true → (∃ (b41 o42 : Nat), (u_la = some ⟨b41, o42, none⟩ ∧ (0 : Int) ≤ x25 ∧ x25 < ((u_ln : Nat) : Int)) ∧ (∃ (q43 : Option Addr), (Hp.cell h26 b41 (o42 + x25.toNat * 1) = some (vp q43)) ∧ R (vtup [(vsl u_la u_ln u_lc), (vp q43)]) h26))) ∧ ((bif (bif (decide ((x25 : Int) < ((u_ln : Nat) : Int))) then (decide ((x32 : Int) = u_start)) else false) then p40 else false) = false → (∃ (a45 : Option Addr) (n45 c45 : Nat), (Rd Tryz.prog (Instr.sliceAt 76 (vsl u_la u_ln u_lc) none (some (vi x25)) none) h26 (vsl a45 n45 c45)) ∧ (SemOK Tryz.prog (Builtin.append_ #[76, 76] 76 #[(vsl none 0 0), (vsl a45 n45 c45)]) h26 fun v46 h47 => ∃ (a48 : Option Addr) (n48 c48 : Nat), v46 = (vsl a48 n48 c48) ∧ (∀ (b49 : Nat), h47 b49 = none → let h50 : Hp := Hp.set h47 b49 (cellsO [(vhp b4 0)] 77); (SemOK Tryz.prog (Builtin.append_ #[76, 76] 76 #[(vsl a48 n48 c48), (vsl (some (⟨b49, 0, none⟩ : Addr)) 1 1)]) h50 fun v51 h52 => ∃ (a53 : Option Addr) (n53 c53 : Nat), v51 = (vsl a53 n53 c53) ∧ (∃ (a54 : Option Addr) (n54 c54 : Nat), (Rd Tryz.prog (Instr.sliceAt 76 (vsl u_la u_ln u_lc) (some (vi x25)) none none) h52 (vsl a54 n54 c54)) ∧ (SemOK Tryz.prog (Builtin.append_ #[76, 76] 76 #[(vsl a53 n53 c53), (vsl a54 n54 c54)]) h52 fun v55 h56 => ∃ (a57 : Option Addr) (n57 c57 : Nat), v55 = (vsl a57 n57 c57) ∧ R (vtup [(vsl a57 n57 c57), (vhp b4 0)]) h56))))))))))))))))); (∃ (I7 : List Value → Hp → Prop) (m8 : List Value → Hp → Nat), I7 [(vi 0)] h5 ∧ ∀ (vs9 : List Value) (h10 : Hp), I7 vs9 h10 → ∃ (x11 : Int), vs9 = [(vi x11)] ∧ (((decide ((x11 : Int) < ((u_ln : Nat) : Int))) = true → (∃ (b14 o15 : Nat), (u_la = some ⟨b14, o15, none⟩ ∧ (0 : Int) ≤ x11 ∧ x11 < ((u_ln : Nat) : Int)) ∧ (∃ (q16 : Option Addr), (Hp.cell h10 b14 (o15 + x11.toNat * 1) = some (vp q16)) ∧ (CallOK Tryz.prog 64 [(vp q16), (vhp b4 0)] h10 fun v17 h18 => ∃ (p19 : Bool), v17 = (vb p19) ∧ (((!p19) = true → (J23 x11 h18)) ∧ ((!p19) = false → (∃ (x22 : Int), (IsW x22 (x11 + 1)) ∧ (I7 [(vi x22)] h18 ∧ m8 [(vi x22)] h18 < m8 vs9 h10)))))))) ∧ ((decide ((x11 : Int) < ((u_ln : Nat) : Int))) = false → (J23 x11 h10)))))))
theorem ok_R_find {u_la : Option Addr} {u_ln u_lc : Nat} {u_start : Int} {u_keyKind : Int} {u_keyN : Int} {u_many : Int} {h : Hp} {R : Value → Hp → Prop} (H : VC_R_find u_la u_ln u_lc u_start u_keyKind u_keyN u_many h R) : CallOK Tryz.prog 33 [(vsl u_la u_ln u_lc), (vi u_start), (vag [(vi u_keyKind), (vi u_keyN)]), (vi u_many)] h R :=
  call_of (cfg := ⟨[19], [(3, ([11], [.one (.int .i64)], []))], [(1, [0, 1, 2, 3, 4, 5, 6]), (7, [0, 1, 2, 3, 4, 5, 6, 7, 8, 9, 10, 11, 12, 13, 14, 15, 16, 17, 18, 19, 20, 21, 22, 23, 24, 25]), (8, [0, 1, 2, 3, 4, 5, 6])]⟩) noNG mixed Tryz.func33 [.one (.v (vsl u_la u_ln u_lc)), .one (.v (vi u_start)), .ag [.v (vi u_keyKind), .v (vi u_keyN)], .one (.v (vi u_many))] (by kernel_rfl) rfl (by kernel_rfl) H
def VC_R_Answer (u_qAggsa : Option Addr) (u_qAggsn u_qAggsc : Nat) (u_qWherea : Option Addr) (u_qWheren u_qWherec : Nat) (u_qBya : Option Addr) (u_qByn u_qByc : Nat) (u_qSize : Int) (u_qSlide : Int) (u_qDelay : Int) (u_qLate : Int) (u_partsa : Option Addr) (u_partsn u_partsc : Nat) (h : Hp) (R : Value → Hp → Prop) : Prop :=
  (∃ (I2 : List Value → Hp → Prop) (m3 : List Value → Hp → Nat), I2 [(vsl none 0 0), (vi 0), (vi 0)] h ∧ ∀ (vs4 : List Value) (h5 : Hp), I2 vs4 h5 → ∃ (a6 : Option Addr) (n6 c6 : Nat) (x7 : Int) (x8 : Int), vs4 = [(vsl a6 n6 c6), (vi x7), (vi x8)] ∧ (((decide ((x8 : Int) < ((u_partsn : Nat) : Int))) = true → (let J94 : Option Addr → Nat → Nat → Int → Hp → Prop := fun (a100 : Option Addr) (n100 c100 : Nat) (x101 : Int) (h102 : Hp) => (∃ (x103 : Int), (IsW x103 (x8 + 1)) ∧ (I2 [(vsl a100 n100 c100), (vi x101), (vi x103)] h102 ∧ m3 [(vsl a100 n100 c100), (vi x101), (vi x103)] h102 < m3 vs4 h5)); (∃ (I12 : List Value → Hp → Prop) (m13 : List Value → Hp → Nat), I12 [(vsl a6 n6 c6), (vi x7), (vi (-1)), (vi 0)] h5 ∧ ∀ (vs14 : List Value) (h15 : Hp), I12 vs14 h15 → ∃ (a16 : Option Addr) (n16 c16 : Nat) (x17 : Int) (x18 : Int) (x19 : Int), vs14 = [(vsl a16 n16 c16), (vi x17), (vi x18), (vi x19)] ∧ (∃ (b20 o21 : Nat), (u_partsa = some ⟨b20, o21, none⟩ ∧ (0 : Int) ≤ x8 ∧ x8 < ((u_partsn : Nat) : Int)) ∧ (∃ (a22 : Option Addr) (n22 c22 : Nat), (Hp.cell h15 b20 (o21 + x8.toNat * 1) = some (vsl a22 n22 c22)) ∧ (((decide ((x19 : Int) < ((n22 : Nat) : Int))) = true → (∃ (b25 o26 : Nat), (u_partsa = some ⟨b25, o26, none⟩ ∧ (0 : Int) ≤ x8 ∧ x8 < ((u_partsn : Nat) : Int)) ∧ (∃ (a27 : Option Addr) (n27 c27 : Nat), (Hp.cell h15 b25 (o26 + x8.toNat * 1) = some (vsl a27 n27 c27)) ∧ (∃ (b28 o29 : Nat), (a27 = some ⟨b28, o29, none⟩ ∧ (0 : Int) ≤ x19 ∧ x19 < ((n27 : Nat) : Int)) ∧ (∃ (x30 : Int) (x31 : Int) (x32 : Int) (x33 : Int) (x34 : Int) (x35 : Int) (x36 : Int), (Hp.row h15 b28 (o29 + x19.toNat * 7) 7 = some [(vi x30), (vi x31), (vi x32), (vi x33), (vi x34), (vi x35), (vi x36)]) ∧ (CallOK Tryz.prog 31 [(vag [(vsl u_qAggsa u_qAggsn u_qAggsc), (vsl u_qWherea u_qWheren u_qWherec), (vsl u_qBya u_qByn u_qByc), (vi u_qSize), (vi u_qSlide), (vi u_qDelay), (vi u_qLate)]), (vag [(vi x30), (vi x31), (vi x32), (vi x33), (vi x34), (vi x35), (vi x36)])] h15 fun v37 h38 => ∃ (p39 : Bool), v37 = (vb p39) ∧ (let J87 : Option Addr → Nat → Nat → Int → Hp → Prop := fun (a88 : Option Addr) (n88 c88 : Nat) (x89 : Int) (h90 : Hp) => (∃ (x91 : Int), (Rd Tryz.prog (Builtin.max_ #[3, 3] 3 #[(vi x18), (vi x30)]) h90 (vi x91)) ∧ (∃ (x93 : Int), (IsW x93 (x19 + 1)) ∧ (I12 [(vsl a88 n88 c88), (vi x89), (vi x91), (vi x93)] h90 ∧ m13 [(vsl a88 n88 c88), (vi x89), (vi x91), (vi x93)] h90 < m13 vs14 h15))); ((p39 = true → (CallOK Tryz.prog 32 [(vi x30), (vi u_qSize), (vi u_qSlide)] h38 fun v40 h41 => ∃ (a42 : Option Addr) (n42 c42 : Nat), v40 = (vsl a42 n42 c42) ∧ (∃ (I44 : List Value → Hp → Prop) (m45 : List Value → Hp → Nat), I44 [(vsl a16 n16 c16), (vi x17), (vi 0)] h41 ∧ ∀ (vs46 : List Value) (h47 : Hp), I44 vs46 h47 → ∃ (a48 : Option Addr) (n48 c48 : Nat) (x49 : Int) (x50 : Int), vs46 = [(vsl a48 n48 c48), (vi x49), (vi x50)] ∧ (((decide ((x50 : Int) < ((n42 : Nat) : Int))) = true → (let J76 : Option Addr → Nat → Nat → Int → Hp → Prop := fun (a82 : Option Addr) (n82 c82 : Nat) (x83 : Int) (h84 : Hp) => (∃ (x85 : Int), (IsW x85 (x50 + 1)) ∧ (I44 [(vsl a82 n82 c82), (vi x83), (vi x85)] h84 ∧ m45 [(vsl a82 n82 c82), (vi x83), (vi x85)] h84 < m45 vs46 h47)); (∃ (b53 o54 : Nat), ((decide ((x18 : Int) ≥ 0)) = true → (a42 = some ⟨b53, o54, none⟩ ∧ (0 : Int) ≤ x50 ∧ x50 < ((n42 : Nat) : Int))) ∧ (∃ (x55 : Int), ((decide ((x18 : Int) ≥ 0)) = true → Hp.cell h47 b53 (o54 + x50.toNat * 1) = some (vi x55)) ∧ (∃ (x56 : Int), ((decide ((x18 : Int) ≥ 0)) = true → IsW x56 (x55 + u_qSize)) ∧ (∃ (x57 : Int), ((decide ((x18 : Int) ≥ 0)) = true → IsW x57 (x56 + u_qLate)) ∧ (∃ (x58 : Int), ((decide ((x18 : Int) ≥ 0)) = true → IsW x58 (x18 - u_qDelay)) ∧ (((bif (decide ((x18 : Int) ≥ 0)) then (decide ((x57 : Int) ≤ x58)) else false) = true → (∃ (x59 : Int), (IsW x59 (x49 + 1)) ∧ (J76 a48 n48 c48 x59 h47))) ∧ ((bif (decide ((x18 : Int) ≥ 0)) then (decide ((x57 : Int) ≤ x58)) else false) = false → (∃ (b62 o63 : Nat), (a42 = some ⟨b62, o63, none⟩ ∧ (0 : Int) ≤ x50 ∧ x50 < ((n42 : Nat) : Int)) ∧ (∃ (x64 : Int), (Hp.cell h47 b62 (o63 + x50.toNat * 1) = some (vi x64)) ∧ (CallOK Tryz.prog 34 [(vag [(vsl u_qAggsa u_qAggsn u_qAggsc), (vsl u_qWherea u_qWheren u_qWherec), (vsl u_qBya u_qByn u_qByc), (vi u_qSize), (vi u_qSlide), (vi u_qDelay), (vi u_qLate)]), (vag [(vi x30), (vi x31), (vi x32), (vi x33), (vi x34), (vi x35), (vi x36)])] h47 fun v65 h66 => ∃ (x67 : Int) (x68 : Int), v65 = (vag [(vi x67), (vi x68)]) ∧ ((Hp.cell h66 b62 (o63 + x50.toNat * 1) = some (vi x64)) ∧ (CallOK Tryz.prog 33 [(vsl a48 n48 c48), (vi x64), (vag [(vi x67), (vi x68)]), (vi ((u_qAggsn : Nat) : Int))] h66 fun v69 h70 => ∃ (a71 : Option Addr) (n71 c71 : Nat) (q72 : Option Addr), v69 = (vtup [(vsl a71 n71 c71), (vp q72)]) ∧ (CallOK Tryz.prog 35 [(vp q72), (vag [(vsl u_qAggsa u_qAggsn u_qAggsc), (vsl u_qWherea u_qWheren u_qWherec), (vsl u_qBya u_qByn u_qByc), (vi u_qSize), (vi u_qSlide), (vi u_qDelay), (vi u_qLate)]), (vag [(vi x30), (vi x31), (vi x32), (vi x33), (vi x34), (vi x35), (vi x36)])] h70 fun v73 h74 => v73 = (vtup []) ∧ (J76 a71 n71 c71 x49 h74)))))))))))))))) ∧ ((decide ((x50 : Int) < ((n42 : Nat) : Int))) = false → (J87 a48 n48 c48 x49 h47)))))) ∧ (p39 = false → (J87 a16 n16 c16 x17 h38)))))))))) ∧ ((decide ((x19 : Int) < ((n22 : Nat) : Int))) = false → (J94 a16 n16 c16 x17 h15)))))))) ∧ ((decide ((x8 : Int) < ((u_partsn : Nat) : Int))) = false → (∃ (I105 : List Value → Hp → Prop) (m106 : List Value → Hp → Nat), I105 [(vsl none 0 0), (vi 0)] h5 ∧ ∀ (vs107 : List Value) (h108 : Hp), I105 vs107 h108 → ∃ (a109 : Option Addr) (n109 c109 : Nat) (x110 : Int), vs107 = [(vsl a109 n109 c109), (vi x110)] ∧ (((decide ((x110 : Int) < ((n6 : Nat) : Int))) = true → (∃ (b113 o114 : Nat), (a6 = some ⟨b113, o114, none⟩ ∧ (0 : Int) ≤ x110 ∧ x110 < ((n6 : Nat) : Int)) ∧ (∃ (q115 : Option Addr), (Hp.cell h108 b113 (o114 + x110.toNat * 1) = some (vp q115)) ∧ (CallOK Tryz.prog 36 [(vp q115), (vag [(vsl u_qAggsa u_qAggsn u_qAggsc), (vsl u_qWherea u_qWheren u_qWherec), (vsl u_qBya u_qByn u_qByc), (vi u_qSize), (vi u_qSlide), (vi u_qDelay), (vi u_qLate)])] h108 fun v116 h117 => ∃ (x118 : Int) (x119 : Int) (x120 : Int) (a121 : Option Addr) (n121 c121 : Nat), v116 = (vag [(vi x118), (vi x119), (vi x120), (vsl a121 n121 c121)]) ∧ (∀ (b122 : Nat), h117 b122 = none → let h123 : Hp := Hp.set h117 b122 (cellsO [(vi x118), (vi x119), (vi x120), (vsl a121 n121 c121)] 51); (SemOK Tryz.prog (Builtin.append_ #[36, 36] 36 #[(vsl a109 n109 c109), (vsl (some (⟨b122, 0, none⟩ : Addr)) 1 1)]) h123 fun v124 h125 => ∃ (a126 : Option Addr) (n126 c126 : Nat), v124 = (vsl a126 n126 c126) ∧ (∃ (x128 : Int), (IsW x128 (x110 + 1)) ∧ (I105 [(vsl a126 n126 c126), (vi x128)] h125 ∧ m106 [(vsl a126 n126 c126), (vi x128)] h125 < m106 vs107 h108)))))))) ∧ ((decide ((x110 : Int) < ((n6 : Nat) : Int))) = false → R (vtup [(vsl a109 n109 c109), (vi x7)]) h108))))))
theorem ok_R_Answer {u_qAggsa : Option Addr} {u_qAggsn u_qAggsc : Nat} {u_qWherea : Option Addr} {u_qWheren u_qWherec : Nat} {u_qBya : Option Addr} {u_qByn u_qByc : Nat} {u_qSize : Int} {u_qSlide : Int} {u_qDelay : Int} {u_qLate : Int} {u_partsa : Option Addr} {u_partsn u_partsc : Nat} {h : Hp} {R : Value → Hp → Prop} (H : VC_R_Answer u_qAggsa u_qAggsn u_qAggsc u_qWherea u_qWheren u_qWherec u_qBya u_qByn u_qByc u_qSize u_qSlide u_qDelay u_qLate u_partsa u_partsn u_partsc h R) : CallOK Tryz.prog 10 [(vag [(vsl u_qAggsa u_qAggsn u_qAggsc), (vsl u_qWherea u_qWheren u_qWherec), (vsl u_qBya u_qByn u_qByc), (vi u_qSize), (vi u_qSlide), (vi u_qDelay), (vi u_qLate)]), (vsl u_partsa u_partsn u_partsc)] h R :=
  call_of (cfg := ⟨[], [(15, ([6, 7, 14], [.one (.slice), .one (.int .i64), .one (.int .i64)], [])), (8, ([6, 7, 9, 10], [.one (.slice), .one (.int .i64), .one (.int .i64), .one (.int .i64)], [])), (4, ([6, 7, 8], [.one (.slice), .one (.int .i64), .one (.int .i64)], [])), (25, ([16, 17], [.one (.slice), .one (.int .i64)], []))], [(17, [0, 1, 2, 3, 4, 5, 6, 7, 8, 9, 10, 11, 12, 13, 14, 15, 16, 17, 18]), (20, [0, 1, 2, 3, 4, 5, 6, 8, 9, 10, 7, 11, 12, 13, 14, 15, 16]), (27, [0, 1, 2, 3, 4, 5, 6, 7])]⟩) noNG mixed Tryz.func10 [.ag [.v (vsl u_qAggsa u_qAggsn u_qAggsc), .v (vsl u_qWherea u_qWheren u_qWherec), .v (vsl u_qBya u_qByn u_qByc), .v (vi u_qSize), .v (vi u_qSlide), .v (vi u_qDelay), .v (vi u_qLate)], .one (.v (vsl u_partsa u_partsn u_partsc))] (by kernel_rfl) rfl (by kernel_rfl) H
def VC_R_Gathered (u_kind : Int) (u_la : Option Addr) (u_ln u_lc : Nat) (h : Hp) (R : Value → Hp → Prop) : Prop :=
  (∃ (I2 : List Value → Hp → Prop) (m3 : List Value → Hp → Nat), I2 [(vi 0), (vi 0), (vi 0), (vi 0)] h ∧ ∀ (vs4 : List Value) (h5 : Hp), I2 vs4 h5 → ∃ (x6 : Int) (x7 : Int) (x8 : Int) (x9 : Int), vs4 = [(vi x6), (vi x7), (vi x8), (vi x9)] ∧ (((decide ((x9 : Int) < ((u_ln : Nat) : Int))) = true → (let J25 : Int → Int → Int → Prop := fun (x32 : Int) (x33 : Int) (x34 : Int) => (∃ (x35 : Int), (IsW x35 (x9 + 1)) ∧ (I2 [(vi x32), (vi x33), (vi x34), (vi x35)] h5 ∧ m3 [(vi x32), (vi x33), (vi x34), (vi x35)] h5 < m3 vs4 h5)); (∃ (b12 o13 : Nat), (u_la = some ⟨b12, o13, none⟩ ∧ (0 : Int) ≤ x9 ∧ x9 < ((u_ln : Nat) : Int)) ∧ (∃ (x14 : Int) (x15 : Int), (Hp.row h5 b12 (o13 + x9.toNat * 2) 2 = some [(vi x14), (vi x15)]) ∧ (((bif (decide ((u_kind : Int) ≠ 1)) then (decide ((x14 : Int) = 0)) else false) = true → (J25 x6 x7 x8)) ∧ ((bif (decide ((u_kind : Int) ≠ 1)) then (decide ((x14 : Int) = 0)) else false) = false → (let J20 : Int → Prop := fun (x21 : Int) => (∃ (x22 : Int), (IsW x22 (x6 + 1)) ∧ (∃ (x23 : Int), (IsW x23 (x7 + x15)) ∧ (J25 x22 x23 x21))); (((bif (bif (decide ((x6 : Int) = 0)) then true else (bif (decide ((u_kind : Int) = 4)) then (decide ((x15 : Int) < x8)) else false)) then true else (bif (decide ((u_kind : Int) = 5)) then (decide ((x15 : Int) > x8)) else false)) = true → (J20 x15)) ∧ ((bif (bif (decide ((x6 : Int) = 0)) then true else (bif (decide ((u_kind : Int) = 4)) then (decide ((x15 : Int) < x8)) else false)) then true else (bif (decide ((u_kind : Int) = 5)) then (decide ((x15 : Int) > x8)) else false)) = false → (J20 x8)))))))))) ∧ ((decide ((x9 : Int) < ((u_ln : Nat) : Int))) = false → (((decide ((u_kind : Int) < 3)) = true → (CallOK Tryz.prog 103 [(vi x6)] h5 fun v36 h37 => ∃ (x38 : Int) (x39 : Int), v36 = (vag [(vi x38), (vi x39)]) ∧ R (vag [(vi x38), (vi x39)]) h37)) ∧ ((decide ((u_kind : Int) < 3)) = false → (((decide ((x6 : Int) = 0)) = true → R (vag [(vi 0), (vi 0)]) h5) ∧ ((decide ((x6 : Int) = 0)) = false → (((decide ((u_kind : Int) = 3)) = true → (CallOK Tryz.prog 103 [(vi x7)] h5 fun v42 h43 => ∃ (x44 : Int) (x45 : Int), v42 = (vag [(vi x44), (vi x45)]) ∧ R (vag [(vi x44), (vi x45)]) h43)) ∧ ((decide ((u_kind : Int) = 3)) = false → (CallOK Tryz.prog 103 [(vi x8)] h5 fun v47 h48 => ∃ (x49 : Int) (x50 : Int), v47 = (vag [(vi x49), (vi x50)]) ∧ R (vag [(vi x49), (vi x50)]) h48))))))))))
theorem ok_R_Gathered {u_kind : Int} {u_la : Option Addr} {u_ln u_lc : Nat} {h : Hp} {R : Value → Hp → Prop} (H : VC_R_Gathered u_kind u_la u_ln u_lc h R) : CallOK Tryz.prog 65 [(vi u_kind), (vsl u_la u_ln u_lc)] h R :=
  call_of (cfg := ⟨[], [(5, ([5, 6, 7, 8], [.one (.int .i64), .one (.int .i64), .one (.int .i64), .one (.int .i64)], []))], []⟩) noNG mixed Tryz.func65 [.one (.v (vi u_kind)), .one (.v (vsl u_la u_ln u_lc))] (by kernel_rfl) rfl (by kernel_rfl) H
end Go.Proofs.YtejefijpcggkfaaGreatDoor
namespace Go.Proofs.YtejefijpcggkfaaGreatDoor
open Go Go.Vc Go.Txt
set_option linter.unusedVariables false
theorem R_Gathered_ok {k : Int} (hk : 1 ≤ k) {a : Option Addr} {n c : Nat} {l : List (Int × Int)} {h : Hp} {R : Value → Hp → Prop} (S : SlP encV h a n l) (hv : ∀ v ∈ l, smallV v) (hn : n ≤ 1048576)
    (hK : R (vag (encV (gVal k (l.foldl (gStep k) (0, 0, 0))))) h) : CallOK Tryz.prog 65 [vi k, vsl a n c] h R := by
  refine ok_R_Gathered ?_
  unfold VC_R_Gathered
  have hl := S.1
  refine ⟨fun vs hh => hh = h ∧ ∃ i : Nat, i ≤ n ∧ vs = [vi ((l.take i).foldl (gStep k) (0, 0, 0)).1, vi ((l.take i).foldl (gStep k) (0, 0, 0)).2.1, vi ((l.take i).foldl (gStep k) (0, 0, 0)).2.2, vi i],
    fun vs hh => n - (vint vs 3).toNat, ⟨rfl, 0, Nat.zero_le _, by simp⟩, ?_⟩
  rintro vs hh ⟨rfl, i, hi, rfl⟩
  refine ⟨_, _, _, _, rfl, fun e => ?_, fun e => ?_⟩
  · have hlt : i < n := by simpa using e
    have hx : l[i]? = some l[i] := List.getElem?_eq_getElem (by omega)
    obtain ⟨b, o, ea, hr⟩ := S.get encV_len (by decide) hx
    have tk : l.take (i + 1) = l.take i ++ [l[i]] := List.take_succ_eq_append_getElem (by omega)
    have B := gfold_bound (k := k) (l.take i) (0, 0, 0) (fun v hm => hv v (List.mem_of_mem_take hm)) (by decide)
    have hs := hv l[i] (List.getElem_mem _)
    have st : ((l.take (i + 1)).foldl (gStep k) (0, 0, 0)) = gStep k ((l.take i).foldl (gStep k) (0, 0, 0)) l[i] := by rw [tk, List.foldl_append]; rfl
    have len : (l.take i).length ≤ i := by rw [List.length_take]; exact Nat.min_le_left _ _
    simp only at B
    have go : ∀ x y z : Int, (x, y, z) = ((l.take (i + 1)).foldl (gStep k) (0, 0, 0)) → ∃ u : Int, IsW u ((i : Int) + 1) ∧ ((hh = hh ∧ ∃ j : Nat, j ≤ n ∧ [vi x, vi y, vi z, vi u] = [vi ((l.take j).foldl (gStep k) (0, 0, 0)).1, vi ((l.take j).foldl (gStep k) (0, 0, 0)).2.1, vi ((l.take j).foldl (gStep k) (0, 0, 0)).2.2, vi j]) ∧
        n - (vint [vi x, vi y, vi z, vi u] 3).toNat < n - (vint [vi ((l.take i).foldl (gStep k) (0, 0, 0)).1, vi ((l.take i).foldl (gStep k) (0, 0, 0)).2.1, vi ((l.take i).foldl (gStep k) (0, 0, 0)).2.2, vi (i : Int)] 3).toNat) := by
      intro x y z e
      refine ⟨_, isW (by unfold InR; omega), ⟨rfl, i + 1, hlt, ?_⟩, by simp [vint]; omega⟩
      rw [← e]
      simp
    generalize hG : (l.take i).foldl (gStep k) (0, 0, 0) = G at *
    generalize hG2 : (l.take (i + 1)).foldl (gStep k) (0, 0, 0) = G2 at *
    unfold smallV at hs
    have i1 : InR (G.1 + 1) := by unfold InR; omega
    have i2 : InR (G.2.1 + l[i].2) := by unfold InR; omega
    intro J23
    refine ⟨b, o, ⟨ea, by omega, by omega⟩, _, _, by simpa [encV] using hr, fun e => ?_, fun e => ?_⟩
    · have e' : k ≠ 1 ∧ l[i].1 = 0 := by simpa [Bool.cond_eq_ite] using e
      refine go _ _ _ ?_
      rw [st, gStep, if_pos e']
    · have e' : ¬ (k ≠ 1 ∧ l[i].1 = 0) := by simpa [Bool.cond_eq_ite] using e
      intro J20
      refine ⟨fun e => ?_, fun e => ?_⟩
      · have e2 : G.1 = 0 ∨ (k = 4 ∧ l[i].2 < G.2.2) ∨ (k = 5 ∧ l[i].2 > G.2.2) := by simp [Bool.cond_eq_ite] at e; omega
        refine ⟨_, isW i1, _, isW i2, go _ _ _ ?_⟩
        rw [st, gStep, if_neg e', if_pos e2]
      · have e2 : ¬ (G.1 = 0 ∨ (k = 4 ∧ l[i].2 < G.2.2) ∨ (k = 5 ∧ l[i].2 > G.2.2)) := by simp [Bool.cond_eq_ite] at e; omega
        refine ⟨_, isW i1, _, isW i2, go _ _ _ ?_⟩
        rw [st, gStep, if_neg e', if_neg e2]
  · have hge : i = n := by simp at e; omega
    have ht : l.take i = l := List.take_of_length_le (by omega)
    rw [ht]
    generalize hG : l.foldl (gStep k) (0, 0, 0) = G at *
    unfold gVal at hK
    refine ⟨fun e => ?_, fun e => ⟨fun e2 => ?_, fun e2 => ⟨fun e3 => ?_, fun e3 => ?_⟩⟩⟩
    · have e : k = 1 ∨ k = 2 := by simp at e; omega
      rw [if_pos e] at hK
      exact R_Num_ok ⟨_, _, rfl, hK⟩
    all_goals have e : ¬ (k = 1 ∨ k = 2) := by simp at e; omega
    all_goals rw [if_neg e] at hK
    · have e2 : G.1 = 0 := by simpa using e2
      rw [if_pos e2] at hK
      exact hK
    all_goals have e2 : ¬ G.1 = 0 := by simpa using e2
    all_goals rw [if_neg e2] at hK
    · have e3 : k = 3 := by simpa using e3
      rw [if_pos e3] at hK
      exact R_Num_ok ⟨_, _, rfl, hK⟩
    · have e3 : ¬ k = 3 := by simpa using e3
      rw [if_neg e3] at hK
      exact R_Num_ok ⟨_, _, rfl, hK⟩
theorem R_eval_ok {l : List Nd} (hx : exprF l = 0) {a : Option Addr} {n c : Nat} {h : Hp} (S : SlP encN h a n l) {e : EvL} {R : Value → Hp → Prop} (hK : R (vag (encV (valE e l))) h) : CallOK Tryz.prog 63 [vsl a n c, vag (encE e)] h R := by
  obtain ⟨O, hl⟩ := exprF_ok hx
  exact R_Eval_ok S O.wf (by have := O.pos; omega) (by omega) hK
section
variable {q : Qy} {a1 : Option Addr} {n1 c1 : Nat} {a2 : Option Addr} {n2 c2 : Nat} {a3 : Option Addr} {n3 c3 : Nat} {h : Hp} {R : Value → Hp → Prop}
theorem R_asks_ok {e : EvL} (Q : QAt h q a1 n1 a2 n2 a3 n3) (B : QOk q) (hK : R (vb (asksQ q e)) h) : CallOK Tryz.prog 31 [qV a1 n1 c1 a2 n2 c2 a3 n3 c3 q, vag (encE e)] h R := by
  refine ok_R_asks ?_
  unfold VC_R_asks
  have hn := Q.w.1
  unfold asksQ at hK
  refine ⟨fun e1 => ?_, fun e1 => ?_⟩
  · have e1 := of_decide_eq_true e1
    have hb : q.wh = [] := List.length_eq_zero_iff.1 (by omega)
    rw [decide_eq_true hb] at hK
    exact hK
  · have e1 := of_decide_eq_false e1
    have hb : q.wh ≠ [] := fun e2 => e1 (by rw [hn, e2]; rfl)
    refine R_eval_ok (B.w hb) Q.w ⟨_, _, rfl, ?_⟩
    rw [decide_eq_false hb] at hK
    have e2 : (bif (decide ((valE e q.wh).1 = 2)) then (decide ((valE e q.wh).2 = 1)) else false) = (false || decide (valE e q.wh = truthV true)) := by
      rw [cand, Bool.false_or]
      exact decide_eq_decide.2 (Prod.ext_iff (y := truthV true)).symm
    rw [e2]
    exact hK
theorem R_keyOf_ok {e : EvL} (Q : QAt h q a1 n1 a2 n2 a3 n3) (B : QOk q) (hK : R (vag (encV (keyQ q e))) h) : CallOK Tryz.prog 34 [qV a1 n1 c1 a2 n2 c2 a3 n3 c3 q, vag (encE e)] h R := by
  refine ok_R_keyOf ?_
  unfold VC_R_keyOf
  unfold keyQ at hK
  have hn := Q.b.1
  refine ⟨fun e1 => ?_, fun e1 => ?_⟩
  · have e1 := of_decide_eq_true e1
    have hb : q.by_ = [] := List.length_eq_zero_iff.1 (by omega)
    rw [if_pos hb] at hK
    exact hK
  · have e1 := of_decide_eq_false e1
    have hb : q.by_ ≠ [] := fun e2 => e1 (by rw [hn, e2]; rfl)
    refine R_eval_ok (B.b hb) Q.b ⟨_, _, rfl, ?_⟩
    rw [if_neg hb] at hK
    exact hK
theorem R_less_ok {b1 b2 : Nat} {k k' : PK} (x1 : h.cell b1 0 = some (vi k.1)) (x2 : h.cell b1 1 = some (vi k.2.1)) (x3 : h.cell b1 2 = some (vi k.2.2)) (y1 : h.cell b2 0 = some (vi k'.1)) (y2 : h.cell b2 1 = some (vi k'.2.1)) (y3 : h.cell b2 2 = some (vi k'.2.2)) (hK : R (vb (decide (aheadK k k'))) h) : CallOK Tryz.prog 64 [vhp b1 0, vhp b2 0] h R := by
  refine ok_R_less ?_
  unfold VC_R_less
  refine ⟨_, x1, _, y1, fun e => ⟨_, x1, _, y1, ?_⟩, fun e => ⟨_, x2, _, y2, fun e2 => ⟨_, x2, _, y2, ?_⟩, fun e2 => ⟨_, x3, _, y3, ?_⟩⟩⟩
  · have e := of_decide_eq_true e
    rw [show decide (k.1 < k'.1) = decide (aheadK k k') from decide_eq_decide.2 (by unfold aheadK; omega)]
    exact hK
  · have e := Decidable.not_not.1 (of_decide_eq_false e)
    have e2 := of_decide_eq_true e2
    rw [show decide (k.2.1 < k'.2.1) = decide (aheadK k k') from decide_eq_decide.2 (by unfold aheadK; omega)]
    exact hK
  · have e := Decidable.not_not.1 (of_decide_eq_false e)
    have e2 := Decidable.not_not.1 (of_decide_eq_false e2)
    rw [show decide (k.2.2 < k'.2.2) = decide (aheadK k k') from decide_eq_decide.2 (by unfold aheadK; omega)]
    exact hK
end
structure PN where
  k : PK
  b : Nat
  t : Nat
  cs : List (List Vl)
  told : Bool
abbrev TabV := TabAt encV 2 33 49
def pnCells (x : PN) : List Value := [vi x.k.1, vi x.k.2.1, vi x.k.2.2, vsl (some ⟨x.t, 0, none⟩) x.cs.length x.cs.length, vb x.told]
def paneH (x : PN) (h : Hp) (F : Nat → Prop) : Prop := h x.b = some (cellsO (pnCells x) 118) ∧ ∃ G, TabV h G x.t x.cs ∧ ¬ G x.b ∧ F = fun b => b = x.b ∨ G b
theorem paneH_fp (x : PN) : Fp (paneH x) where
  al := by
    rintro h F ⟨h1, G, D, hd, rfl⟩ b (rfl | hb)
    · rw [h1]; simp
    · exact D.al b hb
  keep := by
    rintro h h' F ⟨h1, G, D, hd, rfl⟩ hk
    exact ⟨hk x.b (.inl rfl) _ h1, G, D.keep fun b hb => hk b (.inr hb), hd, rfl⟩
structure PanR (h0 h : Hp) (a : Option Addr) (c : Nat) (R : List PN) : Prop where
  v : OwnV h0 h 77 1 a R.length c (R.map fun r => vhp r.b 0)
  i : ∃ F, EachP paneH R h F ∧ (∀ b, F b → h0 b = none) ∧ ∀ b, F b → a ≠ some ⟨b, 0, none⟩
section
variable {h0 h : Hp} {a : Option Addr} {c : Nat} {R : List PN}
theorem PanR.nil (hl : h0.le h) : PanR h0 h none 0 [] := ⟨OwnV.nil hl _ _, _, EachP.nil h, fun b hb => hb.elim, fun b hb => hb.elim⟩
theorem PanR.le0 (N : PanR h0 h a c R) : h0.le h := N.v.le
theorem PanR.le (N : PanR h0 h a c R) {h' : Hp} (l : h.le h') : PanR h0 h' a c R := by
  obtain ⟨F, E, n1, n2⟩ := N.i
  exact ⟨N.v.mono l, F, (EachP.fp paneH_fp R).keep E fun b _ o ho => l b o ho, n1, n2⟩
theorem PanR.ptr (N : PanR h0 h a c R) {i : Nat} {r : PN} (hr : R[i]? = some r) : ∃ b o, a = some ⟨b, o, none⟩ ∧ h.cell b (o + i * 1) = some (vhp r.b 0) := by
  exact N.v.row.get1 (by rw [List.getElem?_map, hr]; rfl)
theorem PanR.cells (N : PanR h0 h a c R) {i : Nat} {r : PN} (hr : R[i]? = some r) : h r.b = some (cellsO (pnCells r) 118) ∧ TabR encV h (some ⟨r.t, 0, none⟩) r.cs.length r.cs := by
  obtain ⟨F, E, n1, n2⟩ := N.i
  obtain ⟨G, X, _, _⟩ := E.at paneH_fp hr
  obtain ⟨h1, G', D, _, _⟩ := X
  exact ⟨h1, D.r⟩
theorem PanR.inner (N : PanR h0 h a c R) {i : Nat} {r : PN} (hr : R[i]? = some r) : ∃ G, TabV h G r.t r.cs ∧ ¬ G r.b ∧ h r.b = some (cellsO (pnCells r) 118) ∧ (∀ b, G b → h0 b = none) ∧
    ∀ (h' : Hp) (G' : Nat → Prop) (cs' : List (List Vl)), Mut G h G' h' → TabV h' G' r.t cs' → cs'.length = r.cs.length → PanR h0 h' a c (R.set i { r with cs := cs' }) := by
  obtain ⟨F, E, n1, n2⟩ := N.i
  obtain ⟨G0, X, hGF, H⟩ := E.at paneH_fp hr
  obtain ⟨h1, G, D, hd, rfl⟩ := X
  refine ⟨G, D, hd, h1, fun b hb => n1 b (hGF b (.inr hb)), fun h' G' cs' M D' hlen => ?_⟩
  have hb' : h' r.b = some (cellsO (pnCells r) 118) := M.keep r.b _ hd h1
  have hG' : ¬ G' r.b := fun q => by
    rcases M.new r.b q with q | q
    · exact hd q
    · rw [h1] at q; cases q
  have M2 : Mut (fun b => b = r.b ∨ G b) h (fun b => b = r.b ∨ G' b) h' := ⟨fun b o hb ho => M.keep b o (fun q => hb (.inr q)) ho, fun b hb => by
    rcases hb with hb | hb
    · exact .inl (.inl hb)
    · rcases M.new b hb with q | q
      · exact .inl (.inr q)
      · exact .inr q⟩
  obtain ⟨F2, E2, M3⟩ := H h' (fun b => b = r.b ∨ G' b) { r with cs := cs' } M2 ⟨by
    rw [hb']
    unfold pnCells
    simp only [hlen], G', D', hG', rfl⟩
  obtain ⟨k, d⟩ := M3.apart ((OwnF.fp _ _ _ _ _ _).al (⟨N.v.own, rfl⟩ : OwnF 77 1 a R.length c (R.map fun r => vhp r.b 0) h (fun b => a = some ⟨b, 0, none⟩))) (fun b hb hb2 => n2 b hb hb2)
  obtain ⟨l', n1'⟩ := M3.old N.le0 n1
  refine ⟨?_, F2, E2, n1', fun b hb hb2 => d b hb hb2⟩
  have e : (R.set i { r with cs := cs' }).map (fun r => vhp r.b 0) = R.map fun r => vhp r.b 0 := by
    rw [List.map_set]
    apply List.ext_getElem?
    intro j
    rw [List.getElem?_set]
    split
    · rename_i hij
      subst hij
      rw [List.getElem?_map, hr]
      obtain ⟨hi, _⟩ := List.getElem?_eq_some_iff.1 hr
      rw [if_pos (by simpa using hi)]
      rfl
    · rfl
  rw [e, List.length_set]
  have O2 := (OwnF.fp _ _ _ _ _ _).keep (⟨N.v.own, rfl⟩ : OwnF 77 1 a R.length c (R.map fun r => vhp r.b 0) h (fun b => a = some ⟨b, 0, none⟩)) k
  exact ⟨l', O2.1, N.v.new⟩
end
end Go.Proofs.YtejefijpcggkfaaGreatDoor
namespace Go.Proofs.YtejefijpcggkfaaGreatDoor
open Go Go.Vc Go.Txt
set_option linter.unusedVariables false
set_option maxRecDepth 100000
theorem cell_at {h : Hp} {b i : Nat} {xs : List Value} {t : TypeId} {v : Value} (hb : h b = some (cellsO xs t)) (hv : xs[i]? = some v) : Hp.cell h b i = some v := by
  unfold Hp.cell
  rw [hb]
  simpa using hv
section
variable {q : Qy} {a1 : Option Addr} {n1 c1 : Nat} {a2 : Option Addr} {n2 c2 : Nat} {a3 : Option Addr} {n3 c3 : Nat} {h0 h : Hp} {a : Option Addr} {c : Nat} {R : List PN} {R' : Value → Hp → Prop}
set_option maxHeartbeats 1000000 in
theorem R_pane_add_ok {e : EvL} (Q : QAt h0 q a1 n1 a2 n2 a3 n3) (B : QOk q) (N : PanR h0 h a c R) {i : Nat} {r : PN} (hr : R[i]? = some r) (hcs : r.cs.length = q.aggs.length) (hb : ∀ l ∈ r.cs, l.length ≤ 1000000)
    (hK : ∀ h', PanR h0 h' a c (R.set i { r with cs := colP r.cs (valsQ q e) }) → R' (vtup []) h') : CallOK Tryz.prog 35 [vhp r.b 0, qV a1 n1 c1 a2 n2 c2 a3 n3 c3 q, vag (encE e)] h R' := by
  refine ok_R_pane_add ?_
  unfold VC_R_pane_add
  have hn1 := Q.g.len
  have hvl : (valsQ q e).length = r.cs.length := by unfold valsQ; rw [List.length_map, hcs]
  have hcl := colP_len hvl
  have hn4 := B.n2
  obtain ⟨hi, hri⟩ := List.getElem?_eq_some_iff.1 hr
  have set_id : R.set i { r with cs := r.cs } = R := by
    apply List.ext_getElem?
    intro j
    rw [List.getElem?_set]
    split
    · rename_i hij; subst hij; first | rw [if_pos hi, hr] | rw [hr]
    · rfl
  refine ⟨fun vs hh => ∃ j : Nat, vs = [vi j] ∧ j ≤ r.cs.length ∧ PanR h0 hh a c (R.set i { r with cs := (colP r.cs (valsQ q e)).take j ++ r.cs.drop j }), fun vs hh => r.cs.length - (vint vs 0).toNat, ⟨0, rfl, Nat.zero_le _, by simpa [set_id] using N⟩, ?_⟩
  rintro vs hh ⟨j, rfl, hj, N5⟩
  refine ⟨j, rfl, fun e1 => ?_, fun e1 => ?_⟩
  · have hlt : j < r.cs.length := by have := of_decide_eq_true e1; omega
    have hx : q.aggs[j]? = some q.aggs[j] := List.getElem?_eq_getElem (by omega)
    have hvi : (valsQ q e)[j]'(by omega) = if (q.aggs[j]'(by omega)).1 = 1 then (0, 0) else valE e (q.aggs[j]'(by omega)).2 := by unfold valsQ; rw [List.getElem_map]
    have hmem := List.getElem_mem (by omega : j < q.aggs.length)
    have hkr := B.g _ hmem
    have h5 := N5.le0
    have hr5 : (R.set i { r with cs := (colP r.cs (valsQ q e)).take j ++ r.cs.drop j })[i]? = some { r with cs := (colP r.cs (valsQ q e)).take j ++ r.cs.drop j } := by rw [List.getElem?_set, if_pos rfl, if_pos hi]
    have hcjl : ((colP r.cs (valsQ q e)).take j ++ r.cs.drop j).length = r.cs.length := by rw [List.length_append, List.length_take, List.length_drop]; omega
    have hcj : ((colP r.cs (valsQ q e)).take j ++ r.cs.drop j)[j]? = some (r.cs[j]) := by
      rw [List.getElem?_append_right (by rw [List.length_take]; omega), List.length_take, Nat.min_eq_left (by omega), Nat.sub_self, List.getElem?_drop, Nat.add_zero, List.getElem?_eq_getElem hlt]
    have hni : (colP r.cs (valsQ q e))[j]'(by omega) = r.cs[j] ++ [(valsQ q e)[j]'(by omega)] := by unfold colP; rw [List.getElem_zipWith]
    have hset : ((colP r.cs (valsQ q e)).take j ++ r.cs.drop j).set j (r.cs[j] ++ [(valsQ q e)[j]'(by omega)]) = (colP r.cs (valsQ q e)).take (j + 1) ++ r.cs.drop (j + 1) := by
      rw [← hni, List.set_append_right _ _ (by rw [List.length_take]; omega), List.length_take, Nat.min_eq_left (by omega), Nat.sub_self, List.drop_eq_getElem_cons hlt, List.set_cons_zero, List.take_succ_eq_append_getElem (by omega : j < (colP r.cs (valsQ q e)).length), List.append_assoc]
      rfl
    have hbl := hb _ (List.getElem_mem hlt)
    obtain ⟨G, D, hnG, hcell, hGn, H⟩ := N5.inner hr5
    simp only at D hcell H
    obtain ⟨b, o, a', c', ha, hrow, hS⟩ := (Q.g.le h5).row aggRw_len (by decide) hx
    have k0 := Hp.row_cell hrow (i := 0) (x := vi (q.aggs[j]'(by omega)).1) rfl
    have k1 := Hp.row_cell hrow (i := 1) (x := vsl a' (q.aggs[j]'(by omega)).2.length c') rfl
    refine ⟨b, o, ⟨ha, by omega, by omega⟩, _, by rw [Int.toNat_natCast]; exact k0, ?_⟩
    intro J20
    have hJ : ∀ v : Int × Int, v = (valsQ q e)[j]'(by omega) → J20 v.1 v.2 hh := by
      intro v hv
      have k3 : Hp.cell hh r.b (0 + 3) = some (vsl (some ⟨r.t, 0, none⟩) ((colP r.cs (valsQ q e)).take j ++ r.cs.drop j).length ((colP r.cs (valsQ q e)).take j ++ r.cs.drop j).length) := cell_at hcell rfl
      rw [hcjl] at k3
      obtain ⟨aj, cj, hcellj, _⟩ := D.cell hcj
      refine ⟨_, _, _, k3, _, _, _, k3, r.t, 0, ⟨rfl, by omega, by omega⟩, _, _, _, by rw [Int.toNat_natCast]; exact hcellj, ?_⟩
      intro b46 hb46 h47
      refine TabAt.app elValP (fun v => rfl) one_v D hcj (by omega) (by omega) (x := v) hcellj hb46 fun a50 c50 h49 hfr hst => ⟨_, _, _, rfl, cell_at (hfr r.b _ (.inl hnG) hcell) (by unfold pnCells; simp only [hcjl]; rfl), r.t, 0, ⟨rfl, by omega, by omega⟩, ?_⟩
      rw [Int.toNat_natCast]
      refine hst _ fun h53 F' D' M => ?_
      refine ⟨_, isW (by unfold InR; omega), ⟨j + 1, rfl, by omega, ?_⟩, by simp [vint]; omega⟩
      have N53 := H h53 F' _ M D' (by rw [List.length_set])
      rw [List.set_set, hv, hset] at N53
      exact N53
    clear_value J20
    refine ⟨fun e2 => ?_, fun e2 => ?_⟩
    · have e2 := of_decide_eq_true e2
      refine ⟨b, o, ⟨ha, by omega, by omega⟩, a', _, c', by rw [Int.toNat_natCast]; exact k1, ?_⟩
      refine R_eval_ok (hkr.2.2.1 (by omega)) hS ⟨_, _, rfl, hJ _ ?_⟩
      rw [hvi, if_neg (by omega)]
    · have e2 := of_decide_eq_false e2
      refine hJ (0, 0) ?_
      rw [hvi, if_pos (by omega)]
  · have hge : j = r.cs.length := by have := of_decide_eq_false e1; omega
    rw [hge, List.drop_length, List.append_nil, List.take_of_length_le (by omega)] at N5
    exact hK hh N5
theorem R_pane_out_ok {r : PN} (Q : QAt h q a1 n1 a2 n2 a3 n3) (B : QOk q) (hcell : h r.b = some (cellsO (pnCells r) 118)) (T : TabR encV h (some ⟨r.t, 0, none⟩) r.cs.length r.cs) (hcs : r.cs.length = q.aggs.length) (hb : ∀ l ∈ r.cs, l.length ≤ 1000000 ∧ ∀ v ∈ l, smallV v)
    (hK : ∀ a c h', VecV h h' a c ((List.zipWith accF (kindsQ q) r.cs).map gOut) → R' (vag [vi r.k.1, vi r.k.2.1, vi r.k.2.2, vsl a ((List.zipWith accF (kindsQ q) r.cs).map gOut).length c]) h') : CallOK Tryz.prog 36 [vhp r.b 0, qV a1 n1 c1 a2 n2 c2 a3 n3 c3 q] h R' := by
  refine ok_R_pane_out ?_
  unfold VC_R_pane_out
  have hn1 := Q.g.len
  have hn4 := B.n2
  refine ⟨r.k.1, cell_at hcell rfl, r.k.2.1, r.k.2.2, ?_, ?_⟩
  · exact row_cells' hcell (by unfold pnCells; simp)
  intro J34
  have hJ : ∀ a c h', VecV h h' a c ((List.zipWith accF (kindsQ q) r.cs).map gOut) → J34 r.k.1 r.k.2.1 r.k.2.2 a ((List.zipWith accF (kindsQ q) r.cs).map gOut).length c h' := hK
  clear_value J34
  have hkl := kindsQ_len q
  generalize hz : (List.zipWith accF (kindsQ q) r.cs).map gOut = out at hJ ⊢
  have hol : out.length = n1 := by rw [← hz, List.length_map, List.length_zipWith]; omega
  refine ⟨fun vs hh => ∃ (i : Nat) (a : Option Addr) (c : Nat), vs = [vi i, vi r.k.1, vi r.k.2.1, vi r.k.2.2, vsl a (out.take i).length c] ∧ i ≤ n1 ∧ VecV h hh a c (out.take i), fun vs hh => n1 - (vint vs 0).toNat, ⟨0, none, 0, rfl, Nat.zero_le _, OwnV.nil (Hp.le_refl h) _ _⟩, ?_⟩
  rintro vs hh ⟨i, a, c, rfl, hi, V⟩
  refine ⟨_, _, _, _, _, _, _, rfl, fun e => ?_, fun e => ?_⟩
  · have hlt : i < n1 := by have := of_decide_eq_true e; omega
    have hx : q.aggs[i]? = some q.aggs[i] := List.getElem?_eq_getElem (by omega)
    have hxc : r.cs[i]? = some r.cs[i] := List.getElem?_eq_getElem (by omega)
    have hl0 := V.le0
    obtain ⟨b, o, a', c', ha, hrow, hS⟩ := (Q.g.le hl0).row aggRw_len (by decide) hx
    have k0 := Hp.row_cell hrow (i := 0) (x := vi (q.aggs[i]'(by omega)).1) rfl
    obtain ⟨b2, o2, a22, c22, ea, hc22, hS22⟩ := (T.le hl0).cell hxc
    have hi2 : i < q.aggs.length := by omega
    have hi3 : i < r.cs.length := by omega
    have ho : ((List.zipWith accF (kindsQ q) r.cs).map gOut)[i]? = some (gVal (q.aggs[i]'(by omega)).1 ((r.cs[i]'(by omega)).foldl (gStep (q.aggs[i]'(by omega)).1) (0, 0, 0))) := by
      rw [List.getElem?_map, List.getElem?_zipWith, hxc]
      unfold kindsQ
      rw [List.getElem?_map, hx]
      rfl
    rw [hz] at ho
    have tk : out.take (i + 1) = out.take i ++ [gVal (q.aggs[i]'(by omega)).1 ((r.cs[i]'(by omega)).foldl (gStep (q.aggs[i]'(by omega)).1) (0, 0, 0))] := by rw [List.take_add_one, ho]; rfl
    have hti : (out.take i).length = i := by rw [List.length_take]; omega
    have hm := hb _ (List.getElem_mem (by omega : i < r.cs.length))
    have hk1 := (B.g _ (List.getElem_mem (by omega : i < q.aggs.length))).1
    refine ⟨b, o, ⟨ha, by omega, by omega⟩, _, by rw [Int.toNat_natCast]; exact k0, _, _, _, cell_at (hl0 _ _ hcell) rfl, b2, o2, ⟨ea, by omega, by omega⟩, a22, _, c22, by rw [Int.toNat_natCast]; exact hc22, ?_⟩
    refine R_Gathered_ok hk1 hS22 hm.2 (by omega) ⟨_, _, rfl, ?_⟩
    intro b27 hb27 h28
    refine Vec.app elValP (fun v => rfl) one_v V (by rw [hti]; omega) (by rw [hti]; omega) (x := gVal (q.aggs[i]'(by omega)).1 ((r.cs[i]'(by omega)).foldl (gStep (q.aggs[i]'(by omega)).1) (0, 0, 0))) hb27 fun a' c' h' V' => ⟨_, _, _, rfl, _, isW (by unfold InR; omega), ⟨i + 1, a', c', ?_, by omega, ?_⟩, by simp [vint]; omega⟩
    · rw [tk]; rfl
    · rw [tk]; exact V'
  · have hge : i = n1 := by have := of_decide_eq_false e; omega
    rw [List.take_of_length_le (by omega)] at V ⊢
    exact hJ a c hh V
end
end Go.Proofs.YtejefijpcggkfaaGreatDoor
namespace Go.Proofs.YtejefijpcggkfaaGreatDoor
open Go Go.Vc Go.Txt
set_option linter.unusedVariables false
set_option maxRecDepth 100000
theorem insK_here (K : PK) : ∀ (l : List PK) (j : Nat), (∀ x ∈ l.take j, aheadK x K) → l[j]? = some K → insK K l = l
  | [], j, _, h => by simp at h
  | x :: l, 0, _, h => by
    simp at h
    rw [insK, if_neg (by rw [h]; exact aheadK_irr K), if_pos h]
  | x :: l, j + 1, h1, h => by
    have hx := h1 x (by simp)
    rw [insK, if_pos hx, insK_here K l j (fun y hy => h1 y (by simp [hy])) (by simpa using h)]
theorem insK_split (K : PK) : ∀ (l : List PK) (j : Nat), j ≤ l.length → (∀ x ∈ l.take j, aheadK x K) → (∀ x, l[j]? = some x → ¬ aheadK x K ∧ x ≠ K) → insK K l = l.take j ++ K :: l.drop j
  | [], 0, _, _, _ => rfl
  | [], j + 1, h, _, _ => by simp at h
  | x :: l, 0, _, _, h => by
    obtain ⟨h1, h2⟩ := h x rfl
    rw [insK, if_neg h1, if_neg h2]
    rfl
  | x :: l, j + 1, hj, h1, h => by
    have hx := h1 x (by simp)
    rw [insK, if_pos hx, insK_split K l j (by simpa using hj) (fun y hy => h1 y (by simp [hy])) (fun y hy => h y (by simpa using hy))]
    rfl
theorem elRows : ElT Tryz.prog 116 49 1 24 := .of (by kernel_rfl) (by kernel_rfl) (by decide)
theorem elPtr : ElT Tryz.prog 76 77 1 8 := .of (by kernel_rfl) (by kernel_rfl) (by decide)
def ptrV (r : PN) : Value := vhp r.b 0
theorem flat_ptr (R : List PN) : (R.flatMap fun r => [ptrV r]) = R.map ptrV := by
  induction R with
  | nil => rfl
  | cons r R ih => rw [List.flatMap_cons, ih]; rfl
theorem one_ptrs (R : List PN) : ∀ u ∈ R.map ptrV, u.oneCell' = true := by
  intro u hu
  obtain ⟨r, _, rfl⟩ := List.mem_map.1 hu
  rfl
section
variable {h0 h : Hp} {a : Option Addr} {c : Nat} {R : List PN} {R' : Value → Hp → Prop}
set_option maxHeartbeats 2000000 in
theorem R_find_ok (N : PanR h0 h a c R) {K : PK} {n : Nat} (hn : n ≤ 1000000) (hR : R.length ≤ 1000000)
    (hf : ∀ (i : Nat) (r : PN) (h' : Hp), R[i]? = some r → r.k = K → insK K (R.map (·.k)) = R.map (·.k) → PanR h0 h' a c R → R' (vtup [vsl a R.length c, vhp r.b 0]) h')
    (hnew : ∀ (j : Nat) (x : PN) (a' : Option Addr) (c' : Nat) (h' : Hp), j ≤ R.length → x.k = K → x.cs = List.replicate n [] → x.told = false → insK K (R.map (·.k)) = (R.take j ++ x :: R.drop j).map (·.k) → PanR h0 h' a' c' (R.take j ++ x :: R.drop j) → R' (vtup [vsl a' (R.length + 1) c', vhp x.b 0]) h') :
    CallOK Tryz.prog 33 [vsl a R.length c, vi K.1, vag (encV K.2), vi (n : Int)] h R' := by
  refine ok_R_find ?_
  unfold VC_R_find
  have hcap : R.length ≤ c := N.v.own.cap
  refine sem_make elRows (z := [vsl none 0 0]) (by kernel_rfl) hn (by omega) fun t ht => ⟨_, _, _, rfl, ?_⟩
  have l2 : h.le (h.set t (cellsO ((List.replicate n [vsl none 0 0]).flatten) 49)) := Hp.le_set (Hp.le_refl h) ht _
  have D2 : TabV (h.set t (cellsO ((List.replicate n [vsl none 0 0]).flatten) 49)) (fun y => y = t) t (List.replicate n []) := TabAt.new ht n
  generalize h.set t (cellsO ((List.replicate n [vsl none 0 0]).flatten) 49) = h2 at l2 D2
  intro b4 hb4 h5x
  have l5 : h2.le (h2.set b4 (cellsO [vi K.1, vi K.2.1, vi K.2.2, vsl (some ⟨t, 0, none⟩) n n, vb false] 118)) := Hp.le_set (Hp.le_refl h2) hb4 _
  have e5 : (h2.set b4 (cellsO [vi K.1, vi K.2.1, vi K.2.2, vsl (some ⟨t, 0, none⟩) n n, vb false] 118)) b4 = some (cellsO [vi K.1, vi K.2.1, vi K.2.2, vsl (some ⟨t, 0, none⟩) n n, vb false] 118) := Hp.set_same _ _ _
  have eh5 : h5x = h2.set b4 (cellsO [vi K.1, vi K.2.1, vi K.2.2, vsl (some ⟨t, 0, none⟩) n n, vb false] 118) := rfl
  clear_value h5x
  rw [← eh5] at l5 e5
  clear eh5
  have l05 := Hp.le_trans l2 l5
  have N5 := N.le l05
  have hb4h : h b4 = none := Hp.none_of_le l2 hb4
  have hX : paneH ⟨K, b4, t, List.replicate n [], false⟩ h5x (fun b => b = b4 ∨ b = t) := by
    refine ⟨?_, fun y => y = t, D2.le l5, fun e => ?_, rfl⟩
    · unfold pnCells
      simp only [List.length_replicate]
      exact e5
    · exact D2.al t rfl (by rw [← e]; exact hb4)
  intro J23
  have hJ : ∀ j : Nat, j ≤ R.length → (∀ r ∈ R.take j, aheadK r.k K) → (∀ r, R[j]? = some r → ¬ aheadK r.k K) → J23 (j : Int) h5x := by
    intro j hj hz hna
    have hzk : ∀ x ∈ (R.map (·.k)).take j, aheadK x K := by
      intro x hx
      rw [← List.map_take] at hx
      obtain ⟨r, hr, rfl⟩ := List.mem_map.1 hx
      exact hz r hr
    -- one that is not there
    have put : (∀ r, R[j]? = some r → r.k ≠ K) → ∃ (a45 : Option Addr) (n45 c45 : Nat), (Rd Tryz.prog (Instr.sliceAt 76 (vsl a R.length c) none (some (vi (j : Int))) none) h5x (vsl a45 n45 c45)) ∧ (SemOK Tryz.prog (Builtin.append_ #[76, 76] 76 #[(vsl none 0 0), (vsl a45 n45 c45)]) h5x fun v46 h47 => ∃ (a48 : Option Addr) (n48 c48 : Nat), v46 = (vsl a48 n48 c48) ∧
        (∀ (b49 : Nat), h47 b49 = none → let h50 : Hp := Hp.set h47 b49 (cellsO [(vhp b4 0)] 77); (SemOK Tryz.prog (Builtin.append_ #[76, 76] 76 #[(vsl a48 n48 c48), (vsl (some (⟨b49, 0, none⟩ : Addr)) 1 1)]) h50 fun v51 h52 => ∃ (a53 : Option Addr) (n53 c53 : Nat), v51 = (vsl a53 n53 c53) ∧
          (∃ (a54 : Option Addr) (n54 c54 : Nat), (Rd Tryz.prog (Instr.sliceAt 76 (vsl a R.length c) (some (vi (j : Int))) none none) h52 (vsl a54 n54 c54)) ∧ (SemOK Tryz.prog (Builtin.append_ #[76, 76] 76 #[(vsl a53 n53 c53), (vsl a54 n54 c54)]) h52 fun v55 h56 => ∃ (a57 : Option Addr) (n57 c57 : Nat), v55 = (vsl a57 n57 c57) ∧ R' (vtup [(vsl a57 n57 c57), (vhp b4 0)]) h56))))) := by
      intro hne
      have hrow : SlP (fun r => [ptrV r]) h5x a R.length R := ⟨rfl, by rw [flat_ptr]; exact N5.v.row⟩
      have rdh := rd_slice_h (P := Tryz.prog) (h := h5x) (t := 76) (e := 77) (by kernel_rfl) (by kernel_rfl) (a := a) (n := R.length) (c := c) (x := (j : Int)) (by omega) (by omega)
      rw [Int.toNat_natCast] at rdh
      have htl : (R.take j).length = j := by rw [List.length_take]; omega
      refine ⟨a, j, c, rdh, ?_⟩
      have hst := (hrow.take (sz := 1) (fun _ => rfl) hj).2
      rw [flat_ptr] at hst
      refine OwnV.append elPtr (OwnV.nil (Hp.le_refl h5x) _ _) (m := j) hst (by rw [List.length_map, htl, Nat.mul_one]) (one_ptrs _) (by omega) (by omega) fun a48 c48 h47 O47 _ _ => ⟨_, _, _, rfl, ?_⟩
      intro b49 hb49 h50
      refine OwnV.append elPtr (OwnV.set hb49 _ O47) (HasRow.new _ _ [vhp b4 0] _) (m := 1) rfl (by intro u hu; rw [List.mem_singleton.1 hu]; rfl) (by omega) (by omega) fun a53 c53 h52 O52 _ _ => ⟨_, _, _, rfl, ?_⟩
      have rdl := rd_slice_l (P := Tryz.prog) (h := h52) (t := 76) (e := 77) (by kernel_rfl) (by kernel_rfl) (a := a) (n := R.length) (c := c) (x := (j : Int)) (by omega) (by omega)
      rw [Int.toNat_natCast] at rdl
      refine ⟨_, _, _, rdl, ?_⟩
      have hsz : szT Tryz.prog 77 = 1 := by kernel_rfl
      rw [hsz]
      have hsd := ((hrow.le O52.le).drop (sz := 1) (fun _ => rfl) hj hcap).2
      rw [flat_ptr] at hsd
      refine OwnV.append elPtr O52 (m := R.length - j) hsd (by rw [List.length_map, List.length_drop, Nat.mul_one]) (one_ptrs _) (by omega) (by omega) fun a57 c57 h56 O56 _ _ => ⟨_, _, _, rfl, ?_⟩
      have hlen : 0 + j + 1 + (R.length - j) = R.length + 1 := by omega
      have hRl : (R.take j ++ (⟨K, b4, t, List.replicate n [], false⟩ : PN) :: R.drop j).length = R.length + 1 := by rw [List.length_append, List.length_cons, List.length_drop, htl]; omega
      rw [hlen] at O56 ⊢
      refine hnew j ⟨K, b4, t, List.replicate n [], false⟩ a57 c57 h56 hj rfl rfl rfl ?_ ⟨?_, ?_⟩
      · rw [insK_split K (R.map (·.k)) j (by simpa using hj) hzk (fun x hx => ?_)]
        · simp
        · rw [List.getElem?_map, Option.map_eq_some_iff] at hx
          obtain ⟨r, hr, rfl⟩ := hx
          exact ⟨hna r hr, hne r hr⟩
      · rw [hRl]
        have := OwnV.trans N5.le0 O56
        have e : [] ++ List.map ptrV (List.take j R) ++ [vhp b4 0] ++ List.map ptrV (List.drop j R) = (R.take j ++ (⟨K, b4, t, List.replicate n [], false⟩ : PN) :: R.drop j).map fun r => vhp r.b 0 := by
          rw [List.map_append, List.map_cons, List.nil_append, List.append_assoc]
          rfl
        rw [e] at this
        exact this
      · obtain ⟨F, E, m1, m2⟩ := N.i
        have al := (EachP.fp paneH_fp R).al E
        have E5 := (EachP.fp paneH_fp R).keep E fun b _ o ho => l05 b o ho
        have E6 := E5.cons hX (fun b hb hF => by
          rcases hb with rfl | rfl
          · exact al _ hF hb4h
          · exact al _ hF ht)
        have E7 := (EachP.fp paneH_fp _).keep E6 fun b _ o ho => O56.le b o ho
        have hp : (R.take j ++ (⟨K, b4, t, List.replicate n [], false⟩ : PN) :: R.drop j).Perm (⟨K, b4, t, List.replicate n [], false⟩ :: R) := by
          have := List.perm_middle (a := (⟨K, b4, t, List.replicate n [], false⟩ : PN)) (l₁ := R.take j) (l₂ := R.drop j)
          rw [List.take_append_drop] at this
          exact this
        refine ⟨_, E7.perm hp, fun b hb => ?_, fun b hb hb2 => ?_⟩
        · rcases hb with (rfl | rfl) | hb
          · exact Hp.none_of_le N.le0 hb4h
          · exact Hp.none_of_le N.le0 ht
          · exact m1 b hb
        · exact (EachP.fp paneH_fp _).al E6 b hb (O56.new b hb2)
    by_cases hlt : j < R.length
    · have hx : R[j]? = some R[j] := List.getElem?_eq_getElem hlt
      have hnr := hna _ hx
      generalize R[j] = r at hx hnr
      obtain ⟨b, o, ea, hc⟩ := N5.ptr hx
      obtain ⟨hcl, _⟩ := N5.cells hx
      have hbd : a = some ⟨b, o, none⟩ ∧ (0 : Int) ≤ j ∧ (j : Int) < ((R.length : Nat) : Int) := ⟨ea, by omega, by omega⟩
      refine ⟨b, o, fun _ => hbd, some ⟨r.b, 0, none⟩, fun _ => by rw [Int.toNat_natCast]; exact hc, r.b, 0, fun _ => rfl, r.k.1, fun _ => cell_at hcl rfl, b, o, fun _ => hbd, some ⟨r.b, 0, none⟩, fun _ => by rw [Int.toNat_natCast]; exact hc, r.b, 0, fun _ => rfl, r.k.2.1, r.k.2.2, fun _ => row_cells' hcl (by unfold pnCells; simp), decide (r.k.2 = K.2), fun _ => rd_eqV, fun e => ?_, fun e => ?_⟩
      · rw [decide_eq_true (show ((j : Nat) : Int) < ((R.length : Nat) : Int) by omega)] at e
        have e : (bif (bif true then decide (r.k.1 = K.1) else false) then decide (r.k.2 = K.2) else false) = true := e
        have ek : r.k = K := by
          cases h1 : decide (r.k.1 = K.1) with
          | false => rw [h1] at e; cases e
          | true =>
            rw [h1] at e
            exact Prod.ext (of_decide_eq_true h1) (of_decide_eq_true e)
        refine ⟨b, o, hbd, _, by rw [Int.toNat_natCast]; exact hc, hf j r h5x hx ek (insK_here K _ j hzk (by rw [List.getElem?_map, hx, ← ek]; rfl)) N5⟩
      · refine put fun r' hr' => ?_
        rw [hx] at hr'
        cases hr'
        intro ek
        rw [decide_eq_true (show ((j : Nat) : Int) < ((R.length : Nat) : Int) by omega)] at e
        have e : (bif (bif true then decide (r.k.1 = K.1) else false) then decide (r.k.2 = K.2) else false) = false := e
        rw [ek, decide_eq_true rfl, decide_eq_true rfl] at e
        cases e
    · have hf0 : decide (((j : Nat) : Int) < ((R.length : Nat) : Int)) = false := decide_eq_false (by omega)
      refine ⟨0, 0, fun e => (by rw [hf0] at e; cases e), none, fun e => (by rw [hf0] at e; cases e), 0, 0, fun e => (by rw [hf0] at e; cases e), 0, fun e => (by rw [hf0] at e; cases e), 0, 0, fun e => (by rw [hf0] at e; cases e), none, fun e => (by rw [hf0] at e; cases e), 0, 0, fun e => (by rw [hf0] at e; cases e), 0, 0, fun e => (by rw [hf0] at e; cases e), false, fun e => (by rw [hf0] at e; cases e), fun e => (by rw [hf0] at e; cases e), fun _ => ?_⟩
      exact put fun r' hr' => absurd (List.getElem?_eq_some_iff.1 hr').1 hlt
  clear_value J23
  refine ⟨fun vs hh => hh = h5x ∧ ∃ j : Nat, vs = [vi j] ∧ j ≤ R.length ∧ ∀ r ∈ R.take j, aheadK r.k K, fun vs hh => R.length - (vint vs 0).toNat, ⟨rfl, 0, rfl, Nat.zero_le _, by simp⟩, ?_⟩
  rintro vs hh ⟨rfl, j, rfl, hj, hz⟩
  refine ⟨j, rfl, fun e => ?_, fun e => ?_⟩
  · have hlt : j < R.length := by have := of_decide_eq_true e; omega
    have hx : R[j]? = some R[j] := List.getElem?_eq_getElem hlt
    have tk : R.take (j + 1) = R.take j ++ [R[j]] := List.take_succ_eq_append_getElem hlt
    obtain ⟨b, o, ea, hc⟩ := N5.ptr hx
    obtain ⟨hcl, _⟩ := N5.cells hx
    refine ⟨b, o, ⟨ea, by omega, by omega⟩, _, by rw [Int.toNat_natCast]; exact hc, ?_⟩
    refine R_less_ok (k := (R[j]).k) (k' := K) (cell_at hcl rfl) (cell_at hcl rfl) (cell_at hcl rfl) (cell_at e5 rfl) (cell_at e5 rfl) (cell_at e5 rfl) ⟨_, rfl, fun e2 => ?_, fun e2 => ?_⟩
    · have e2 : ¬ aheadK (R[j]).k K := by simpa using e2
      exact hJ j (by omega) hz fun r hr => by rw [hx] at hr; cases hr; exact e2
    · have e2 : aheadK (R[j]).k K := by simpa using e2
      refine ⟨_, isW (by unfold InR; omega), ⟨rfl, j + 1, rfl, by omega, fun r hr => ?_⟩, by simp [vint]; omega⟩
      rw [tk] at hr
      rcases List.mem_append.1 hr with h3 | h3
      · exact hz r h3
      · rw [List.mem_singleton.1 h3]; exact e2
  · have hge : j = R.length := by have := of_decide_eq_false e; omega
    exact hJ j hj hz fun r hr => absurd (List.getElem?_eq_some_iff.1 hr).1 (by omega)
end
end Go.Proofs.YtejefijpcggkfaaGreatDoor
namespace Go.Proofs.YtejefijpcggkfaaGreatDoor
open Go Go.Vc Go.Txt
set_option linter.unusedVariables false
set_option maxRecDepth 100000
theorem PanR.base {h0 h h1 : Hp} {a : Option Addr} {c : Nat} {R : List PN} (N : PanR h0 h a c R) (l : h1.le h0) : PanR h1 h a c R := by
  obtain ⟨F, E, n1, n2⟩ := N.i
  exact ⟨OwnV.trans l N.v, F, E, fun b hb => Hp.none_of_le l (n1 b hb), n2⟩
theorem PanR.rebase {h0 h : Hp} {a : Option Addr} {c : Nat} {R : List PN} (N : PanR h0 h a c R) {h1 : Hp} (l1 : h.le h1) {g : Option Addr} (hg : ∀ b o, g = some ⟨b, o, none⟩ → h b = none) : ∃ hx : Hp, h0.le hx ∧ (∀ {xs : List Value}, HasRow h1 g xs → HasRow hx g xs) ∧ PanR hx h1 a c R := by
  obtain ⟨F, E, n1, n2⟩ := N.i
  have al := (EachP.fp paneH_fp R).al E
  have alo := (OwnF.fp _ _ _ _ _ _).al (⟨N.v.own, rfl⟩ : OwnF 77 1 a R.length c (R.map fun r => vhp r.b 0) h (fun b => a = some ⟨b, 0, none⟩))
  have N1 := N.le l1
  cases g with
  | none =>
    refine ⟨h0, Hp.le_refl _, fun H => ?_, N1⟩
    rcases H with e | ⟨b, o, e, _⟩
    · exact .inl e
    · cases e
  | some g =>
    have hgn : g.spot = none → h g.block = none := fun hs => hg g.block g.off (by obtain ⟨x, y, z⟩ := g; simp only at hs; subst hs; rfl)
    by_cases hs : g.spot = none
    · have hgn := hgn hs
      refine ⟨fun b => if b = g.block then h1 b else h0 b, fun b o ho => ?_, fun H => ?_, ?_⟩
      · have : b ≠ g.block := fun e => by subst e; rw [N.le0 _ _ ho] at hgn; cases hgn
        simp only [if_neg this]; exact ho
      · rcases H with e | ⟨b, o, e, hr⟩
        · exact .inl e
        · refine .inr ⟨b, o, e, ?_⟩
          have hb : b = g.block := by simp only [Option.some.injEq] at e; rw [e]
          unfold Hp.row at hr ⊢
          simp only [if_pos hb]
          exact hr
      · have hle : Hp.le (fun b => if b = g.block then h1 b else h0 b) h1 := by
          intro b o ho
          simp only at ho
          split at ho
          · exact ho
          · exact N1.le0 b o ho
        have hnew : ∀ b, h b ≠ none → h0 b = none → (fun b => if b = g.block then h1 b else h0 b) b = none := by
          intro b hb hb0
          have : b ≠ g.block := fun e => by subst e; exact hb hgn
          simp only [if_neg this]; exact hb0
        exact ⟨⟨hle, N1.v.own, fun b hb => hnew b (alo b hb) (N.v.new b hb)⟩, F, (EachP.fp paneH_fp R).keep E fun b _ o ho => l1 b o ho, fun b hb => hnew b (al b hb) (n1 b hb), n2⟩
    · refine ⟨h0, Hp.le_refl _, fun H => ?_, N1⟩
      rcases H with e | ⟨b, o, e, _⟩
      · exact .inl e
      · simp only [Option.some.injEq] at e
        rw [e] at hs
        exact absurd rfl hs
end Go.Proofs.YtejefijpcggkfaaGreatDoor
namespace Go.Proofs.YtejefijpcggkfaaGreatDoor
open Go Go.Vc Go.Txt
set_option linter.unusedVariables false
set_option maxRecDepth 100000
theorem store_new {h : Hp} {b : Nat} {xs ys : List Value} {t : TypeId} (hl : ys.length = xs.length) {K : Hp → Prop} (hK : K (h.set b (cellsO ys t))) : Hp.store (h.set b (cellsO xs t)) b 0 ys K := by
  refine ⟨xs.toArray, t, Hp.set_same _ _ _, by simp [hl], ?_⟩
  rw [Hp.set_set]
  have e : setL xs.toArray.toList 0 ys = ys := by
    unfold setL
    rw [List.take_zero, List.nil_append, List.toList_toArray, Nat.zero_add, List.drop_of_length_le (by omega), List.append_nil]
  rw [e]
  exact hK
theorem cell_new {h : Hp} {b i : Nat} {xs : List Value} {t : TypeId} {v : Value} (hv : xs[i]? = some v) : Hp.cell (h.set b (cellsO xs t)) b i = some v := by
  unfold Hp.cell
  rw [Hp.set_same]
  simpa using hv
theorem cell_le {h h' : Hp} (l : h.le h') {b i : Nat} {v : Value} (hc : h.cell b i = some v) : h'.cell b i = some v := by
  unfold Hp.cell at hc ⊢
  cases hb : h b with
  | none => rw [hb] at hc; cases hc
  | some o => rw [l b o hb]; rw [hb] at hc; exact hc
def pkRw (k : PK) (v : Value) : List Value := [vi k.1, vi k.2.1, vi k.2.2, v]
theorem pkRw_len (k : PK) (v : Value) : (pkRw k v).length = 4 := rfl
theorem elOut : ElT Tryz.prog 36 51 4 48 := .of (by kernel_rfl) (by kernel_rfl) (by decide)
set_option maxHeartbeats 4000000 in
theorem batch_Answer_ok {q : Qy} {a1 : Option Addr} {n1 c1 : Nat} {a2 : Option Addr} {n2 c2 : Nat} {a3 : Option Addr} {n3 c3 : Nat} {h : Hp} {R' : Value → Hp → Prop} {ps : List (List EvL)} {pa : Option Addr} {pn pc : Nat} (Q : QAt h q a1 n1 a2 n2 a3 n3) (B : QOk q) (T : TabC encE h pa pn ps)
    (hp : ps.length ≤ 5) (hl : ∀ p ∈ ps, p.length ≤ 100) (hE : ∀ p ∈ ps, ∀ e ∈ p, EvOK e)
    (hK : ∀ a c h', h.le h' → GTab encV pkRw h' a (ansQ q ps).length (ansQ q ps) → R' (vtup [vsl a (ansQ q ps).length c, vi (lateA q ps : Nat)]) h') : CallOK Tryz.prog 9 [qV a1 n1 c1 a2 n2 c2 a3 n3 c3 q, vsl pa pn pc] h R' := by
  refine ok_batch_Answer ?_
  unfold VC_batch_Answer
  have hpn : pn = ps.length := T.r.choose_spec.2.1
  have s1 := B.s
  have s2 := B.l
  have s3 := B.n2
  refine ⟨fun vs hh => ∃ (i : Nat) (a : Option Addr) (c : Nat) (R : List PR), vs = [vsl a R.length c, vi (lateA q (ps.take i) : Nat), vi i] ∧ i ≤ ps.length ∧ Pans h hh a c R ∧ StA (kindsQ q) (addA q (ps.take i)) R, fun vs hh => ps.length - (vint vs 2).toNat, ⟨0, none, 0, [], rfl, Nat.zero_le _, Pans.nil (Hp.le_refl h), StA.nil⟩, ?_⟩
  rintro vs hh ⟨i, a, c, R, rfl, hi, N, S⟩
  refine ⟨a, R.length, c, _, _, rfl, fun e => ?_, fun e => ?_⟩
  · have hlt : i < ps.length := by have := of_decide_eq_true e; omega
    have hx : ps[i]? = some ps[i] := List.getElem?_eq_getElem hlt
    have tk : ps.take (i + 1) = ps.take i ++ [ps[i]] := List.take_succ_eq_append_getElem hlt
    have hmem : ps[i] ∈ ps := List.getElem_mem hlt
    have hEp := hE _ hmem
    have hlp := hl _ hmem
    have hAi := addA_ok B (ps := ps.take i) fun p hp' => hE p (List.mem_of_mem_take hp')
    have hmi := addA_many B (ps.take i) fun p hp' => hl p (List.mem_of_mem_take hp')
    have hti : (ps.take i).length = i := by rw [List.length_take]; omega
    generalize ps[i] = part at *
    obtain ⟨b, o, a', c', ea, hc, SP, hcap⟩ := T.cell hx
    refine ⟨b, o, ⟨ea, by omega, by omega⟩, a', part.length, c', by rw [Int.toNat_natCast]; exact cell_le N.le0 hc, ?_⟩
    clear e
    refine ⟨fun vs hh => ∃ (j : Nat) (a : Option Addr) (c : Nat) (R : List PR), vs = [vsl a R.length c, vi (lateA q (ps.take i) + lateP q (-1) (part.take j) : Nat), vi j] ∧ j ≤ part.length ∧ Pans h hh a c R ∧ StA (kindsQ q) (addA q (ps.take i) ++ addP q (-1) (part.take j)) R, fun vs hh => part.length - (vint vs 2).toNat, ⟨0, a, c, R, by simp [lateP], Nat.zero_le _, N, by simpa [addP] using S⟩, ?_⟩
    rintro vs hh2 ⟨j, a, c, R, rfl, hj, N, S⟩
    refine ⟨a, R.length, c, _, _, rfl, fun e => ?_, fun e => ?_⟩
    · have hltj : j < part.length := by have := of_decide_eq_true e; omega
      have hxj : part[j]? = some part[j] := List.getElem?_eq_getElem hltj
      have tkj : part.take (j + 1) = part.take j ++ [part[j]] := List.take_succ_eq_append_getElem hltj
      have hEv := hEp _ (List.getElem_mem hltj)
      have hAj := addP_ok B (part.take j) (-1) fun e he => hEp e (List.mem_of_mem_take he)
      have hmj := addP_many B (part.take j) (-1)
      have htj : (part.take j).length = j := by rw [List.length_take]; omega
      have hAA : ∀ x ∈ addA q (ps.take i) ++ addP q (-1) (part.take j), AdOK q x := by
        intro x hx
        rcases List.mem_append.1 hx with h1 | h1
        · exact hAi x h1
        · exact hAj x h1
      have hAn : (addA q (ps.take i) ++ addP q (-1) (part.take j)).length ≤ 499000 ∧ lateA q (ps.take i) + lateP q (-1) (part.take j) ≤ 499000 := by
        rw [List.length_append]
        omega
      generalize part[j] = ev at *
      intro J173
      have hJ : ∀ (a : Option Addr) (c : Nat) (R : List PR) (hh' : Hp), Pans h hh' a c R → StA (kindsQ q) ((addA q (ps.take i) ++ addP q (-1) (part.take j)) ++ addE q (farL (part.take j)) ev) R → J173 a R.length c ((lateA q (ps.take i) + lateP q (-1) (part.take j) + lateE q (farL (part.take j)) ev : Nat) : Int) hh' := by
        intro a c R hh' N S
        refine ⟨_, isW (by unfold InR; omega), ⟨j + 1, a, c, R, ?_, by omega, N, ?_⟩, by simp [vint]; omega⟩
        · rw [tkj, lateP_snoc, ← Nat.add_assoc]; rfl
        · rw [tkj, addP_snoc, ← List.append_assoc]; exact S
      clear_value J173
      have hAi2 := hAn
      generalize addA q (ps.take i) ++ addP q (-1) (part.take j) = Aj at *
      generalize lateA q (ps.take i) + lateP q (-1) (part.take j) = cj at *
      obtain ⟨b2, o2, ea2, hr2⟩ := (SP.le N.le0).get (sz := 7) (fun _ => rfl) (by decide) hxj
      refine ⟨b2, o2, ⟨ea2, by omega, by omega⟩, _, _, _, _, _, _, _, by rw [Int.toNat_natCast]; exact hr2, ?_⟩
      refine batch_is_ok (e := ev) (Q.le N.le0) B fun h34 l34 => ⟨_, rfl, fun e1 => ?_, fun e1 => ?_⟩
      · have e1 : asksQ q ev = false := by simpa using e1
        have := hJ a c R h34 (N.le l34) (by unfold addE; rw [e1]; simpa using S)
        have e2 : lateE q (farL (part.take j)) ev = 0 := by unfold lateE; rw [e1]; rfl
        rw [e2, Nat.add_zero] at this
        exact this
      · have e1 : asksQ q ev = true := by simpa using e1
        have eA : addE q (farL (part.take j)) ev = addS q (farL (part.take j)) ev (startsOf ev.1 q.size q.slide) := by unfold addE; rw [if_pos e1]
        have eL : lateE q (farL (part.take j)) ev = lateS q (farL (part.take j)) (startsOf ev.1 q.size q.slide) := by unfold lateE; rw [if_pos e1]
        rw [eA, eL] at hJ
        have ht := hEv.t
        have hsb := starts_ok B hEv
        have hsn := starts_many B (e := ev)
        refine window_StartsN_ok (by omega) (by omega) (by omega) (by omega) (by omega) (by omega) fun a40 n40 c40 h39 l39 SS hnew => ⟨_, _, _, rfl, ?_⟩
        generalize startsOf ev.1 q.size q.slide = ss at *
        have N34 := N.le l34
        obtain ⟨hx0, lx, hrow, Nx⟩ := N34.rebase l39 (g := a40) (fun b o eb => hnew b o eb)
        have SSx : SlI hx0 a40 n40 ss := ⟨SS.1, hrow SS.2⟩
        have hn40 := SS.1
        refine ⟨fun vs hh => ∃ (k : Nat) (a : Option Addr) (c : Nat) (R : List PR), vs = [vsl a R.length c, vi (cj + lateS q (farL (part.take j)) (ss.take k) : Nat), vi k] ∧ k ≤ ss.length ∧ Pans hx0 hh a c R ∧ StA (kindsQ q) (Aj ++ addS q (farL (part.take j)) ev (ss.take k)) R, fun vs hh => ss.length - (vint vs 2).toNat, ⟨0, a, c, R, by simp [lateS], Nat.zero_le _, Nx, by simpa [addS] using S⟩, ?_⟩
        clear N34 Nx N S hrow
        rintro vs hh3 ⟨k, a, c, R, rfl, hk, N, S⟩
        refine ⟨a, R.length, c, _, _, rfl, fun e => ?_, fun e => ?_⟩
        · have hltk : k < ss.length := by have := of_decide_eq_true e; omega
          have hxk : ss[k]? = some ss[k] := List.getElem?_eq_getElem hltk
          have tkk : ss.take (k + 1) = ss.take k ++ [ss[k]] := List.take_succ_eq_append_getElem hltk
          have hsk := hsb _ (List.getElem_mem hltk)
          have hgd : ss.getD k 0 = ss[k] := by rw [List.getD_eq_getElem?_getD, hxk]; rfl
          have hSk := addS_ok B hEv (far := farL (part.take j)) (ss := ss.take k) fun s hs => hsb s (List.mem_of_mem_take hs)
          have hSm := addS_many (q := q) (far := farL (part.take j)) (e := ev) (ss := ss.take k)
          have hSl := lateS_many (q := q) (far := farL (part.take j)) (ss := ss.take k)
          have htk : (ss.take k).length = k := by rw [List.length_take]; omega
          obtain ⟨b51, o51, e51, c51⟩ := SSx.get (i := k) (by omega)
          rw [hgd] at c51
          generalize ss[k] = sk at *
          have hAk : ∀ x ∈ Aj ++ addS q (farL (part.take j)) ev (ss.take k), AdOK q x := by
            intro x hx
            rcases List.mem_append.1 hx with h1 | h1
            · exact hAA x h1
            · exact hSk x h1
          have hAkn : (Aj ++ addS q (farL (part.take j)) ev (ss.take k)).length ≤ 500000 := by rw [List.length_append]; omega
          intro J163
          have hJ2 : ∀ (a : Option Addr) (c : Nat) (R : List PR) (hh' : Hp) (x : Int), Pans hx0 hh' a c R → StA (kindsQ q) ((Aj ++ addS q (farL (part.take j)) ev (ss.take k)) ++ if lateQ q (farL (part.take j)) sk then [] else [((sk, keyQ q ev), valsQ q ev)]) R → x = ((cj + lateS q (farL (part.take j)) (ss.take k) + if lateQ q (farL (part.take j)) sk then 1 else 0 : Nat) : Int) → J163 a R.length c x hh' := by
            intro a c R hh' x N S hx
            refine ⟨_, isW (by unfold InR; omega), ⟨k + 1, a, c, R, ?_, by omega, N, ?_⟩, by simp [vint]; omega⟩
            · rw [tkk, lateS_snoc, hx, ← Nat.add_assoc]; rfl
            · rw [tkk, addS_snoc, ← List.append_assoc]; exact S
          clear_value J163
          refine ⟨b51, o51, ⟨e51, by omega, by omega⟩, sk, by rw [Int.toNat_natCast]; exact cell_le N.le0 c51, ?_⟩
          intro b54 hb54 h55
          show Hp.store (Hp.set hh3 b54 (cellsO [vi 0] 3)) b54 0 [vi sk] _
          refine store_new (xs := [vi 0]) (by rfl) ?_
          refine ⟨sk, cell_new rfl, ?_⟩
          have l56 : hh3.le (hh3.set b54 (cellsO [vi sk] 3)) := Hp.le_set (Hp.le_refl _) hb54 _
          have c56 : Hp.cell (hh3.set b54 (cellsO [vi sk] 3)) b54 0 = some (vi sk) := cell_new rfl
          generalize hh3.set b54 (cellsO [vi sk] 3) = h56 at l56 c56
          have N56 := N.le l56
          have lh56 := Hp.le_trans lx N56.le0
          refine batch_late_ok (i := j) (SP.le lh56) (by omega) hcap (by omega) (fun e he => (hEp e he).t) (by omega) B ⟨_, rfl, fun e2 => ?_, fun e2 => ?_⟩
          · refine ⟨_, isW (by unfold InR; omega), hJ2 a c R h56 _ N56 (by rw [if_pos e2, List.append_nil]; exact S) ?_⟩
            rw [if_pos e2]
            push_cast
            rfl
          · have hnl : ¬ lateQ q (farL (part.take j)) sk = true := by rw [e2]; decide
            simp only [if_neg hnl, Nat.add_zero] at hJ2
            refine batch_key_ok (e := ev) (Q.le lh56) B fun h65 l65 => ⟨_, _, rfl, ?_⟩
            intro b68 hb68 h69
            show Hp.store (Hp.set h65 b68 (cellsO [vi 0, vi 0] 33)) b68 0 [vi (keyQ q ev).1, vi (keyQ q ev).2] _
            refine store_new (xs := [vi 0, vi 0]) (by rfl) ?_
            have l70 : h65.le (h65.set b68 (cellsO [vi (keyQ q ev).1, vi (keyQ q ev).2] 33)) := Hp.le_set (Hp.le_refl _) hb68 _
            have r70 : Hp.row (h65.set b68 (cellsO [vi (keyQ q ev).1, vi (keyQ q ev).2] 33)) b68 0 2 = some (encV (keyQ q ev)) := row_cells' (Hp.set_same _ _ _) (by simp)
            generalize h65.set b68 (cellsO [vi (keyQ q ev).1, vi (keyQ q ev).2] 33) = h70 at l70 r70
            have l5670 := Hp.le_trans l65 l70
            have N70 := N56.le l5670
            have c70 := cell_le l5670 c56
            have hRl := S.len
            have hRk := keysU_many (Aj ++ addS q (farL (part.take j)) ev (ss.take k))
            -- behind the pane's being there
            have hJ3 : ∀ (J146 : Option Addr → Nat → Nat → Int → Hp → Prop), (∀ (a150 : Option Addr) (n150 c150 : Nat) (x151 : Int) (h152 : Hp), J146 a150 n150 c150 x151 h152 = (∃ (b153 o154 : Nat), (a150 = some ⟨b153, o154, none⟩ ∧ (0 : Int) ≤ x151 ∧ x151 < ((n150 : Nat) : Int)) ∧ (∃ (a155 : Option Addr) (n155 c155 : Nat), (Hp.cell h152 b153 ((o154 + x151.toNat * 5) + 3) = some (vsl a155 n155 c155)) ∧ (CallOK Tryz.prog 26 [(vsl a155 n155 c155), qV a1 n1 c1 a2 n2 c2 a3 n3 c3 q, vag (encE ev)] h152 fun v156 h157 => ∃ (a158 : Option Addr) (n158 c158 : Nat), v156 = (vsl a158 n158 c158) ∧ (∃ (b159 o160 : Nat), (a150 = some ⟨b159, o160, none⟩ ∧ (0 : Int) ≤ x151 ∧ x151 < ((n150 : Nat) : Int)) ∧ (Hp.store h157 b159 ((o160 + x151.toNat * 5) + 3) [(vsl a158 n158 c158)] fun h161 => (J163 a150 n150 c150 ((cj + lateS q (farL (part.take j)) (ss.take k) : Nat) : Int) h161))))))) →
                ∀ (a : Option Addr) (c : Nat) (R : List PR) (m : Nat) (r : PR) (hh' : Hp), Pans hx0 hh' a c R → R[m]? = some r → r.acs.map (·.1) = kindsQ q → (∀ x ∈ r.acs, AcB x) → StA (kindsQ q) ((Aj ++ addS q (farL (part.take j)) ev (ss.take k)) ++ [((sk, keyQ q ev), valsQ q ev)]) (R.set m { r with acs := accP r.acs (valsQ q ev) }) → J146 a R.length c (m : Int) hh' := by
              intro J146 hdef a c R m r hh' N hr hkd hbd S'
              rw [hdef]
              obtain ⟨hm, _⟩ := List.getElem?_eq_some_iff.1 hr
              obtain ⟨b, o, ea, hrw⟩ := N.row hr
              obtain ⟨V, H⟩ := N.inner hr
              have hcl := Hp.row_cell hrw (i := 3) (x := vsl r.a r.acs.length r.c) rfl
              refine ⟨b, o, ⟨ea, by omega, by omega⟩, r.a, r.acs.length, r.c, by rw [Int.toNat_natCast]; exact hcl, ?_⟩
              refine batch_add_ok (e := ev) (Q.le lx) B hEv V hkd hbd fun h157 V' F' => ⟨_, _, _, rfl, ?_⟩
              have hlen : (valsQ q ev).length = r.acs.length := by
                have := congrArg List.length hkd
                rw [List.length_map, kindsQ_len] at this
                unfold valsQ
                rw [List.length_map, this]
              have hpl := accP_len hlen
              have N' := H h157 _ V'.le0 V' hpl F'
              have hr' : (R.set m { r with acs := accP r.acs (valsQ q ev) })[m]? = some { r with acs := accP r.acs (valsQ q ev) } := by rw [List.getElem?_set, if_pos rfl, if_pos hm]
              obtain ⟨b', o', ea', HS⟩ := N'.again hr'
              refine ⟨b', o', ⟨ea', by omega, by omega⟩, ?_⟩
              rw [Int.toNat_natCast]
              simp only [hpl] at HS
              refine HS _ fun h161 N161 l161 => ?_
              have := hJ2 a c _ h161 _ N161 S' rfl
              rw [List.length_set] at this
              exact this
            refine pane_IndexFunc_ok N70 (by omega) (K := (sk, keyQ q ev)) c70 r70 (fun m r hr hkr => ⟨_, rfl, ?_⟩) (fun hno => ⟨_, rfl, ?_⟩)
            · intro J146
              have hdef : ∀ (a150 : Option Addr) (n150 c150 : Nat) (x151 : Int) (h152 : Hp), J146 a150 n150 c150 x151 h152 = _ := fun _ _ _ _ _ => rfl
              have hJ4 := hJ3 J146 (fun _ _ _ _ _ => rfl)
              clear hdef
              clear_value J146
              refine ⟨fun e3 => absurd (of_decide_eq_true e3) (by omega), fun _ => ?_⟩
              obtain ⟨f1, f2, _⟩ := S.facts hAk (by omega) hr
              refine hJ4 a c R m r h70 N70 hr f1 f2 ?_
              have := S.put hr (valsQ q ev)
              rw [← hkr]
              exact this
            · intro J146
              have hJ4 := hJ3 J146 (fun _ _ _ _ _ => rfl)
              clear_value J146
              refine ⟨fun _ => ?_, fun e3 => absurd (of_decide_eq_false e3) (by omega)⟩
              refine ⟨sk, c70, _, _, r70, ?_⟩
              intro J107
              have hkn : (sk, keyQ q ev) ∉ keysU (Aj ++ addS q (farL (part.take j)) ev (ss.take k)) := by
                rw [← S.keys]
                intro hm
                obtain ⟨r, hr, e4⟩ := List.mem_map.1 hm
                exact hno r hr e4
              have hJ5 : ∀ (a86 : Option Addr) (c86 : Nat) (h81 : Hp), VecA h70 h81 a86 c86 (acc0 (kindsQ q)) → J107 sk (keyQ q ev).1 (keyQ q ev).2 a86 (acc0 (kindsQ q)).length c86 false h81 := by
                intro a86 c86 h81 V b139 hb139 h140
                refine N70.app V.le0 (r := ⟨(sk, keyQ q ev), a86, c86, acc0 (kindsQ q), false⟩) V (by omega) hb139 fun a' c' h' N' => ⟨_, _, _, rfl, ?_⟩
                have hr : (R ++ [(⟨(sk, keyQ q ev), a86, c86, acc0 (kindsQ q), false⟩ : PR)])[R.length]? = some ⟨(sk, keyQ q ev), a86, c86, acc0 (kindsQ q), false⟩ := by simp
                obtain ⟨g1, g2⟩ := acc0_small q
                have := hJ4 a' c' _ R.length _ h' N' hr g1 g2 (by
                  rw [List.set_append_right _ _ (Nat.le_refl _), Nat.sub_self]
                  exact S.new hkn (valsQ q ev) a86 c86)
                rw [List.length_append, List.length_singleton] at this
                exact this
              clear_value J107
              have hna := Q.g.len
              refine ⟨fun vs hh => ∃ (m : Nat) (a : Option Addr) (c : Nat), vs = [vi m, vi sk, vi (keyQ q ev).1, vi (keyQ q ev).2, vsl a (acc0 ((kindsQ q).take m)).length c, vb false] ∧ m ≤ n1 ∧ VecA h70 hh a c (acc0 ((kindsQ q).take m)), fun vs hh => n1 - (vint vs 0).toNat, ⟨0, none, 0, rfl, Nat.zero_le _, OwnV.nil (Hp.le_refl _) _ _⟩, ?_⟩
              rintro vs hh4 ⟨m, a86, c86, rfl, hm, V⟩
              refine ⟨_, _, _, _, a86, _, c86, false, rfl, fun e5 => ?_, fun e5 => ?_⟩
              · have hltm : m < n1 := by have := of_decide_eq_true e5; omega
                have hxm : q.aggs[m]? = some q.aggs[m] := List.getElem?_eq_getElem (by omega)
                have hkl := kindsQ_len q
                have tkm : (kindsQ q).take (m + 1) = (kindsQ q).take m ++ [(q.aggs[m]'(by omega)).1] := by
                  rw [List.take_succ_eq_append_getElem (by omega)]
                  congr 2
                  unfold kindsQ
                  rw [List.getElem_map]
                have hal : (acc0 ((kindsQ q).take m)).length = m := by unfold acc0; rw [List.length_map, List.length_take]; omega
                obtain ⟨b, o, a', c', ha, hrow, hS⟩ := (Q.g.le (Hp.le_trans lx (Hp.le_trans N70.le0 V.le0))).row aggRw_len (by decide) hxm
                refine ⟨b, o, ⟨ha, by omega, by omega⟩, (q.aggs[m]'(by omega)).1, a', (q.aggs[m]'(by omega)).2.length, c', by rw [Int.toNat_natCast]; exact hrow, gather_New_ok ⟨_, _, _, _, rfl, ?_⟩⟩
                intro b100 hb100 h101
                refine Vec.app elAcc encAc_len one_ac V (by rw [hal]; omega) (by rw [hal]; omega) (x := ((q.aggs[m]'(by omega)).1, (0, 0, 0))) hb100 fun a' c' h' V' => ⟨_, _, _, rfl, _, isW (by unfold InR; omega), ⟨m + 1, a', c', ?_, by omega, ?_⟩, by simp [vint]; omega⟩
                · rw [tkm]; unfold acc0; rw [List.map_append]; rfl
                · rw [tkm]; unfold acc0 at V' ⊢; rw [List.map_append]; exact V'
              · have hge : m = n1 := by have := of_decide_eq_false e5; omega
                rw [List.take_of_length_le (by rw [kindsQ_len]; omega)] at V ⊢
                exact hJ5 a86 c86 hh4 V
        · have hge : k = ss.length := by have := of_decide_eq_false e; omega
          rw [hge, List.take_length] at S ⊢
          exact hJ a c R hh3 (N.base lx) S
    · have hge : j = part.length := by have := of_decide_eq_false e; omega
      rw [hge, List.take_length] at S ⊢
      refine ⟨_, isW (by unfold InR; omega), ⟨i + 1, a, c, R, ?_, by omega, N, ?_⟩, by simp [vint]; omega⟩
      · rw [tk, lateA_snoc]; rfl
      · rw [tk, addA_snoc]; exact S
  · have hge : i = ps.length := by have := of_decide_eq_false e; omega
    rw [hge, List.take_length] at S ⊢
    have hA := addA_ok B hE
    have hm := addA_many B ps hl
    have hRl := S.len
    have hRk := keysU_many (addA q ps)
    refine N.sort S (fun r hr => ?_) (by omega) fun R2 h185 N2 hl2 hR2 => ⟨rfl, ?_⟩
    · obtain ⟨m, hr⟩ := List.getElem?_of_mem hr
      have := S.facts hA (by omega) hr
      omega
    have hans : R2.map (fun r => (r.k, r.acs.map gOut)) = ansQ q ps := by
      have := congrArg (List.map fun x : PK × List AcS => (x.1, x.2.map gOut)) hR2
      rw [List.map_map, List.map_map] at this
      exact this
    refine ⟨fun vs hh => ∃ (m : Nat) (a : Option Addr) (c : Nat), vs = [vsl a ((ansQ q ps).take m).length c, vi m] ∧ m ≤ R.length ∧ GTabB encV pkRw 4 51 (fun _ => False) h185 hh a c ((ansQ q ps).take m), fun vs hh => R.length - (vint vs 1).toNat, ⟨0, none, 0, rfl, Nat.zero_le _, GTabB.nil (Hp.le_refl _)⟩, ?_⟩
    rintro vs hh5 ⟨m, a5, c5, rfl, hm5, G⟩
    have hal : (ansQ q ps).length = R.length := by rw [← hans, List.length_map, hl2]
    refine ⟨a5, _, c5, _, rfl, fun e => ?_, fun e => ?_⟩
    · have hltm : m < R.length := by have := of_decide_eq_true e; omega
      have hxm : R2[m]? = some R2[m] := List.getElem?_eq_getElem (by omega)
      have hxa : (ansQ q ps)[m]? = some ((R2[m]'(by omega)).k, (R2[m]'(by omega)).acs.map gOut) := by rw [← hans, List.getElem?_map, hxm]; rfl
      have tkm : (ansQ q ps).take (m + 1) = (ansQ q ps).take m ++ [((R2[m]'(by omega)).k, (R2[m]'(by omega)).acs.map gOut)] := by
        rw [List.take_add_one, hxa]; rfl
      have htm : ((ansQ q ps).take m).length = m := by rw [List.length_take]; omega
      have N5 := N2.le G.le0
      obtain ⟨b, o, ea, hrw⟩ := N5.row hxm
      obtain ⟨V, _⟩ := N5.inner hxm
      have hacs : (R2[m]'(by omega)).acs.length ≤ 1000 := by
        have h1 : (R2.map fun r => (r.k, r.acs))[m]? = some ((R2[m]'(by omega)).k, (R2[m]'(by omega)).acs) := by rw [List.getElem?_map, hxm]; rfl
        rw [hR2, List.getElem?_map] at h1
        cases hkk : (keysS (addA q ps))[m]? with
        | none => rw [hkk] at h1; cases h1
        | some kk =>
          rw [hkk] at h1
          simp only [Option.map_some, Option.some.injEq, Prod.mk.injEq] at h1
          have := congrArg List.length (accsOf_kinds (rowsOf_ok hA kk).1)
          rw [List.length_map, h1.2, kindsQ_len] at this
          omega
      refine ⟨b, o, ⟨ea, by omega, by omega⟩, _, _, _, _, _, _, _, by rw [Int.toNat_natCast]; exact hrw, ?_⟩
      refine pane_Out_ok (r := R2[m]'(by omega)) (V.slp encAc_len (by decide)) hacs fun a2' c2' h203 V2 => ⟨_, _, _, _, _, _, rfl, ?_⟩
      intro b208 hb208 h209
      refine GTabB.app elOut G (hB := hh5) (h1 := h203) V2.le0 (fun _ hf => hf.elim) (fun g hg => G.al hg) (x := (R2[m]'(by omega)).k) (a2 := a2') (c2 := c2') (l := (R2[m]'(by omega)).acs.map gOut) (OwnV.row V2) (fun b o eb => V2.new b (by rw [eb, OwnS.at0 (OwnV.own V2) b o eb])) ?_ rfl (fun _ hf => hf.elim) (by rw [htm]; omega) (by rw [htm]; omega) hb208 fun a' c' h' G' _ => ⟨_, _, _, rfl, _, isW (by unfold InR; omega), ⟨m + 1, a', c', ?_, by omega, ?_⟩, by simp [vint]; omega⟩
      · intro u hu
        simp only [pkRw, List.mem_cons, List.not_mem_nil, or_false] at hu
        rcases hu with rfl | rfl | rfl | rfl <;> rfl
      · rw [tkm, List.length_append, List.length_singleton]; rfl
      · rw [tkm]; exact G'
    · have hge5 : m = R.length := by have := of_decide_eq_false e; omega
      rw [List.take_of_length_le (by omega)] at G ⊢
      exact hK a5 c5 hh5 (Hp.le_trans N2.le0 G.le0) G.tab
end Go.Proofs.YtejefijpcggkfaaGreatDoor
namespace Go.Proofs.YtejefijpcggkfaaGreatDoor
open Go Go.Vc Go.Txt
set_option linter.unusedVariables false
set_option maxRecDepth 100000
def StR (n : Nat) (A : List Ad) (R : List PN) : Prop := R.map (·.k) = keysS A ∧ ∀ r ∈ R, r.cs = colsOf n (rowsOf A r.k) ∧ r.told = false
theorem StR.put {n : Nat} {A : List Ad} {R : List PN} (H : StR n A R) {i : Nat} {r : PN} (hr : R[i]? = some r) (v : List Vl) (hk : insK r.k (R.map (·.k)) = R.map (·.k)) : StR n (A ++ [(r.k, v)]) (R.set i { r with cs := colP r.cs v }) := by
  obtain ⟨h1, h2⟩ := H
  obtain ⟨hi, hri⟩ := List.getElem?_eq_some_iff.1 hr
  constructor
  · rw [keysS_snoc, ← h1, hk]
    apply List.ext_getElem?
    intro j
    rw [List.getElem?_map, List.getElem?_map, List.getElem?_set]
    by_cases e : i = j
    · subst e
      rw [if_pos rfl, if_pos hi, hr]
      rfl
    · rw [if_neg e]
  · intro r2 hr2
    obtain ⟨j, hj⟩ := List.getElem?_of_mem hr2
    rw [List.getElem?_set] at hj
    by_cases e : i = j
    · subst e
      rw [if_pos rfl, if_pos hi] at hj
      cases hj
      obtain ⟨q1, q2⟩ := h2 r (List.mem_of_getElem? hr)
      simp only
      rw [rowsOf_snoc, if_pos rfl, colsOf_snoc, ← q1]
      exact ⟨rfl, q2⟩
    · rw [if_neg e] at hj
      obtain ⟨q1, q2⟩ := h2 r2 (List.mem_of_getElem? hj)
      have hne : r.k ≠ r2.k := by
        intro q
        have nd := List.pairwise_iff_getElem.1 (sorted_nodup (keysS_sorted A))
        rw [← h1] at nd
        obtain ⟨hj1, hrj⟩ := List.getElem?_eq_some_iff.1 hj
        rcases Nat.lt_trichotomy i j with h5 | h5 | h5
        · exact nd i j (by simpa using hi) (by simpa using hj1) h5 (by simp [hri, hrj, q])
        · exact e h5
        · exact nd j i (by simpa using hj1) (by simpa using hi) h5 (by simp [hri, hrj, q])
      rw [rowsOf_snoc, if_neg hne, List.append_nil]
      exact ⟨q1, q2⟩
theorem StR.new {n : Nat} {A : List Ad} {R : List PN} (H : StR n A R) {j : Nat} {x : PN} (hj : j ≤ R.length) (hxc : x.cs = List.replicate n []) (hxt : x.told = false) (v : List Vl) (hk : insK x.k (R.map (·.k)) = (R.take j ++ x :: R.drop j).map (·.k)) : StR n (A ++ [(x.k, v)]) ((R.take j ++ x :: R.drop j).set j { x with cs := colP x.cs v }) := by
  obtain ⟨h1, h2⟩ := H
  have htl : (R.take j).length = j := by rw [List.length_take]; omega
  have hset : (R.take j ++ x :: R.drop j).set j { x with cs := colP x.cs v } = R.take j ++ { x with cs := colP x.cs v } :: R.drop j := by
    rw [List.set_append_right _ _ (by omega), htl, Nat.sub_self, List.set_cons_zero]
  rw [hset]
  have hnd : ((R.take j ++ x :: R.drop j).map (·.k)).Nodup := by
    rw [← hk, h1]
    exact sorted_nodup (insK_sorted _ (keysS_sorted A))
  have hkn : ∀ r ∈ R, r.k ≠ x.k := by
    intro r hr e
    have p := (List.perm_middle (a := x) (l₁ := R.take j) (l₂ := R.drop j)).map (·.k)
    have nd2 := (p.nodup_iff).1 hnd
    rw [List.take_append_drop, List.map_cons] at nd2
    exact (List.nodup_cons.1 nd2).1 (List.mem_map.2 ⟨r, hr, e⟩)
  constructor
  · rw [keysS_snoc, ← h1, hk, List.map_append, List.map_append, List.map_cons, List.map_cons]
  · intro r2 hr2
    rcases List.mem_append.1 hr2 with h3 | h3
    · have hm := List.mem_of_mem_take h3
      obtain ⟨q1, q2⟩ := h2 r2 hm
      rw [rowsOf_snoc, if_neg (fun q => hkn r2 hm q.symm), List.append_nil]
      exact ⟨q1, q2⟩
    · rcases List.mem_cons.1 h3 with rfl | h3
      · simp only
        have h0 : rowsOf A x.k = [] := rowsOf_new fun hm => by
          rw [keysU_mem, ← keysS_mem, ← h1] at hm
          obtain ⟨r, hr, e⟩ := List.mem_map.1 hm
          exact hkn r hr e
        rw [rowsOf_snoc, if_pos rfl, h0, hxc]
        exact ⟨rfl, hxt⟩
      · have hm := List.mem_of_mem_drop h3
        obtain ⟨q1, q2⟩ := h2 r2 hm
        rw [rowsOf_snoc, if_neg (fun q => hkn r2 hm q.symm), List.append_nil]
        exact ⟨q1, q2⟩
theorem StR.len {n : Nat} {A : List Ad} {R : List PN} (H : StR n A R) : R.length ≤ A.length := by
  have h1 := congrArg List.length H.1
  rw [List.length_map, (keys_perm A).length_eq] at h1
  have := keysU_many A
  omega
theorem StR.facts {q : Qy} {A : List Ad} {R : List PN} (H : StR q.aggs.length A R) (hA : ∀ x ∈ A, AdOK q x) (hn : A.length ≤ 1000000) {r : PN} (hr : r ∈ R) : r.cs.length = q.aggs.length ∧ ∀ l ∈ r.cs, l.length ≤ 1000000 ∧ ∀ v ∈ l, smallV v := by
  obtain ⟨q1, _⟩ := H.2 r hr
  obtain ⟨r1, r2, r3⟩ := rowsOf_ok hA r.k
  rw [q1]
  rw [kindsQ_len] at r1
  refine ⟨colsOf_len r1, ?_⟩
  have key : ∀ (n : Nat) (rs : List (List Vl)), (∀ r ∈ rs, ∀ v ∈ r, smallV v) → ∀ l ∈ colsOf n rs, l.length ≤ rs.length ∧ ∀ v ∈ l, smallV v := by
    intro n rs
    induction rs using snocInd with
    | h0 =>
      intro _ c hc
      rw [List.eq_of_mem_replicate hc]
      exact ⟨Nat.le_refl _, fun v hv => by cases hv⟩
    | h1 rs r ih =>
      intro hv c hc
      have ih := ih fun x hx => hv x (List.mem_append_left _ hx)
      rw [colsOf_snoc] at hc
      unfold colP at hc
      obtain ⟨i, hi, rfl⟩ := List.mem_iff_getElem.1 hc
      rw [List.length_zipWith] at hi
      rw [List.getElem_zipWith]
      obtain ⟨h1, h2⟩ := ih _ (List.getElem_mem (by omega : i < (colsOf n rs).length))
      refine ⟨by simp; omega, fun v hv2 => ?_⟩
      rcases List.mem_append.1 hv2 with h3 | h3
      · exact h2 v h3
      · rw [List.mem_singleton.1 h3]
        exact hv r (by simp) _ (List.getElem_mem _)
  intro l hl
  obtain ⟨k1, k2⟩ := key _ _ r2 l hl
  exact ⟨by omega, k2⟩
end Go.Proofs.YtejefijpcggkfaaGreatDoor
namespace Go.Proofs.YtejefijpcggkfaaGreatDoor
open Go Go.Vc Go.Txt
set_option linter.unusedVariables false
set_option maxRecDepth 100000
set_option maxHeartbeats 4000000 in
theorem R_Answer_ok {q : Qy} {a1 : Option Addr} {n1 c1 : Nat} {a2 : Option Addr} {n2 c2 : Nat} {a3 : Option Addr} {n3 c3 : Nat} {h : Hp} {R' : Value → Hp → Prop} {ps : List (List EvL)} {pa : Option Addr} {pn pc : Nat} (Q : QAt h q a1 n1 a2 n2 a3 n3) (B : QOk q) (T : TabR encE h pa pn ps)
    (hp : ps.length ≤ 5) (hl : ∀ p ∈ ps, p.length ≤ 100) (hE : ∀ p ∈ ps, ∀ e ∈ p, EvOK e)
    (hK : ∀ a c h', h.le h' → GTab encV pkRw h' a (ansQ q ps).length (ansQ q ps) → R' (vtup [vsl a (ansQ q ps).length c, vi (lateA q ps : Nat)]) h') : CallOK Tryz.prog 10 [qV a1 n1 c1 a2 n2 c2 a3 n3 c3 q, vsl pa pn pc] h R' := by
  refine ok_R_Answer ?_
  unfold VC_R_Answer
  have hpn : pn = ps.length := T.choose_spec.2.1
  have s1 := B.s
  have s2 := B.l
  have s3 := B.n2
  have s4 := B.t
  have s5 := B.d
  have hn1 := Q.g.len
  subst hn1
  refine ⟨fun vs hh => ∃ (i : Nat) (a : Option Addr) (c : Nat) (R : List PN), vs = [vsl a R.length c, vi (lateA q (ps.take i) : Nat), vi i] ∧ i ≤ ps.length ∧ PanR h hh a c R ∧ StR q.aggs.length (addA q (ps.take i)) R, fun vs hh => ps.length - (vint vs 2).toNat, ⟨0, none, 0, [], rfl, Nat.zero_le _, PanR.nil (Hp.le_refl h), rfl, fun r hr => by cases hr⟩, ?_⟩
  rintro vs hh ⟨i, a, c, R, rfl, hi, N, S⟩
  refine ⟨a, R.length, c, _, _, rfl, fun e => ?_, fun e => ?_⟩
  · have hlt : i < ps.length := by have := of_decide_eq_true e; omega
    have hx : ps[i]? = some ps[i] := List.getElem?_eq_getElem hlt
    have tk : ps.take (i + 1) = ps.take i ++ [ps[i]] := List.take_succ_eq_append_getElem hlt
    have hmem : ps[i] ∈ ps := List.getElem_mem hlt
    have hEp := hE _ hmem
    have hlp := hl _ hmem
    have hAi := addA_ok B (ps := ps.take i) fun p hp' => hE p (List.mem_of_mem_take hp')
    have hmi := addA_many B (ps.take i) fun p hp' => hl p (List.mem_of_mem_take hp')
    have hti : (ps.take i).length = i := by rw [List.length_take]; omega
    generalize ps[i] = part at *
    obtain ⟨b, o, a', c', ea, hc, SP⟩ := T.cell hx
    intro J94
    have hJ0 : ∀ (a : Option Addr) (c : Nat) (R : List PN) (hh' : Hp), PanR h hh' a c R → StR q.aggs.length (addA q (ps.take i) ++ addP q (-1) part) R → J94 a R.length c ((lateA q (ps.take i) + lateP q (-1) part : Nat) : Int) hh' := by
      intro a c R hh' N S
      refine ⟨_, isW (by unfold InR; omega), ⟨i + 1, a, c, R, ?_, by omega, N, ?_⟩, by simp [vint]; omega⟩
      · rw [tk, lateA_snoc]; rfl
      · rw [tk, addA_snoc]; exact S
    clear_value J94
    clear e
    refine ⟨fun vs hh => ∃ (j : Nat) (a : Option Addr) (c : Nat) (R : List PN), vs = [vsl a R.length c, vi (lateA q (ps.take i) + lateP q (-1) (part.take j) : Nat), vi (farL (part.take j)), vi j] ∧ j ≤ part.length ∧ PanR h hh a c R ∧ StR q.aggs.length (addA q (ps.take i) ++ addP q (-1) (part.take j)) R, fun vs hh => part.length - (vint vs 3).toNat, ⟨0, a, c, R, by simp [lateP, farL], Nat.zero_le _, N, by simpa [addP] using S⟩, ?_⟩
    rintro vs hh2 ⟨j, a, c, R, rfl, hj, N, S⟩
    have hb1 : pa = some ⟨b, o, none⟩ ∧ (0 : Int) ≤ i ∧ (i : Int) < ((pn : Nat) : Int) := ⟨ea, by omega, by omega⟩
    have hc1 := cell_le N.le0 hc
    refine ⟨a, R.length, c, _, _, _, rfl, b, o, hb1, a', part.length, c', by rw [Int.toNat_natCast]; exact hc1, fun e => ?_, fun e => ?_⟩
    · have hltj : j < part.length := by have := of_decide_eq_true e; omega
      have hxj : part[j]? = some part[j] := List.getElem?_eq_getElem hltj
      have tkj : part.take (j + 1) = part.take j ++ [part[j]] := List.take_succ_eq_append_getElem hltj
      have hEv := hEp _ (List.getElem_mem hltj)
      have hAj := addP_ok B (part.take j) (-1) fun e he => hEp e (List.mem_of_mem_take he)
      have hmj := addP_many B (part.take j) (-1)
      have htj : (part.take j).length = j := by rw [List.length_take]; omega
      have hAA : ∀ x ∈ addA q (ps.take i) ++ addP q (-1) (part.take j), AdOK q x := by
        intro x hx
        rcases List.mem_append.1 hx with h1 | h1
        · exact hAi x h1
        · exact hAj x h1
      have hAn : (addA q (ps.take i) ++ addP q (-1) (part.take j)).length ≤ 499000 ∧ lateA q (ps.take i) + lateP q (-1) (part.take j) ≤ 499000 := by
        rw [List.length_append]
        omega
      have hfar : -1 ≤ farL (part.take j) ∧ farL (part.take j) ≤ 9999 := by
        have key : ∀ (m : List EvL) (x : Int), (∀ e ∈ m, EvOK e) → -1 ≤ x → x ≤ 9999 → -1 ≤ m.foldl (fun m e => max m e.1) x ∧ m.foldl (fun m e => max m e.1) x ≤ 9999 := by
          intro m
          induction m with
          | nil => intro x _ h1 h2; exact ⟨h1, h2⟩
          | cons e m ih =>
            intro x hm h1 h2
            have := (hm e (List.mem_cons_self ..)).t
            exact ih (max x e.1) (fun y hy => hm y (List.mem_cons_of_mem _ hy)) (by omega) (by omega)
        exact key _ (-1) (fun e he => hEp e (List.mem_of_mem_take he)) (by omega) (by omega)
      have hfs : farL (part.take (j + 1)) = max (farL (part.take j)) (part[j]).1 := by unfold farL; rw [tkj, List.foldl_append]; rfl
      generalize part[j] = ev at *
      obtain ⟨b2, o2, ea2, hr2⟩ := (SP.le N.le0).get (sz := 7) (fun _ => rfl) (by decide) hxj
      refine ⟨b, o, hb1, a', part.length, c', by rw [Int.toNat_natCast]; exact hc1, b2, o2, ⟨ea2, by omega, by omega⟩, _, _, _, _, _, _, _, by rw [Int.toNat_natCast]; exact hr2, ?_⟩
      refine R_asks_ok (e := ev) (Q.le N.le0) B ⟨_, rfl, ?_⟩
      intro J87
      have hJ : ∀ (a : Option Addr) (c : Nat) (R : List PN) (hh' : Hp), PanR h hh' a c R → StR q.aggs.length ((addA q (ps.take i) ++ addP q (-1) (part.take j)) ++ addE q (farL (part.take j)) ev) R → J87 a R.length c ((lateA q (ps.take i) + lateP q (-1) (part.take j) + lateE q (farL (part.take j)) ev : Nat) : Int) hh' := by
        intro a c R hh' N S
        refine ⟨_, rd_max, _, isW (by unfold InR; omega), ⟨j + 1, a, c, R, ?_, by omega, N, ?_⟩, by simp [vint]; omega⟩
        · rw [hfs, tkj, lateP_snoc, ← Nat.add_assoc]; rfl
        · rw [tkj, addP_snoc, ← List.append_assoc]; exact S
      clear_value J87
      generalize farL (part.take j) = far at *
      generalize addA q (ps.take i) ++ addP q (-1) (part.take j) = Aj at *
      generalize lateA q (ps.take i) + lateP q (-1) (part.take j) = cj at *
      refine ⟨fun e1 => ?_, fun e1 => ?_⟩
      · have eA : addE q far ev = addS q far ev (startsOf ev.1 q.size q.slide) := by unfold addE; rw [if_pos e1]
        have eL : lateE q far ev = lateS q far (startsOf ev.1 q.size q.slide) := by unfold lateE; rw [if_pos e1]
        rw [eA, eL] at hJ
        have ht := hEv.t
        have hsb := starts_ok B hEv
        have hsn := starts_many B (e := ev)
        refine R_StartsN_ok (by omega) (by omega) (by omega) (by omega) (by omega) fun a40 n40 c40 h39 l39 SS hnew => ⟨_, _, _, rfl, ?_⟩
        generalize startsOf ev.1 q.size q.slide = ss at *
        obtain ⟨hx0, lx, hrow, Nx⟩ := N.rebase l39 (g := a40) (fun b o eb => hnew b o eb)
        have SSx : SlI hx0 a40 n40 ss := ⟨SS.1, hrow SS.2⟩
        have hn40 := SS.1
        refine ⟨fun vs hh => ∃ (k : Nat) (a : Option Addr) (c : Nat) (R : List PN), vs = [vsl a R.length c, vi (cj + lateS q far (ss.take k) : Nat), vi k] ∧ k ≤ ss.length ∧ PanR hx0 hh a c R ∧ StR q.aggs.length (Aj ++ addS q far ev (ss.take k)) R, fun vs hh => ss.length - (vint vs 2).toNat, ⟨0, a, c, R, by simp [lateS], Nat.zero_le _, Nx, by simpa [addS] using S⟩, ?_⟩
        clear Nx N S hrow hr2 hc1
        rintro vs hh3 ⟨k, a, c, R, rfl, hk, N, S⟩
        refine ⟨a, R.length, c, _, _, rfl, fun e => ?_, fun e => ?_⟩
        · have hltk : k < ss.length := by have := of_decide_eq_true e; omega
          have hxk : ss[k]? = some ss[k] := List.getElem?_eq_getElem hltk
          have tkk : ss.take (k + 1) = ss.take k ++ [ss[k]] := List.take_succ_eq_append_getElem hltk
          have hsk := hsb _ (List.getElem_mem hltk)
          have hgd : ss.getD k 0 = ss[k] := by rw [List.getD_eq_getElem?_getD, hxk]; rfl
          have hSk := addS_ok B hEv (far := far) (ss := ss.take k) fun s hs => hsb s (List.mem_of_mem_take hs)
          have hSm := addS_many (q := q) (far := far) (e := ev) (ss := ss.take k)
          have hSl := lateS_many (q := q) (far := far) (ss := ss.take k)
          have htk : (ss.take k).length = k := by rw [List.length_take]; omega
          obtain ⟨b51, o51, e51, c51⟩ := SSx.get (i := k) (by omega)
          rw [hgd] at c51
          generalize ss[k] = sk at *
          have hAk : ∀ x ∈ Aj ++ addS q far ev (ss.take k), AdOK q x := by
            intro x hx
            rcases List.mem_append.1 hx with h1 | h1
            · exact hAA x h1
            · exact hSk x h1
          have hAkn : (Aj ++ addS q far ev (ss.take k)).length ≤ 500000 := by rw [List.length_append]; omega
          intro J76
          have hJ2 : ∀ (a : Option Addr) (c : Nat) (R : List PN) (hh' : Hp) (x : Int), PanR hx0 hh' a c R → StR q.aggs.length ((Aj ++ addS q far ev (ss.take k)) ++ if lateQ q far sk then [] else [((sk, keyQ q ev), valsQ q ev)]) R → x = ((cj + lateS q far (ss.take k) + if lateQ q far sk then 1 else 0 : Nat) : Int) → J76 a R.length c x hh' := by
            intro a c R hh' x N S hx
            refine ⟨_, isW (by unfold InR; omega), ⟨k + 1, a, c, R, ?_, by omega, N, ?_⟩, by simp [vint]; omega⟩
            · rw [tkk, lateS_snoc, hx, ← Nat.add_assoc]; rfl
            · rw [tkk, addS_snoc, ← List.append_assoc]; exact S
          clear_value J76
          have hb5 : a40 = some ⟨b51, o51, none⟩ ∧ (0 : Int) ≤ k ∧ (k : Int) < ((n40 : Nat) : Int) := ⟨e51, by omega, by omega⟩
          have hc5 := cell_le N.le0 c51
          have elate : (bif (decide ((far : Int) ≥ 0)) then (decide (sk + q.size + q.late ≤ far - q.delay)) else false) = lateQ q far sk := by
            unfold lateQ
            by_cases h5 : 0 ≤ far
            · rw [decide_eq_true (show far ≥ 0 from h5)]; rfl
            · rw [decide_eq_false (show ¬ far ≥ 0 from h5)]; rfl
          refine ⟨b51, o51, fun _ => hb5, sk, fun _ => by rw [Int.toNat_natCast]; exact hc5, _, fun _ => isW (by unfold InR; omega), _, fun _ => isW (by unfold InR; omega), _, fun _ => isW (by unfold InR; omega), ?_⟩
          rw [elate]
          refine ⟨fun e2 => ?_, fun e2 => ?_⟩
          · refine ⟨_, isW (by unfold InR; omega), hJ2 a c R hh3 _ N (by rw [if_pos e2, List.append_nil]; exact S) ?_⟩
            rw [if_pos e2]
            push_cast
            rfl
          · have hnl : ¬ lateQ q far sk = true := by rw [e2]; decide
            simp only [if_neg hnl, Nat.add_zero] at hJ2
            have lh3 := Hp.le_trans lx N.le0
            refine ⟨b51, o51, hb5, sk, by rw [Int.toNat_natCast]; exact hc5, R_keyOf_ok (e := ev) (Q.le lh3) B ⟨_, _, rfl, by rw [Int.toNat_natCast]; exact hc5, ?_⟩⟩
            have hRl := S.len
            refine R_find_ok N (K := (sk, keyQ q ev)) (n := q.aggs.length) (by omega) (by omega) (fun m r h70 hr hkr hik N70 => ⟨_, _, _, _, rfl, ?_⟩) (fun m x a70 c70 h70 hm hxk hxc hxt hik N70 => ⟨_, _, _, _, rfl, ?_⟩)
            · obtain ⟨f1, f2⟩ := S.facts hAk (by omega) (List.mem_of_getElem? hr)
              refine R_pane_add_ok (e := ev) (Q.le lx) B N70 hr f1 (fun l hl => (f2 l hl).1) fun h74 N74 => ⟨rfl, ?_⟩
              have S' := S.put hr (valsQ q ev) (by rw [hkr]; exact hik)
              rw [hkr] at S'
              have := hJ2 a c _ h74 _ N74 (by rw [hkr]; exact S') rfl
              rw [List.length_set] at this
              exact this
            · have htl : (R.take m).length = m := by rw [List.length_take]; omega
              have hr : (R.take m ++ x :: R.drop m)[m]? = some x := by rw [List.getElem?_append_right (by omega), htl, Nat.sub_self]; rfl
              have hRl2 : (R.take m ++ x :: R.drop m).length = R.length + 1 := by rw [List.length_append, List.length_cons, List.length_drop, htl]; omega
              rw [← hRl2]
              refine R_pane_add_ok (e := ev) (Q.le lx) B N70 hr (by rw [hxc, List.length_replicate]) (fun l hl => by rw [hxc] at hl; rw [List.eq_of_mem_replicate hl]; exact Nat.zero_le _) fun h74 N74 => ⟨rfl, ?_⟩
              have S' := S.new hm hxc hxt (valsQ q ev) (by rw [hxk]; exact hik)
              rw [hxk] at S'
              have := hJ2 a70 c70 _ h74 _ N74 (by rw [hxk]; exact S') rfl
              rw [List.length_set] at this
              exact this
        · have hge : k = ss.length := by have := of_decide_eq_false e; omega
          rw [hge, List.take_length] at S ⊢
          exact hJ a c R hh3 (N.base lx) S
      · have := hJ a c R hh2 N (by unfold addE; rw [e1]; simpa using S)
        have e2 : lateE q far ev = 0 := by unfold lateE; rw [e1]; rfl
        rw [e2, Nat.add_zero] at this
        exact this
    · have hge : j = part.length := by have := of_decide_eq_false e; omega
      rw [hge, List.take_length] at S ⊢
      exact hJ0 a c R hh2 N S
  · have hge : i = ps.length := by have := of_decide_eq_false e; omega
    rw [hge, List.take_length] at S ⊢
    have hA := addA_ok B hE
    have hm := addA_many B ps hl
    have hRl := S.len
    have hcols : ∀ r ∈ R, (List.zipWith accF (kindsQ q) r.cs).map gOut = outV (kindsQ q) (rowsOf (addA q ps) r.k) := by
      intro r hr
      unfold outV
      rw [acc_cols _ (rowsOf_ok hA r.k).1, kindsQ_len, (S.2 r hr).1]
      rfl
    have hans : R.map (fun r => (r.k, (List.zipWith accF (kindsQ q) r.cs).map gOut)) = ansQ q ps := by
      unfold ansQ ansA
      rw [← S.1, List.map_map]
      apply List.map_congr_left
      intro r hr
      simp only [Function.comp]
      rw [hcols r hr]
    have hal : (ansQ q ps).length = R.length := by rw [← hans, List.length_map]
    refine ⟨fun vs hh' => ∃ (m : Nat) (a : Option Addr) (c : Nat), vs = [vsl a ((ansQ q ps).take m).length c, vi m] ∧ m ≤ R.length ∧ GTabB encV pkRw 4 51 (fun _ => False) hh hh' a c ((ansQ q ps).take m), fun vs hh => R.length - (vint vs 1).toNat, ⟨0, none, 0, rfl, Nat.zero_le _, GTabB.nil (Hp.le_refl _)⟩, ?_⟩
    rintro vs hh5 ⟨m, a5, c5, rfl, hm5, G⟩
    refine ⟨a5, _, c5, _, rfl, fun e => ?_, fun e => ?_⟩
    · have hltm : m < R.length := by have := of_decide_eq_true e; omega
      have hxm : R[m]? = some R[m] := List.getElem?_eq_getElem hltm
      have hmemr := List.getElem_mem hltm
      have hxa : (ansQ q ps)[m]? = some ((R[m]).k, (List.zipWith accF (kindsQ q) (R[m]).cs).map gOut) := by rw [← hans, List.getElem?_map, hxm]; rfl
      have tkm : (ansQ q ps).take (m + 1) = (ansQ q ps).take m ++ [((R[m]).k, (List.zipWith accF (kindsQ q) (R[m]).cs).map gOut)] := by
        rw [List.take_add_one, hxa]; rfl
      have htm : ((ansQ q ps).take m).length = m := by rw [List.length_take]; omega
      generalize R[m] = r at *
      have N5 := N.le G.le0
      obtain ⟨b, o, ea, hc⟩ := N5.ptr hxm
      obtain ⟨hcl, hT⟩ := N5.cells hxm
      obtain ⟨f1, f2⟩ := S.facts hA (by omega) hmemr
      refine ⟨b, o, ⟨ea, by omega, by omega⟩, _, by rw [Int.toNat_natCast]; exact hc, ?_⟩
      refine R_pane_out_ok (Q.le N5.le0) B hcl hT f1 f2 fun a2' c2' h203 V2 => ⟨_, _, _, _, _, _, rfl, ?_⟩
      intro b208 hb208 h209
      refine GTabB.app elOut G (hB := hh5) (h1 := h203) V2.le0 (fun _ hf => hf.elim) (fun g hg => G.al hg) (x := r.k) (a2 := a2') (c2 := c2') (l := (List.zipWith accF (kindsQ q) r.cs).map gOut) (OwnV.row V2) (fun b o eb => V2.new b (by rw [eb, OwnS.at0 (OwnV.own V2) b o eb])) ?_ rfl (fun _ hf => hf.elim) (by rw [htm]; omega) (by rw [htm]; omega) hb208 fun a' c' h' G' _ => ⟨_, _, _, rfl, _, isW (by unfold InR; omega), ⟨m + 1, a', c', ?_, by omega, ?_⟩, by simp [vint]; omega⟩
      · intro u hu
        simp only [pkRw, List.mem_cons, List.not_mem_nil, or_false] at hu
        rcases hu with rfl | rfl | rfl | rfl <;> rfl
      · rw [tkm, List.length_append, List.length_singleton]; rfl
      · rw [tkm]; exact G'
    · have hge5 : m = R.length := by have := of_decide_eq_false e; omega
      rw [List.take_of_length_le (by omega)] at G ⊢
      exact hK a5 c5 hh5 (Hp.le_trans N.le0 G.le0) G.tab
end Go.Proofs.YtejefijpcggkfaaGreatDoor
namespace Go.Proofs.YtejefijpcggkfaaGreatDoor
open Go Go.Vc
set_option maxRecDepth 100000
set_option linter.unusedVariables false
def VC_R_SameValues (u_aa : Option Addr) (u_an u_ac : Nat) (u_ba : Option Addr) (u_bn u_bc : Nat) (h : Hp) (R : Value → Hp → Prop) : Prop :=
  (((decide ((((u_an : Nat) : Int) : Int) ≠ ((u_bn : Nat) : Int))) = true → R (vb false) h) ∧ ((decide ((((u_an : Nat) : Int) : Int) ≠ ((u_bn : Nat) : Int))) = false → (∃ (I3 : List Value → Hp → Prop) (m4 : List Value → Hp → Nat), I3 [(vi 0)] h ∧ ∀ (vs5 : List Value) (h6 : Hp), I3 vs5 h6 → ∃ (x7 : Int), vs5 = [(vi x7)] ∧ (((decide ((x7 : Int) < ((u_an : Nat) : Int))) = true → (∃ (b10 o11 : Nat), (u_aa = some ⟨b10, o11, none⟩ ∧ (0 : Int) ≤ x7 ∧ x7 < ((u_an : Nat) : Int)) ∧ (∃ (x12 : Int) (x13 : Int), (Hp.row h6 b10 (o11 + x7.toNat * 2) 2 = some [(vi x12), (vi x13)]) ∧ (∃ (b14 o15 : Nat), (u_ba = some ⟨b14, o15, none⟩ ∧ (0 : Int) ≤ x7 ∧ x7 < ((u_bn : Nat) : Int)) ∧ (∃ (x16 : Int) (x17 : Int), (Hp.row h6 b14 (o15 + x7.toNat * 2) 2 = some [(vi x16), (vi x17)]) ∧ (∃ (p18 : Bool), (Rd Tryz.prog ((eqGuard .neq 33 (.tmp 20) (.tmp 24) (vag [(vi x12), (vi x13)]) (vag [(vi x16), (vi x17)]) >>= fun _ => binOp .neq 33 (vag [(vi x12), (vi x13)]) (vag [(vi x16), (vi x17)]))) h6 (vb p18)) ∧ ((p18 = true → R (vb false) h6) ∧ (p18 = false → (∃ (x20 : Int), (IsW x20 (x7 + 1)) ∧ (I3 [(vi x20)] h6 ∧ m4 [(vi x20)] h6 < m4 vs5 h6)))))))))) ∧ ((decide ((x7 : Int) < ((u_an : Nat) : Int))) = false → R (vb true) h6)))))
theorem ok_R_SameValues {u_aa : Option Addr} {u_an u_ac : Nat} {u_ba : Option Addr} {u_bn u_bc : Nat} {h : Hp} {R : Value → Hp → Prop} (H : VC_R_SameValues u_aa u_an u_ac u_ba u_bn u_bc h R) : CallOK Tryz.prog 66 [(vsl u_aa u_an u_ac), (vsl u_ba u_bn u_bc)] h R :=
  call_of (cfg := ⟨[], [(4, ([5], [.one (.int .i64)], []))], [(6, [0, 1, 2, 3, 4, 5, 6, 7, 8])]⟩) noNG mixed Tryz.func66 [.one (.v (vsl u_aa u_an u_ac)), .one (.v (vsl u_ba u_bn u_bc))] (by kernel_rfl) rfl (by kernel_rfl) H
def VC_R_SamePane (u_aStart : Int) (u_aKeyKind : Int) (u_aKeyN : Int) (u_aValsa : Option Addr) (u_aValsn u_aValsc : Nat) (u_bStart : Int) (u_bKeyKind : Int) (u_bKeyN : Int) (u_bValsa : Option Addr) (u_bValsn u_bValsc : Nat) (h : Hp) (R : Value → Hp → Prop) : Prop :=
  (CallOK Tryz.prog 66 [(vsl u_aValsa u_aValsn u_aValsc), (vsl u_bValsa u_bValsn u_bValsc)] h fun v1 h2 => ∃ (p3 : Bool), v1 = (vb p3) ∧ (∃ (p4 : Bool), ((decide ((u_aStart : Int) = u_bStart)) = true → Rd Tryz.prog ((eqGuard .eql 33 (.tmp 18) (.tmp 20) (vag [(vi u_aKeyKind), (vi u_aKeyN)]) (vag [(vi u_bKeyKind), (vi u_bKeyN)]) >>= fun _ => binOp .eql 33 (vag [(vi u_aKeyKind), (vi u_aKeyN)]) (vag [(vi u_bKeyKind), (vi u_bKeyN)]))) h2 (vb p4)) ∧ R (vb (bif (bif (decide ((u_aStart : Int) = u_bStart)) then p4 else false) then p3 else false)) h2))
theorem ok_R_SamePane {u_aStart : Int} {u_aKeyKind : Int} {u_aKeyN : Int} {u_aValsa : Option Addr} {u_aValsn u_aValsc : Nat} {u_bStart : Int} {u_bKeyKind : Int} {u_bKeyN : Int} {u_bValsa : Option Addr} {u_bValsn u_bValsc : Nat} {h : Hp} {R : Value → Hp → Prop} (H : VC_R_SamePane u_aStart u_aKeyKind u_aKeyN u_aValsa u_aValsn u_aValsc u_bStart u_bKeyKind u_bKeyN u_bValsa u_bValsn u_bValsc h R) : CallOK Tryz.prog 37 [(vag [(vi u_aStart), (vi u_aKeyKind), (vi u_aKeyN), (vsl u_aValsa u_aValsn u_aValsc)]), (vag [(vi u_bStart), (vi u_bKeyKind), (vi u_bKeyN), (vsl u_bValsa u_bValsn u_bValsc)])] h R :=
  call_of (cfg := ⟨[], [], []⟩) noNG mixed Tryz.func37 [.ag [.v (vi u_aStart), .v (vi u_aKeyKind), .v (vi u_aKeyN), .v (vsl u_aValsa u_aValsn u_aValsc)], .ag [.v (vi u_bStart), .v (vi u_bKeyKind), .v (vi u_bKeyN), .v (vsl u_bValsa u_bValsn u_bValsc)]] (by kernel_rfl) rfl (by kernel_rfl) H
def VC_R_SamePanes (u_aa : Option Addr) (u_an u_ac : Nat) (u_ba : Option Addr) (u_bn u_bc : Nat) (h : Hp) (R : Value → Hp → Prop) : Prop :=
  (((decide ((((u_an : Nat) : Int) : Int) ≠ ((u_bn : Nat) : Int))) = true → R (vb false) h) ∧ ((decide ((((u_an : Nat) : Int) : Int) ≠ ((u_bn : Nat) : Int))) = false → (∃ (I3 : List Value → Hp → Prop) (m4 : List Value → Hp → Nat), I3 [(vi 0)] h ∧ ∀ (vs5 : List Value) (h6 : Hp), I3 vs5 h6 → ∃ (x7 : Int), vs5 = [(vi x7)] ∧ (((decide ((x7 : Int) < ((u_an : Nat) : Int))) = true → (∃ (b10 o11 : Nat), (u_aa = some ⟨b10, o11, none⟩ ∧ (0 : Int) ≤ x7 ∧ x7 < ((u_an : Nat) : Int)) ∧ (∃ (x12 : Int) (x13 : Int) (x14 : Int) (a15 : Option Addr) (n15 c15 : Nat), (Hp.row h6 b10 (o11 + x7.toNat * 4) 4 = some [(vi x12), (vi x13), (vi x14), (vsl a15 n15 c15)]) ∧ (∃ (b16 o17 : Nat), (u_ba = some ⟨b16, o17, none⟩ ∧ (0 : Int) ≤ x7 ∧ x7 < ((u_bn : Nat) : Int)) ∧ (∃ (x18 : Int) (x19 : Int) (x20 : Int) (a21 : Option Addr) (n21 c21 : Nat), (Hp.row h6 b16 (o17 + x7.toNat * 4) 4 = some [(vi x18), (vi x19), (vi x20), (vsl a21 n21 c21)]) ∧ (CallOK Tryz.prog 37 [(vag [(vi x12), (vi x13), (vi x14), (vsl a15 n15 c15)]), (vag [(vi x18), (vi x19), (vi x20), (vsl a21 n21 c21)])] h6 fun v22 h23 => ∃ (p24 : Bool), v22 = (vb p24) ∧ (((!p24) = true → R (vb false) h23) ∧ ((!p24) = false → (∃ (x26 : Int), (IsW x26 (x7 + 1)) ∧ (I3 [(vi x26)] h23 ∧ m4 [(vi x26)] h23 < m4 vs5 h6)))))))))) ∧ ((decide ((x7 : Int) < ((u_an : Nat) : Int))) = false → R (vb true) h6)))))
theorem ok_R_SamePanes {u_aa : Option Addr} {u_an u_ac : Nat} {u_ba : Option Addr} {u_bn u_bc : Nat} {h : Hp} {R : Value → Hp → Prop} (H : VC_R_SamePanes u_aa u_an u_ac u_ba u_bn u_bc h R) : CallOK Tryz.prog 11 [(vsl u_aa u_an u_ac), (vsl u_ba u_bn u_bc)] h R :=
  call_of (cfg := ⟨[], [(4, ([5], [.one (.int .i64)], []))], [(6, [0, 1, 2, 3, 4, 5, 6, 7, 8, 9])]⟩) noNG mixed Tryz.func11 [.one (.v (vsl u_aa u_an u_ac)), .one (.v (vsl u_ba u_bn u_bc))] (by kernel_rfl) rfl (by kernel_rfl) H
end Go.Proofs.YtejefijpcggkfaaGreatDoor
namespace Go.Proofs.YtejefijpcggkfaaGreatDoor
open Go Go.Vc
set_option linter.unusedVariables false
section
variable {h : Hp} {R' : Value → Hp → Prop}
theorem R_SameValues_ok {l : List Vl} {a b : Option Addr} {c d : Nat} (S : SlP encV h a l.length l) (S2 : SlP encV h b l.length l) (hn : l.length ≤ 1000000) (hK : R' (vb true) h) : CallOK Tryz.prog 66 [vsl a l.length c, vsl b l.length d] h R' := by
  refine ok_R_SameValues ?_
  unfold VC_R_SameValues
  refine ⟨fun e => absurd rfl (of_decide_eq_true e), fun _ => ?_⟩
  refine ⟨fun vs hh => hh = h ∧ ∃ i : Nat, vs = [vi i] ∧ i ≤ l.length, fun vs hh => l.length - (vint vs 0).toNat, ⟨rfl, 0, rfl, Nat.zero_le _⟩, ?_⟩
  rintro vs hh ⟨rfl, i, rfl, hi⟩
  refine ⟨i, rfl, fun e => ?_, fun _ => hK⟩
  have hlt : i < l.length := by have := of_decide_eq_true e; omega
  have hx : l[i]? = some l[i] := List.getElem?_eq_getElem hlt
  obtain ⟨b1, o1, e1, r1⟩ := S.get (sz := 2) (fun _ => rfl) (by decide) hx
  obtain ⟨b2, o2, e2, r2⟩ := S2.get (sz := 2) (fun _ => rfl) (by decide) hx
  refine ⟨b1, o1, ⟨e1, by omega, by omega⟩, _, _, by rw [Int.toNat_natCast]; exact r1, b2, o2, ⟨e2, by omega, by omega⟩, _, _, by rw [Int.toNat_natCast]; exact r2, !decide (l[i] = l[i]), rd_neqV, fun e3 => (by simp at e3), fun _ => ⟨_, isW (by unfold InR; omega), ⟨rfl, i + 1, rfl, by omega⟩, by simp [vint]; omega⟩⟩
theorem R_SamePane_ok {k : PK} {l : List Vl} {a b : Option Addr} {c d : Nat} (S : SlP encV h a l.length l) (S2 : SlP encV h b l.length l) (hn : l.length ≤ 1000000) (hK : R' (vb true) h) : CallOK Tryz.prog 37 [vag (pkRw k (vsl a l.length c)), vag (pkRw k (vsl b l.length d))] h R' := by
  refine ok_R_SamePane ?_
  unfold VC_R_SamePane
  refine R_SameValues_ok S S2 hn ⟨_, rfl, decide (k.2 = k.2), fun _ => rd_eqV, ?_⟩
  rw [decide_eq_true (rfl : k.1 = k.1), decide_eq_true (rfl : k.2 = k.2)]
  exact hK
theorem R_SamePanes_ok {L : List (PK × List Vl)} {a b : Option Addr} {c d : Nat} (T : GTab encV pkRw h a L.length L) (T2 : GTab encV pkRw h b L.length L) (hn : L.length ≤ 1000000) (hl : ∀ x ∈ L, x.2.length ≤ 1000000) (hK : R' (vb true) h) : CallOK Tryz.prog 11 [vsl a L.length c, vsl b L.length d] h R' := by
  refine ok_R_SamePanes ?_
  unfold VC_R_SamePanes
  refine ⟨fun e => absurd rfl (of_decide_eq_true e), fun _ => ?_⟩
  refine ⟨fun vs hh => hh = h ∧ ∃ i : Nat, vs = [vi i] ∧ i ≤ L.length, fun vs hh => L.length - (vint vs 0).toNat, ⟨rfl, 0, rfl, Nat.zero_le _⟩, ?_⟩
  rintro vs hh ⟨rfl, i, rfl, hi⟩
  refine ⟨i, rfl, fun e => ?_, fun _ => hK⟩
  have hlt : i < L.length := by have := of_decide_eq_true e; omega
  have hx : L[i]? = some L[i] := List.getElem?_eq_getElem hlt
  have hm := hl _ (List.getElem_mem hlt)
  generalize L[i] = x at hx hm
  obtain ⟨k, l⟩ := x
  obtain ⟨b1, o1, a1, c1, e1, r1, S1⟩ := T.row pkRw_len (by decide) hx
  obtain ⟨b2, o2, a2, c2, e2, r2, S2⟩ := T2.row pkRw_len (by decide) hx
  refine ⟨b1, o1, ⟨e1, by omega, by omega⟩, _, _, _, _, _, _, by rw [Int.toNat_natCast]; exact r1, b2, o2, ⟨e2, by omega, by omega⟩, _, _, _, _, _, _, by rw [Int.toNat_natCast]; exact r2, R_SamePane_ok S1 S2 hm ⟨_, rfl, fun e3 => (by cases e3), fun _ => ⟨_, isW (by unfold InR; omega), ⟨rfl, i + 1, rfl, by omega⟩, by simp [vint]; omega⟩⟩⟩
end
theorem outV_len {q : Qy} {A : List Ad} (hA : ∀ x ∈ A, AdOK q x) (k : PK) : (outV (kindsQ q) (rowsOf A k)).length = q.aggs.length := by
  unfold outV
  rw [List.length_map, ← kindsQ_len]
  have := congrArg List.length (accsOf_kinds (rowsOf_ok hA k).1)
  rw [List.length_map] at this
  exact this
theorem ansQ_many {q : Qy} (B : QOk q) {ps : List (List EvL)} (hp : ps.length ≤ 5) (hl : ∀ p ∈ ps, p.length ≤ 100) (hE : ∀ p ∈ ps, ∀ e ∈ p, EvOK e) : (ansQ q ps).length ≤ 500000 ∧ ∀ x ∈ ansQ q ps, x.2.length ≤ 1000000 := by
  have h1 := addA_many B ps hl
  have h2 := keysU_many (addA q ps)
  have h3 := (keys_perm (addA q ps)).length_eq
  have h4 := B.n2
  constructor
  · unfold ansQ ansA
    rw [List.length_map]
    omega
  · intro x hx
    unfold ansQ ansA at hx
    obtain ⟨k, _, rfl⟩ := List.mem_map.1 hx
    simp only
    rw [outV_len (addA_ok B hE)]
    omega
end Go.Proofs.YtejefijpcggkfaaGreatDoor
namespace Go.Proofs.YtejefijpcggkfaaGreatDoor
open Go Go.Vc Go.Txt
set_option linter.unusedVariables false
set_option maxRecDepth 100000
theorem slb_lit (h : Hp) (b : Nat) (l : List Wd) (hl : l.length ≤ maxLen) : SlB (h.set b (cellsO (l.flatMap encB) 9)) (some ⟨b, 0, none⟩) l.length l := ⟨rfl, (OwnS.new h b 9 (sz := 1) (n := l.length) (l.flatMap encB) (by induction l with
  | nil => rfl
  | cons w l ih => have := ih (by simp at hl; omega); simp [encB] at this ⊢; omega) hl).row⟩
theorem number_range {s : RS} {most : Int} (hm : 0 ≤ most) : 0 ≤ (s.number most).1 ∧ (s.number most).1 ≤ most := by
  unfold RS.number
  split
  · exact ⟨Int.le_refl _, hm⟩
  · split
    · exact ⟨Int.le_refl _, hm⟩
    · rename_i h
      exact ⟨by omega, (natF_low hm).2⟩
theorem joinP_le (op : Int) (x y : List Nd) (s : RS) : (joinP op x y s).1.length ≤ 40 := by
  unfold joinP
  split
  · simp
  · rw [joinL_length]; omega
theorem read_const {w : Wd} (h : w ∈ constW) : (readV w).1 = constV w := by
  have h2 : w = wNull ∨ w = wTrue ∨ w = wFalse := by simpa [constW] using h
  rcases h2 with rfl | rfl | rfl <;> rfl
theorem reader_atom_ok {P : Ps} {n : Nat} (F : Reads 42 P n) (kp : KP P n) : Reads 152 (atomP P) (n + 1) := by
  intro h0 h g s D E S R hK
  refine ok_query_reader_atom ?_
  unfold VC_query_reader_atom
  intro b1 hb1 h2
  have hl : h.le h2 := Hp.le_set (Hp.le_refl h) hb1 _
  have hb := S.big
  have tk := @taken s ([wOpen] ++ constW ++ fieldW)
  have sp := s.is_spec ([wOpen] ++ constW ++ fieldW)
  have gi := goes_is S.good ([wOpen] ++ constW ++ fieldW)
  have nr := @number_range
  unfold atomP at hK
  simp only at hK
  refine reader_is_ok (D.le hl) (l := [wOpen] ++ constW ++ fieldW) (slb_lit h b1 ([wOpen] ++ constW ++ fieldW) (by decide)) (by decide) (by omega) fun h4 D4 M4 => ⟨_, rfl, ?_⟩
  have M04 : Mut (At g) h (At g) h4 := (Mut.of_le hl).trans M4
  generalize s.is ([wOpen] ++ constW ++ fieldW) = A at *
  obtain ⟨w, s1⟩ := A
  simp -zeta only at hK D4 tk sp gi ⊢
  have hS1 := S.goes gi
  have E4 := E.mut M04
  refine ⟨_, rd_eqBs (b := wOpen), fun e => ?_, fun e1 => ?_⟩
  · have ew : w = wOpen := of_decide_eq_true e
    have tk := tk (by rw [ew]; decide)
    rw [if_pos ew] at hK
    have d1 := S.d1
    have hdp := gi.deep
    have Sn : SOk n s1 := ⟨hS1.good, by have := S.len; omega, hS1.big, hS1.d0, hS1.d1⟩
    have kd := keeps_down kp (Goes.refl hS1.good) (Nat.le_of_lt Sn.len)
    refine reader_down_ok ⟨_, Tryz.func42, by kernel_rfl, by kernel_rfl⟩ F kp D4 E4 Sn (by omega) fun a c h8 D8 N8 M8 => ⟨_, _, _, rfl, ?_⟩
    refine reader_must_ok D8 (by have := kd.len; have := hS1.big; omega) fun h11 D11 M11 => ⟨rfl, ?_⟩
    exact hK a c h11 D11 ((N8.base (M04.up D4.al)).mut D.al M11) ((M04.trans M8).trans M11)
  have e1 : ¬ w = wOpen := of_decide_eq_false e1
  rw [if_neg e1] at hK
  have hwc : w ∈ constW ↔ w = wNull ∨ w = wTrue ∨ w = wFalse := by simp [constW]
  refine ⟨_, rd_eqBs (b := wNull), ?_⟩
  intro J18
  have yes : w ∈ constW → J18 true := by
    intro hw
    rw [if_pos hw] at hK
    have hwl : w.length ≤ 1000000 := by
      have : w = wNull ∨ w = wTrue ∨ w = wFalse := hwc.1 hw
      rcases this with rfl | rfl | rfl <;> decide
    refine ⟨fun _ => ?_, fun e => by cases e⟩
    refine value_Parse_ok hwl E4.now.p E4.now.e ⟨_, _, _, rfl, ?_⟩
    rw [read_const hw]
    refine query_leaf_ok ⟨1, 0, 0, 0, constV w⟩ fun a c h26 N26 _ l26 => ⟨_, _, _, rfl, ?_⟩
    exact hK a c h26 (D4.le l26) (N26.base (M04.up D4.al)) (M04.trans (Mut.of_le l26))
  have no : ¬ w ∈ constW → J18 false := by
    intro hw
    rw [if_neg hw] at hK
    refine ⟨fun e => by (cases e), fun _ => ⟨_, rd_eqBs (b := []), fun e => ?_, fun e => ?_⟩⟩
    · rw [if_pos (of_decide_eq_true e)] at hK
      have nr1 := nr (s := s1) (most := 1000000000) (by decide)
      refine reader_number_ok D4 E4 (by have := hS1.big; omega) (by decide) (by decide) fun h30 D30 M30 => ⟨_, rfl, value_Number_ok ⟨_, _, rfl, ?_⟩⟩
      have en : numV (s1.number 1000000000).1 = (1, (s1.number 1000000000).1) := by unfold numV; rw [if_neg (by omega)]
      rw [en]
      refine query_leaf_ok ⟨1, 0, 0, 0, (1, (s1.number 1000000000).1)⟩ fun a c h37 N37 _ l37 => ⟨_, _, _, rfl, ?_⟩
      exact hK a c h37 (D30.le l37) (N37.base ((M04.trans M30).up D30.al)) ((M04.trans M30).trans (Mut.of_le l37))
    · have e3 := of_decide_eq_false e
      rw [if_neg e3] at hK
      have hm : w ∈ fieldW := by
        rcases sp with ⟨q, _⟩ | ⟨w', r, _, hm, q, _⟩
        · exact absurd q e3
        · rw [← q] at hm
          rcases List.mem_append.1 hm with h4 | h4
          · rcases List.mem_append.1 h4 with h5 | h5
            · exact absurd (by simpa using h5) e1
            · exact absurd h5 hw
          · exact h4
      obtain ⟨fa, fc, hf, hfs⟩ := E4.now.f
      refine ⟨_, _, _, hf, slices_Index_ok hfs (by decide) ⟨_, rfl, ?_⟩⟩
      rw [if_pos hm]
      refine query_leaf_ok ⟨2, 0, 0, fieldW.idxOf w, (0, 0)⟩ fun a c h44 N44 _ l44 => ⟨_, _, _, rfl, ?_⟩
      exact hK a c h44 (D4.le l44) (N44.base (M04.up D4.al)) (M04.trans (Mut.of_le l44))
  clear_value J18
  refine ⟨fun e => ?_, fun e2 => ⟨_, rd_eqBs (b := wTrue), fun e => ?_, fun e3 => ⟨_, rd_eqBs (b := wFalse), ?_⟩⟩⟩
  · rw [e]; exact yes (hwc.2 (.inl (of_decide_eq_true e)))
  · rw [e]; exact yes (hwc.2 (.inr (.inl (of_decide_eq_true e))))
  · have e2 := of_decide_eq_false e2
    have e3 := of_decide_eq_false e3
    by_cases hf : w = wFalse
    · rw [decide_eq_true hf]; exact yes (hwc.2 (.inr (.inr hf)))
    · rw [decide_eq_false hf]
      refine no fun h => ?_
      rcases hwc.1 h with h | h | h
      · exact e2 h
      · exact e3 h
      · exact hf h
theorem reader_unary_ok {U A : Ps} {n : Nat} (F : Reads 150 U n) (ku : KP U n) (FA : Reads 152 A (n + 1)) : Reads 150 (unaryP U A) (n + 1) := by
  intro h0 h g s D E S R hK
  refine ok_query_reader_unary ?_
  unfold VC_query_reader_unary
  intro b1 hb1 h2
  have hl : h.le h2 := Hp.le_set (Hp.le_refl h) hb1 _
  have hb := S.big
  have tk := @taken s [wMinus]
  have gi := goes_is S.good [wMinus]
  unfold unaryP at hK
  have hi := @RS.is_spec s [wMinus]
  refine reader_is_ok (D.le hl) (slb_one h b1 wMinus) (by decide) (by omega) fun h4 D4 M4 => ⟨_, rfl, ?_⟩
  have M04 : Mut (At g) h (At g) h4 := (Mut.of_le hl).trans M4
  generalize s.is [wMinus] = B at *
  obtain ⟨w, s1⟩ := B
  simp -zeta only at hK D4 tk gi hi ⊢
  have hS1 := S.goes gi
  have E4 := E.mut M04
  refine ⟨_, rd_eqBs (b := []), fun e => ?_, fun e => ?_⟩
  · have ew := of_decide_eq_true e
    rw [if_pos ew] at hK
    have es : s1 = s := by
      rcases hi with ⟨_, q⟩ | ⟨w', r, _, hm, q, _⟩
      · exact q
      · rw [ew] at q; rw [← q] at hm; exact absurd hm (by decide)
    subst es
    exact FA D4 E4 hS1 fun a c h8 D8 N8 M8 => ⟨_, _, _, rfl, hK a c h8 D8 (N8.base (M04.up D4.al)) (M04.trans M8)⟩
  · have ew := of_decide_eq_false e
    rw [if_neg ew] at hK
    have tk := tk ew
    have d1 := S.d1
    have hdp := gi.deep
    have Sn : SOk n s1 := ⟨hS1.good, by have := S.len; omega, hS1.big, hS1.d0, hS1.d1⟩
    have kd := keeps_down ku (Goes.refl hS1.good) (Nat.le_of_lt Sn.len)
    refine reader_down_ok ⟨_, Tryz.func150, by kernel_rfl, by kernel_rfl⟩ F ku D4 E4 Sn (by omega) fun a c h8 D8 N8 M8 => ⟨_, _, _, rfl, ?_⟩
    refine reader_join_ok D8 N8.s (nd_nil h8 h8).s wf_nil (by have := kd.le; omega) (by simp) fun a c h15 D15 N15 M15 => ⟨_, _, _, rfl, ?_⟩
    exact hK a c h15 D15 (N15.base ((M04.trans M8).up D8.al)) ((M04.trans M8).trans M15)
theorem reader_not_ok {U A : Ps} {n : Nat} (F : Reads 106 U n) (ku : KP U n) (FA : Reads 127 A (n + 1)) : Reads 106 (notP U A) (n + 1) := by
  intro h0 h g s D E S R hK
  refine ok_query_reader_not ?_
  unfold VC_query_reader_not
  intro b1 hb1 h2
  have hl : h.le h2 := Hp.le_set (Hp.le_refl h) hb1 _
  have hb := S.big
  have tk := @taken s [wNot]
  have gi := goes_is S.good [wNot]
  unfold notP at hK
  have hi := @RS.is_spec s [wNot]
  refine reader_is_ok (D.le hl) (slb_one h b1 wNot) (by decide) (by omega) fun h4 D4 M4 => ⟨_, rfl, ?_⟩
  have M04 : Mut (At g) h (At g) h4 := (Mut.of_le hl).trans M4
  generalize s.is [wNot] = B at *
  obtain ⟨w, s1⟩ := B
  simp -zeta only at hK D4 tk gi hi ⊢
  have hS1 := S.goes gi
  have E4 := E.mut M04
  refine ⟨_, rd_eqBs (b := []), fun e => ?_, fun e => ?_⟩
  · have ew := of_decide_eq_true e
    rw [if_pos ew] at hK
    have es : s1 = s := by
      rcases hi with ⟨_, q⟩ | ⟨w', r, _, hm, q, _⟩
      · exact q
      · rw [ew] at q; rw [← q] at hm; exact absurd hm (by decide)
    subst es
    exact FA D4 E4 hS1 fun a c h8 D8 N8 M8 => ⟨_, _, _, rfl, hK a c h8 D8 (N8.base (M04.up D4.al)) (M04.trans M8)⟩
  · have ew := of_decide_eq_false e
    rw [if_neg ew] at hK
    have tk := tk ew
    have d1 := S.d1
    have hdp := gi.deep
    have Sn : SOk n s1 := ⟨hS1.good, by have := S.len; omega, hS1.big, hS1.d0, hS1.d1⟩
    have kd := keeps_down ku (Goes.refl hS1.good) (Nat.le_of_lt Sn.len)
    refine reader_down_ok ⟨_, Tryz.func106, by kernel_rfl, by kernel_rfl⟩ F ku D4 E4 Sn (by omega) fun a c h8 D8 N8 M8 => ⟨_, _, _, rfl, ?_⟩
    refine reader_join_ok D8 N8.s (nd_nil h8 h8).s wf_nil (by have := kd.le; omega) (by simp) fun a c h15 D15 N15 M15 => ⟨_, _, _, rfl, ?_⟩
    exact hK a c h15 D15 (N15.base ((M04.trans M8).up D8.al)) ((M04.trans M8).trans M15)
theorem reader_compare_ok {P : Ps} {n : Nat} (F : Reads 141 P n) (kp : KP P n) : Reads 127 (cmpP P) n := by
  intro h0 h g s D E S R hK
  refine ok_query_reader_compare ?_
  unfold VC_query_reader_compare
  have k := kp s S.good (Nat.le_of_lt S.len)
  unfold cmpP at hK
  simp only at hK
  refine F D E S fun a3 c3 h2 D2 N2 M2 => ⟨_, _, _, rfl, ?_⟩
  intro b4 hb4 h5
  have l5 : h2.le h5 := Hp.le_set (Hp.le_refl h2) hb4 _
  have S2 := S.goes k.goes
  have G0 := k.goes
  have k0 := k.le
  generalize P s = X at *
  obtain ⟨x, s0⟩ := X
  simp only at hK D2 N2 S2 G0 k0
  have gi := goes_is S2.good [wLt, wGt, wLe, wGe, wEq, wNe, wIs]
  refine reader_is_ok (D2.le l5) (slb_lit h2 b4 [wLt, wGt, wLe, wGe, wEq, wNe, wIs] (by decide)) (by decide) (by have := S2.big; omega) fun h7 D7 M7 => ⟨_, rfl, ?_⟩
  have M57 : Mut (At g) h2 (At g) h7 := (Mut.of_le l5).trans M7
  have M07 : Mut (At g) h (At g) h7 := M2.trans M57
  have N7 := N2.mut D.al M57
  generalize s0.is [wLt, wGt, wLe, wGe, wEq, wNe, wIs] = B at *
  obtain ⟨w, s1⟩ := B
  simp -zeta only at hK D7 gi ⊢
  have S7 := S2.goes gi
  have k2 := kp s1 S7.good (Nat.le_of_lt S7.len)
  have kw := k2.wf
  have kl := k2.le
  have E7 := E.mut M07
  have sumK : ∀ {R2 : Value → Hp → Prop}, (∀ a c h', RdAt h0 h' g (P s1).2 → NdAt h7 h' a (P s1).1.length (P s1).1 → Mut (At g) h7 (At g) h' → R2 (vsl a (P s1).1.length c) h') → CallOK Tryz.prog 141 [vhp g 0] h7 R2 := fun H => F D7 E7 S7 H
  have kx := k.wf
  intro J78
  generalize P s1 = Y at *
  obtain ⟨y, s2⟩ := Y
  simp -zeta only at hK sumK kw kl ⊢
  refine ⟨_, rd_eqBs (b := wLt), fun e => ?_, fun e1 => ⟨_, rd_eqBs (b := wGt), fun e => ?_, fun e2 => ⟨_, rd_eqBs (b := wLe), fun e => ?_, fun e3 => ⟨_, rd_eqBs (b := wGe), fun e => ?_, fun e4 => ⟨_, rd_eqBs (b := wEq), fun e => ?_, fun e5 => ⟨_, rd_eqBs (b := wNe), fun e => ?_, fun e6 => ⟨_, rd_eqBs (b := wIs), fun e => ?_, fun e7 => ?_⟩⟩⟩⟩⟩⟩⟩
  · rw [if_pos (of_decide_eq_true e)] at hK
    exact sumK fun a c h11 D11 N11 M11 => ⟨_, _, _, rfl, reader_join_ok D11 (N7.mut D.al M11).s N11.s kw (by omega) (by omega) fun a c h14 D14 N14 M14 => ⟨_, _, _, rfl, hK a c h14 D14 (N14.base ((M07.trans M11).up D11.al)) ((M07.trans M11).trans M14)⟩⟩
  · rw [if_neg (of_decide_eq_false e1), if_pos (of_decide_eq_true e)] at hK
    exact sumK fun a c h11 D11 N11 M11 => ⟨_, _, _, rfl, reader_join_ok D11 N11.s (N7.mut D.al M11).s kx (by omega) (by omega) fun a c h14 D14 N14 M14 => ⟨_, _, _, rfl, hK a c h14 D14 (N14.base ((M07.trans M11).up D11.al)) ((M07.trans M11).trans M14)⟩⟩
  · rw [if_neg (of_decide_eq_false e1), if_neg (of_decide_eq_false e2), if_pos (of_decide_eq_true e)] at hK
    have jl := joinP_le 11 y x s2
    exact sumK fun a c h11 D11 N11 M11 => ⟨_, _, _, rfl, reader_join_ok D11 N11.s (N7.mut D.al M11).s kx (by omega) (by omega) fun a c h14 D14 N14 M14 => ⟨_, _, _, rfl, reader_join_ok D14 N14.s (nd_nil h14 h14).s wf_nil (by omega) (by simp) fun a c h17 D17 N17 M17 => ⟨_, _, _, rfl, hK a c h17 D17 (N17.base (((M07.trans M11).trans M14).up D14.al)) (((M07.trans M11).trans M14).trans M17)⟩⟩⟩
  · rw [if_neg (of_decide_eq_false e1), if_neg (of_decide_eq_false e2), if_neg (of_decide_eq_false e3), if_pos (of_decide_eq_true e)] at hK
    have jl := joinP_le 11 x y s2
    exact sumK fun a c h11 D11 N11 M11 => ⟨_, _, _, rfl, reader_join_ok D11 (N7.mut D.al M11).s N11.s kw (by omega) (by omega) fun a c h14 D14 N14 M14 => ⟨_, _, _, rfl, reader_join_ok D14 N14.s (nd_nil h14 h14).s wf_nil (by omega) (by simp) fun a c h17 D17 N17 M17 => ⟨_, _, _, rfl, hK a c h17 D17 (N17.base (((M07.trans M11).trans M14).up D14.al)) (((M07.trans M11).trans M14).trans M17)⟩⟩⟩
  · rw [if_neg (of_decide_eq_false e1), if_neg (of_decide_eq_false e2), if_neg (of_decide_eq_false e3), if_neg (of_decide_eq_false e4), if_pos (of_decide_eq_true e)] at hK
    exact sumK fun a c h11 D11 N11 M11 => ⟨_, _, _, rfl, reader_join_ok D11 (N7.mut D.al M11).s N11.s kw (by omega) (by omega) fun a c h14 D14 N14 M14 => ⟨_, _, _, rfl, hK a c h14 D14 (N14.base ((M07.trans M11).up D11.al)) ((M07.trans M11).trans M14)⟩⟩
  · rw [if_neg (of_decide_eq_false e1), if_neg (of_decide_eq_false e2), if_neg (of_decide_eq_false e3), if_neg (of_decide_eq_false e4), if_neg (of_decide_eq_false e5), if_pos (of_decide_eq_true e)] at hK
    have jl := joinP_le 12 x y s2
    exact sumK fun a c h11 D11 N11 M11 => ⟨_, _, _, rfl, reader_join_ok D11 (N7.mut D.al M11).s N11.s kw (by omega) (by omega) fun a c h14 D14 N14 M14 => ⟨_, _, _, rfl, reader_join_ok D14 N14.s (nd_nil h14 h14).s wf_nil (by omega) (by simp) fun a c h17 D17 N17 M17 => ⟨_, _, _, rfl, hK a c h17 D17 (N17.base (((M07.trans M11).trans M14).up D14.al)) (((M07.trans M11).trans M14).trans M17)⟩⟩⟩
  · rw [if_neg (of_decide_eq_false e1), if_neg (of_decide_eq_false e2), if_neg (of_decide_eq_false e3), if_neg (of_decide_eq_false e4), if_neg (of_decide_eq_false e5), if_neg (of_decide_eq_false e6), if_pos (of_decide_eq_true e)] at hK
    intro b61 hb61 h62
    have l62 : h7.le h62 := Hp.le_set (Hp.le_refl h7) hb61 _
    have g3 := goes_is S7.good [wNot]
    refine reader_is_ok (D7.le l62) (slb_one h7 b61 wNot) (by decide) (by have := S7.big; omega) fun h64 D64 M64 => ⟨_, rfl, ?_⟩
    have M64' : Mut (At g) h7 (At g) h64 := (Mut.of_le l62).trans M64
    have S8 := S7.goes g3
    generalize s1.is [wNot] = C at *
    obtain ⟨v, s3⟩ := C
    simp -zeta only at hK D64 S8 ⊢
    refine reader_must_ok D64 (by have := S8.big; omega) fun h67 D67 M67 => ⟨rfl, ?_⟩
    have M67' := M64'.trans M67
    refine reader_join_ok D67 (N7.mut D.al M67').s (nd_nil h67 h67).s wf_nil (by omega) (by simp) fun a c h69 D69 N69 M69 => ⟨_, _, _, rfl, ?_⟩
    have jl := joinP_le 5 x [] (s3.must wNull)
    refine ⟨_, rd_neBs (b := []), fun q => ?_, fun q => ?_⟩
    · have q : v ≠ [] := by simpa using q
      rw [if_pos q] at hK
      exact reader_join_ok D69 N69.s (nd_nil h69 h69).s wf_nil (Nat.le_trans jl (by decide)) (by simp) fun a c h73 D73 N73 M73 => ⟨_, _, _, rfl, hK a c h73 D73 (N73.base (((M07.trans M67').trans M69).up D69.al)) (((M07.trans M67').trans M69).trans M73)⟩
    · have q : ¬ v ≠ [] := by simpa using q
      rw [if_neg q] at hK
      exact hK a c h69 D69 (N69.base ((M07.trans M67').up D67.al)) ((M07.trans M67').trans M69)
  · rw [if_neg (of_decide_eq_false e1), if_neg (of_decide_eq_false e2), if_neg (of_decide_eq_false e3), if_neg (of_decide_eq_false e4), if_neg (of_decide_eq_false e5), if_neg (of_decide_eq_false e6), if_neg (of_decide_eq_false e7)] at hK
    exact hK _ _ h7 D7 N7 M07
def wordsN (h : Hp) (g : Nat) : Nat := match h.cell g 0 with | some (.slice _ n _) => n | _ => 0
theorem RdAt.wn {h0 h : Hp} {g : Nat} {s : RS} (D : RdAt h0 h g s) : wordsN h g = s.ws.length := by
  obtain ⟨a, c, e⟩ := D.c0
  unfold wordsN
  rw [e]
theorem reader_row_ok {f : FuncId} {P : Ps} {n : Nat} (B : Bodied f) (F : Reads f P n) (kp : KP P n) {ops : List (Wd × Int)} (ho : ∀ q ∈ ops, Opr q.2) (hne : ∀ q ∈ ops, q.1 ≠ []) (hol : ops.length ≤ 100) {h0 h : Hp} {g : Nat} {s : RS} (D : RdAt h0 h g s) (E : EnvQ h0 h g) (S : SOk n s) {y : Value} {wa : Option Addr} {wn wc : Nat} (W : ElAt encB h g wa wn (ops.map (·.1)))
    (hop : ∀ h', Mut (At g) h (At g) h' → ∀ w ∈ ops.map (·.1), Rd Tryz.prog (Instr.lookup 127 y (vs (bs w)) false) h' (vi (opOf ops w)))
    {R : Value → Hp → Prop} (hK : ∀ a c h', RdAt h0 h' g (rowP P ops s).2 → NdAt h h' a (rowP P ops s).1.length (rowP P ops s).1 → Mut (At g) h (At g) h' → R (vsl a (rowP P ops s).1.length c) h') : CallOK Tryz.prog 72 [vhp g 0, .func (.func f) #[vhp g 0] #[], y, vsl wa wn wc] h R := by
  refine ok_query_reader_row ?_
  unfold VC_query_reader_row
  have k := kp s S.good (Nat.le_of_lt S.len)
  have Sx := S.goes k.goes
  have kx := k.wf
  have kl := k.le
  have kp1 := k.pos
  unfold rowP at hK
  have hwn : wn = ops.length := by have := W.s.1; simpa using this
  refine inv_of B (F D E S fun a3 c3 h2 D2 N2 M2 => ⟨_, _, _, rfl, ?_⟩)
  generalize P s = X at *
  obtain ⟨x0, s0⟩ := X
  simp -zeta only at hK D2 N2 Sx kx kl kp1 ⊢
  intro J26
  refine ⟨fun vs' hh => ∃ (k : Nat) (x : List Nd) (t : RS) (a : Option Addr) (c : Nat), vs' = [vsl a x.length c] ∧ RdAt h0 hh g t ∧ NdAt h hh a x.length x ∧ Mut (At g) h (At g) hh ∧ SOk n t ∧ 1 ≤ x.length ∧ x.length ≤ 40 ∧ WfL x ∧ t.ws.length < k ∧ rowL P ops k x t = rowL P ops (s0.ws.length + 1) x0 s0, fun _ hh => wordsN hh g, ⟨_, x0, s0, a3, c3, rfl, D2, N2, M2, Sx, kp1, kl, kx, Nat.lt_succ_self _, rfl⟩, ?_⟩
  rintro vs' hh ⟨k, x, t, a, c, rfl, Dt, Nt, Mt, St, hx1, hx, Wx, hk, hrow⟩
  obtain ⟨k, rfl⟩ : ∃ j, k = j + 1 := ⟨k - 1, by omega⟩
  rw [rowL] at hrow
  refine ⟨_, _, _, rfl, _, Dt.c2, fun e => ?_, fun e => ?_⟩
  · have f0 : ¬ t.f ≠ 0 := by rw [errV_none] at e; simpa using e
    rw [if_neg f0] at hrow
    have gi := goes_is St.good (ops.map (·.1))
    have gm := @is_mem t (ops.map (·.1))
    have tk := @taken t (ops.map (·.1))
    have hDt := Dt.wn
    refine reader_is_ok Dt (W.mut Mt).s (by omega) (by have := St.big; omega) fun h14 D14 M14 => ⟨_, rfl, ?_⟩
    have M014 := Mt.trans M14
    simp only at hrow
    generalize t.is (ops.map (·.1)) = A at *
    obtain ⟨w, s1⟩ := A
    simp -zeta only at hrow D14 gi gm tk ⊢
    have S1 := St.goes gi
    refine ⟨_, rd_eqBs (b := []), fun e => ?_, fun e => ?_⟩
    · rw [if_pos (of_decide_eq_true e)] at hrow
      rw [← hrow] at hK
      exact hK _ _ h14 D14 (Nt.mut D.al M14) M014
    · have ew := of_decide_eq_false e
      rw [if_neg ew] at hrow
      have hop' := opOf_opr ho (gm ew)
      have kn := kp s1 S1.good (Nat.le_of_lt S1.len)
      have tk := tk ew
      refine ⟨_, hop h14 M014 w (gm ew), inv_of B (F D14 (E.mut M014) S1 fun a22 c22 h21 D21 N21 M21 => ⟨_, _, _, rfl, hop h21 (M014.trans M21) w (gm ew), ?_⟩)⟩
      generalize opOf ops w = op at *
      have kj : Keeps (joinP op x (P s1).1 (P s1).2) t := keeps_join hop' (gi.trans kn.goes) Wx kn.wf hx1 (fun _ => kn.pos)
      have kn1 := kn.wf
      have kn2 := kn.le
      have kn3 := kn.len
      have kj2 : (joinP op x (P s1).1 (P s1).2).2.ws.length ≤ (P s1).2.ws.length := by
        unfold joinP
        split
        · exact Nat.zero_le _
        · exact Nat.le_refl _
      generalize P s1 = Y at *
      obtain ⟨y1, s2⟩ := Y
      simp -zeta only at hrow D21 N21 kj kn1 kn2 kn3 kj2 ⊢
      refine reader_join_ok D21 ((Nt.mut D.al M14).mut D.al M21).s N21.s kn1 (by omega) (by omega) fun a25 c25 h24 D24 N24 M24 => ⟨_, _, _, rfl, ⟨k, _, _, a25, c25, rfl, D24, N24.base ((M014.trans M21).up D21.al), (M014.trans M21).trans M24, St.goes kj.goes, kj.pos, kj.le, kj.wf, by omega, hrow⟩, ?_⟩
      have h24n := D24.wn
      show wordsN h24 g < wordsN hh g
      omega
  · have f0 : t.f ≠ 0 := by rw [errV_none] at e; simpa using e
    rw [if_pos f0] at hrow
    rw [← hrow] at hK
    exact hK _ _ hh Dt Nt Mt
end Go.Proofs.YtejefijpcggkfaaGreatDoor
namespace Go.Proofs.YtejefijpcggkfaaGreatDoor
open Go Go.Vc Go.Txt
set_option linter.unusedVariables false
set_option maxRecDepth 100000
theorem rd_mapS {h : Hp} {b : Nat} {es : Array MapEntry} {clock : Nat} (hb : h b = some (.map es clock)) {w : Wd} {x : Int} {i : Nat} (hf : Instr.findNow .string (vs (bs w)) es.toList 0 = some (some (i, vi x))) : Rd Tryz.prog (Instr.lookup 127 (.map (some b)) (vs (bs w)) false) h (vi x) :=
  rd_lookup (k := 9) (e := 3) (d := .string) (by kernel_rfl) (by kernel_rfl) hb trivial hf
theorem sem_mapS {h : Hp} {b : Nat} {es : Array MapEntry} {clock : Nat} (hb : h b = some (.map es clock)) {w : Wd} {x : Int} (hf : Instr.findNow .string (vs (bs w)) es.toList 0 = some none) {K : Hp → Prop} (hK : K (h.set b (.map (es.push { key := vs (bs w), val := vi x, born := clock }) (clock + 1)))) : SemOKu Tryz.prog (Instr.mapUpdate 127 (.map (some b)) (vs (bs w)) (vi x)) h K :=
  sem_mapNew (k := 9) (e := 3) (d := .string) (key := vs (bs w)) (by kernel_rfl) (by kernel_rfl) hb trivial hf hK
theorem reader_one_ok {f : FuncId} {P : Ps} {n : Nat} (B : Bodied f) (F : Reads f P n) (kp : KP P n) {w : Wd} {op : Int} (ho : Opr op) (hw : w ≠ []) {h0 h : Hp} {g : Nat} {s : RS} (D : RdAt h0 h g s) (E : EnvQ h0 h g) (S : SOk n s) {R : Value → Hp → Prop} (hK : ∀ a c h', RdAt h0 h' g (rowP P [(w, op)] s).2 → NdAt h h' a (rowP P [(w, op)] s).1.length (rowP P [(w, op)] s).1 → Mut (At g) h (At g) h' → R (vsl a (rowP P [(w, op)] s).1.length c) h') :
    SemOK Tryz.prog (Instr.makeMap 127 none) h fun v1 h2 => ∃ (y3 : Value), v1 = y3 ∧ (SemOKu Tryz.prog (Instr.mapUpdate 127 y3 (vs (bs w)) (vi op)) h2 fun h4 => (∀ (b5 : Nat), h4 b5 = none → let h6 : Hp := Hp.set h4 b5 (cellsO [(vs (bs w))] 9); (CallOK Tryz.prog 72 [(vhp g 0), (Value.func (.func f) #[(vhp g 0)] #[]), y3, (vsl (some (⟨b5, 0, none⟩ : Addr)) 1 1)] h6 fun v7 h8 => ∃ (a9 : Option Addr) (n9 c9 : Nat), v7 = (vsl a9 n9 c9) ∧ R (vsl a9 n9 c9) h8))) := by
  refine sem_makeMap fun b hb => ⟨_, rfl, ?_⟩
  refine sem_mapS (Hp.set_same _ _ _) rfl ?_
  intro b5 hb5 h6
  have hbg : b ≠ g := fun e => by rw [e] at hb; exact D.al hb
  have l1 : h.le (h.set b (.map #[] 0)) := Hp.le_set (Hp.le_refl h) hb _
  rw [Hp.set_set] at hb5
  have l2 : h.le h6 := by
    have : h6 = (h.set b (.map (#[].push { key := vs (bs w), val := vi op, born := 0 }) (0 + 1))).set b5 (cellsO [vs (bs w)] 9) := by
      show ((h.set b _).set b _).set b5 _ = _
      rw [Hp.set_set]
    rw [this]
    exact Hp.le_trans (Hp.le_set (Hp.le_refl h) hb _) (Hp.le_set (Hp.le_refl _) hb5 _)
  have hb6 : h6 b = some (.map (#[].push { key := vs (bs w), val := vi op, born := 0 }) (0 + 1)) := by
    have hne : b ≠ b5 := fun e => by rw [e, Hp.set_same] at hb5; cases hb5
    show (((h.set b _).set b _).set b5 _) b = _
    rw [Hp.set_other _ _ hne, Hp.set_same]
  have D6 := D.le l2
  have hb5g : b5 ≠ g := fun e => by
    subst e
    have : (h.set b (.map (#[].push { key := vs (bs w), val := vi op, born := 0 }) (0 + 1))) b5 ≠ none := by rw [Hp.set_other _ _ hbg.symm]; exact D.al
    exact this hb5
  refine reader_row_ok B F kp (ops := [(w, op)]) (by simpa using ho) (by simpa using hw) (by simp) D6 (E.mut (Mut.of_le l2)) S ⟨slb_one _ b5 w, fun b' o e => by cases e; exact hb5g⟩ (fun h' M w' hw' => ?_) fun a c h' D' N' M' => ⟨_, _, _, rfl, ?_⟩
  · have e : w' = w := by simpa using hw'
    subst e
    have ho : opOf [(w', op)] w' = op := by simp [opOf]
    rw [ho]
    have hm : h' b = _ := M.keep b _ (fun e => hbg e) hb6
    refine rd_mapS hm (i := 0) ?_
    show Instr.findNow .string (vs (bs w')) [{ key := vs (bs w'), val := vi op, born := 0 }] 0 = _
    simp [Instr.findNow, Instr.sameNow, (Go.MapKept.bytes_beq (bs w') (bs w')).2 rfl]
  · exact hK a c h' D' (N'.base (le_up l2)) ((Mut.of_le l2).trans M')
theorem reader_product_ok {P : Ps} {n : Nat} (F : Reads 150 P n) (kp : KP P n) : Reads 146 (rowP P [(wStar, 8)]) n := by
  intro h0 h g s D E S R hK
  refine ok_query_reader_product ?_
  unfold VC_query_reader_product
  exact reader_one_ok ⟨_, Tryz.func150, by kernel_rfl, by kernel_rfl⟩ F kp (by decide) (by decide) D E S hK
theorem reader_and_ok {P : Ps} {n : Nat} (F : Reads 106 P n) (kp : KP P n) : Reads 73 (rowP P [(wAnd, 9)]) n := by
  intro h0 h g s D E S R hK
  refine ok_query_reader_and ?_
  unfold VC_query_reader_and
  exact reader_one_ok ⟨_, Tryz.func106, by kernel_rfl, by kernel_rfl⟩ F kp (by decide) (by decide) D E S hK
theorem reader_or_ok {P : Ps} {n : Nat} (F : Reads 73 P n) (kp : KP P n) : Reads 42 (rowP P [(wOr, 10)]) n := by
  intro h0 h g s D E S R hK
  refine ok_query_reader_or ?_
  unfold VC_query_reader_or
  exact reader_one_ok ⟨_, Tryz.func73, by kernel_rfl, by kernel_rfl⟩ F kp (by decide) (by decide) D E S hK
theorem reader_sum_ok {P : Ps} {n : Nat} (F : Reads 146 P n) (kp : KP P n) : Reads 141 (rowP P [(wPlus, 6), (wMinus, 7)]) n := by
  intro h0 h g s D E S R hK
  refine ok_query_reader_sum ?_
  unfold VC_query_reader_sum
  refine sem_makeMap fun b hb => ⟨_, rfl, ?_⟩
  refine sem_mapS (w := wPlus) (Hp.set_same _ _ _) rfl ?_
  refine sem_mapS (w := wMinus) (Hp.set_same _ _ _) rfl ?_
  rw [Hp.set_set, Hp.set_set]
  generalize hM : Obj.map _ _ = ob
  intro b5 hb5 h6
  have hbg : b ≠ g := fun e => by rw [e] at hb; exact D.al hb
  have l2 : h.le h6 := Hp.le_trans (Hp.le_set (Hp.le_refl h) hb _) (Hp.le_set (Hp.le_refl _) hb5 _)
  have hb6 : h6 b = some ob := by
    have hne : b ≠ b5 := fun e => by rw [e, Hp.set_same] at hb5; cases hb5
    show ((h.set b _).set b5 _) b = _
    rw [Hp.set_other _ _ hne, Hp.set_same]
  have D6 := D.le l2
  have hb5g : b5 ≠ g := fun e => by
    subst e
    have : (h.set b ob) b5 ≠ none := by rw [Hp.set_other _ _ hbg.symm]; exact D.al
    exact this hb5
  refine reader_row_ok ⟨_, Tryz.func146, by kernel_rfl, by kernel_rfl⟩ F kp (ops := [(wPlus, 6), (wMinus, 7)]) (by decide) (by decide) (by simp) D6 (E.mut (Mut.of_le l2)) S ⟨slb_lit _ b5 [wPlus, wMinus] (by decide), fun b' o e => by cases e; exact hb5g⟩ (fun h' M w' hw' => ?_) fun a c h' D' N' M' => ⟨_, _, _, rfl, ?_⟩
  · have hm : h' b = some ob := M.keep b _ (fun e => hbg e) hb6
    rw [← hM] at hm
    have e : w' = wPlus ∨ w' = wMinus := by simpa using hw'
    rcases e with rfl | rfl
    · exact rd_mapS hm (i := 0) rfl
    · exact rd_mapS hm (i := 1) rfl
  · exact hK a c h' D' (N'.base (le_up l2)) ((Mut.of_le l2).trans M')
theorem reads_step {t : Three} {n : Nat} (h : KP t.o n ∧ KP t.n n ∧ KP t.u n) (H : Reads 42 t.o n ∧ Reads 106 t.n n ∧ Reads 150 t.u n) : Reads 42 (orS t) (n + 1) ∧ Reads 106 (notS t) (n + 1) ∧ Reads 150 (unS t) (n + 1) := by
  obtain ⟨k1, k2, k3, k4, k5, k6, k7⟩ := keeps_S h
  have h1 : Reads 150 (unS t) (n + 1) := reader_unary_ok H.2.2 h.2.2 (reader_atom_ok H.1 h.1)
  have h2 : Reads 146 (prodS t) (n + 1) := reader_product_ok h1 k3
  have h3 : Reads 141 (sumS t) (n + 1) := reader_sum_ok h2 k4
  have h4 : Reads 127 (cmpS t) (n + 1) := reader_compare_ok h3 k5
  have h5 : Reads 106 (notS t) (n + 1) := reader_not_ok H.2.1 h.2.1 h4
  have h6 : Reads 73 (andS t) (n + 1) := reader_and_ok h5 k2
  exact ⟨reader_or_ok h6 k7, h5, h1⟩
theorem reads_none (f : FuncId) (P : Ps) : Reads f P 0 := by
  intro h0 h g s D E S R hK
  exact absurd S.len (Nat.not_lt_zero _)
theorem reads_all (n : Nat) : Reads 42 (allP n).o n ∧ Reads 106 (allP n).n n ∧ Reads 150 (allP n).u n := by
  induction n with
  | zero => exact ⟨reads_none _ _, reads_none _ _, reads_none _ _⟩
  | succ n ih => rw [allP_succ]; exact reads_step (keeps_all n) ih
end Go.Proofs.YtejefijpcggkfaaGreatDoor
namespace Go.Proofs.YtejefijpcggkfaaGreatDoor
open Go Go.Vc Go.Txt
set_option linter.unusedVariables false
set_option maxRecDepth 100000
theorem is_one {s : RS} {w : Wd} (hw : w ≠ []) (h : (s.is [w]).1 = []) : (s.is [w]).2 = s := by
  rcases s.is_spec [w] with ⟨_, q⟩ | ⟨w', r, _, hm, q, _⟩
  · exact q
  · rw [h] at q
    rw [← q] at hm
    exact absurd (List.mem_singleton.1 hm).symm hw
theorem reader_optional_ok {n : Nat} {h0 h : Hp} {g : Nat} {s : RS} (D : RdAt h0 h g s) (E : EnvQ h0 h g) (S : SOk n s) {w : Wd} (hw : w ≠ []) {d : Int} {R : Value → Hp → Prop} (hK : ∀ h', RdAt h0 h' g (optN w d s).2 → Mut (At g) h (At g) h' → R (vi (optN w d s).1) h') : CallOK Tryz.prog 44 [vhp g 0, vs (bs w), vi d] h R := by
  refine ok_query_reader_optional ?_
  unfold VC_query_reader_optional
  intro b1 hb1 h2
  have hl : h.le h2 := Hp.le_set (Hp.le_refl h) hb1 _
  have hb := S.big
  have io := @is_one s w hw
  have gi := goes_is S.good [w]
  unfold optN at hK
  refine reader_is_ok (D.le hl) (slb_one h b1 w) (by decide) (by omega) fun h4 D4 M4 => ⟨_, rfl, ?_⟩
  have M04 : Mut (At g) h (At g) h4 := (Mut.of_le hl).trans M4
  refine ⟨_, rd_eqBs (b := []), fun e => ?_, fun e => ?_⟩
  · have e := of_decide_eq_true e
    rw [if_pos e] at hK
    rw [io e] at D4
    exact hK h4 D4 M04
  · have e := of_decide_eq_false e
    rw [if_neg e] at hK
    exact reader_number_ok D4 (E.mut M04) (by have := gi.len; omega) (by decide) (by decide) fun h9 D9 M9 => ⟨_, rfl, hK h9 D9 (M04.trans M9)⟩
theorem idx_aggs {w : Wd} (h : w ∈ [[], wCount, wSum, wMin, wMax]) : w ∈ aggsW ∧ (aggsW.idxOf w : Int) = aggKind w := by
  have h2 : w = [] ∨ w = wCount ∨ w = wSum ∨ w = wMin ∨ w = wMax := by simpa using h
  rcases h2 with rfl | rfl | rfl | rfl | rfl <;> exact ⟨by decide, by decide⟩
theorem reader_agg_ok {P : Ps} {n : Nat} (F : Reads 42 P n) (kp : KP P n) {h0 h : Hp} {g : Nat} {s : RS} (D : RdAt h0 h g s) (E : EnvQ h0 h g) (S : SOk n s) {R : Value → Hp → Prop} (hK : ∀ a c h', RdAt h0 h' g (aggP P s).2 → NdAt h h' a (aggP P s).1.2.length (aggP P s).1.2 → Mut (At g) h (At g) h' → R (vag [vi (aggP P s).1.1, vsl a (aggP P s).1.2.length c]) h') : CallOK Tryz.prog 40 [vhp g 0] h R := by
  refine ok_query_reader_agg ?_
  unfold VC_query_reader_agg
  intro b1 hb1 h2
  have hl : h.le h2 := Hp.le_set (Hp.le_refl h) hb1 _
  have hb := S.big
  have gi := goes_is S.good [wCount, wSum, wMin, wMax]
  have gm := @is_mem s [wCount, wSum, wMin, wMax]
  unfold aggP at hK
  simp only at hK
  refine reader_is_ok (D.le hl) (slb_lit h b1 [wCount, wSum, wMin, wMax] (by decide)) (by decide) (by omega) fun h4 D4 M4 => ⟨_, rfl, ?_⟩
  have M04 : Mut (At g) h (At g) h4 := (Mut.of_le hl).trans M4
  generalize s.is [wCount, wSum, wMin, wMax] = B at *
  obtain ⟨w, s1⟩ := B
  simp -zeta only at hK D4 gi gm ⊢
  have S1 := S.goes gi
  have hwm : w ∈ [[], wCount, wSum, wMin, wMax] := by
    by_cases e : w = []
    · rw [e]; simp
    · exact List.mem_cons_of_mem _ (gm e)
  obtain ⟨hwa, hwi⟩ := idx_aggs hwm
  refine ⟨_, rd_eqBs (b := []), ?_⟩
  intro J11
  have hJ : ∀ (h12 : Hp) (t : RS), t = (if w = [] then s1.fail 4 else s1) → RdAt h0 h12 g t → Mut (At g) h (At g) h12 → Goes t s → J11 h12 := by
    intro h12 t ht D12 M12 Gt
    rw [← ht] at hK
    clear ht
    have St := S.goes Gt
    refine reader_must_ok D12 (by have := St.big; omega) fun h14 D14 M14 => ⟨rfl, ?_⟩
    have M014 := M12.trans M14
    have E14 := E.mut M014
    have G2 := Gt.trans (goes_must Gt.ok wOpen)
    obtain ⟨qa, qc, hq, hqs⟩ := E14.now.a
    refine ⟨_, _, _, hq, slices_Index_ok hqs (by decide) ⟨_, rfl, ?_⟩⟩
    rw [if_pos hwa, hwi]
    have D14 : RdAt h0 h14 g (t.must wOpen) := D14
    generalize t.must wOpen = s2 at *
    have S2 := S.goes G2
    intro J56
    have fin : ∀ (k : Int) (a : Option Addr) (c : Nat) (h66 : Hp) (l : List Nd) (u : RS), RdAt h0 h66 g u → NdAt h h66 a l.length l → Mut (At g) h (At g) h66 → SOk n u → (∀ a c h', RdAt h0 h' g (u.must wClose) → NdAt h h' a l.length l → Mut (At g) h (At g) h' → R (vag [vi k, vsl a l.length c]) h') → J56 k a l.length c h66 := by
      intro k a c h66 l u D66 N66 M66 Su hR
      exact reader_must_ok D66 (by have := Su.big; omega) fun h68 D68 M68 => ⟨rfl, hR a c h68 D68 (N66.mut D.al M68) (M66.trans M68)⟩
    clear_value J56
    have orK : ∀ {h26 : Hp} (k : Int), RdAt h0 h26 g s2 → Mut (At g) h (At g) h26 → (∀ a c h', RdAt h0 h' g ((P s2).2.must wClose) → NdAt h h' a (P s2).1.length (P s2).1 → Mut (At g) h (At g) h' → R (vag [vi k, vsl a (P s2).1.length c]) h') → CallOK Tryz.prog 42 [vhp g 0] h26 fun v31 h32 => ∃ (a33 : Option Addr) (n33 c33 : Nat), v31 = vsl a33 n33 c33 ∧ J56 k a33 n33 c33 h32 := by
      intro h26 k D26 M26 hR
      have k2 := kp s2 S2.good (Nat.le_of_lt S2.len)
      exact F D26 (E.mut M26) S2 fun a c h' D' N' M' => ⟨_, _, _, rfl, fin k a c h' _ _ D' (N'.base (M26.up D26.al)) (M26.trans M') (S2.goes k2.goes) hR⟩
    refine ⟨_, rd_eqBs (b := wCount), fun e => ?_, fun e => ?_⟩
    · have ew : w = wCount := of_decide_eq_true e
      have hk1 : aggKind w = 1 := by rw [ew]; rfl
      intro b20 hb20 h21
      have l21 : h14.le h21 := Hp.le_set (Hp.le_refl h14) hb20 _
      have M21 := M014.trans (Mut.of_le l21)
      have gi2 := goes_is S2.good [wStar]
      have io := @is_one s2 wStar (by decide)
      refine ⟨fun x hh => x = .t (.one (.v (vs (bs (s2.is [wStar]).1)))) ∧ RdAt h0 hh g (s2.is [wStar]).2 ∧ Mut (At g) h (At g) hh, fun _ => reader_is_ok (D14.le l21) (slb_one h14 b20 wStar) (by decide) (by have := S2.big; omega) fun h24 D24 M24 => ⟨_, rfl, rfl, D24, M21.trans M24⟩, fun q => absurd e q, ?_⟩
      rintro h26 s27 ⟨e27, D26, M26⟩
      cases e27
      generalize s2.is [wStar] = C at *
      obtain ⟨v, s3⟩ := C
      simp only at hK D26 gi2 io ⊢
      refine ⟨_, fun _ => rd_neBs (b := []), fun q => ?_, fun q => ?_⟩
      · have q2 : v ≠ [] := by simpa [ew] using q
        rw [if_pos ⟨ew, q2⟩] at hK
        rw [hk1]
        exact fin 1 none 0 h26 [] s3 D26 (nd_nil _ _) M26 (S2.goes gi2) hK
      · have q2 : v = [] := by simpa [ew] using q
        rw [if_neg (by rintro ⟨_, h⟩; exact h q2), if_pos ew] at hK
        rw [io q2] at D26
        refine ⟨_, rd_eqBs (b := wCount), fun q3 => orK 2 D26 M26 hK, fun q3 => absurd ew (of_decide_eq_false q3)⟩
    · have e0 : ¬ w = wCount := fun h => e (decide_eq_true h)
      rw [if_neg (by rintro ⟨h, _⟩; exact e0 h), if_neg e0] at hK
      refine ⟨fun x hh => x = .t (.one (.v (vs ⟨#[]⟩))) ∧ hh = h14, fun q => absurd q e, fun _ => ⟨rfl, rfl⟩, ?_⟩
      rintro h43 s44 ⟨e43, rfl⟩
      cases e43
      refine ⟨false, fun q => absurd q e, fun q => by simp at q, fun _ => ?_⟩
      refine ⟨_, rd_eqBs (b := wCount), fun q3 => absurd (of_decide_eq_true q3) e0, fun q3 => orK (aggKind w) D14 M014 hK⟩
  clear_value J11
  refine ⟨fun e => ?_, fun e => ?_⟩
  · have e := of_decide_eq_true e
    exact reader_fail_ok D4 (by decide) fun h8 D8 M8 => ⟨rfl, hJ h8 _ (by rw [if_pos e]) D8 (M04.trans M8) (gi.trans (goes_fail _ _))⟩
  · have e := of_decide_eq_false e
    exact hJ h4 _ (by rw [if_neg e]) D4 M04 gi
end Go.Proofs.YtejefijpcggkfaaGreatDoor
namespace Go.Proofs.YtejefijpcggkfaaGreatDoor
open Go Go.Vc Go.Txt
set_option linter.unusedVariables false
set_option maxRecDepth 100000
theorem elAgg : ElT Tryz.prog 24 67 2 32 := .of (by kernel_rfl) (by kernel_rfl) (by decide)
abbrev AggB (G : Nat → Prop) := GTabB encN aggRw 2 67 G
theorem RdAt.keep {h0 h h' : Hp} {g : Nat} {s : RS} (D : RdAt h0 h g s) (hb : h' g = h g) (l : h0.le h') : RdAt h0 h' g s := by
  obtain ⟨a, c, hb', hS, hc⟩ := D.b
  exact ⟨⟨a, c, hb.trans hb', hS, hc⟩, l, D.n, D.w⟩
theorem agg_app {h0 hB h1 : Hp} {g : Nat} {a : Option Addr} {c : Nat} {L : List Ag} {s : RS} (B : AggB (At g) h0 h1 a c L) (D : RdAt h0 h1 g s) (hBg : hB g ≠ none) (hBa : ∀ b, a = some ⟨b, 0, none⟩ → hB b ≠ none) {k : Int} {a2 : Option Addr} {c2 : Nat} {l : List Nd} (N : NdAt hB h1 a2 l.length l) (hL : L.length ≤ 1000)
    {b : Nat} (hb : h1 b = none) {K : Value → Hp → Prop} (hK : ∀ a' c' h', AggB (At g) h0 h' a' c' (L ++ [(k, l)]) → RdAt h0 h' g s → K (vsl a' (L.length + 1) c') h') :
    SemOK Tryz.prog (Builtin.append_ #[24, 24] 24 #[vsl a L.length c, vsl (some ⟨b, 0, none⟩) 1 1]) (h1.set b (cellsO [vi k, vsl a2 l.length c2] 67)) K := by
  refine B.app (x := k) (c2 := c2) elAgg (Hp.le_refl h1) (fun b' e => by rw [show b' = g from e]; exact hBg) hBa N.s.2 N.nw ?_ rfl (fun b' e => by rw [show b' = g from e]; exact D.al) (by omega) (by omega) hb fun a' c' h' B' hk => hK a' c' h' B' ?_
  · intro u hu
    have : u = vi k ∨ u = vsl a2 l.length c2 := by simpa [aggRw] using hu
    rcases this with rfl | rfl <;> rfl
  · obtain ⟨o, ho⟩ : ∃ o, h1 g = some o := by
      cases e : h1 g with
      | none => exact absurd e D.al
      | some o => exact ⟨o, rfl⟩
    exact D.keep ((hk g o ho (B.ne rfl)).trans ho.symm) B'.le0
theorem noQ_at (h : Hp) : QAt h noQ none 0 none 0 none 0 := ⟨⟨[], rfl, rfl, .inl rfl, fun r hr => by cases hr⟩, ⟨rfl, .inl rfl⟩, ⟨rfl, .inl rfl⟩⟩
set_option maxHeartbeats 1000000 in
theorem query_Parse_ok {l : List UInt8} {h : Hp} (T : TabQ h) {R : Value → Hp → Prop} (hK : ∀ a1 n1 c1 a2 n2 c2 a3 n3 c3 h', h.le h' → QAt h' (parseQ l).1 a1 n1 a2 n2 a3 n3 → R (vtup [qV a1 n1 c1 a2 n2 c2 a3 n3 c3 (parseQ l).1, ifv (errV (parseQ l).2)]) h') : CallOK Tryz.prog 12 [vs (bs l)] h R := by
  refine ok_query_Parse ?_
  unfold VC_query_Parse
  refine lexer_Words_ok fun wa wn wc h2 O => ⟨_, _, _, _, rfl, ?_⟩
  have lw := wordsL_words l
  have l02 := O.le
  unfold parseQ at hK
  generalize wordsL l = WW at *
  obtain ⟨W, fw⟩ := WW
  simp only at hK lw O
  show (Option.isSome (errV fw) = true → R (vtup [qV none 0 0 none 0 0 none 0 0 noQ, ifv (errV fw)]) h2) ∧ (Option.isSome (errV fw) = false → _)
  rw [errV_some]
  refine ⟨fun e => ?_, fun e => ?_⟩
  · have e2 : fw ≠ 0 := by simpa using e
    rw [if_pos e2] at hK
    exact hK none 0 0 none 0 0 none 0 0 h2 l02 (noQ_at h2)
  have e2 : ¬ fw ≠ 0 := by simpa using e
  rw [if_neg e2] at hK
  clear e e2
  have hS := O.slp encB_len (by decide)
  obtain rfl := hS.1
  intro b6 hb6 h7
  have l7 : h2.le h7 := Hp.le_set (Hp.le_refl h2) hb6 _
  have D7 : RdAt h2 h7 b6 ⟨W, 0, 0⟩ := ⟨⟨wa, wc, Hp.set_same _ _ _, hS, O.own.cap⟩, l7, hb6, fun x hx => Nat.le_trans (lw.2 x hx) (by decide)⟩
  have E7 : EnvQ h2 h7 b6 := ⟨T.le l02, l7, hb6⟩
  have F : Reads 42 (allP (W.length + 1)).o (W.length + 1) := (reads_all (W.length + 1)).1
  have kp := (keeps_all (W.length + 1)).1
  have g0 : (⟨W, 0, 0⟩ : RS).good := fun h => absurd rfl h
  have S7 : SOk (W.length + 1) ⟨W, 0, 0⟩ := ⟨g0, Nat.lt_succ_self _, by show W.length ≤ 1000; omega, Int.le_refl _, by show (0 : Int) + (W.length : Int) ≤ 1000000; omega⟩
  have hAll := allA_ok W
  unfold parseW at hK
  rw [readQ_eq] at hK
  unfold allA firstA at hK hAll
  generalize (allP (W.length + 1)).o = o at *
  have G1 := goes_must g0 wSelect
  refine reader_must_ok D7 (by show W.length ≤ 1000000; omega) fun h9 D9 M9 => ⟨rfl, ?_⟩
  have D9 : RdAt h2 h9 b6 ((⟨W, 0, 0⟩ : RS).must wSelect) := D9
  generalize (⟨W, 0, 0⟩ : RS).must wSelect = s1 at *
  have S9 := S7.goes G1
  have G2 := goes_agg kp S9.good (Nat.le_of_lt S9.len)
  have hs1 : s1.ws.length ≤ 80 := Nat.le_trans G1.len lw.1
  refine reader_agg_ok F kp D9 (E7.mut M9) S9 fun a13 c13 h11 D11 N11 M11 => ⟨_, _, _, _, rfl, ?_⟩
  generalize aggP o s1 = A at *
  obtain ⟨⟨k1, l1⟩, s2⟩ := A
  simp -zeta only at hK D11 N11 G2 hAll ⊢
  have S11 := S9.goes G2.1
  have l11 : h2.le h11 := D11.l
  intro b14 hb14 h15
  refine agg_app (L := []) (a := none) (c := 0) (hB := h9) (k := k1) (GTabB.nil l11) D11 D9.al (fun b e => by cases e) N11 (by decide) hb14 fun a18 c18 h17 B17 D17 => ⟨_, _, _, rfl, ?_⟩
  intro J48
  -- the rest, behind what is gathered
  have hRest : ∀ (L : List Ag) (t : RS) (a : Option Addr) (c : Nat) (hE : Hp), AggB (At b6) h2 hE a c L → RdAt h2 hE b6 t → SOk (W.length + 1) t → aggsP o (s2.ws.length + 1) [(k1, l1)] s2 = (L, t) → L.length ≤ 1000 → J48 a L.length c none 0 0 none 0 0 hE := by
    intro L t a c hE BE DE SE hL hLn
    rw [hL] at hK hAll
    simp only at hK hAll
    have EE : EnvQ h2 hE b6 := ⟨E7.t, DE.l, hb6⟩
    have hgE := DE.al
    have hG2 : ∀ b, At b6 b → h2 b = none := fun b e => by rw [show b = b6 from e]; exact hb6
    have G3 := goes_must SE.good wFrom
    refine reader_must_ok DE (by have := SE.big; omega) fun h261 D261 M261 => ⟨rfl, ?_⟩
    have D261 : RdAt h2 h261 b6 (t.must wFrom) := D261
    have S261 := SE.goes G3
    have G4 := G3.trans (goes_must G3.ok wEvents)
    refine reader_must_ok D261 (by have := S261.big; omega) fun h263 D263 M263 => ⟨rfl, ?_⟩
    have D263 : RdAt h2 h263 b6 ((t.must wFrom).must wEvents) := D263
    have ME := M261.trans M263
    have S263 := SE.goes G4
    unfold restQ at hK
    generalize (t.must wFrom).must wEvents = t2 at *
    clear G3 D261 S261
    intro b264 hb264 h265
    have l265 : h263.le h265 := Hp.le_set (Hp.le_refl h263) hb264 _
    have gi := goes_is S263.good [wWhere]
    have io := @is_one t2 wWhere (by decide)
    refine reader_is_ok (D263.le l265) (slb_one h263 b264 wWhere) (by decide) (by have := S263.big; omega) fun h267 D267 M267 => ⟨_, rfl, _, rd_neBs (b := []), ?_⟩
    have D267 : RdAt h2 h267 b6 (t2.is [wWhere]).2 := D267
    have M267' := (ME.trans (Mut.of_le l265)).trans M267
    intro J275
    have h275 : ∀ (wh : List Nd) (aw : Option Addr) (cw : Nat) (u : RS) (h315 : Hp), optP wWhere o t2 = (wh, u) → RdAt h2 h315 b6 u → SOk (W.length + 1) u → NdAt hE h315 aw wh.length wh → NdsOK wh → Mut (At b6) hE (At b6) h315 → J275 aw wh.length cw h315 := by
      intro wh aw cw u h315 hw D315 S315 N315 Kw M315
      rw [hw] at hK
      simp only at hK
      unfold byQ at hK
      intro b316 hb316 h317
      have l317 : h315.le h317 := Hp.le_set (Hp.le_refl h315) hb316 _
      have gi := goes_is S315.good [wGroup]
      have io := @is_one u wGroup (by decide)
      refine reader_is_ok (D315.le l317) (slb_one h315 b316 wGroup) (by decide) (by have := S315.big; omega) fun h319 D319 M319 => ⟨_, rfl, _, rd_neBs (b := []), ?_⟩
      have D319 : RdAt h2 h319 b6 (u.is [wGroup]).2 := D319
      have M319' := (M315.trans (Mut.of_le l317)).trans M319
      intro J329
      have h329 : ∀ (by_ : List Nd) (ab : Option Addr) (cb : Nat) (v : RS) (h354 : Hp), optP wGroup (fun s => o (s.must wBy)) u = (by_, v) → RdAt h2 h354 b6 v → SOk (W.length + 1) v → NdAt hE h354 aw wh.length wh → NdAt hE h354 ab by_.length by_ → NdsOK by_ → Mut (At b6) hE (At b6) h354 → J329 ab by_.length cb h354 := by
        intro by_ ab cb v h354 hv D354 S354 Nw N354 Kb M354
        rw [hv] at hK
        simp only at hK
        unfold endQ at hK
        simp only at hK
        have Ga := goes_must S354.good wWindow
        refine reader_must_ok D354 (by have := S354.big; omega) fun h356 D356 M356 => ⟨rfl, ?_⟩
        have D356 : RdAt h2 h356 b6 (v.must wWindow) := D356
        have Sa := S354.goes Ga
        generalize v.must wWindow = v1 at *
        have Gb := goes_number Sa.good 1000
        refine reader_number_ok D356 (EE.mut (M354.trans M356)) (by have := Sa.big; omega) (by decide) (by decide) fun h358 D358 M358 => ⟨_, rfl, ?_⟩
        have Sb := Sa.goes Gb
        generalize v1.number 1000 = Z at *
        obtain ⟨z, v2⟩ := Z
        simp -zeta only at hK D358 Sb ⊢
        have Gc := goes_optN Sb.good wSlide z
        refine reader_optional_ok (w := wSlide) D358 (EE.mut ((M354.trans M356).trans M358)) Sb (by decide) fun h361 D361 M361 => ⟨_, rfl, ?_⟩
        have Sc := Sb.goes Gc
        generalize optN wSlide z v2 = Z at *
        obtain ⟨sl, v3⟩ := Z
        simp -zeta only at hK D361 Sc ⊢
        have Gd := goes_optN Sc.good wDelay 0
        refine reader_optional_ok (w := wDelay) D361 (EE.mut (((M354.trans M356).trans M358).trans M361)) Sc (by decide) fun h364 D364 M364 => ⟨_, rfl, ?_⟩
        have Sd := Sc.goes Gd
        generalize optN wDelay 0 v3 = Z at *
        obtain ⟨d, v4⟩ := Z
        simp -zeta only at hK D364 Sd ⊢
        have Ge := goes_optN Sd.good wLate 0
        refine reader_optional_ok (w := wLate) D364 (EE.mut ((((M354.trans M356).trans M358).trans M361).trans M364)) Sd (by decide) fun h367 D367 M367 => ⟨_, rfl, ?_⟩
        have Se := Sd.goes Ge
        generalize optN wLate 0 v4 = Z at *
        obtain ⟨lt, v5⟩ := Z
        simp -zeta only at hK D367 Se ⊢
        have M367' := ((((M354.trans M356).trans M358).trans M361).trans M364).trans M367
        have M36 := ((((M356).trans M358).trans M361).trans M364).trans M367
        obtain ⟨qa, qc, hq⟩ := D367.c0
        refine ⟨_, D367.c2, _, _, _, fun _ => hq, ?_⟩
        intro J374
        have h374 : ∀ (h375 : Hp) (y : RS), y.f = (if v5.f = 0 ∧ v5.ws ≠ [] then v5.fail 4 else v5).f → RdAt h2 h375 b6 y → Mut (At b6) h367 (At b6) h375 → J374 h375 := by
          intro h375 y hy D375 M375
          rw [← hy] at hK
          have M375' := M367'.trans M375
          have BE2 : AggB (At b6) h2 h375 a c L := BE.keep hG2 M375'.keep
          have Nw2 := Nw.mut hgE (M36.trans M375)
          have N2 := N354.mut hgE (M36.trans M375)
          have QE : QAt h375 ⟨L, wh, by_, z, sl, d, lt⟩ a L.length aw wh.length ab by_.length := ⟨BE2.tab, Nw2.s, N2.s⟩
          refine ⟨_, D375.c2, ?_⟩
          intro J383
          have h383 : ∀ (h384 : Hp) (f : Int), h384.cell b6 (0 + 2) = some (ifv (errV f)) → h.le h384 → (f ≠ 0 → ∀ h', h.le h' → R (vtup [qV none 0 0 none 0 0 none 0 0 noQ, ifv (errV f)]) h') → (f = 0 → R (vtup [qV a L.length c aw wh.length cw ab by_.length cb ⟨L, wh, by_, z, sl, d, lt⟩, ifv none]) h384) → J383 h384 := by
            intro h384 f hc lh hb hg
            refine ⟨_, hc, fun e => ⟨_, hc, hc, ?_⟩, fun e => ?_⟩
            · rw [errV_some] at e
              exact hb (by simpa using e) h384 lh
            · rw [errV_some] at e
              exact hg (by simpa using e)
          clear_value J383
          refine ⟨fun e => ?_, fun e => ?_⟩
          · rw [errV_none] at e
            have e : y.f = 0 := of_decide_eq_true e
            rw [e, if_neg (fun h => h rfl)] at hK
            have hbig : QBig ⟨L, wh, by_, z, sl, d, lt⟩ := ⟨Nat.le_trans Kw.1 (by decide), Nat.le_trans Kb.1 (by decide), fun x hx => Nat.le_trans (hAll x hx).1 (by decide), by show L.length ≤ 1000000; omega⟩
            refine query_Check_ok (q := ⟨L, wh, by_, z, sl, d, lt⟩) (c1 := c) (c2 := cw) (c3 := cb) QE hbig fun h378 l378 => ⟨errV (qryF ⟨L, wh, by_, z, sl, d, lt⟩), rfl, ?_⟩
            refine (D375.le l378).put2 fun h380 D380 M380 => ?_
            have lh : h.le h380 := Hp.le_trans l02 D380.l
            refine h383 h380 _ D380.c2 lh (fun hf h' l' => ?_) fun hf => ?_
            · rw [if_pos hf] at hK
              exact hK none 0 0 none 0 0 none 0 0 h' l' (noQ_at h')
            · rw [if_neg (fun h => h hf)] at hK
              have M2 := (Mut.of_le l378).trans M380
              exact hK _ _ c _ _ cw _ _ cb h380 lh ⟨(BE2.keep hG2 M2.keep).tab, (Nw2.mut hgE M2).s, (N2.mut hgE M2).s⟩
          · rw [errV_none] at e
            have e : y.f ≠ 0 := of_decide_eq_false e
            rw [if_pos e] at hK
            refine h383 h375 y.f D375.c2 (Hp.le_trans l02 D375.l) (fun hf h' l' => ?_) fun hf => absurd hf e
            exact hK none 0 0 none 0 0 none 0 0 h' l' (noQ_at h')
        clear_value J374
        have hcond : (bif Option.isNone (errV v5.f) then decide (((v5.ws.length : Nat) : Int) > 0) else false) = decide (v5.f = 0 ∧ v5.ws ≠ []) := by
          rw [errV_none, cand]
          refine decide_eq_decide.2 ?_
          rw [ne_eq, nil_len]
          constructor
          · rintro ⟨h1, h2⟩; exact ⟨h1, by omega⟩
          · rintro ⟨h1, h2⟩; exact ⟨h1, by omega⟩
        rw [hcond]
        refine ⟨fun e => ?_, fun e => ?_⟩
        · have e := of_decide_eq_true e
          refine (D367.put2 (f := 4) fun h371 D371 M371 => h374 h371 _ ?_ D371 M371)
          rw [if_pos e]
          unfold RS.fail
          rw [if_pos e.1]
        · have e := of_decide_eq_false e
          exact h374 h367 v5 (by rw [if_neg e]) D367 (Mut.of_le (Hp.le_refl _))
      clear_value J329
      have Nw := (N315.mut hgE ((Mut.of_le l317).trans M319))
      refine ⟨fun e => ?_, fun e => ?_⟩
      · have e : (u.is [wGroup]).1 ≠ [] := by simpa using e
        have hop : optP wGroup (fun s => o (s.must wBy)) u = o ((u.is [wGroup]).2.must wBy) := by unfold optP; rw [if_neg e]
        rw [hop] at h329
        have Su := S315.goes gi
        have Gy := goes_must Su.good wBy
        refine reader_must_ok D319 (by have := Su.big; omega) fun h323 D323 M323 => ⟨rfl, ?_⟩
        have D323 : RdAt h2 h323 b6 ((u.is [wGroup]).2.must wBy) := D323
        have S323 := Su.goes Gy
        have k2 := kp _ S323.good (Nat.le_of_lt S323.len)
        have M323' := M319'.trans M323
        refine F D323 (EE.mut M323') S323 fun a c h325 D325 N325 M325 => ⟨_, _, _, rfl, ?_⟩
        exact h329 _ _ _ _ h325 rfl D325 (S323.goes k2.goes) ((Nw.mut hgE M323).mut hgE M325) (N325.base (M323'.up D323.al)) k2.nds (M323'.trans M325)
      · have e : (u.is [wGroup]).1 = [] := by simpa using e
        have hop : optP wGroup (fun s => o (s.must wBy)) u = ([], u) := by unfold optP; rw [if_pos e]
        rw [io e] at D319
        exact h329 [] none 0 u h319 hop D319 S315 Nw (nd_nil _ _) nds_nil M319'
    clear_value J275
    refine ⟨fun e => ?_, fun e => ?_⟩
    · have e : (t2.is [wWhere]).1 ≠ [] := by simpa using e
      have hop : optP wWhere o t2 = o (t2.is [wWhere]).2 := by unfold optP; rw [if_neg e]
      rw [hop] at h275
      have Su := S263.goes gi
      have k2 := kp _ Su.good (Nat.le_of_lt Su.len)
      refine F D267 (EE.mut M267') Su fun a c h271 D271 N271 M271 => ⟨_, _, _, rfl, ?_⟩
      exact h275 _ _ _ _ h271 rfl D271 (Su.goes k2.goes) (N271.base (M267'.up D267.al)) k2.nds (M267'.trans M271)
    · have e : (t2.is [wWhere]).1 = [] := by simpa using e
      have hop : optP wWhere o t2 = ([], t2) := by unfold optP; rw [if_pos e]
      rw [io e] at D267
      exact h275 [] none 0 t2 h267 hop D267 S263 (nd_nil _ _) nds_nil M267'
  clear_value J48
  -- what is gathered, one behind the other
  refine ⟨fun vs' hh => ∃ (k : Nat) (L : List Ag) (t : RS) (a : Option Addr) (c : Nat), vs' = [vsl a L.length c, vsl none 0 0, vsl none 0 0, vi 0, vi 0, vi 0, vi 0] ∧ AggB (At b6) h2 hh a c L ∧ RdAt h2 hh b6 t ∧ SOk (W.length + 1) t ∧ t.ws.length < k ∧ aggsP o (s2.ws.length + 1) [(k1, l1)] s2 = aggsP o k L t ∧ L.length + t.ws.length ≤ 100, fun _ hh => wordsN hh b6, ⟨_, [(k1, l1)], s2, a18, c18, rfl, B17, D17, S11, Nat.lt_succ_self _, rfl, ?_⟩, ?_⟩
  · have := G2.1.len
    show 1 + s2.ws.length ≤ 100
    omega
  rintro vs' hh ⟨k, L, t, a, c, rfl, B, D, S, hk, hrow, hL⟩
  obtain ⟨k, rfl⟩ : ∃ j, k = j + 1 := ⟨k - 1, by omega⟩
  have hst : aggsP o (k + 1) L t = if (t.is [wComma]).1 = [] then (L, t) else aggsP o k (L ++ [(aggP o (t.is [wComma]).2).1]) (aggP o (t.is [wComma]).2).2 := rfl
  rw [hst] at hrow
  clear hst
  refine ⟨_, _, _, _, _, _, _, _, _, _, _, _, _, rfl, ?_⟩
  intro b31 hb31 h32
  have l32 : hh.le h32 := Hp.le_set (Hp.le_refl hh) hb31 _
  have gi := goes_is S.good [wComma]
  have io := @is_one t wComma (by decide)
  have tk := @taken t [wComma]
  have hG2 : ∀ b, At b6 b → h2 b = none := fun b e => by rw [show b = b6 from e]; exact hb6
  have hwn := D.wn
  refine reader_is_ok (D.le l32) (slb_one hh b31 wComma) (by decide) (by have := S.big; omega) fun h34 D34 M34 => ⟨_, rfl, _, rd_neBs (b := []), fun e => ?_, fun e => ?_⟩
  · have e : (t.is [wComma]).1 ≠ [] := by simpa using e
    rw [if_neg e] at hrow
    have tk := tk e
    have D34 : RdAt h2 h34 b6 (t.is [wComma]).2 := D34
    have B34 := (B.grow l32).keep hG2 M34.keep
    have St := S.goes gi
    have Ga := goes_agg kp St.good (Nat.le_of_lt St.len)
    have E34 : EnvQ h2 h34 b6 := ⟨E7.t, D34.l, hb6⟩
    refine reader_agg_ok F kp D34 E34 St fun a42 c42 h40 D40 N40 M40 => ⟨_, _, _, _, rfl, ?_⟩
    generalize aggP o (t.is [wComma]).2 = A at *
    obtain ⟨⟨k2, l2⟩, t2⟩ := A
    simp -zeta only at hrow D40 N40 Ga ⊢
    have B40 := B34.keep hG2 M40.keep
    intro b43 hb43 h44
    have hlen := Ga.1.len
    refine agg_app (hB := h34) (k := k2) B40 D40 D34.al (fun b e => B34.al e) N40 (by omega) hb43 fun a47 c47 h46 B46 D46 => ⟨_, _, _, rfl, ⟨k, L ++ [(k2, l2)], t2, a47, c47, by simp, B46, D46, St.goes Ga.1, by omega, hrow, by simp; omega⟩, ?_⟩
    have h46n := D46.wn
    show wordsN h46 b6 < wordsN hh b6
    omega
  · have e : (t.is [wComma]).1 = [] := by simpa using e
    rw [if_pos e] at hrow
    rw [io e] at D34
    exact hRest L t a c h34 ((B.grow l32).keep hG2 M34.keep) D34 S hrow (by omega)
end Go.Proofs.YtejefijpcggkfaaGreatDoor
namespace Go.Proofs.YtejefijpcggkfaaGreatDoor
open Go Go.Vc
set_option maxRecDepth 100000
set_option linter.unusedVariables false
def VC_R_rd_fail (u_rb u_ro : Nat) (u_f : Int) (h : Hp) (R : Value → Hp → Prop) : Prop :=
  (∃ (x1 : Int), (Hp.cell h u_rb (u_ro + 3) = some (vi x1)) ∧ (((decide ((x1 : Int) = 0)) = true → (Hp.store h u_rb (u_ro + 3) [(vi u_f)] fun h2 => R (vtup []) h2)) ∧ ((decide ((x1 : Int) = 0)) = false → R (vtup []) h)))
theorem ok_R_rd_fail {u_rb u_ro : Nat} {u_f : Int} {h : Hp} {R : Value → Hp → Prop} (H : VC_R_rd_fail u_rb u_ro u_f h R) : CallOK Tryz.prog 50 [(vhp u_rb u_ro), (vi u_f)] h R :=
  call_of (cfg := ⟨[], [], []⟩) noNG mixed Tryz.func50 [.one (.hp u_rb u_ro), .one (.v (vi u_f))] (by kernel_rfl) rfl (by kernel_rfl) H
def VC_R_rd_next (u_rb u_ro : Nat) (h : Hp) (R : Value → Hp → Prop) : Prop :=
  (∃ (x1 : Int), (Hp.cell h u_rb (u_ro + 3) = some (vi x1)) ∧ (∃ (x2 : Int), ((decide ((x1 : Int) > 0)) = false → Hp.cell h u_rb (u_ro + 1) = some (vi x2)) ∧ (∃ (a3 : Option Addr) (n3 c3 : Nat), ((decide ((x1 : Int) > 0)) = false → Hp.cell h u_rb u_ro = some (vsl a3 n3 c3)) ∧ (((bif (decide ((x1 : Int) > 0)) then true else (decide ((x2 : Int) ≥ ((n3 : Nat) : Int)))) = true → R (vs ⟨#[]⟩) h) ∧ ((bif (decide ((x1 : Int) > 0)) then true else (decide ((x2 : Int) ≥ ((n3 : Nat) : Int)))) = false → (∃ (a5 : Option Addr) (n5 c5 : Nat), (Hp.cell h u_rb u_ro = some (vsl a5 n5 c5)) ∧ (∃ (x6 : Int), (Hp.cell h u_rb (u_ro + 1) = some (vi x6)) ∧ (∃ (b7 o8 : Nat), (a5 = some ⟨b7, o8, none⟩ ∧ (0 : Int) ≤ x6 ∧ x6 < ((n5 : Nat) : Int)) ∧ (∃ (s9 : ByteArray), (Hp.cell h b7 (o8 + x6.toNat * 1) = some (vs s9)) ∧ R (vs s9) h)))))))))
theorem ok_R_rd_next {u_rb u_ro : Nat} {h : Hp} {R : Value → Hp → Prop} (H : VC_R_rd_next u_rb u_ro h R) : CallOK Tryz.prog 78 [(vhp u_rb u_ro)] h R :=
  call_of (cfg := ⟨[], [], [(1, [0, 1, 2, 3, 4, 5, 6, 7, 8, 9, 10, 11, 12, 13, 14, 15, 16]), (3, [0, 1, 2, 3, 4, 5, 6, 7, 8, 9, 10])]⟩) noNG mixed Tryz.func78 [.one (.hp u_rb u_ro)] (by kernel_rfl) rfl (by kernel_rfl) H
def VC_R_rd_take (u_rb u_ro : Nat) (u_word : ByteArray) (h : Hp) (R : Value → Hp → Prop) : Prop :=
  (CallOK Tryz.prog 78 [(vhp u_rb u_ro)] h fun v1 h2 => ∃ (s3 : ByteArray), v1 = (vs s3) ∧ (∃ (p4 : Bool), (Rd Tryz.prog ((eqGuard .eql 9 (.tmp 8) (.const (vs ⟨#[]⟩)) (vs s3) (vs ⟨#[]⟩) >>= fun _ => binOp .eql 9 (vs s3) (vs ⟨#[]⟩))) h2 (vb p4)) ∧ (∃ (p5 : Bool), (p4 = false → Rd Tryz.prog ((eqGuard .neq 9 (.tmp 11) (.tmp 12) (vs s3) (vs u_word) >>= fun _ => binOp .neq 9 (vs s3) (vs u_word))) h2 (vb p5)) ∧ (((bif p4 then true else p5) = true → R (vb false) h2) ∧ ((bif p4 then true else p5) = false → (∃ (x7 : Int), (Hp.cell h2 u_rb (u_ro + 1) = some (vi x7)) ∧ (∃ (x8 : Int), (IsW x8 (x7 + 1)) ∧ (Hp.store h2 u_rb (u_ro + 1) [(vi x8)] fun h9 => R (vb true) h9))))))))
theorem ok_R_rd_take {u_rb u_ro : Nat} {u_word : ByteArray} {h : Hp} {R : Value → Hp → Prop} (H : VC_R_rd_take u_rb u_ro u_word h R) : CallOK Tryz.prog 49 [(vhp u_rb u_ro), (vs u_word)] h R :=
  call_of (cfg := ⟨[], [], []⟩) noNG mixed Tryz.func49 [.one (.hp u_rb u_ro), .one (.v (vs u_word))] (by kernel_rfl) rfl (by kernel_rfl) H
def VC_R_rd_must (u_rb u_ro : Nat) (u_word : ByteArray) (h : Hp) (R : Value → Hp → Prop) : Prop :=
  (CallOK Tryz.prog 49 [(vhp u_rb u_ro), (vs u_word)] h fun v1 h2 => ∃ (p3 : Bool), v1 = (vb p3) ∧ (((!p3) = true → (CallOK Tryz.prog 50 [(vhp u_rb u_ro), (vi 4)] h2 fun v4 h5 => v4 = (vtup []) ∧ R (vtup []) h5)) ∧ ((!p3) = false → R (vtup []) h2)))
theorem ok_R_rd_must {u_rb u_ro : Nat} {u_word : ByteArray} {h : Hp} {R : Value → Hp → Prop} (H : VC_R_rd_must u_rb u_ro u_word h R) : CallOK Tryz.prog 48 [(vhp u_rb u_ro), (vs u_word)] h R :=
  call_of (cfg := ⟨[], [], []⟩) noNG mixed Tryz.func48 [.one (.hp u_rb u_ro), .one (.v (vs u_word))] (by kernel_rfl) rfl (by kernel_rfl) H
def VC_R_rd_number (u_rb u_ro : Nat) (u_most : Int) (h : Hp) (R : Value → Hp → Prop) : Prop :=
  (CallOK Tryz.prog 78 [(vhp u_rb u_ro)] h fun v1 h2 => ∃ (s3 : ByteArray), v1 = (vs s3) ∧ (CallOK Tryz.prog 84 [(vs s3), (vi u_most), (vb false)] h2 fun v4 h5 => ∃ (x6 : Int), v4 = (vi x6) ∧ (((decide ((x6 : Int) < 0)) = true → (CallOK Tryz.prog 50 [(vhp u_rb u_ro), (vi 4)] h5 fun v7 h8 => v7 = (vtup []) ∧ R (vi 0) h8)) ∧ ((decide ((x6 : Int) < 0)) = false → (∃ (x10 : Int), (Hp.cell h5 u_rb (u_ro + 1) = some (vi x10)) ∧ (∃ (x11 : Int), (IsW x11 (x10 + 1)) ∧ (Hp.store h5 u_rb (u_ro + 1) [(vi x11)] fun h12 => R (vi x6) h12)))))))
theorem ok_R_rd_number {u_rb u_ro : Nat} {u_most : Int} {h : Hp} {R : Value → Hp → Prop} (H : VC_R_rd_number u_rb u_ro u_most h R) : CallOK Tryz.prog 52 [(vhp u_rb u_ro), (vi u_most)] h R :=
  call_of (cfg := ⟨[], [], []⟩) noNG mixed Tryz.func52 [.one (.hp u_rb u_ro), .one (.v (vi u_most))] (by kernel_rfl) rfl (by kernel_rfl) H
def VC_R_rd_put (u_rb u_ro : Nat) (u_op : Int) (u_xa : Option Addr) (u_xn u_xc : Nat) (u_ya : Option Addr) (u_yn u_yc : Nat) (h : Hp) (R : Value → Hp → Prop) : Prop :=
  (∃ (x1 : Int), (Hp.cell h u_rb (u_ro + 3) = some (vi x1)) ∧ (((decide ((x1 : Int) > 0)) = true → R (vsl u_xa u_xn u_xc) h) ∧ ((decide ((x1 : Int) > 0)) = false → (∃ (x3 : Int), (IsW x3 (((u_xn : Nat) : Int) + ((u_yn : Nat) : Int))) ∧ (∃ (x4 : Int), (IsW x4 (x3 + 1)) ∧ (((decide ((x4 : Int) > 40)) = true → (CallOK Tryz.prog 50 [(vhp u_rb u_ro), (vi 2)] h fun v5 h6 => v5 = (vtup []) ∧ R (vsl u_xa u_xn u_xc) h6)) ∧ ((decide ((x4 : Int) > 40)) = false → (SemOK Tryz.prog (Builtin.append_ #[25, 25] 25 #[(vsl none 0 0), (vsl u_xa u_xn u_xc)]) h fun v8 h9 => ∃ (a10 : Option Addr) (n10 c10 : Nat), v8 = (vsl a10 n10 c10) ∧ (∃ (I12 : List Value → Hp → Prop) (m13 : List Value → Hp → Nat), I12 [(vsl a10 n10 c10), (vi 0)] h9 ∧ ∀ (vs14 : List Value) (h15 : Hp), I12 vs14 h15 → ∃ (a16 : Option Addr) (n16 c16 : Nat) (x17 : Int), vs14 = [(vsl a16 n16 c16), (vi x17)] ∧ (((decide ((x17 : Int) < ((u_yn : Nat) : Int))) = true → (∃ (b20 o21 : Nat), (u_ya = some ⟨b20, o21, none⟩ ∧ (0 : Int) ≤ x17 ∧ x17 < ((u_yn : Nat) : Int)) ∧ (∃ (x22 : Int) (x23 : Int) (x24 : Int) (x25 : Int) (x26 : Int) (x27 : Int), (Hp.row h15 b20 (o21 + x17.toNat * 6) 6 = some [(vi x22), (vi x23), (vi x24), (vi x25), (vi x26), (vi x27)]) ∧ (CallOK Tryz.prog 111 [(vi x22)] h15 fun v28 h29 => ∃ (x30 : Int), v28 = (vi x30) ∧ (let J34 : Int → Prop := fun (x41 : Int) => (let J45 : Int → Prop := fun (x48 : Int) => (∀ (b49 : Nat), h29 b49 = none → let h50 : Hp := Hp.set h29 b49 (cellsO [(vi x22), (vi x41), (vi x48), (vi x25), (vi x26), (vi x27)] 137); (SemOK Tryz.prog (Builtin.append_ #[25, 25] 25 #[(vsl a16 n16 c16), (vsl (some (⟨b49, 0, none⟩ : Addr)) 1 1)]) h50 fun v51 h52 => ∃ (a53 : Option Addr) (n53 c53 : Nat), v51 = (vsl a53 n53 c53) ∧ (∃ (x55 : Int), (IsW x55 (x17 + 1)) ∧ (I12 [(vsl a53 n53 c53), (vi x55)] h52 ∧ m13 [(vsl a53 n53 c53), (vi x55)] h52 < m13 vs14 h15)))); (((decide ((x30 : Int) > 1)) = true → (∃ (x42 : Int), (IsW x42 (x24 + ((u_xn : Nat) : Int))) ∧ (J45 x42))) ∧ ((decide ((x30 : Int) > 1)) = false → (J45 x24)))); (((decide ((x30 : Int) > 0)) = true → (∃ (x31 : Int), (IsW x31 (x23 + ((u_xn : Nat) : Int))) ∧ (J34 x31))) ∧ ((decide ((x30 : Int) > 0)) = false → (J34 x23)))))))) ∧ ((decide ((x17 : Int) < ((u_yn : Nat) : Int))) = false → (∃ (x56 : Int), (IsW x56 (((u_xn : Nat) : Int) - 1)) ∧ (let J60 : Int → Prop := fun (x63 : Int) => (∀ (b64 : Nat), h15 b64 = none → let h65 : Hp := Hp.set h15 b64 (cellsO [(vi u_op), (vi x56), (vi x63), (vi 0), (vi 0), (vi 0)] 137); (SemOK Tryz.prog (Builtin.append_ #[25, 25] 25 #[(vsl a16 n16 c16), (vsl (some (⟨b64, 0, none⟩ : Addr)) 1 1)]) h65 fun v66 h67 => ∃ (a68 : Option Addr) (n68 c68 : Nat), v66 = (vsl a68 n68 c68) ∧ R (vsl a68 n68 c68) h67)); (((decide ((((u_yn : Nat) : Int) : Int) > 0)) = true → (∃ (x57 : Int), (IsW x57 (((n16 : Nat) : Int) - 1)) ∧ (J60 x57))) ∧ ((decide ((((u_yn : Nat) : Int) : Int) > 0)) = false → (J60 0))))))))))))))))
theorem ok_R_rd_put {u_rb u_ro : Nat} {u_op : Int} {u_xa : Option Addr} {u_xn u_xc : Nat} {u_ya : Option Addr} {u_yn u_yc : Nat} {h : Hp} {R : Value → Hp → Prop} (H : VC_R_rd_put u_rb u_ro u_op u_xa u_xn u_xc u_ya u_yn u_yc h R) : CallOK Tryz.prog 81 [(vhp u_rb u_ro), (vi u_op), (vsl u_xa u_xn u_xc), (vsl u_ya u_yn u_yc)] h R :=
  call_of (cfg := ⟨[], [(8, ([9, 10], [.one (.slice), .one (.int .i64)], []))], []⟩) noNG mixed Tryz.func81 [.one (.hp u_rb u_ro), .one (.v (vi u_op)), .one (.v (vsl u_xa u_xn u_xc)), .one (.v (vsl u_ya u_yn u_yc))] (by kernel_rfl) rfl (by kernel_rfl) H
def VC_R_rd_in (u_rb u_ro : Nat) (h : Hp) (R : Value → Hp → Prop) : Prop :=
  (∃ (x1 : Int), (Hp.cell h u_rb (u_ro + 2) = some (vi x1)) ∧ (∃ (x2 : Int), (IsW x2 (x1 + 1)) ∧ (Hp.store h u_rb (u_ro + 2) [(vi x2)] fun h3 => (∃ (x4 : Int), (Hp.cell h3 u_rb (u_ro + 2) = some (vi x4)) ∧ (((decide ((x4 : Int) > 12)) = true → (CallOK Tryz.prog 50 [(vhp u_rb u_ro), (vi 2)] h3 fun v5 h6 => v5 = (vtup []) ∧ R (vtup []) h6)) ∧ ((decide ((x4 : Int) > 12)) = false → R (vtup []) h3))))))
theorem ok_R_rd_in {u_rb u_ro : Nat} {h : Hp} {R : Value → Hp → Prop} (H : VC_R_rd_in u_rb u_ro h R) : CallOK Tryz.prog 80 [(vhp u_rb u_ro)] h R :=
  call_of (cfg := ⟨[], [], []⟩) noNG mixed Tryz.func80 [.one (.hp u_rb u_ro)] (by kernel_rfl) rfl (by kernel_rfl) H
def VC_R_rd_level (u_rb u_ro : Nat) (u_n : Int) (h : Hp) (R : Value → Hp → Prop) : Prop :=
  (∃ (x1 : Int), (Hp.cell h u_rb (u_ro + 3) = some (vi x1)) ∧ (((decide ((x1 : Int) > 0)) = true → R (vsl none 0 0) h) ∧ ((decide ((x1 : Int) > 0)) = false → (let J7 : Bool → Prop := fun (p8 : Bool) => ((p8 = true → (CallOK Tryz.prog 79 [(vhp u_rb u_ro), (vi u_n)] h fun v9 h10 => ∃ (a11 : Option Addr) (n11 c11 : Nat), v9 = (vsl a11 n11 c11) ∧ R (vsl a11 n11 c11) h10)) ∧ (p8 = false → (let J14 : Bool → Prop := fun (p15 : Bool) => ((p15 = true → (let J18 : ByteArray → Int → Prop := fun (s36 : ByteArray) (x37 : Int) => (CallOK Tryz.prog 49 [(vhp u_rb u_ro), (vs s36)] h fun v38 h39 => ∃ (p40 : Bool), v38 = (vb p40) ∧ (((!p40) = true → (∃ (x41 : Int), (IsW x41 (u_n + 1)) ∧ (CallOK Tryz.prog 51 [(vhp u_rb u_ro), (vi x41)] h39 fun v42 h43 => ∃ (a44 : Option Addr) (n44 c44 : Nat), v42 = (vsl a44 n44 c44) ∧ R (vsl a44 n44 c44) h43))) ∧ ((!p40) = false → (CallOK Tryz.prog 80 [(vhp u_rb u_ro)] h39 fun v46 h47 => v46 = (vtup []) ∧ (CallOK Tryz.prog 51 [(vhp u_rb u_ro), (vi u_n)] h47 fun v48 h49 => ∃ (a50 : Option Addr) (n50 c50 : Nat), v48 = (vsl a50 n50 c50) ∧ (∃ (x51 : Int), (Hp.cell h49 u_rb (u_ro + 2) = some (vi x51)) ∧ (∃ (x52 : Int), (IsW x52 (x51 - 1)) ∧ (Hp.store h49 u_rb (u_ro + 2) [(vi x52)] fun h53 => (CallOK Tryz.prog 81 [(vhp u_rb u_ro), (vi x37), (vsl a50 n50 c50), (vsl none 0 0)] h53 fun v54 h55 => ∃ (a56 : Option Addr) (n56 c56 : Nat), v54 = (vsl a56 n56 c56) ∧ R (vsl a56 n56 c56) h55))))))))); (((decide ((u_n : Int) = 6)) = true → (J18 ⟨#[45]⟩ 3)) ∧ ((decide ((u_n : Int) = 6)) = false → (J18 ⟨#[110, 111, 116]⟩ 4))))) ∧ (p15 = false → (((decide ((u_n : Int) = 3)) = true → (CallOK Tryz.prog 82 [(vhp u_rb u_ro)] h fun v57 h58 => ∃ (a59 : Option Addr) (n59 c59 : Nat), v57 = (vsl a59 n59 c59) ∧ R (vsl a59 n59 c59) h58)) ∧ ((decide ((u_n : Int) = 3)) = false → (CallOK Tryz.prog 83 [(vhp u_rb u_ro)] h fun v61 h62 => ∃ (a63 : Option Addr) (n63 c63 : Nat), v61 = (vsl a63 n63 c63) ∧ R (vsl a63 n63 c63) h62))))); (((decide ((u_n : Int) = 2)) = true → (J14 (decide ((u_n : Int) = 2)))) ∧ ((decide ((u_n : Int) = 2)) = false → (J14 (decide ((u_n : Int) = 6)))))))); (((decide ((u_n : Int) = 0)) = true → (J7 (decide ((u_n : Int) = 0)))) ∧ ((decide ((u_n : Int) = 0)) = false → (((decide ((u_n : Int) = 1)) = true → (J7 (decide ((u_n : Int) = 1)))) ∧ ((decide ((u_n : Int) = 1)) = false → (((decide ((u_n : Int) = 4)) = true → (J7 (decide ((u_n : Int) = 4)))) ∧ ((decide ((u_n : Int) = 4)) = false → (J7 (decide ((u_n : Int) = 5)))))))))))))
theorem ok_R_rd_level {u_rb u_ro : Nat} {u_n : Int} {h : Hp} {R : Value → Hp → Prop} (H : VC_R_rd_level u_rb u_ro u_n h R) : CallOK Tryz.prog 51 [(vhp u_rb u_ro), (vi u_n)] h R :=
  call_of (cfg := ⟨[], [], []⟩) noNG mixed Tryz.func51 [.one (.hp u_rb u_ro), .one (.v (vi u_n))] (by kernel_rfl) rfl (by kernel_rfl) H
def VC_R_rd_rows (u_rb u_ro : Nat) (u_n : Int) (h : Hp) (R : Value → Hp → Prop) : Prop :=
  (∃ (x1 : Int), (IsW x1 (u_n + 1)) ∧ (CallOK Tryz.prog 51 [(vhp u_rb u_ro), (vi x1)] h fun v2 h3 => ∃ (a4 : Option Addr) (n4 c4 : Nat), v2 = (vsl a4 n4 c4) ∧ (let J47 : Option Addr → Nat → Nat → Hp → Prop := fun (a49 : Option Addr) (n49 c49 : Nat) (h50 : Hp) => R (vsl a49 n49 c49) h50; (∃ (I6 : List Value → Hp → Prop) (m7 : List Value → Hp → Nat), I6 [(vsl a4 n4 c4)] h3 ∧ ∀ (vs8 : List Value) (h9 : Hp), I6 vs8 h9 → ∃ (a10 : Option Addr) (n10 c10 : Nat), vs8 = [(vsl a10 n10 c10)] ∧ (∃ (x11 : Int), (Hp.cell h9 u_rb (u_ro + 3) = some (vi x11)) ∧ (((decide ((x11 : Int) = 0)) = true → (CallOK Tryz.prog 78 [(vhp u_rb u_ro)] h9 fun v14 h15 => ∃ (s16 : ByteArray), v14 = (vs s16) ∧ (let J33 : Int → Prop := fun (x34 : Int) => (((decide ((x34 : Int) = 0)) = true → (J47 a10 n10 c10 h15)) ∧ ((decide ((x34 : Int) = 0)) = false → (∃ (x37 : Int), (Hp.cell h15 u_rb (u_ro + 1) = some (vi x37)) ∧ (∃ (x38 : Int), (IsW x38 (x37 + 1)) ∧ (Hp.store h15 u_rb (u_ro + 1) [(vi x38)] fun h39 => (∃ (x40 : Int), (IsW x40 (u_n + 1)) ∧ (CallOK Tryz.prog 51 [(vhp u_rb u_ro), (vi x40)] h39 fun v41 h42 => ∃ (a43 : Option Addr) (n43 c43 : Nat), v41 = (vsl a43 n43 c43) ∧ (CallOK Tryz.prog 81 [(vhp u_rb u_ro), (vi x34), (vsl a10 n10 c10), (vsl a43 n43 c43)] h42 fun v44 h45 => ∃ (a46 : Option Addr) (n46 c46 : Nat), v44 = (vsl a46 n46 c46) ∧ (I6 [(vsl a46 n46 c46)] h45 ∧ m7 [(vsl a46 n46 c46)] h45 < m7 vs8 h9))))))))); (∃ (p17 : Bool), (Rd Tryz.prog ((eqGuard .eql 9 (.tmp 18) (.const (vs ⟨#[111, 114]⟩)) (vs s16) (vs ⟨#[111, 114]⟩) >>= fun _ => binOp .eql 9 (vs s16) (vs ⟨#[111, 114]⟩))) h15 (vb p17)) ∧ ((p17 = true → (((decide ((u_n : Int) = 0)) = true → (J33 10)) ∧ ((decide ((u_n : Int) = 0)) = false → (J33 0)))) ∧ (p17 = false → (∃ (p20 : Bool), (Rd Tryz.prog ((eqGuard .eql 9 (.tmp 18) (.const (vs ⟨#[97, 110, 100]⟩)) (vs s16) (vs ⟨#[97, 110, 100]⟩) >>= fun _ => binOp .eql 9 (vs s16) (vs ⟨#[97, 110, 100]⟩))) h15 (vb p20)) ∧ ((p20 = true → (((decide ((u_n : Int) = 1)) = true → (J33 9)) ∧ ((decide ((u_n : Int) = 1)) = false → (J33 0)))) ∧ (p20 = false → (∃ (p23 : Bool), (Rd Tryz.prog ((eqGuard .eql 9 (.tmp 18) (.const (vs ⟨#[43]⟩)) (vs s16) (vs ⟨#[43]⟩) >>= fun _ => binOp .eql 9 (vs s16) (vs ⟨#[43]⟩))) h15 (vb p23)) ∧ ((p23 = true → (((decide ((u_n : Int) = 4)) = true → (J33 6)) ∧ ((decide ((u_n : Int) = 4)) = false → (J33 0)))) ∧ (p23 = false → (∃ (p26 : Bool), (Rd Tryz.prog ((eqGuard .eql 9 (.tmp 18) (.const (vs ⟨#[45]⟩)) (vs s16) (vs ⟨#[45]⟩) >>= fun _ => binOp .eql 9 (vs s16) (vs ⟨#[45]⟩))) h15 (vb p26)) ∧ ((p26 = true → (((decide ((u_n : Int) = 4)) = true → (J33 7)) ∧ ((decide ((u_n : Int) = 4)) = false → (J33 0)))) ∧ (p26 = false → (∃ (p29 : Bool), (Rd Tryz.prog ((eqGuard .eql 9 (.tmp 18) (.const (vs ⟨#[42]⟩)) (vs s16) (vs ⟨#[42]⟩) >>= fun _ => binOp .eql 9 (vs s16) (vs ⟨#[42]⟩))) h15 (vb p29)) ∧ ((p29 = true → (((decide ((u_n : Int) = 5)) = true → (J33 8)) ∧ ((decide ((u_n : Int) = 5)) = false → (J33 0)))) ∧ (p29 = false → (J33 0))))))))))))))))))) ∧ ((decide ((x11 : Int) = 0)) = false → (J47 a10 n10 c10 h9))))))))
theorem ok_R_rd_rows {u_rb u_ro : Nat} {u_n : Int} {h : Hp} {R : Value → Hp → Prop} (H : VC_R_rd_rows u_rb u_ro u_n h R) : CallOK Tryz.prog 79 [(vhp u_rb u_ro), (vi u_n)] h R :=
  call_of (cfg := ⟨[], [(2, ([5], [.one (.slice)], []))], []⟩) noNG mixed Tryz.func79 [.one (.hp u_rb u_ro), .one (.v (vi u_n))] (by kernel_rfl) rfl (by kernel_rfl) H
def VC_R_rd_compared (u_rb u_ro : Nat) (h : Hp) (R : Value → Hp → Prop) : Prop :=
  (CallOK Tryz.prog 51 [(vhp u_rb u_ro), (vi 4)] h fun v1 h2 => ∃ (a3 : Option Addr) (n3 c3 : Nat), v1 = (vsl a3 n3 c3) ∧ (CallOK Tryz.prog 78 [(vhp u_rb u_ro)] h2 fun v4 h5 => ∃ (s6 : ByteArray), v4 = (vs s6) ∧ (∃ (p7 : Bool), (Rd Tryz.prog ((eqGuard .neq 9 (.tmp 14) (.const (vs ⟨#[60]⟩)) (vs s6) (vs ⟨#[60]⟩) >>= fun _ => binOp .neq 9 (vs s6) (vs ⟨#[60]⟩))) h5 (vb p7)) ∧ (∃ (p8 : Bool), (p7 = true → Rd Tryz.prog ((eqGuard .neq 9 (.tmp 17) (.const (vs ⟨#[62]⟩)) (vs s6) (vs ⟨#[62]⟩) >>= fun _ => binOp .neq 9 (vs s6) (vs ⟨#[62]⟩))) h5 (vb p8)) ∧ (∃ (p9 : Bool), ((bif p7 then p8 else false) = true → Rd Tryz.prog ((eqGuard .neq 9 (.tmp 21) (.const (vs ⟨#[60, 61]⟩)) (vs s6) (vs ⟨#[60, 61]⟩) >>= fun _ => binOp .neq 9 (vs s6) (vs ⟨#[60, 61]⟩))) h5 (vb p9)) ∧ (∃ (p10 : Bool), ((bif (bif p7 then p8 else false) then p9 else false) = true → Rd Tryz.prog ((eqGuard .neq 9 (.tmp 25) (.const (vs ⟨#[62, 61]⟩)) (vs s6) (vs ⟨#[62, 61]⟩) >>= fun _ => binOp .neq 9 (vs s6) (vs ⟨#[62, 61]⟩))) h5 (vb p10)) ∧ (∃ (p11 : Bool), ((bif (bif (bif p7 then p8 else false) then p9 else false) then p10 else false) = true → Rd Tryz.prog ((eqGuard .neq 9 (.tmp 29) (.const (vs ⟨#[61]⟩)) (vs s6) (vs ⟨#[61]⟩) >>= fun _ => binOp .neq 9 (vs s6) (vs ⟨#[61]⟩))) h5 (vb p11)) ∧ (∃ (p12 : Bool), ((bif (bif (bif (bif p7 then p8 else false) then p9 else false) then p10 else false) then p11 else false) = true → Rd Tryz.prog ((eqGuard .neq 9 (.tmp 33) (.const (vs ⟨#[60, 62]⟩)) (vs s6) (vs ⟨#[60, 62]⟩) >>= fun _ => binOp .neq 9 (vs s6) (vs ⟨#[60, 62]⟩))) h5 (vb p12)) ∧ (∃ (p13 : Bool), ((bif (bif (bif (bif (bif p7 then p8 else false) then p9 else false) then p10 else false) then p11 else false) then p12 else false) = true → Rd Tryz.prog ((eqGuard .neq 9 (.tmp 37) (.const (vs ⟨#[105, 115]⟩)) (vs s6) (vs ⟨#[105, 115]⟩) >>= fun _ => binOp .neq 9 (vs s6) (vs ⟨#[105, 115]⟩))) h5 (vb p13)) ∧ (((bif (bif (bif (bif (bif (bif p7 then p8 else false) then p9 else false) then p10 else false) then p11 else false) then p12 else false) then p13 else false) = true → R (vsl a3 n3 c3) h5) ∧ ((bif (bif (bif (bif (bif (bif p7 then p8 else false) then p9 else false) then p10 else false) then p11 else false) then p12 else false) then p13 else false) = false → (∃ (x15 : Int), (Hp.cell h5 u_rb (u_ro + 1) = some (vi x15)) ∧ (∃ (x16 : Int), (IsW x16 (x15 + 1)) ∧ (Hp.store h5 u_rb (u_ro + 1) [(vi x16)] fun h17 => (∃ (p18 : Bool), (Rd Tryz.prog ((eqGuard .eql 9 (.tmp 48) (.const (vs ⟨#[105, 115]⟩)) (vs s6) (vs ⟨#[105, 115]⟩) >>= fun _ => binOp .eql 9 (vs s6) (vs ⟨#[105, 115]⟩))) h17 (vb p18)) ∧ ((p18 = true → (CallOK Tryz.prog 49 [(vhp u_rb u_ro), (vs ⟨#[110, 111, 116]⟩)] h17 fun v19 h20 => ∃ (p21 : Bool), v19 = (vb p21) ∧ (CallOK Tryz.prog 48 [(vhp u_rb u_ro), (vs ⟨#[110, 117, 108, 108]⟩)] h20 fun v22 h23 => v22 = (vtup []) ∧ (CallOK Tryz.prog 81 [(vhp u_rb u_ro), (vi 5), (vsl a3 n3 c3), (vsl none 0 0)] h23 fun v24 h25 => ∃ (a26 : Option Addr) (n26 c26 : Nat), v24 = (vsl a26 n26 c26) ∧ (let J32 : Option Addr → Nat → Nat → Hp → Prop := fun (a34 : Option Addr) (n34 c34 : Nat) (h35 : Hp) => R (vsl a34 n34 c34) h35; ((p21 = true → (CallOK Tryz.prog 81 [(vhp u_rb u_ro), (vi 4), (vsl a26 n26 c26), (vsl none 0 0)] h25 fun v27 h28 => ∃ (a29 : Option Addr) (n29 c29 : Nat), v27 = (vsl a29 n29 c29) ∧ (J32 a29 n29 c29 h28))) ∧ (p21 = false → (J32 a26 n26 c26 h25)))))))) ∧ (p18 = false → (CallOK Tryz.prog 51 [(vhp u_rb u_ro), (vi 4)] h17 fun v37 h38 => ∃ (a39 : Option Addr) (n39 c39 : Nat), v37 = (vsl a39 n39 c39) ∧ (∃ (p40 : Bool), (Rd Tryz.prog ((eqGuard .eql 9 (.tmp 64) (.const (vs ⟨#[60]⟩)) (vs s6) (vs ⟨#[60]⟩) >>= fun _ => binOp .eql 9 (vs s6) (vs ⟨#[60]⟩))) h38 (vb p40)) ∧ ((p40 = true → (CallOK Tryz.prog 81 [(vhp u_rb u_ro), (vi 11), (vsl a3 n3 c3), (vsl a39 n39 c39)] h38 fun v41 h42 => ∃ (a43 : Option Addr) (n43 c43 : Nat), v41 = (vsl a43 n43 c43) ∧ R (vsl a43 n43 c43) h42)) ∧ (p40 = false → (∃ (p44 : Bool), (Rd Tryz.prog ((eqGuard .eql 9 (.tmp 64) (.const (vs ⟨#[62]⟩)) (vs s6) (vs ⟨#[62]⟩) >>= fun _ => binOp .eql 9 (vs s6) (vs ⟨#[62]⟩))) h38 (vb p44)) ∧ ((p44 = true → (CallOK Tryz.prog 81 [(vhp u_rb u_ro), (vi 11), (vsl a39 n39 c39), (vsl a3 n3 c3)] h38 fun v45 h46 => ∃ (a47 : Option Addr) (n47 c47 : Nat), v45 = (vsl a47 n47 c47) ∧ R (vsl a47 n47 c47) h46)) ∧ (p44 = false → (∃ (p48 : Bool), (Rd Tryz.prog ((eqGuard .eql 9 (.tmp 64) (.const (vs ⟨#[60, 61]⟩)) (vs s6) (vs ⟨#[60, 61]⟩) >>= fun _ => binOp .eql 9 (vs s6) (vs ⟨#[60, 61]⟩))) h38 (vb p48)) ∧ ((p48 = true → (CallOK Tryz.prog 81 [(vhp u_rb u_ro), (vi 11), (vsl a39 n39 c39), (vsl a3 n3 c3)] h38 fun v49 h50 => ∃ (a51 : Option Addr) (n51 c51 : Nat), v49 = (vsl a51 n51 c51) ∧ (CallOK Tryz.prog 81 [(vhp u_rb u_ro), (vi 4), (vsl a51 n51 c51), (vsl none 0 0)] h50 fun v52 h53 => ∃ (a54 : Option Addr) (n54 c54 : Nat), v52 = (vsl a54 n54 c54) ∧ R (vsl a54 n54 c54) h53))) ∧ (p48 = false → (∃ (p55 : Bool), (Rd Tryz.prog ((eqGuard .eql 9 (.tmp 64) (.const (vs ⟨#[62, 61]⟩)) (vs s6) (vs ⟨#[62, 61]⟩) >>= fun _ => binOp .eql 9 (vs s6) (vs ⟨#[62, 61]⟩))) h38 (vb p55)) ∧ ((p55 = true → (CallOK Tryz.prog 81 [(vhp u_rb u_ro), (vi 11), (vsl a3 n3 c3), (vsl a39 n39 c39)] h38 fun v56 h57 => ∃ (a58 : Option Addr) (n58 c58 : Nat), v56 = (vsl a58 n58 c58) ∧ (CallOK Tryz.prog 81 [(vhp u_rb u_ro), (vi 4), (vsl a58 n58 c58), (vsl none 0 0)] h57 fun v59 h60 => ∃ (a61 : Option Addr) (n61 c61 : Nat), v59 = (vsl a61 n61 c61) ∧ R (vsl a61 n61 c61) h60))) ∧ (p55 = false → (∃ (p62 : Bool), (Rd Tryz.prog ((eqGuard .eql 9 (.tmp 64) (.const (vs ⟨#[61]⟩)) (vs s6) (vs ⟨#[61]⟩) >>= fun _ => binOp .eql 9 (vs s6) (vs ⟨#[61]⟩))) h38 (vb p62)) ∧ ((p62 = true → (CallOK Tryz.prog 81 [(vhp u_rb u_ro), (vi 12), (vsl a3 n3 c3), (vsl a39 n39 c39)] h38 fun v63 h64 => ∃ (a65 : Option Addr) (n65 c65 : Nat), v63 = (vsl a65 n65 c65) ∧ R (vsl a65 n65 c65) h64)) ∧ (p62 = false → (CallOK Tryz.prog 81 [(vhp u_rb u_ro), (vi 12), (vsl a3 n3 c3), (vsl a39 n39 c39)] h38 fun v67 h68 => ∃ (a69 : Option Addr) (n69 c69 : Nat), v67 = (vsl a69 n69 c69) ∧ (CallOK Tryz.prog 81 [(vhp u_rb u_ro), (vi 4), (vsl a69 n69 c69), (vsl none 0 0)] h68 fun v70 h71 => ∃ (a72 : Option Addr) (n72 c72 : Nat), v70 = (vsl a72 n72 c72) ∧ R (vsl a72 n72 c72) h71)))))))))))))))))))))))))))))))))))
theorem ok_R_rd_compared {u_rb u_ro : Nat} {h : Hp} {R : Value → Hp → Prop} (H : VC_R_rd_compared u_rb u_ro h R) : CallOK Tryz.prog 82 [(vhp u_rb u_ro)] h R :=
  call_of (cfg := ⟨[], [], []⟩) noNG mixed Tryz.func82 [.one (.hp u_rb u_ro)] (by kernel_rfl) rfl (by kernel_rfl) H
def VC_R_rd_rest (u_rb u_ro : Nat) (h : Hp) (R : Value → Hp → Prop) : Prop :=
  (CallOK Tryz.prog 78 [(vhp u_rb u_ro)] h fun v1 h2 => ∃ (s3 : ByteArray), v1 = (vs s3) ∧ (CallOK Tryz.prog 49 [(vhp u_rb u_ro), (vs ⟨#[40]⟩)] h2 fun v4 h5 => ∃ (p6 : Bool), v4 = (vb p6) ∧ ((p6 = true → (CallOK Tryz.prog 80 [(vhp u_rb u_ro)] h5 fun v7 h8 => v7 = (vtup []) ∧ (CallOK Tryz.prog 51 [(vhp u_rb u_ro), (vi 0)] h8 fun v9 h10 => ∃ (a11 : Option Addr) (n11 c11 : Nat), v9 = (vsl a11 n11 c11) ∧ (∃ (x12 : Int), (Hp.cell h10 u_rb (u_ro + 2) = some (vi x12)) ∧ (∃ (x13 : Int), (IsW x13 (x12 - 1)) ∧ (Hp.store h10 u_rb (u_ro + 2) [(vi x13)] fun h14 => (CallOK Tryz.prog 48 [(vhp u_rb u_ro), (vs ⟨#[41]⟩)] h14 fun v15 h16 => v15 = (vtup []) ∧ R (vsl a11 n11 c11) h16))))))) ∧ (p6 = false → (∀ (b18 : Nat), h5 b18 = none → let h19 : Hp := Hp.set h5 b18 (cellsO [(vs ⟨#[116]⟩), (vs ⟨#[107]⟩), (vs ⟨#[97]⟩), (vs ⟨#[98]⟩)] 9); (∃ (I21 : List Value → Hp → Prop) (m22 : List Value → Hp → Nat), I21 [(vi 0)] h19 ∧ ∀ (vs23 : List Value) (h24 : Hp), I21 vs23 h24 → ∃ (x25 : Int), vs23 = [(vi x25)] ∧ (((decide ((x25 : Int) < 4)) = true → (∃ (b28 o29 : Nat), ((some (⟨b18, 0, none⟩ : Addr)) = some ⟨b28, o29, none⟩ ∧ (0 : Int) ≤ x25 ∧ x25 < ((4 : Nat) : Int)) ∧ (∃ (s30 : ByteArray), (Hp.cell h24 b28 (o29 + x25.toNat * 1) = some (vs s30)) ∧ (∃ (p31 : Bool), (Rd Tryz.prog ((eqGuard .eql 9 (.tmp 34) (.tmp 38) (vs s3) (vs s30) >>= fun _ => binOp .eql 9 (vs s3) (vs s30))) h24 (vb p31)) ∧ ((p31 = true → (∃ (x32 : Int), (Hp.cell h24 u_rb (u_ro + 1) = some (vi x32)) ∧ (∃ (x33 : Int), (IsW x33 (x32 + 1)) ∧ (Hp.store h24 u_rb (u_ro + 1) [(vi x33)] fun h34 => (∀ (b35 : Nat), h34 b35 = none → let h36 : Hp := Hp.set h34 b35 (cellsO [(vi 2), (vi 0), (vi 0), (vi x25), (vi 0), (vi 0)] 137); R (vsl (some (⟨b35, 0, none⟩ : Addr)) 1 1) h36))))) ∧ (p31 = false → (∃ (x38 : Int), (IsW x38 (x25 + 1)) ∧ (I21 [(vi x38)] h24 ∧ m22 [(vi x38)] h24 < m22 vs23 h24)))))))) ∧ ((decide ((x25 : Int) < 4)) = false → (∃ (p39 : Bool), (Rd Tryz.prog ((eqGuard .eql 9 (.tmp 50) (.const (vs ⟨#[110, 117, 108, 108]⟩)) (vs s3) (vs ⟨#[110, 117, 108, 108]⟩) >>= fun _ => binOp .eql 9 (vs s3) (vs ⟨#[110, 117, 108, 108]⟩))) h24 (vb p39)) ∧ (∃ (p40 : Bool), (p39 = false → Rd Tryz.prog ((eqGuard .eql 9 (.tmp 53) (.const (vs ⟨#[116, 114, 117, 101]⟩)) (vs s3) (vs ⟨#[116, 114, 117, 101]⟩) >>= fun _ => binOp .eql 9 (vs s3) (vs ⟨#[116, 114, 117, 101]⟩))) h24 (vb p40)) ∧ (∃ (p41 : Bool), ((bif p39 then true else p40) = false → Rd Tryz.prog ((eqGuard .eql 9 (.tmp 57) (.const (vs ⟨#[102, 97, 108, 115, 101]⟩)) (vs s3) (vs ⟨#[102, 97, 108, 115, 101]⟩) >>= fun _ => binOp .eql 9 (vs s3) (vs ⟨#[102, 97, 108, 115, 101]⟩))) h24 (vb p41)) ∧ (((bif (bif p39 then true else p40) then true else p41) = true → (∃ (x42 : Int), (Hp.cell h24 u_rb (u_ro + 1) = some (vi x42)) ∧ (∃ (x43 : Int), (IsW x43 (x42 + 1)) ∧ (Hp.store h24 u_rb (u_ro + 1) [(vi x43)] fun h44 => (CallOK Tryz.prog 112 [(vs s3)] h44 fun v45 h46 => ∃ (x47 : Int) (x48 : Int) (x49 : Int), v45 = (vtup [(vag [(vi x47), (vi x48)]), (vi x49)]) ∧ (∀ (b50 : Nat), h46 b50 = none → let h51 : Hp := Hp.set h46 b50 (cellsO [(vi 1), (vi 0), (vi 0), (vi 0), (vi x47), (vi x48)] 137); R (vsl (some (⟨b50, 0, none⟩ : Addr)) 1 1) h51)))))) ∧ ((bif (bif p39 then true else p40) then true else p41) = false → (CallOK Tryz.prog 52 [(vhp u_rb u_ro), (vi 1000000000)] h24 fun v53 h54 => ∃ (x55 : Int), v53 = (vi x55) ∧ (CallOK Tryz.prog 103 [(vi x55)] h54 fun v56 h57 => ∃ (x58 : Int) (x59 : Int), v56 = (vag [(vi x58), (vi x59)]) ∧ (∀ (b60 : Nat), h57 b60 = none → let h61 : Hp := Hp.set h57 b60 (cellsO [(vi 1), (vi 0), (vi 0), (vi 0), (vi x58), (vi x59)] 137); R (vsl (some (⟨b60, 0, none⟩ : Addr)) 1 1) h61))))))))))))))))
theorem ok_R_rd_rest {u_rb u_ro : Nat} {h : Hp} {R : Value → Hp → Prop} (H : VC_R_rd_rest u_rb u_ro h R) : CallOK Tryz.prog 83 [(vhp u_rb u_ro)] h R :=
  call_of (cfg := ⟨[], [(11, ([7], [.one (.int .i64)], []))], []⟩) noNG mixed Tryz.func83 [.one (.hp u_rb u_ro)] (by kernel_rfl) rfl (by kernel_rfl) H
def VC_R_QueryOf (u_s : ByteArray) (h : Hp) (R : Value → Hp → Prop) : Prop :=
  (CallOK Tryz.prog 47 [(vs u_s)] h fun v1 h2 => ∃ (a3 : Option Addr) (n3 c3 : Nat) (x4 : Int), v1 = (vtup [(vsl a3 n3 c3), (vi x4)]) ∧ (((decide ((x4 : Int) > 0)) = true → R (vtup [(vag [(vsl none 0 0), (vsl none 0 0), (vsl none 0 0), (vi 0), (vi 0), (vi 0), (vi 0)]), (vi x4)]) h2) ∧ ((decide ((x4 : Int) > 0)) = false → (∀ (b6 : Nat), h2 b6 = none → let h7 : Hp := Hp.set h2 b6 (cellsO [(vsl a3 n3 c3), (vi 0), (vi 0), (vi 0)] 102); (CallOK Tryz.prog 48 [(vhp b6 0), (vs ⟨#[115, 101, 108, 101, 99, 116]⟩)] h7 fun v8 h9 => v8 = (vtup []) ∧ (let J145 : Option Addr → Nat → Nat → Option Addr → Nat → Nat → Option Addr → Nat → Nat → Int → Int → Hp → Prop := fun (a860 : Option Addr) (n860 c860 : Nat) (a861 : Option Addr) (n861 c861 : Nat) (a862 : Option Addr) (n862 c862 : Nat) (x863 : Int) (x864 : Int) (h865 : Hp) => (CallOK Tryz.prog 48 [(vhp b6 0), (vs ⟨#[102, 114, 111, 109]⟩)] h865 fun v866 h867 => v866 = (vtup []) ∧ (CallOK Tryz.prog 48 [(vhp b6 0), (vs ⟨#[101, 118, 101, 110, 116, 115]⟩)] h867 fun v868 h869 => v868 = (vtup []) ∧ (CallOK Tryz.prog 49 [(vhp b6 0), (vs ⟨#[119, 104, 101, 114, 101]⟩)] h869 fun v870 h871 => ∃ (p872 : Bool), v870 = (vb p872) ∧ (let J878 : Option Addr → Nat → Nat → Hp → Prop := fun (a936 : Option Addr) (n936 c936 : Nat) (h937 : Hp) => (CallOK Tryz.prog 49 [(vhp b6 0), (vs ⟨#[103, 114, 111, 117, 112]⟩)] h937 fun v938 h939 => ∃ (p940 : Bool), v938 = (vb p940) ∧ (let J948 : Option Addr → Nat → Nat → Hp → Prop := fun (a994 : Option Addr) (n994 c994 : Nat) (h995 : Hp) => (CallOK Tryz.prog 48 [(vhp b6 0), (vs ⟨#[119, 105, 110, 100, 111, 119]⟩)] h995 fun v996 h997 => v996 = (vtup []) ∧ (CallOK Tryz.prog 52 [(vhp b6 0), (vi 1000)] h997 fun v998 h999 => ∃ (x1000 : Int), v998 = (vi x1000) ∧ (CallOK Tryz.prog 49 [(vhp b6 0), (vs ⟨#[115, 108, 105, 100, 101]⟩)] h999 fun v1001 h1002 => ∃ (p1003 : Bool), v1001 = (vb p1003) ∧ (let J1009 : Int → Hp → Prop := fun (x1040 : Int) (h1041 : Hp) => (CallOK Tryz.prog 49 [(vhp b6 0), (vs ⟨#[100, 101, 108, 97, 121]⟩)] h1041 fun v1042 h1043 => ∃ (p1044 : Bool), v1042 = (vb p1044) ∧ (let J1050 : Int → Hp → Prop := fun (x1071 : Int) (h1072 : Hp) => (CallOK Tryz.prog 49 [(vhp b6 0), (vs ⟨#[108, 97, 116, 101]⟩)] h1072 fun v1073 h1074 => ∃ (p1075 : Bool), v1073 = (vb p1075) ∧ (let J1081 : Int → Hp → Prop := fun (x1092 : Int) (h1093 : Hp) => (∃ (x1094 : Int), (Hp.cell h1093 b6 (0 + 3) = some (vi x1094)) ∧ (∃ (x1095 : Int), ((decide ((x1094 : Int) = 0)) = true → Hp.cell h1093 b6 (0 + 1) = some (vi x1095)) ∧ (∃ (a1096 : Option Addr) (n1096 c1096 : Nat), ((decide ((x1094 : Int) = 0)) = true → Hp.cell h1093 b6 0 = some (vsl a1096 n1096 c1096)) ∧ (let J1100 : Hp → Prop := fun (h1101 : Hp) => (∃ (x1102 : Int), (Hp.cell h1101 b6 (0 + 3) = some (vi x1102)) ∧ (let J1109 : Hp → Prop := fun (h1110 : Hp) => (∃ (x1111 : Int), (Hp.cell h1110 b6 (0 + 3) = some (vi x1111)) ∧ (((decide ((x1111 : Int) > 0)) = true → (∃ (x1112 : Int), (Hp.cell h1110 b6 (0 + 3) = some (vi x1112)) ∧ ((Hp.cell h1110 b6 (0 + 3) = some (vi x1112)) ∧ R (vtup [(vag [(vsl none 0 0), (vsl none 0 0), (vsl none 0 0), (vi 0), (vi 0), (vi 0), (vi 0)]), (vi x1112)]) h1110))) ∧ ((decide ((x1111 : Int) > 0)) = false → R (vtup [(vag [(vsl a860 n860 c860), (vsl a936 n936 c936), (vsl a994 n994 c994), (vi x1000), (vi x1040), (vi x1071), (vi x1092)]), (vi 0)]) h1110))); (((decide ((x1102 : Int) = 0)) = true → (CallOK Tryz.prog 53 [(vag [(vsl a860 n860 c860), (vsl a936 n936 c936), (vsl a994 n994 c994), (vi x1000), (vi x1040), (vi x1071), (vi x1092)])] h1101 fun v1103 h1104 => ∃ (x1105 : Int), v1103 = (vi x1105) ∧ (Hp.store h1104 b6 (0 + 3) [(vi x1105)] fun h1106 => (J1109 h1106)))) ∧ ((decide ((x1102 : Int) = 0)) = false → (J1109 h1101))))); (((bif (decide ((x1094 : Int) = 0)) then (decide ((x1095 : Int) < ((n1096 : Nat) : Int))) else false) = true → (Hp.store h1093 b6 (0 + 3) [(vi 4)] fun h1097 => (J1100 h1097))) ∧ ((bif (decide ((x1094 : Int) = 0)) then (decide ((x1095 : Int) < ((n1096 : Nat) : Int))) else false) = false → (J1100 h1093))))))); ((p1075 = true → (CallOK Tryz.prog 52 [(vhp b6 0), (vi 1000)] h1074 fun v1076 h1077 => ∃ (x1078 : Int), v1076 = (vi x1078) ∧ (J1081 x1078 h1077))) ∧ (p1075 = false → (J1081 x864 h1074))))); ((p1044 = true → (CallOK Tryz.prog 52 [(vhp b6 0), (vi 1000)] h1043 fun v1045 h1046 => ∃ (x1047 : Int), v1045 = (vi x1047) ∧ (J1050 x1047 h1046))) ∧ (p1044 = false → (J1050 x863 h1043))))); ((p1003 = true → (CallOK Tryz.prog 52 [(vhp b6 0), (vi 1000)] h1002 fun v1004 h1005 => ∃ (x1006 : Int), v1004 = (vi x1006) ∧ (J1009 x1006 h1005))) ∧ (p1003 = false → (J1009 x1000 h1002))))))); ((p940 = true → (CallOK Tryz.prog 48 [(vhp b6 0), (vs ⟨#[98, 121]⟩)] h939 fun v941 h942 => v941 = (vtup []) ∧ (CallOK Tryz.prog 51 [(vhp b6 0), (vi 0)] h942 fun v943 h944 => ∃ (a945 : Option Addr) (n945 c945 : Nat), v943 = (vsl a945 n945 c945) ∧ (J948 a945 n945 c945 h944)))) ∧ (p940 = false → (J948 a862 n862 c862 h939))))); ((p872 = true → (CallOK Tryz.prog 51 [(vhp b6 0), (vi 0)] h871 fun v873 h874 => ∃ (a875 : Option Addr) (n875 c875 : Nat), v873 = (vsl a875 n875 c875) ∧ (J878 a875 n875 c875 h874))) ∧ (p872 = false → (J878 a861 n861 c861 h871))))))); (∃ (I11 : List Value → Hp → Prop) (m12 : List Value → Hp → Nat), I11 [(vb true), (vsl none 0 0), (vsl none 0 0), (vsl none 0 0), (vi 0), (vi 0), (vi 0), (vi 0)] h9 ∧ ∀ (vs13 : List Value) (h14 : Hp), I11 vs13 h14 → ∃ (p15 : Bool) (a16 : Option Addr) (n16 c16 : Nat) (a17 : Option Addr) (n17 c17 : Nat) (a18 : Option Addr) (n18 c18 : Nat) (x19 : Int) (x20 : Int) (x21 : Int) (x22 : Int), vs13 = [(vb p15), (vsl a16 n16 c16), (vsl a17 n17 c17), (vsl a18 n18 c18), (vi x19), (vi x20), (vi x21), (vi x22)] ∧ ((p15 = true → (∀ (b25 : Nat), h14 b25 = none → let h26 : Hp := Hp.set h14 b25 (cellsO [(vs ⟨#[99, 111, 117, 110, 116]⟩), (vs ⟨#[115, 117, 109]⟩), (vs ⟨#[109, 105, 110]⟩), (vs ⟨#[109, 97, 120]⟩)] 9); (∀ (b27 : Nat), h26 b27 = none → let h28 : Hp := Hp.set h26 b27 (cellsO [(vi 2), (vi 3), (vi 4), (vi 5)] 3); (let J56 : Int → Option Addr → Nat → Nat → Hp → Prop := fun (x95 : Int) (a96 : Option Addr) (n96 c96 : Nat) (h97 : Hp) => (let J102 : Hp → Prop := fun (h103 : Hp) => (CallOK Tryz.prog 48 [(vhp b6 0), (vs ⟨#[40]⟩)] h103 fun v104 h105 => v104 = (vtup []) ∧ (let J111 : Bool → Hp → Prop := fun (p113 : Bool) (h114 : Hp) => (let J120 : Int → Option Addr → Nat → Nat → Hp → Prop := fun (x132 : Int) (a133 : Option Addr) (n133 c133 : Nat) (h134 : Hp) => (CallOK Tryz.prog 48 [(vhp b6 0), (vs ⟨#[41]⟩)] h134 fun v135 h136 => v135 = (vtup []) ∧ (∀ (b137 : Nat), h136 b137 = none → let h138 : Hp := Hp.set h136 b137 (cellsO [(vi x132), (vsl a133 n133 c133)] 67); (SemOK Tryz.prog (Builtin.append_ #[24, 24] 24 #[(vsl a16 n16 c16), (vsl (some (⟨b137, 0, none⟩ : Addr)) 1 1)]) h138 fun v139 h140 => ∃ (a141 : Option Addr) (n141 c141 : Nat), v139 = (vsl a141 n141 c141) ∧ (CallOK Tryz.prog 49 [(vhp b6 0), (vs ⟨#[44]⟩)] h140 fun v142 h143 => ∃ (p144 : Bool), v142 = (vb p144) ∧ (I11 [(vb p144), (vsl a141 n141 c141), (vsl a17 n17 c17), (vsl a18 n18 c18), (vi x19), (vi x20), (vi x21), (vi x22)] h143 ∧ m12 [(vb p144), (vsl a141 n141 c141), (vsl a17 n17 c17), (vsl a18 n18 c18), (vi x19), (vi x20), (vi x21), (vi x22)] h143 < m12 vs13 h14))))); ((p113 = true → (J120 1 a96 n96 c96 h114)) ∧ (p113 = false → (CallOK Tryz.prog 51 [(vhp b6 0), (vi 0)] h114 fun v116 h117 => ∃ (a118 : Option Addr) (n118 c118 : Nat), v116 = (vsl a118 n118 c118) ∧ (J120 x95 a118 n118 c118 h117))))); (((decide ((x95 : Int) = 2)) = true → (CallOK Tryz.prog 49 [(vhp b6 0), (vs ⟨#[42]⟩)] h105 fun v106 h107 => ∃ (p108 : Bool), v106 = (vb p108) ∧ (J111 p108 h107))) ∧ ((decide ((x95 : Int) = 2)) = false → (J111 false h105))))); (((decide ((x95 : Int) = 0)) = true → (CallOK Tryz.prog 50 [(vhp b6 0), (vi 4)] h97 fun v98 h99 => v98 = (vtup []) ∧ (J102 h99))) ∧ ((decide ((x95 : Int) = 0)) = false → (J102 h97)))); (∃ (I30 : List Value → Hp → Prop) (m31 : List Value → Hp → Nat), I30 [(vi 0), (vi 0), (vsl none 0 0)] h28 ∧ ∀ (vs32 : List Value) (h33 : Hp), I30 vs32 h33 → ∃ (x34 : Int) (x35 : Int) (a36 : Option Addr) (n36 c36 : Nat), vs32 = [(vi x34), (vi x35), (vsl a36 n36 c36)] ∧ (((bif (decide ((x34 : Int) < 4)) then (decide ((x35 : Int) = 0)) else false) = true → (let J50 : Int → Hp → Prop := fun (x53 : Int) (h54 : Hp) => (∃ (x55 : Int), (IsW x55 (x34 + 1)) ∧ (I30 [(vi x55), (vi x53), (vsl a36 n36 c36)] h54 ∧ m31 [(vi x55), (vi x53), (vsl a36 n36 c36)] h54 < m31 vs32 h33)); (∃ (b39 o40 : Nat), ((some (⟨b25, 0, none⟩ : Addr)) = some ⟨b39, o40, none⟩ ∧ (0 : Int) ≤ x34 ∧ x34 < ((4 : Nat) : Int)) ∧ (∃ (s41 : ByteArray), (Hp.cell h33 b39 (o40 + x34.toNat * 1) = some (vs s41)) ∧ (CallOK Tryz.prog 49 [(vhp b6 0), (vs s41)] h33 fun v42 h43 => ∃ (p44 : Bool), v42 = (vb p44) ∧ ((p44 = true → (∃ (b45 o46 : Nat), ((some (⟨b27, 0, none⟩ : Addr)) = some ⟨b45, o46, none⟩ ∧ (0 : Int) ≤ x34 ∧ x34 < ((4 : Nat) : Int)) ∧ (∃ (x47 : Int), (Hp.cell h43 b45 (o46 + x34.toNat * 1) = some (vi x47)) ∧ (J50 x47 h43)))) ∧ (p44 = false → (J50 x35 h43)))))))) ∧ ((bif (decide ((x34 : Int) < 4)) then (decide ((x35 : Int) = 0)) else false) = false → (J56 x35 a36 n36 c36 h33)))))))) ∧ (p15 = false → (J145 a16 n16 c16 a17 n17 c17 a18 n18 c18 x21 x22 h14))))))))))
theorem ok_R_QueryOf {u_s : ByteArray} {h : Hp} {R : Value → Hp → Prop} (H : VC_R_QueryOf u_s h R) : CallOK Tryz.prog 17 [(vs u_s)] h R :=
  call_of (cfg := ⟨[27], [(13, ([12], [.one (.int .i64)], [(2, [.int .i64, .slice])])), (8, ([8], [.one (.bool)], [(1, [.slice, .slice, .slice, .int .i64, .int .i64, .int .i64, .int .i64])]))], [(51, [0, 1, 2, 3, 4, 5, 6, 7, 8, 9, 10, 11, 12, 13, 14, 15, 16]), (56, [0, 1, 2, 3, 4, 5, 6])]⟩) noNG mixed Tryz.func17 [.one (.v (vs u_s))] (by kernel_rfl) rfl (by kernel_rfl) H
end Go.Proofs.YtejefijpcggkfaaGreatDoor
namespace Go.Proofs.YtejefijpcggkfaaGreatDoor
open Go Go.Vc Go.Txt
set_option linter.unusedVariables false
set_option maxRecDepth 100000
structure RrAt (h0 h : Hp) (g : Nat) (W : List Wd) (s : RS) : Prop where
  b : ∃ (a : Option Addr) (c i : Nat), h g = some (cellsO [vsl a W.length c, vi i, vi s.deep, vi s.f] 102) ∧ SlB h0 a W.length W ∧ i ≤ W.length ∧ s.ws = (if s.f = 0 then W.drop i else [])
  l : h0.le h
  z : h0 g = none
  f0 : 0 ≤ s.f
  n : W.length ≤ 1000
  w : ∀ x ∈ W, x.length ≤ 1000000
theorem RrAt.al {h0 h : Hp} {g : Nat} {W : List Wd} {s : RS} (D : RrAt h0 h g W s) : h g ≠ none := by
  obtain ⟨a, c, i, hb, _⟩ := D.b
  rw [hb]; simp
theorem RrAt.le {h0 h h' : Hp} {g : Nat} {W : List Wd} {s : RS} (D : RrAt h0 h g W s) (l : h.le h') : RrAt h0 h' g W s := by
  obtain ⟨a, c, i, hb, hS, hi, hw⟩ := D.b
  exact ⟨⟨a, c, i, l g _ hb, hS, hi, hw⟩, Hp.le_trans D.l l, D.z, D.f0, D.n, D.w⟩
theorem RrAt.good {h0 h : Hp} {g : Nat} {W : List Wd} {s : RS} (D : RrAt h0 h g W s) : s.good := by
  obtain ⟨a, c, i, hb, hS, hi, hw⟩ := D.b
  intro hf
  rw [hw, if_neg hf]
theorem RrAt.c2 {h0 h : Hp} {g : Nat} {W : List Wd} {s : RS} (D : RrAt h0 h g W s) : h.cell g (0 + 2) = some (vi s.deep) := by
  obtain ⟨a, c, i, hb, _⟩ := D.b
  exact cell_cells hb rfl
theorem RrAt.c3 {h0 h : Hp} {g : Nat} {W : List Wd} {s : RS} (D : RrAt h0 h g W s) : h.cell g (0 + 3) = some (vi s.f) := by
  obtain ⟨a, c, i, hb, _⟩ := D.b
  exact cell_cells hb rfl
theorem RrAt.adv {h0 h : Hp} {g : Nat} {W : List Wd} {s : RS} (D : RrAt h0 h g W s) {w : Wd} {r : List Wd} (hs : s.ws = w :: r) : ∃ i : Nat, h.cell g (0 + 1) = some (vi i) ∧ (i : Int) + 1 ≤ 1001 ∧ ∀ {K : Hp → Prop}, (∀ h', RrAt h0 h' g W ⟨r, s.deep, s.f⟩ → Mut (At g) h (At g) h' → K h') → h.store g (0 + 1) [vi ((i : Int) + 1)] K := by
  obtain ⟨a, c, i, hb, hS, hi, hw⟩ := D.b
  have hf : s.f = 0 := by
    rcases Decidable.em (s.f = 0) with q | q
    · exact q
    · rw [hs, if_neg q] at hw; cases hw
  rw [hs, if_pos hf] at hw
  have hlt : i < W.length := by
    rcases Nat.lt_or_ge i W.length with q | q
    · exact q
    · rw [List.drop_eq_nil_of_le q] at hw; cases hw
  have hr : r = W.drop (i + 1) := by
    rw [List.drop_eq_getElem_cons hlt] at hw
    exact (List.cons.inj hw).2
  refine ⟨i, cell_cells hb rfl, by have := D.n; omega, fun hK => ?_⟩
  refine store_cells hb (by simp) (hK _ ⟨⟨a, c, i + 1, Hp.set_same _ _ _, hS, by omega, ?_⟩, le_put D.l D.z _, D.z, D.f0, D.n, D.w⟩ (mut_set _ _ _))
  show r = if s.f = 0 then W.drop (i + 1) else []
  rw [if_pos hf, hr]
theorem RrAt.put2 {h0 h : Hp} {g : Nat} {W : List Wd} {s : RS} (D : RrAt h0 h g W s) {d : Int} {K : Hp → Prop} (hK : ∀ h', RrAt h0 h' g W ⟨s.ws, d, s.f⟩ → Mut (At g) h (At g) h' → K h') : h.store g (0 + 2) [vi d] K := by
  obtain ⟨a, c, i, hb, hS, hi, hw⟩ := D.b
  exact store_cells hb (by simp) (hK _ ⟨⟨a, c, i, Hp.set_same _ _ _, hS, hi, hw⟩, le_put D.l D.z _, D.z, D.f0, D.n, D.w⟩ (mut_set _ _ _))
theorem rd_fail_ok {h0 h : Hp} {g : Nat} {W : List Wd} {s : RS} (D : RrAt h0 h g W s) {f : Int} (hf : 0 < f) {R : Value → Hp → Prop} (hK : ∀ h', RrAt h0 h' g W (s.fail f) → Mut (At g) h (At g) h' → R (vtup []) h') : CallOK Tryz.prog 50 [vhp g 0, vi f] h R := by
  refine ok_R_rd_fail ?_
  unfold VC_R_rd_fail
  have gd := D.good
  refine ⟨_, D.c3, fun e => ?_, fun e => ?_⟩
  · have e : s.f = 0 := of_decide_eq_true e
    obtain ⟨a, c, i, hb, hS, hi, hw⟩ := D.b
    have ef : s.fail f = ⟨[], s.deep, f⟩ := by unfold RS.fail; rw [if_pos e]
    rw [ef] at hK
    refine store_cells hb (by simp) (hK _ ⟨⟨a, c, i, Hp.set_same _ _ _, hS, hi, ?_⟩, le_put D.l D.z _, D.z, by show 0 ≤ f; omega, D.n, D.w⟩ (mut_set _ _ _))
    show [] = if f = 0 then W.drop i else []
    rw [if_neg (by omega)]
  · have e : s.f ≠ 0 := of_decide_eq_false e
    have ef : s.fail f = s := by
      unfold RS.fail
      rw [if_neg e, ← gd e]
    rw [ef] at hK
    exact hK h D (Mut.of_le (Hp.le_refl _))
def nextW (s : RS) : Wd := s.ws.headD []
theorem rd_next_ok {h0 h : Hp} {g : Nat} {W : List Wd} {s : RS} (D : RrAt h0 h g W s) {R : Value → Hp → Prop} (hK : R (vs (bs (nextW s))) h) : CallOK Tryz.prog 78 [vhp g 0] h R := by
  refine ok_R_rd_next ?_
  unfold VC_R_rd_next
  have f0 := D.f0
  unfold nextW at hK
  obtain ⟨a, c, i, hb, hS, hi, hw⟩ := D.b
  have c0 : h.cell g 0 = some (vsl a W.length c) := cell_cells hb rfl
  have c1 : h.cell g (0 + 1) = some (vi i) := cell_cells hb rfl
  have c3 : h.cell g (0 + 3) = some (vi s.f) := cell_cells hb rfl
  refine ⟨_, c3, _, fun _ => c1, _, _, _, fun _ => c0, ?_⟩
  rw [cor]
  refine ⟨fun e => ?_, fun e => ?_⟩
  · have e := of_decide_eq_true e
    have : s.ws = [] := by
      rw [hw]
      split
      · exact List.drop_eq_nil_of_le (by omega)
      · rfl
    rw [this] at hK
    exact hK
  · have e := of_decide_eq_false e
    have hlt : i < W.length := by omega
    obtain ⟨b, o, ha, hc⟩ := SlP.get1 (SlP.le D.l hS) hlt
    refine ⟨_, _, _, c0, _, c1, b, o, ⟨ha, by omega, by omega⟩, _, hc, ?_⟩
    rw [hw, if_pos (by omega), List.drop_eq_getElem_cons hlt] at hK
    rw [List.getD_eq_getElem?_getD, List.getElem?_eq_getElem hlt]
    exact hK
theorem next_one {s : RS} {w : Wd} (hw : w ≠ []) : ((s.is [w]).1 ≠ [] ↔ nextW s = w) ∧ (nextW s = w → ∃ r, s.ws = w :: r ∧ (s.is [w]).2 = ⟨r, s.deep, s.f⟩) ∧ (nextW s ≠ w → (s.is [w]).2 = s) := by
  unfold nextW RS.is
  cases h : s.ws with
  | nil => exact ⟨⟨fun q => absurd rfl q, fun q => absurd q.symm hw⟩, fun q => absurd q.symm hw, fun _ => rfl⟩
  | cons v r =>
    by_cases e : v = w
    · subst e
      refine ⟨⟨fun _ => rfl, fun _ => ?_⟩, fun _ => ⟨r, rfl, ?_⟩, fun q => absurd rfl q⟩
      · simpa using hw
      · simp
    · refine ⟨⟨fun q => ?_, fun q => absurd q e⟩, fun q => absurd q e, fun _ => ?_⟩
      · simp [e] at q
      · simp [e]
theorem rd_take_ok {h0 h : Hp} {g : Nat} {W : List Wd} {s : RS} (D : RrAt h0 h g W s) {w : Wd} (hw : w ≠ []) {R : Value → Hp → Prop} (hK : ∀ h', RrAt h0 h' g W (s.is [w]).2 → Mut (At g) h (At g) h' → R (vb (decide ((s.is [w]).1 ≠ []))) h') : CallOK Tryz.prog 49 [vhp g 0, vs (bs w)] h R := by
  refine ok_R_rd_take ?_
  unfold VC_R_rd_take
  obtain ⟨n1, n2, n3⟩ := next_one (s := s) hw
  refine rd_next_ok D ⟨_, rfl, _, rd_eqBs (b := []), _, fun _ => rd_neBs, ?_⟩
  have hc : (bif decide (nextW s = []) then true else (!decide (nextW s = w))) = !decide (nextW s = w) := by
    by_cases e : nextW s = []
    · rw [decide_eq_true e, decide_eq_false (by rw [e]; exact fun h => hw h.symm)]; rfl
    · rw [decide_eq_false e]; rfl
  rw [hc]
  refine ⟨fun e => ?_, fun e => ?_⟩
  · have e : nextW s ≠ w := by simpa using e
    have := hK h (by rw [n3 e]; exact D) (Mut.of_le (Hp.le_refl _))
    rw [decide_eq_false (fun q => e (n1.1 q))] at this
    exact this
  · have e : nextW s = w := by simpa using e
    obtain ⟨r, hr, hr2⟩ := n2 e
    obtain ⟨i, hc, hi, hst⟩ := D.adv hr
    refine ⟨_, hc, _, isW (by unfold InR; omega), hst fun h' D' M' => ?_⟩
    have := hK h' (by rw [hr2]; exact D') M'
    rw [decide_eq_true (n1.2 e)] at this
    exact this
theorem rd_must_ok {h0 h : Hp} {g : Nat} {W : List Wd} {s : RS} (D : RrAt h0 h g W s) {w : Wd} (hw : w ≠ []) {R : Value → Hp → Prop} (hK : ∀ h', RrAt h0 h' g W (s.must w) → Mut (At g) h (At g) h' → R (vtup []) h') : CallOK Tryz.prog 48 [vhp g 0, vs (bs w)] h R := by
  refine ok_R_rd_must ?_
  unfold VC_R_rd_must
  unfold RS.must at hK
  refine rd_take_ok D hw fun h2 D2 M2 => ⟨_, rfl, fun e => ?_, fun e => ?_⟩
  · have e : (s.is [w]).1 = [] := by simpa using e
    rw [if_pos e] at hK
    exact rd_fail_ok D2 (by decide) fun h5 D5 M5 => ⟨rfl, hK h5 D5 (M2.trans M5)⟩
  · have e : (s.is [w]).1 ≠ [] := by simpa using e
    rw [if_neg e] at hK
    exact hK h2 D2 M2
theorem rd_number_ok {h0 h : Hp} {g : Nat} {W : List Wd} {s : RS} (D : RrAt h0 h g W s) {most : Int} (hm : 0 ≤ most) (hm2 : most ≤ 1000000000000) {R : Value → Hp → Prop} (hK : ∀ h', RrAt h0 h' g W (s.number most).2 → Mut (At g) h (At g) h' → R (vi (s.number most).1) h') : CallOK Tryz.prog 52 [vhp g 0, vi most] h R := by
  refine ok_R_rd_number ?_
  unfold VC_R_rd_number
  have hlen : (nextW s).length ≤ 1000000 := by
    unfold nextW
    cases h : s.ws with
    | nil => decide
    | cons w r =>
      obtain ⟨a, c, i, hb, hS, hi, hw⟩ := D.b
      refine D.w w (List.mem_of_mem_drop (i := i) ?_)
      rw [h] at hw
      split at hw
      · rw [← hw]; exact List.mem_cons_self ..
      · cases hw
  have hfail : s.number most = (0, s.fail 4) → CallOK Tryz.prog 50 [vhp g 0, vi 4] h fun v7 h8 => v7 = vtup [] ∧ R (vi 0) h8 := by
    intro e
    rw [e] at hK
    exact rd_fail_ok D (by decide) fun h' D' M => ⟨rfl, hK h' D' M⟩
  refine rd_next_ok D ⟨_, rfl, R_natural_ok hlen hm hm2 ⟨_, rfl, fun e => ?_, fun e => ?_⟩⟩
  · have e := of_decide_eq_true e
    refine hfail ?_
    unfold RS.number
    unfold nextW at e
    cases h : s.ws with
    | nil => rfl
    | cons w r => rw [h] at e; exact if_pos e
  · have e := of_decide_eq_false e
    unfold nextW at e ⊢
    cases hws : s.ws with
    | nil =>
      rw [hws] at e
      exact absurd (show natF [] most false < 0 by unfold natF; simp) e
    | cons w r =>
      rw [hws] at e
      have hn : s.number most = (natF w most false, ⟨r, s.deep, s.f⟩) := by
        unfold RS.number
        rw [hws]
        exact if_neg e
      rw [hn] at hK
      obtain ⟨i, hc, hi, hst⟩ := D.adv hws
      exact ⟨_, hc, _, isW (by unfold InR; omega), hst fun h' D' M' => hK h' D' M'⟩
def inS (s : RS) : RS := if s.deep + 1 > 12 then (⟨s.ws, s.deep + 1, s.f⟩ : RS).fail 2 else ⟨s.ws, s.deep + 1, s.f⟩
theorem downP_in (p : Ps) (s : RS) : downP p s = ((p (inS s)).1, ⟨(p (inS s)).2.ws, (p (inS s)).2.deep - 1, (p (inS s)).2.f⟩) := rfl
theorem rd_in_ok {h0 h : Hp} {g : Nat} {W : List Wd} {s : RS} (D : RrAt h0 h g W s) (hd0 : 0 ≤ s.deep) (hd1 : s.deep ≤ 1000000) {R : Value → Hp → Prop} (hK : ∀ h', RrAt h0 h' g W (inS s) → Mut (At g) h (At g) h' → R (vtup []) h') : CallOK Tryz.prog 80 [vhp g 0] h R := by
  refine ok_R_rd_in ?_
  unfold VC_R_rd_in
  unfold inS at hK
  refine ⟨_, D.c2, _, isW (by unfold InR; omega), D.put2 fun h3 D3 M3 => ⟨_, D3.c2, fun e => ?_, fun e => ?_⟩⟩
  · have e : s.deep + 1 > 12 := of_decide_eq_true e
    rw [if_pos e] at hK
    exact rd_fail_ok D3 (by decide) fun h' D' M' => ⟨rfl, hK h' D' (M3.trans M')⟩
  · have e : ¬ s.deep + 1 > 12 := of_decide_eq_false e
    rw [if_neg e] at hK
    exact hK h3 D3 M3
end Go.Proofs.YtejefijpcggkfaaGreatDoor
namespace Go.Proofs.YtejefijpcggkfaaGreatDoor
open Go Go.Vc Go.Txt
set_option linter.unusedVariables false
set_option maxRecDepth 100000
theorem stuck_fail {s : RS} (hg : s.good) (hf : s.f ≠ 0) (f : Int) : s.fail f = s := by
  unfold RS.fail
  rw [if_neg hf, ← hg hf]
theorem stuck_join {s : RS} (hg : s.good) (hf : s.f ≠ 0) (op : Int) (x y : List Nd) : (joinP op x y s).2 = s := by
  unfold joinP
  split
  · exact stuck_fail hg hf 2
  · rfl
theorem rd_put_ok {h0 h : Hp} {g : Nat} {W : List Wd} {s : RS} (D : RrAt h0 h g W s) {op : Int} {ax ay : Option Addr} {nx ny cx cy : Nat} {x y : List Nd} (X : s.f = 0 → SlP encN h ax nx x ∧ x.length ≤ 40) (Y : s.f = 0 → SlP encN h ay ny y ∧ WfL y ∧ y.length ≤ 40 ∧ (0 < y.length ↔ 1 < arI op))
    {R : Value → Hp → Prop} (hK : ∀ a n c h', RrAt h0 h' g W (joinP op x y s).2 → ((joinP op x y s).2.f = 0 → NdAt h h' a n (joinP op x y s).1) → Mut (At g) h (At g) h' → R (vsl a n c) h') : CallOK Tryz.prog 81 [vhp g 0, vi op, vsl ax nx cx, vsl ay ny cy] h R := by
  refine ok_R_rd_put ?_
  unfold VC_R_rd_put
  have f0 := D.f0
  refine ⟨_, D.c3, fun e => ?_, fun e => ?_⟩
  · have e : s.f ≠ 0 := by have := of_decide_eq_true e; omega
    rw [stuck_join D.good e] at hK
    exact hK ax nx cx h D (fun q => absurd q e) (Mut.of_le (Hp.le_refl _))
  have hf : s.f = 0 := by have := of_decide_eq_false e; omega
  obtain ⟨SX, hx⟩ := X hf
  obtain ⟨SY, WY, hy, hyo⟩ := Y hf
  clear X Y
  obtain rfl := SX.1
  obtain rfl := SY.1
  unfold joinP at hK
  refine ⟨_, isW (by unfold InR; omega), _, isW (by unfold InR; omega), fun e => ?_, fun e => ?_⟩
  · have e := of_decide_eq_true e
    rw [if_pos (by omega)] at hK
    refine rd_fail_ok D (by decide) fun h6 D6 M6 => ⟨rfl, hK _ _ _ h6 D6 (fun q => ?_) M6⟩
    unfold RS.fail at q
    rw [if_pos hf] at q
    exact absurd q (by show (2 : Int) ≠ 0; decide)
  have e := of_decide_eq_false e
  rw [if_neg (by omega)] at hK
  simp only at hK
  refine sem_clone elNd SX.2 (flatMap_length encN_len x) (one_nds x) (by omega) (by omega) fun a3 c3 h2 V2 => ⟨_, _, _, rfl, ?_⟩
  refine ⟨fun vs hh => ∃ (i : Nat) (a : Option Addr) (c : Nat), vs = [vsl a (x ++ (y.take i).map (shN x.length)).length c, vi i] ∧ i ≤ y.length ∧ NdVec h hh a c (x ++ (y.take i).map (shN x.length)), fun vs hh => y.length - (vint vs 1).toNat,
    ⟨0, a3, c3, by simp, Nat.zero_le _, by have V3 : NdVec h h2 a3 c3 x := V2; simpa using V3⟩, ?_⟩
  rintro vs hh ⟨i, a4, c4, rfl, hi, V⟩
  have hlen : (x ++ (y.take i).map (shN x.length)).length = x.length + i := by simp; omega
  refine ⟨_, _, _, _, rfl, fun g' => ?_, fun g' => ?_⟩
  · have hlt : i < y.length := by have := of_decide_eq_true g'; omega
    have hxx : y[i]? = some y[i] := List.getElem?_eq_getElem hlt
    have wn := WY _ _ hxx
    obtain ⟨b, o, ha, hr⟩ := (SY.le V.le0).get encN_len (by decide) hxx
    have tk : (y.take (i + 1)).map (shN x.length) = (y.take i).map (shN x.length) ++ [shN x.length y[i]] := by
      rw [List.take_succ_eq_append_getElem hlt, List.map_append]; rfl
    generalize y[i] = z at *
    refine ⟨b, o, ⟨ha, by omega, by omega⟩, _, _, _, _, _, _, hr, R_Arity_ok ⟨_, rfl, ?_⟩⟩
    intro J34
    have hJ : ∀ x', x' = (shN (x.length : Int) z).x → J34 x' := by
      intro x' hx'
      unfold J34
      intro J45
      have h45 : ∀ y', y' = (shN (x.length : Int) z).y → J45 y' := by
        rintro y' rfl
        subst hx'
        intro b49 hb49 h50
        refine V.app (x := shN (x.length : Int) z) elNd encN_len one_encN (by omega) (by omega) hb49 fun a' c' h' V' => ⟨_, _, _, rfl, _, isW (by unfold InR; omega), ⟨i + 1, a', c', ?_, by omega, ?_⟩, by simp [vint]; omega⟩
        · rw [tk, ← List.append_assoc]; rfl
        · rw [tk, ← List.append_assoc]; exact V'
      clear_value J45
      refine ⟨fun q => ?_, fun q => ?_⟩
      · have q := of_decide_eq_true q
        have hy2 := wn.y (by omega)
        refine ⟨_, isW (by unfold InR; omega), h45 _ ?_⟩
        unfold shN
        simp only
        rw [if_pos (show 1 < arI z.op by omega)]
      · have q := of_decide_eq_false q
        refine h45 _ ?_
        unfold shN
        simp only
        rw [if_neg (show ¬ 1 < arI z.op by omega)]
    clear_value J34
    refine ⟨fun q => ?_, fun q => ?_⟩
    · have q := of_decide_eq_true q
      have hX := wn.x (by omega)
      refine ⟨_, isW (by unfold InR; omega), hJ _ ?_⟩
      unfold shN
      simp only
      rw [if_pos (show 0 < arI z.op by omega)]
    · have q := of_decide_eq_false q
      refine hJ _ ?_
      unfold shN
      simp only
      rw [if_neg (show ¬ 0 < arI z.op by omega)]
  · have hge : i = y.length := by have := of_decide_eq_false g'; omega
    subst hge
    rw [List.take_of_length_le (Nat.le_refl _)] at V hlen ⊢
    refine ⟨_, isW (by unfold InR; omega), ?_⟩
    intro J60
    have hJ : ∀ y', y' = (if 1 < arI op then ((x.length + y.length : Nat) : Int) - 1 else 0) → J60 y' := by
      rintro y' rfl b66 hb66
      intro h67
      refine V.app (x := ⟨op, (x.length : Int) - 1, if 1 < arI op then ((x.length + y.length : Nat) : Int) - 1 else 0, 0, (0, 0)⟩) elNd encN_len one_encN (by omega) (by omega) hb66 fun a' c' h' V' => ⟨_, _, _, rfl, ?_⟩
      have V'' : NdVec h h' a' c' (joinL op x y) := V'
      refine hK a' _ c' h' (D.le V''.le0) (fun _ => ⟨V''.slp encN_len (by decide), fun b o e => ?_⟩) (Mut.of_le V''.le0)
      obtain rfl := (OwnV.own V'').at0 b o e
      exact OwnV.new V'' b e
    clear_value J60
    refine ⟨fun q => ?_, fun q => ?_⟩
    · have q := of_decide_eq_true q
      refine ⟨_, isW (by unfold InR; omega), hJ _ ?_⟩
      rw [if_pos (hyo.1 (by omega)), hlen]
    · have q := of_decide_eq_false q
      refine hJ _ ?_
      rw [if_neg (fun h => by have := hyo.2 h; omega)]
def RReads (k : Int) (P : Ps) (n : Nat) : Prop := ∀ {h0 h : Hp} {g : Nat} {W : List Wd} {s : RS}, RrAt h0 h g W s → SOk n s → ∀ {R : Value → Hp → Prop}, (∀ a m c h', RrAt h0 h' g W (P s).2 → ((P s).2.f = 0 → NdAt h h' a m (P s).1) → Mut (At g) h (At g) h' → R (vsl a m c) h') → CallOK Tryz.prog 51 [vhp g 0, vi k] h R
theorem stuck {P : Ps} {n : Nat} (kp : KP P n) {s : RS} (S : SOk n s) (hf : s.f ≠ 0) : (P s).2 = s := by
  have k := kp s S.good (Nat.le_of_lt S.len)
  have h1 := S.good hf
  have h2 := k.len
  have h3 := k.deep
  have h4 := k.fst hf
  obtain ⟨ws, d, f⟩ := s
  simp only at h1 h2 h3 h4 hf ⊢
  subst h1
  have h5 : (P ⟨[], d, f⟩).2.ws = [] := List.length_eq_zero_iff.1 (by simpa using h2)
  generalize (P ⟨[], d, f⟩).2 = t at *
  obtain ⟨ws, d', f'⟩ := t
  simp only at h3 h4 h5
  rw [h3, h4, h5]
theorem level_rows_ok {k : Int} (hk : k = 0 ∨ k = 1 ∨ k = 4 ∨ k = 5) {P : Ps} {n : Nat} (kp : KP P n) (H : ∀ {h0 h : Hp} {g : Nat} {W : List Wd} {s : RS}, RrAt h0 h g W s → SOk n s → ∀ {R : Value → Hp → Prop}, (∀ a m c h', RrAt h0 h' g W (P s).2 → ((P s).2.f = 0 → NdAt h h' a m (P s).1) → Mut (At g) h (At g) h' → R (vsl a m c) h') → CallOK Tryz.prog 79 [vhp g 0, vi k] h R) : RReads k P n := by
  intro h0 h g W s D S R hK
  refine ok_R_rd_level ?_
  unfold VC_R_rd_level
  have f0 := D.f0
  refine ⟨_, D.c3, fun e => ?_, fun e => ?_⟩
  · have e : s.f ≠ 0 := by have := of_decide_eq_true e; omega
    rw [stuck kp S e] at hK
    exact hK _ _ _ h D (fun q => absurd q e) (Mut.of_le (Hp.le_refl _))
  intro J7
  have h7 : J7 true := ⟨fun _ => H D S fun a m c h' D' N' M' => ⟨_, _, _, rfl, hK a m c h' D' N' M'⟩, fun q => by cases q⟩
  clear_value J7
  refine ⟨fun e => by rw [e]; exact h7, fun e1 => ⟨fun e => by rw [e]; exact h7, fun e2 => ⟨fun e => by rw [e]; exact h7, fun e3 => ?_⟩⟩⟩
  have e1 := of_decide_eq_false e1
  have e2 := of_decide_eq_false e2
  have e3 := of_decide_eq_false e3
  rw [decide_eq_true (show k = 5 by omega)]
  exact h7
theorem level_cmp_ok {P : Ps} {n : Nat} (kp : KP P n) (H : ∀ {h0 h : Hp} {g : Nat} {W : List Wd} {s : RS}, RrAt h0 h g W s → SOk n s → ∀ {R : Value → Hp → Prop}, (∀ a m c h', RrAt h0 h' g W (P s).2 → ((P s).2.f = 0 → NdAt h h' a m (P s).1) → Mut (At g) h (At g) h' → R (vsl a m c) h') → CallOK Tryz.prog 82 [vhp g 0] h R) : RReads 3 P n := by
  intro h0 h g W s D S R hK
  refine ok_R_rd_level ?_
  unfold VC_R_rd_level
  have f0 := D.f0
  refine ⟨_, D.c3, fun e => ?_, fun e => ?_⟩
  · have e : s.f ≠ 0 := by have := of_decide_eq_true e; omega
    rw [stuck kp S e] at hK
    exact hK _ _ _ h D (fun q => absurd q e) (Mut.of_le (Hp.le_refl _))
  refine ⟨fun e => absurd e (by decide), fun _ => ⟨fun e => absurd e (by decide), fun _ => ⟨fun e => absurd e (by decide), fun _ => ⟨fun e => absurd e (by decide), fun _ => ?_⟩⟩⟩⟩
  refine ⟨fun e => absurd e (by decide), fun _ => ⟨fun e => absurd e (by decide), fun _ => ⟨fun _ => H D S fun a m c h' D' N' M' => ⟨_, _, _, rfl, hK a m c h' D' N' M'⟩, fun e => absurd e (by decide)⟩⟩⟩
theorem level_rest_ok {P : Ps} {n : Nat} (kp : KP P n) (H : ∀ {h0 h : Hp} {g : Nat} {W : List Wd} {s : RS}, RrAt h0 h g W s → SOk n s → s.f = 0 → ∀ {R : Value → Hp → Prop}, (∀ a m c h', RrAt h0 h' g W (P s).2 → ((P s).2.f = 0 → NdAt h h' a m (P s).1) → Mut (At g) h (At g) h' → R (vsl a m c) h') → CallOK Tryz.prog 83 [vhp g 0] h R) : RReads 7 P n := by
  intro h0 h g W s D S R hK
  refine ok_R_rd_level ?_
  unfold VC_R_rd_level
  have f0 := D.f0
  refine ⟨_, D.c3, fun e => ?_, fun e => ?_⟩
  · have e : s.f ≠ 0 := by have := of_decide_eq_true e; omega
    rw [stuck kp S e] at hK
    exact hK _ _ _ h D (fun q => absurd q e) (Mut.of_le (Hp.le_refl _))
  have hf : s.f = 0 := by have := of_decide_eq_false e; omega
  refine ⟨fun e => absurd e (by decide), fun _ => ⟨fun e => absurd e (by decide), fun _ => ⟨fun e => absurd e (by decide), fun _ => ⟨fun e => absurd e (by decide), fun _ => ?_⟩⟩⟩⟩
  refine ⟨fun e => absurd e (by decide), fun _ => ⟨fun e => absurd e (by decide), fun _ => ⟨fun e => absurd e (by decide), fun _ => H D S hf fun a m c h' D' N' M' => ⟨_, _, _, rfl, hK a m c h' D' N' M'⟩⟩⟩⟩
theorem is_oneR {s : RS} {w : Wd} (hw : w ≠ []) (h : (s.is [w]).1 = []) : (s.is [w]).2 = s := by
  obtain ⟨n1, n2, n3⟩ := next_one (s := s) hw
  exact n3 fun q => absurd h (n1.2 q)
def signP (w : Wd) (op : Int) (U A : Ps) : Ps := fun s => if (s.is [w]).1 = [] then A s else joinP op (downP U (s.is [w]).2).1 [] (downP U (s.is [w]).2).2
theorem level_sign_ok {k : Int} {w : Wd} {op : Int} (hk : (k = 2 ∧ w = wNot ∧ op = 4) ∨ (k = 6 ∧ w = wMinus ∧ op = 3)) {U A : Ps} {n : Nat} (ku : KP U n) (kp : KP (signP w op U A) (n + 1)) (FU : RReads k U n) (FA : RReads (k + 1) A (n + 1)) : RReads k (signP w op U A) (n + 1) := by
  intro h0 h g W s D S R hK
  refine ok_R_rd_level ?_
  unfold VC_R_rd_level
  have f0 := D.f0
  refine ⟨_, D.c3, fun e => ?_, fun e => ?_⟩
  · have e : s.f ≠ 0 := by have := of_decide_eq_true e; omega
    rw [stuck kp S e] at hK
    exact hK _ _ _ h D (fun q => absurd q e) (Mut.of_le (Hp.le_refl _))
  have hw : w ≠ [] := by rcases hk with ⟨_, rfl, _⟩ | ⟨_, rfl, _⟩ <;> decide
  have hop : arI op = 1 := by rcases hk with ⟨_, _, rfl⟩ | ⟨_, _, rfl⟩ <;> decide
  have hk2 : k = 2 ∨ k = 6 := by rcases hk with ⟨h, _⟩ | ⟨h, _⟩ <;> omega
  have io := @is_oneR s w hw
  have gi := goes_is S.good [w]
  have tk := @taken s [w]
  unfold signP at hK
  refine ⟨fun e => absurd (of_decide_eq_true e) (by omega), fun _ => ⟨fun e => absurd (of_decide_eq_true e) (by omega), fun _ => ⟨fun e => absurd (of_decide_eq_true e) (by omega), fun _ => ⟨fun e => absurd (of_decide_eq_true e) (by omega), fun _ => ?_⟩⟩⟩⟩
  intro J14
  have h14 : J14 true := by
    refine ⟨fun _ => ?_, fun q => by cases q⟩
    intro J18
    have h18 : J18 (bs w) op := by
      refine rd_take_ok D hw fun h39 D39 M39 => ⟨_, rfl, fun e => ?_, fun e => ?_⟩
      · have e : (s.is [w]).1 = [] := by simpa using e
        rw [if_pos e] at hK
        rw [io e] at D39
        exact ⟨_, isW (by unfold InR; omega), FA D39 S fun a m c h' D' N' M' => ⟨_, _, _, rfl, hK a m c h' D' (fun q => (N' q).base (M39.up D39.al)) (M39.trans M')⟩⟩
      · have e : (s.is [w]).1 ≠ [] := by simpa using e
        rw [if_neg e] at hK
        have tk := tk e
        have S1 := S.goes gi
        have d0 := S1.d0
        have d1 := S1.d1
        have Sn : SOk n (s.is [w]).2 := ⟨S1.good, by have := S.len; omega, S1.big, d0, d1⟩
        generalize (s.is [w]).2 = s1 at *
        have hdp := gi.deep
        have sd1 := S.d1
        refine rd_in_ok D39 d0 (by omega) fun h47 D47 M47 => ⟨rfl, ?_⟩
        have Gin : (inS s1).ws.length ≤ s1.ws.length ∧ (inS s1).good ∧ (inS s1).deep = s1.deep + 1 := by
          unfold inS
          split
          · exact ⟨Nat.zero_le _, RS.fail_good _ _, rfl⟩
          · exact ⟨Nat.le_refl _, Sn.good, rfl⟩
        have Si : SOk n (inS s1) := ⟨Gin.2.1, Nat.lt_of_le_of_lt Gin.1 Sn.len, Nat.le_trans Gin.1 Sn.big, by rw [Gin.2.2]; omega, by rw [Gin.2.2]; have := Gin.1; omega⟩
        have ki := ku _ Si.good (Nat.le_of_lt Si.len)
        rw [downP_in] at hK
        refine FU D47 Si fun a m c h49 D49 N49 M49 => ⟨_, _, _, rfl, ?_⟩
        have hdd := ki.deep
        have hm : m = m := rfl
        refine ⟨_, D49.c2, _, isW (by unfold InR; omega), D49.put2 fun h53 D53 M53 => ?_⟩
        have M53' := (M39.trans M47).trans (M49.trans M53)
        refine rd_put_ok D53 (x := (U (inS s1)).1) (y := []) (fun q => ⟨((N49 q).mut D47.al M53).s, ki.le⟩) (fun q => ⟨(nd_nil h53 h53).s, wf_nil, by simp, by simp [hop]⟩) fun a m c h' D' N' M' => ⟨_, _, _, rfl, ?_⟩
        exact hK a m c h' D' (fun q => (N' q).base (M53'.up D53.al)) (M53'.trans M')
    clear_value J18
    rcases hk with ⟨rfl, rfl, rfl⟩ | ⟨rfl, rfl, rfl⟩
    · exact ⟨fun e => absurd e (by decide), fun _ => h18⟩
    · exact ⟨fun _ => h18, fun e => absurd e (by decide)⟩
  clear_value J14
  refine ⟨fun e => by rw [e]; exact h14, fun e => ?_⟩
  rw [decide_eq_true (show k = 6 by have := of_decide_eq_false e; omega)]
  exact h14
end Go.Proofs.YtejefijpcggkfaaGreatDoor
namespace Go.Proofs.YtejefijpcggkfaaGreatDoor
open Go Go.Vc Go.Txt
set_option linter.unusedVariables false
set_option maxRecDepth 100000
theorem next_any {s : RS} {L : List Wd} (hL : [] ∉ L) : (nextW s ∈ L → ∃ r, s.ws = nextW s :: r ∧ s.is L = (nextW s, ⟨r, s.deep, s.f⟩)) ∧ (nextW s ∉ L → s.is L = ([], s)) := by
  unfold nextW RS.is
  cases h : s.ws with
  | nil => exact ⟨fun q => absurd q hL, fun _ => rfl⟩
  | cons v r => exact ⟨fun q => ⟨r, rfl, if_pos q⟩, fun q => if_neg q⟩
def rrN (h : Hp) (g : Nat) : Nat := match h.cell g (0 + 3), h.cell g 0, h.cell g (0 + 1) with
  | some (.int _ f), some (.slice _ n _), some (.int _ i) => if f = 0 then 1 + (n - i.toNat) else 0
  | _, _, _ => 0
theorem RrAt.rn {h0 h : Hp} {g : Nat} {W : List Wd} {s : RS} (D : RrAt h0 h g W s) : rrN h g = if s.f = 0 then 1 + s.ws.length else 0 := by
  obtain ⟨a, c, i, hb, hS, hi, hw⟩ := D.b
  have c0 : h.cell g 0 = some (vsl a W.length c) := cell_cells hb rfl
  have c1 : h.cell g (0 + 1) = some (vi i) := cell_cells hb rfl
  have c3 : h.cell g (0 + 3) = some (vi s.f) := cell_cells hb rfl
  unfold rrN
  rw [c0, c1, c3]
  simp only
  split
  · rename_i hf
    rw [hw, if_pos hf, List.length_drop, Int.toNat_natCast]
  · rfl
theorem nd_one {hB h : Hp} {b : Nat} (hb : hB b = none) (n : Nd) : NdAt hB (h.set b (cellsO (encN n) 137)) (some ⟨b, 0, none⟩) 1 [n] :=
  ⟨⟨rfl, (OwnS.new h b 137 (sz := 6) (n := 1) (encN n) rfl (by decide)).row⟩, fun b' o e => by cases e; exact hb⟩
def refOp (k : Int) (w : Wd) : Int := if w = wOr then (if k = 0 then 10 else 0) else if w = wAnd then (if k = 1 then 9 else 0) else if w = wPlus then (if k = 4 then 6 else 0) else if w = wMinus then (if k = 4 then 7 else 0) else if w = wStar then (if k = 5 then 8 else 0) else 0
def RowK (k : Int) (ops : List (Wd × Int)) : Prop := (k = 0 ∧ ops = [(wOr, 10)]) ∨ (k = 1 ∧ ops = [(wAnd, 9)]) ∨ (k = 4 ∧ ops = [(wPlus, 6), (wMinus, 7)]) ∨ (k = 5 ∧ ops = [(wStar, 8)])
theorem refOp_eq {k : Int} {ops : List (Wd × Int)} (hk : RowK k ops) (w : Wd) : refOp k w = if w ∈ ops.map (·.1) then opOf ops w else 0 := by
  by_cases h1 : w = wOr
  · subst h1; rcases hk with ⟨rfl, rfl⟩ | ⟨rfl, rfl⟩ | ⟨rfl, rfl⟩ | ⟨rfl, rfl⟩ <;> decide
  by_cases h2 : w = wAnd
  · subst h2; rcases hk with ⟨rfl, rfl⟩ | ⟨rfl, rfl⟩ | ⟨rfl, rfl⟩ | ⟨rfl, rfl⟩ <;> decide
  by_cases h3 : w = wPlus
  · subst h3; rcases hk with ⟨rfl, rfl⟩ | ⟨rfl, rfl⟩ | ⟨rfl, rfl⟩ | ⟨rfl, rfl⟩ <;> decide
  by_cases h4 : w = wMinus
  · subst h4; rcases hk with ⟨rfl, rfl⟩ | ⟨rfl, rfl⟩ | ⟨rfl, rfl⟩ | ⟨rfl, rfl⟩ <;> decide
  by_cases h5 : w = wStar
  · subst h5; rcases hk with ⟨rfl, rfl⟩ | ⟨rfl, rfl⟩ | ⟨rfl, rfl⟩ | ⟨rfl, rfl⟩ <;> decide
  have e : refOp k w = 0 := by unfold refOp; rw [if_neg h1, if_neg h2, if_neg h3, if_neg h4, if_neg h5]
  rw [e, if_neg]
  intro hm
  rcases hk with ⟨_, rfl⟩ | ⟨_, rfl⟩ | ⟨_, rfl⟩ | ⟨_, rfl⟩
  · exact h1 (by simpa using hm)
  · exact h2 (by simpa using hm)
  · have : w = wPlus ∨ w = wMinus := by simpa using hm
    rcases this with q | q
    · exact h3 q
    · exact h4 q
  · exact h5 (by simpa using hm)
theorem RowK.opr {k : Int} {ops : List (Wd × Int)} (hk : RowK k ops) : (∀ q ∈ ops, Opr q.2) ∧ (∀ q ∈ ops, 1 < arI q.2 ∧ q.2 ≠ 0) ∧ ([] : Wd) ∉ ops.map (·.1) ∧ (k = 0 ∨ k = 1 ∨ k = 4 ∨ k = 5) := by
  rcases hk with ⟨rfl, rfl⟩ | ⟨rfl, rfl⟩ | ⟨rfl, rfl⟩ | ⟨rfl, rfl⟩ <;> exact ⟨by decide, by decide, by decide, by decide⟩
theorem opOf_in {ops : List (Wd × Int)} {Q : Int → Prop} (ho : ∀ q ∈ ops, Q q.2) {w : Wd} (hw : w ∈ ops.map (·.1)) : Q (opOf ops w) := by
  unfold opOf
  cases h : ops.find? (fun p => p.1 = w) with
  | none =>
    obtain ⟨q, hq, rfl⟩ := List.mem_map.1 hw
    have := List.find?_eq_none.1 h q hq
    simp at this
  | some q => exact ho q (List.mem_of_find?_eq_some h)
theorem rd_rows_ok {k : Int} {ops : List (Wd × Int)} (hk : RowK k ops) {P : Ps} {n : Nat} (F : RReads (k + 1) P n) (kp : KP P n) {h0 h : Hp} {g : Nat} {W : List Wd} {s : RS} (D : RrAt h0 h g W s) (S : SOk n s) {R : Value → Hp → Prop}
    (hK : ∀ a m c h', RrAt h0 h' g W (rowP P ops s).2 → ((rowP P ops s).2.f = 0 → NdAt h h' a m (rowP P ops s).1) → Mut (At g) h (At g) h' → R (vsl a m c) h') : CallOK Tryz.prog 79 [vhp g 0, vi k] h R := by
  refine ok_R_rd_rows ?_
  unfold VC_R_rd_rows
  obtain ⟨ho, ho2, hnil, hk4⟩ := hk.opr
  have kk := kp s S.good (Nat.le_of_lt S.len)
  have Sx := S.goes kk.goes
  have kx := kk.wf
  have kl := kk.le
  have kp1 := kk.pos
  unfold rowP at hK
  refine ⟨_, isW (by unfold InR; omega), F D S fun a4 m4 c4 h3 D3 N3 M3 => ⟨_, _, _, rfl, ?_⟩⟩
  generalize P s = X at *
  obtain ⟨x0, s0⟩ := X
  simp -zeta only at hK D3 N3 Sx kx kl kp1 ⊢
  intro J47
  refine ⟨fun vs' hh => ∃ (j : Nat) (x : List Nd) (t : RS) (a : Option Addr) (m c : Nat), vs' = [vsl a m c] ∧ RrAt h0 hh g W t ∧ (t.f = 0 → NdAt h hh a m x) ∧ Mut (At g) h (At g) hh ∧ SOk n t ∧ 1 ≤ x.length ∧ x.length ≤ 40 ∧ WfL x ∧ t.ws.length < j ∧ rowL P ops j x t = rowL P ops (s0.ws.length + 1) x0 s0, fun _ hh => rrN hh g, ⟨_, x0, s0, a4, m4, c4, rfl, D3, N3, M3, Sx, kp1, kl, kx, Nat.lt_succ_self _, rfl⟩, ?_⟩
  rintro vs' hh ⟨j, x, t, a, m, c, rfl, Dt, Nt, Mt, St, hx1, hx, Wx, hj, hrow⟩
  obtain ⟨j, rfl⟩ : ∃ j', j = j' + 1 := ⟨j - 1, by omega⟩
  have hst : rowL P ops (j + 1) x t = if t.f ≠ 0 then (x, t) else if (t.is (ops.map (·.1))).1 = [] then (x, (t.is (ops.map (·.1))).2) else rowL P ops j (joinP (opOf ops (t.is (ops.map (·.1))).1) x (P (t.is (ops.map (·.1))).2).1 (P (t.is (ops.map (·.1))).2).2).1 (joinP (opOf ops (t.is (ops.map (·.1))).1) x (P (t.is (ops.map (·.1))).2).1 (P (t.is (ops.map (·.1))).2).2).2 := rfl
  rw [hst] at hrow
  clear hst
  refine ⟨_, _, _, rfl, _, Dt.c3, fun e => ?_, fun e => ?_⟩
  · have f0 : ¬ t.f ≠ 0 := fun h => h (of_decide_eq_true e)
    rw [if_neg f0] at hrow
    have Nt := Nt (Decidable.not_not.1 f0)
    have hrt := Dt.rn
    rw [if_pos (Decidable.not_not.1 f0)] at hrt
    obtain ⟨ny, nn⟩ := next_any (s := t) hnil
    refine rd_next_ok Dt ⟨_, rfl, ?_⟩
    intro J33
    have key : J33 (refOp k (nextW t)) := by
      have hr := refOp_eq hk (nextW t)
      by_cases hm : nextW t ∈ ops.map (·.1)
      · rw [if_pos hm] at hr
        obtain ⟨r, hws, his⟩ := ny hm
        have h2 := opOf_in (Q := fun o => 1 < arI o ∧ o ≠ 0) ho2 hm
        have hop := opOf_opr ho hm
        rw [his] at hrow
        simp only at hrow
        have hne : nextW t ≠ [] := fun q => hnil (by rw [← q]; exact hm)
        rw [if_neg hne] at hrow
        rw [hr]
        have gi := goes_is St.good (ops.map (·.1))
        rw [his] at gi
        simp only at gi
        have S1 := St.goes gi
        generalize opOf ops (nextW t) = op at *
        refine ⟨fun q => absurd (of_decide_eq_true q) h2.2, fun _ => ?_⟩
        obtain ⟨i, hc, hi, hsto⟩ := Dt.adv hws
        have kn := kp _ S1.good (Nat.le_of_lt S1.len)
        refine ⟨_, hc, _, isW (by unfold InR; omega), hsto fun h39 D39 M39 => ⟨_, isW (by unfold InR; omega), F D39 S1 fun a43 m43 c43 h42 D42 N42 M42 => ⟨_, _, _, rfl, ?_⟩⟩⟩
        have kj : Keeps (joinP op x (P ⟨r, t.deep, t.f⟩).1 (P ⟨r, t.deep, t.f⟩).2) t := keeps_join hop (gi.trans kn.goes) Wx kn.wf hx1 (fun _ => kn.pos)
        have kn1 := kn.wf
        have kn2 := kn.le
        have kn3 := kn.len
        have kn4 := kn.pos
        have kj2 : (joinP op x (P ⟨r, t.deep, t.f⟩).1 (P ⟨r, t.deep, t.f⟩).2).2.ws.length ≤ (P ⟨r, t.deep, t.f⟩).2.ws.length := by
          unfold joinP
          split
          · exact Nat.zero_le _
          · exact Nat.le_refl _
        simp only at kn3
        generalize P ⟨r, t.deep, t.f⟩ = Y at *
        obtain ⟨y1, s2⟩ := Y
        simp only at hrow D42 N42 kj kn1 kn2 kn3 kn4 kj2 ⊢
        have M42' := Mt.trans M39
        refine rd_put_ok D42 (x := x) (y := y1) (fun q => ⟨((Nt.mut D.al M39).mut D.al M42).s, hx⟩) (fun q => ⟨(N42 q).s, kn1, kn2, ⟨fun _ => h2.1, fun _ => kn4⟩⟩) fun a46 m46 c46 h45 D45 N45 M45 => ⟨_, _, _, rfl, ⟨j, _, _, a46, m46, c46, rfl, D45, fun q => (N45 q).base ((M42'.trans M42).up D42.al), (M42'.trans M42).trans M45, St.goes kj.goes, kj.pos, kj.le, kj.wf, ?_, hrow⟩, ?_⟩
        · rw [hws] at hj
          simp at hj
          omega
        · have h45n := D45.rn
          show rrN h45 g < rrN hh g
          rw [hrt, h45n, hws]
          simp
          split <;> omega
      · rw [if_neg hm] at hr
        rw [nn hm] at hrow
        simp only at hrow
        rw [if_pos trivial] at hrow
        rw [hr]
        refine ⟨fun _ => ?_, fun q => absurd q (by decide)⟩
        rw [← hrow] at hK
        exact hK a m c hh Dt (fun _ => Nt) Mt
    clear_value J33
    unfold refOp at key
    refine ⟨_, rd_eqBs (b := wOr), fun e1 => ?_, fun e1 => ⟨_, rd_eqBs (b := wAnd), fun e2 => ?_, fun e2 => ⟨_, rd_eqBs (b := wPlus), fun e3 => ?_, fun e3 => ⟨_, rd_eqBs (b := wMinus), fun e4 => ?_, fun e4 => ⟨_, rd_eqBs (b := wStar), fun e5 => ?_, fun e5 => ?_⟩⟩⟩⟩⟩
    · rw [if_pos (of_decide_eq_true e1)] at key
      exact ⟨fun q => by rw [if_pos (of_decide_eq_true q)] at key; exact key, fun q => by rw [if_neg (of_decide_eq_false q)] at key; exact key⟩
    · rw [if_neg (of_decide_eq_false e1), if_pos (of_decide_eq_true e2)] at key
      exact ⟨fun q => by rw [if_pos (of_decide_eq_true q)] at key; exact key, fun q => by rw [if_neg (of_decide_eq_false q)] at key; exact key⟩
    · rw [if_neg (of_decide_eq_false e1), if_neg (of_decide_eq_false e2), if_pos (of_decide_eq_true e3)] at key
      exact ⟨fun q => by rw [if_pos (of_decide_eq_true q)] at key; exact key, fun q => by rw [if_neg (of_decide_eq_false q)] at key; exact key⟩
    · rw [if_neg (of_decide_eq_false e1), if_neg (of_decide_eq_false e2), if_neg (of_decide_eq_false e3), if_pos (of_decide_eq_true e4)] at key
      exact ⟨fun q => by rw [if_pos (of_decide_eq_true q)] at key; exact key, fun q => by rw [if_neg (of_decide_eq_false q)] at key; exact key⟩
    · rw [if_neg (of_decide_eq_false e1), if_neg (of_decide_eq_false e2), if_neg (of_decide_eq_false e3), if_neg (of_decide_eq_false e4), if_pos (of_decide_eq_true e5)] at key
      exact ⟨fun q => by rw [if_pos (of_decide_eq_true q)] at key; exact key, fun q => by rw [if_neg (of_decide_eq_false q)] at key; exact key⟩
    · rw [if_neg (of_decide_eq_false e1), if_neg (of_decide_eq_false e2), if_neg (of_decide_eq_false e3), if_neg (of_decide_eq_false e4), if_neg (of_decide_eq_false e5)] at key
      exact key
  · have f0 : t.f ≠ 0 := of_decide_eq_false e
    rw [if_pos f0] at hrow
    rw [← hrow] at hK
    exact hK a m c hh Dt Nt Mt
end Go.Proofs.YtejefijpcggkfaaGreatDoor
namespace Go.Proofs.YtejefijpcggkfaaGreatDoor
open Go Go.Vc Go.Txt
set_option linter.unusedVariables false
set_option maxRecDepth 100000
def cmpW : List Wd := [wLt, wGt, wLe, wGe, wEq, wNe, wIs]
theorem rd_compared_ok {P : Ps} {n : Nat} (F : RReads 4 P n) (kp : KP P n) {h0 h : Hp} {g : Nat} {W : List Wd} {s : RS} (D : RrAt h0 h g W s) (S : SOk n s) {R : Value → Hp → Prop}
    (hK : ∀ a m c h', RrAt h0 h' g W (cmpP P s).2 → ((cmpP P s).2.f = 0 → NdAt h h' a m (cmpP P s).1) → Mut (At g) h (At g) h' → R (vsl a m c) h') : CallOK Tryz.prog 82 [vhp g 0] h R := by
  refine ok_R_rd_compared ?_
  unfold VC_R_rd_compared
  have kk := kp s S.good (Nat.le_of_lt S.len)
  have Sx := S.goes kk.goes
  have kx := kk.wf
  have kl := kk.le
  have kp1 := kk.pos
  unfold cmpP at hK
  simp only at hK
  refine F D S fun a3 m3 c3 h2 D2 N2 M2 => ⟨_, _, _, rfl, ?_⟩
  generalize P s = X at *
  obtain ⟨x, s0⟩ := X
  simp -zeta only at hK D2 N2 Sx kx kl kp1 ⊢
  have hnil : ([] : Wd) ∉ cmpW := by decide
  have hcw : [wLt, wGt, wLe, wGe, wEq, wNe, wIs] = cmpW := rfl
  rw [hcw] at hK
  obtain ⟨ny, nn⟩ := next_any (s := s0) hnil
  refine rd_next_ok D2 ⟨_, rfl, _, rd_neBs (b := wLt), _, fun _ => rd_neBs (b := wGt), _, fun _ => rd_neBs (b := wLe), _, fun _ => rd_neBs (b := wGe), _, fun _ => rd_neBs (b := wEq), _, fun _ => rd_neBs (b := wNe), _, fun _ => rd_neBs (b := wIs), ?_⟩
  have hmem : nextW s0 ∈ cmpW ↔ ¬ ((((((nextW s0 ≠ wLt ∧ nextW s0 ≠ wGt) ∧ nextW s0 ≠ wLe) ∧ nextW s0 ≠ wGe) ∧ nextW s0 ≠ wEq) ∧ nextW s0 ≠ wNe) ∧ nextW s0 ≠ wIs) := by
    generalize nextW s0 = w
    unfold cmpW
    constructor
    · intro hm
      have : w = wLt ∨ w = wGt ∨ w = wLe ∨ w = wGe ∨ w = wEq ∨ w = wNe ∨ w = wIs := by simpa using hm
      rintro ⟨⟨⟨⟨⟨⟨q1, q2⟩, q3⟩, q4⟩, q5⟩, q6⟩, q7⟩
      rcases this with q | q | q | q | q | q | q
      · exact q1 q
      · exact q2 q
      · exact q3 q
      · exact q4 q
      · exact q5 q
      · exact q6 q
      · exact q7 q
    · intro hm
      refine Decidable.byContradiction fun q => hm ?_
      have : ¬ (w = wLt ∨ w = wGt ∨ w = wLe ∨ w = wGe ∨ w = wEq ∨ w = wNe ∨ w = wIs) := fun r => q (by simpa using r)
      simp only [not_or] at this
      obtain ⟨q1, q2, q3, q4, q5, q6, q7⟩ := this
      exact ⟨⟨⟨⟨⟨⟨q1, q2⟩, q3⟩, q4⟩, q5⟩, q6⟩, q7⟩
  simp -zeta only [cnot, cand]
  refine ⟨fun e => ?_, fun e => ?_⟩
  · have hm : nextW s0 ∉ cmpW := fun q => hmem.1 q (of_decide_eq_true e)
    rw [nn hm] at hK
    simp only at hK
    rw [if_neg (by decide), if_neg (by decide), if_neg (by decide), if_neg (by decide), if_neg (by decide), if_neg (by decide), if_neg (by decide)] at hK
    exact hK a3 m3 c3 h2 D2 N2 M2
  have hm : nextW s0 ∈ cmpW := hmem.2 (of_decide_eq_false e)
  obtain ⟨r, hws, his⟩ := ny hm
  have gi := goes_is Sx.good cmpW
  rw [his] at gi hK
  simp only at hK gi
  have S1 := Sx.goes gi
  have hf0 : s0.f = 0 := by
    rcases Decidable.em (s0.f = 0) with q | q
    · exact q
    · rw [Sx.good q] at hws; cases hws
  have N2 := N2 hf0
  obtain ⟨i, hc, hi, hsto⟩ := D2.adv hws
  have k2 := kp _ S1.good (Nat.le_of_lt S1.len)
  have kw := k2.wf
  have kl2 := k2.le
  have kq2 := k2.pos
  refine ⟨_, hc, _, isW (by unfold InR; omega), hsto fun h17 D17 M17 => ?_⟩
  have N17 := N2.mut D.al M17
  have M17' := M2.trans M17
  generalize nextW s0 = w at *
  generalize (⟨r, s0.deep, s0.f⟩ : RS) = s1 at *
  have hm2 : w = wLt ∨ w = wGt ∨ w = wLe ∨ w = wGe ∨ w = wEq ∨ w = wNe ∨ w = wIs := by simpa [cmpW] using hm
  refine ⟨_, rd_eqBs (b := wIs), fun e => ?_, fun e => ?_⟩
  · have ew : w = wIs := of_decide_eq_true e
    rw [if_neg (by rw [ew]; decide), if_neg (by rw [ew]; decide), if_neg (by rw [ew]; decide), if_neg (by rw [ew]; decide), if_neg (by rw [ew]; decide), if_neg (by rw [ew]; decide), if_pos ew] at hK
    have g3 := goes_is S1.good [wNot]
    refine rd_take_ok (w := wNot) D17 (by decide) fun h20 D20 M20 => ⟨_, rfl, ?_⟩
    generalize s1.is [wNot] = C at *
    obtain ⟨v, s3⟩ := C
    simp -zeta only at hK D20 g3 ⊢
    refine rd_must_ok (w := wNull) D20 (by decide) fun h23 D23 M23 => ⟨rfl, ?_⟩
    generalize s3.must wNull = s4 at *
    refine rd_put_ok D23 (x := x) (y := []) (fun q => ⟨((N17.mut D.al M20).mut D.al M23).s, kl⟩) (fun q => ⟨(nd_nil h23 h23).s, wf_nil, by simp, by decide⟩) fun a26 m26 c26 h25 D25 N25 M25 => ⟨_, _, _, rfl, ?_⟩
    have M25' := (M17'.trans M20).trans M23
    have jl := joinP_le 5 x [] s4
    intro J32
    refine ⟨fun q => ?_, fun q => ?_⟩
    · have q := of_decide_eq_true q
      rw [if_pos q] at hK
      refine rd_put_ok D25 (x := (joinP 5 x [] s4).1) (y := []) (fun q => ⟨(N25 q).s, jl⟩) (fun q => ⟨(nd_nil h25 h25).s, wf_nil, by simp, by decide⟩) fun a29 m29 c29 h28 D28 N28 M28 => ⟨_, _, _, rfl, ?_⟩
      exact hK a29 m29 c29 h28 D28 (fun q => (N28 q).base ((M25'.trans M25).up D25.al)) ((M25'.trans M25).trans M28)
    · have q := of_decide_eq_false q
      rw [if_neg q] at hK
      exact hK a26 m26 c26 h25 D25 (fun q => (N25 q).base (M25'.up D23.al)) (M25'.trans M25)
  have ew : ¬ w = wIs := of_decide_eq_false e
  refine F D17 S1 fun a39 m39 c39 h38 D38 N38 M38 => ⟨_, _, _, rfl, ?_⟩
  have M38' := M17'.trans M38
  have Nx := N17.mut D.al M38
  generalize P s1 = Y at *
  obtain ⟨y, s2⟩ := Y
  simp -zeta only at hK D38 N38 kw kl2 kq2 ⊢
  refine ⟨_, rd_eqBs (b := wLt), fun e => ?_, fun e1 => ⟨_, rd_eqBs (b := wGt), fun e => ?_, fun e2 => ⟨_, rd_eqBs (b := wLe), fun e => ?_, fun e3 => ⟨_, rd_eqBs (b := wGe), fun e => ?_, fun e4 => ⟨_, rd_eqBs (b := wEq), fun e => ?_, fun e5 => ?_⟩⟩⟩⟩⟩
  · rw [if_pos (of_decide_eq_true e)] at hK
    exact rd_put_ok D38 (x := x) (y := y) (fun q => ⟨Nx.s, kl⟩) (fun q => ⟨(N38 q).s, kw, kl2, ⟨fun _ => by decide, fun _ => kq2⟩⟩) fun a m c h42 D42 N42 M42 => ⟨_, _, _, rfl, hK a m c h42 D42 (fun q => (N42 q).base (M38'.up D38.al)) (M38'.trans M42)⟩
  · rw [if_neg (of_decide_eq_false e1), if_pos (of_decide_eq_true e)] at hK
    exact rd_put_ok D38 (x := y) (y := x) (fun q => ⟨(N38 q).s, kl2⟩) (fun q => ⟨Nx.s, kx, kl, ⟨fun _ => by decide, fun _ => kp1⟩⟩) fun a m c h42 D42 N42 M42 => ⟨_, _, _, rfl, hK a m c h42 D42 (fun q => (N42 q).base (M38'.up D38.al)) (M38'.trans M42)⟩
  · rw [if_neg (of_decide_eq_false e1), if_neg (of_decide_eq_false e2), if_pos (of_decide_eq_true e)] at hK
    have jl := joinP_le 11 y x s2
    exact rd_put_ok D38 (x := y) (y := x) (fun q => ⟨(N38 q).s, kl2⟩) (fun q => ⟨Nx.s, kx, kl, ⟨fun _ => by decide, fun _ => kp1⟩⟩) fun a m c h42 D42 N42 M42 => ⟨_, _, _, rfl, rd_put_ok D42 (x := (joinP 11 y x s2).1) (y := []) (fun q => ⟨(N42 q).s, jl⟩) (fun q => ⟨(nd_nil h42 h42).s, wf_nil, by simp, by decide⟩) fun a m c h45 D45 N45 M45 => ⟨_, _, _, rfl, hK a m c h45 D45 (fun q => (N45 q).base ((M38'.trans M42).up D42.al)) ((M38'.trans M42).trans M45)⟩⟩
  · rw [if_neg (of_decide_eq_false e1), if_neg (of_decide_eq_false e2), if_neg (of_decide_eq_false e3), if_pos (of_decide_eq_true e)] at hK
    have jl := joinP_le 11 x y s2
    exact rd_put_ok D38 (x := x) (y := y) (fun q => ⟨Nx.s, kl⟩) (fun q => ⟨(N38 q).s, kw, kl2, ⟨fun _ => by decide, fun _ => kq2⟩⟩) fun a m c h42 D42 N42 M42 => ⟨_, _, _, rfl, rd_put_ok D42 (x := (joinP 11 x y s2).1) (y := []) (fun q => ⟨(N42 q).s, jl⟩) (fun q => ⟨(nd_nil h42 h42).s, wf_nil, by simp, by decide⟩) fun a m c h45 D45 N45 M45 => ⟨_, _, _, rfl, hK a m c h45 D45 (fun q => (N45 q).base ((M38'.trans M42).up D42.al)) ((M38'.trans M42).trans M45)⟩⟩
  · rw [if_neg (of_decide_eq_false e1), if_neg (of_decide_eq_false e2), if_neg (of_decide_eq_false e3), if_neg (of_decide_eq_false e4), if_pos (of_decide_eq_true e)] at hK
    exact rd_put_ok D38 (x := x) (y := y) (fun q => ⟨Nx.s, kl⟩) (fun q => ⟨(N38 q).s, kw, kl2, ⟨fun _ => by decide, fun _ => kq2⟩⟩) fun a m c h42 D42 N42 M42 => ⟨_, _, _, rfl, hK a m c h42 D42 (fun q => (N42 q).base (M38'.up D38.al)) (M38'.trans M42)⟩
  · have e6 : w = wNe := by
      rcases hm2 with q | q | q | q | q | q | q
      · exact absurd q (of_decide_eq_false e1)
      · exact absurd q (of_decide_eq_false e2)
      · exact absurd q (of_decide_eq_false e3)
      · exact absurd q (of_decide_eq_false e4)
      · exact absurd q (of_decide_eq_false e5)
      · exact q
      · exact absurd q ew
    rw [if_neg (of_decide_eq_false e1), if_neg (of_decide_eq_false e2), if_neg (of_decide_eq_false e3), if_neg (of_decide_eq_false e4), if_neg (of_decide_eq_false e5), if_pos e6] at hK
    have jl := joinP_le 12 x y s2
    exact rd_put_ok D38 (x := x) (y := y) (fun q => ⟨Nx.s, kl⟩) (fun q => ⟨(N38 q).s, kw, kl2, ⟨fun _ => by decide, fun _ => kq2⟩⟩) fun a m c h42 D42 N42 M42 => ⟨_, _, _, rfl, rd_put_ok D42 (x := (joinP 12 x y s2).1) (y := []) (fun q => ⟨(N42 q).s, jl⟩) (fun q => ⟨(nd_nil h42 h42).s, wf_nil, by simp, by decide⟩) fun a m c h45 D45 N45 M45 => ⟨_, _, _, rfl, hK a m c h45 D45 (fun q => (N45 q).base ((M38'.trans M42).up D42.al)) ((M38'.trans M42).trans M45)⟩⟩
theorem fieldW_idx {i : Nat} (hi : i < 4) : fieldW.getD i [] ∈ fieldW ∧ fieldW.idxOf (fieldW.getD i []) = i := by
  match i, hi with
  | 0, _ => decide
  | 1, _ => decide
  | 2, _ => decide
  | 3, _ => decide
theorem atom_stuck {P : Ps} {s : RS} {w : Wd} (h : s.is ([wOpen] ++ constW ++ fieldW) = ([], s)) : atomP P s = ([⟨1, 0, 0, 0, (1, (s.number 1000000000).1)⟩], (s.number 1000000000).2) := by
  unfold atomP
  rw [h]
  rfl
theorem rd_rest_ok {P : Ps} {n : Nat} (F : RReads 0 P n) (kp : KP P n) {h0 h : Hp} {g : Nat} {W : List Wd} {s : RS} (D : RrAt h0 h g W s) (S : SOk (n + 1) s) (hf : s.f = 0) {R : Value → Hp → Prop}
    (hK : ∀ a m c h', RrAt h0 h' g W (atomP P s).2 → ((atomP P s).2.f = 0 → NdAt h h' a m (atomP P s).1) → Mut (At g) h (At g) h' → R (vsl a m c) h') : CallOK Tryz.prog 83 [vhp g 0] h R := by
  refine ok_R_rd_rest ?_
  unfold VC_R_rd_rest
  have hnil : ([] : Wd) ∉ ([wOpen] ++ constW ++ fieldW) := by decide
  obtain ⟨ny, nn⟩ := next_any (s := s) hnil
  obtain ⟨o1, o2, o3⟩ := next_one (s := s) (w := wOpen) (by decide)
  have gi := goes_is S.good ([wOpen] ++ constW ++ fieldW)
  refine rd_next_ok D ⟨_, rfl, rd_take_ok (w := wOpen) D (by decide) fun h5 D5 M5 => ⟨_, rfl, fun e => ?_, fun e => ?_⟩⟩
  · have e : nextW s = wOpen := o1.1 (of_decide_eq_true e)
    obtain ⟨r, hws, his⟩ := ny (by rw [e]; decide)
    obtain ⟨r', hws', his'⟩ := o2 e
    have er : r' = r := by rw [hws] at hws'; exact ((List.cons.inj hws').2).symm
    subst er
    rw [his'] at D5
    have hat : atomP P s = ((downP P ⟨r', s.deep, s.f⟩).1, (downP P ⟨r', s.deep, s.f⟩).2.must wClose) := by
      unfold atomP
      rw [his, e]
      rfl
    rw [hat] at hK
    rw [his] at gi
    simp only at gi hK
    have S1 := S.goes gi
    have d0 := S1.d0
    have d1 := S1.d1
    have hlen : r'.length < n := by
      have h1 := S.len
      rw [hws] at h1
      simp at h1
      omega
    have Sn : SOk n ⟨r', s.deep, s.f⟩ := ⟨S1.good, hlen, S1.big, d0, d1⟩
    have hl2 : (⟨r', s.deep, s.f⟩ : RS).ws.length + 1 = s.ws.length := by rw [hws]; rfl
    generalize (⟨r', s.deep, s.f⟩ : RS) = s1 at *
    have sd1 := S.d1
    have hdp := gi.deep
    refine rd_in_ok D5 d0 (by omega) fun h8 D8 M8 => ⟨rfl, ?_⟩
    have Gin : (inS s1).ws.length ≤ s1.ws.length ∧ (inS s1).good ∧ (inS s1).deep = s1.deep + 1 := by
      unfold inS
      split
      · exact ⟨Nat.zero_le _, RS.fail_good _ _, rfl⟩
      · exact ⟨Nat.le_refl _, Sn.good, rfl⟩
    have hl3 : (s1.ws.length : Int) + 1 ≤ (s.ws.length : Int) := by omega
    have Si : SOk n (inS s1) := ⟨Gin.2.1, Nat.lt_of_le_of_lt Gin.1 Sn.len, Nat.le_trans Gin.1 Sn.big, by rw [Gin.2.2]; omega, by rw [Gin.2.2]; have := Gin.1; omega⟩
    have ki := kp _ Si.good (Nat.le_of_lt Si.len)
    have kd := keeps_down kp (Goes.refl Sn.good) (Nat.le_of_lt Sn.len)
    rw [downP_in] at hK kd
    refine F D8 Si fun a m c h10 D10 N10 M10 => ⟨_, _, _, rfl, ?_⟩
    have hdd := ki.deep
    refine ⟨_, D10.c2, _, isW (by unfold InR; omega), D10.put2 fun h14 D14 M14 => ?_⟩
    refine rd_must_ok (w := wClose) D14 (by decide) fun h16 D16 M16 => ⟨rfl, ?_⟩
    have M8' := M5.trans M8
    refine hK a m c h16 D16 (fun q => ?_) (((M8'.trans M10).trans M14).trans M16)
    have q2 : (P (inS s1)).2.f = 0 := by
      refine Decidable.byContradiction fun hne => ?_
      have := (goes_must (s := ⟨(P (inS s1)).2.ws, (P (inS s1)).2.deep - 1, (P (inS s1)).2.f⟩) kd.ok wClose).fst hne
      exact hne (this.symm.trans q)
    exact (((N10 q2).base (M8'.up D8.al)).mut D.al M14).mut D.al M16
  have e : nextW s ≠ wOpen := fun q => of_decide_eq_false e (o1.2 q)
  rw [o3 e] at D5
  intro b18 hb18 h19
  have l19 : h5.le h19 := Hp.le_set (Hp.le_refl h5) hb18 _
  have D19 := D5.le l19
  have M19 := M5.trans (Mut.of_le l19)
  have hlit := slb_lit h5 b18 fieldW (by decide)
  refine ⟨fun vs' hh => hh = h19 ∧ ∃ i : Nat, vs' = [vi i] ∧ i ≤ 4 ∧ ∀ j, j < i → nextW s ≠ fieldW.getD j [], fun vs' hh => 4 - (vint vs' 0).toNat, ⟨rfl, 0, rfl, by omega, by omega⟩, ?_⟩
  rintro vs' hh ⟨rfl, i, rfl, hi, hno⟩
  refine ⟨i, rfl, fun e1 => ?_, fun e1 => ?_⟩
  · have hlt : i < 4 := by have := of_decide_eq_true e1; omega
    obtain ⟨b, o, ha, hc⟩ := SlP.get1 hlit (i := i) (by show i < 4; exact hlt)
    refine ⟨b, o, ⟨ha, by omega, by omega⟩, _, hc, _, rd_eqBs, fun q => ?_, fun q => ?_⟩
    · have q : nextW s = fieldW.getD i [] := of_decide_eq_true q
      obtain ⟨hmf, hix⟩ := fieldW_idx hlt
      rw [← q] at hmf hix
      obtain ⟨r, hws, his⟩ := ny (List.mem_append_right _ hmf)
      have hnc : nextW s ∉ constW := by
        intro hc
        have h1 : nextW s = wNull ∨ nextW s = wTrue ∨ nextW s = wFalse := by simpa [constW] using hc
        rcases h1 with h1 | h1 | h1 <;> rw [h1] at hmf <;> exact absurd hmf (by decide)
      have hne : nextW s ≠ [] := by
        intro h1; rw [h1] at hmf; exact absurd hmf (by decide)
      have hat : atomP P s = ([⟨2, 0, 0, i, (0, 0)⟩], ⟨r, s.deep, s.f⟩) := by
        unfold atomP
        rw [his]
        simp only
        rw [if_neg e, if_neg hnc, if_neg hne, hix]
      rw [hat] at hK
      obtain ⟨i', hc', hi', hsto⟩ := D19.adv hws
      refine ⟨_, hc', _, isW (by unfold InR; omega), hsto fun h34 D34 M34 => ?_⟩
      intro b35 hb35 h36
      have l36 : h34.le h36 := Hp.le_set (Hp.le_refl h34) hb35 _
      have M34' := M19.trans M34
      exact hK _ _ _ h36 (D34.le l36) (fun _ => nd_one (M34'.up D34.al b35 hb35) ⟨2, 0, 0, i, (0, 0)⟩) (M34'.trans (Mut.of_le l36))
    · have q : nextW s ≠ fieldW.getD i [] := of_decide_eq_false q
      refine ⟨_, isW (by unfold InR; omega), ⟨rfl, i + 1, rfl, by omega, fun j hj => ?_⟩, by simp [vint]; omega⟩
      rcases Nat.lt_or_ge j i with h1 | h1
      · exact hno j h1
      · have : j = i := by omega
        rw [this]; exact q
  · have hge : i = 4 := by have := of_decide_eq_false e1; omega
    subst hge
    have hnf : nextW s ∉ fieldW := by
      intro hm
      have h1 : nextW s = [116] ∨ nextW s = [107] ∨ nextW s = [97] ∨ nextW s = [98] := by simpa [fieldW] using hm
      rcases h1 with h1 | h1 | h1 | h1
      · exact hno 0 (by omega) h1
      · exact hno 1 (by omega) h1
      · exact hno 2 (by omega) h1
      · exact hno 3 (by omega) h1
    have hwc : nextW s ∈ constW ↔ (nextW s = wNull ∨ nextW s = wTrue) ∨ nextW s = wFalse := by simp [constW, or_assoc]
    refine ⟨_, rd_eqBs (b := wNull), _, fun _ => rd_eqBs (b := wTrue), _, fun _ => rd_eqBs (b := wFalse), ?_⟩
    simp -zeta only [cor]
    refine ⟨fun q => ?_, fun q => ?_⟩
    · have hc : nextW s ∈ constW := hwc.2 (of_decide_eq_true q)
      obtain ⟨r, hws, his⟩ := ny (List.mem_append_left _ (List.mem_append_right _ hc))
      have hat : atomP P s = ([⟨1, 0, 0, 0, constV (nextW s)⟩], ⟨r, s.deep, s.f⟩) := by
        unfold atomP
        rw [his]
        simp only
        rw [if_neg e, if_pos hc]
      rw [hat] at hK
      obtain ⟨i', hc', hi', hsto⟩ := D19.adv hws
      have hwl : (nextW s).length ≤ 1000000 := by
        have : nextW s = wNull ∨ nextW s = wTrue ∨ nextW s = wFalse := by simpa [constW] using hc
        rcases this with h1 | h1 | h1 <;> rw [h1] <;> decide
      refine ⟨_, hc', _, isW (by unfold InR; omega), hsto fun h44 D44 M44 => R_ValueOf_ok hwl ⟨_, _, _, rfl, ?_⟩⟩
      rw [← read_same, read_const hc]
      intro b50 hb50 h51
      have l51 : h44.le h51 := Hp.le_set (Hp.le_refl h44) hb50 _
      have M44' := M19.trans M44
      exact hK _ _ _ h51 (D44.le l51) (fun _ => nd_one (M44'.up D44.al b50 hb50) ⟨1, 0, 0, 0, constV (nextW s)⟩) (M44'.trans (Mut.of_le l51))
    · have hc : nextW s ∉ constW := fun h1 => of_decide_eq_false q (hwc.1 h1)
      have hno2 : nextW s ∉ ([wOpen] ++ constW ++ fieldW) := by
        intro hm
        rcases List.mem_append.1 hm with h4 | h4
        · rcases List.mem_append.1 h4 with h5 | h5
          · exact e (by simpa using h5)
          · exact hc h5
        · exact hnf h4
      have hat := atom_stuck (P := P) (w := []) (nn hno2)
      rw [hat] at hK
      have nr1 := number_range (s := s) (most := 1000000000) (by decide)
      refine rd_number_ok D19 (by decide) (by decide) fun h54 D54 M54 => ⟨_, rfl, R_Num_ok ⟨_, _, rfl, ?_⟩⟩
      have en : numV (s.number 1000000000).1 = (1, (s.number 1000000000).1) := by unfold numV; rw [if_neg (by omega)]
      rw [en]
      intro b60 hb60 h61
      have l61 : h54.le h61 := Hp.le_set (Hp.le_refl h54) hb60 _
      have M54' := M19.trans M54
      exact hK _ _ _ h61 (D54.le l61) (fun _ => nd_one (M54'.up D54.al b60 hb60) ⟨1, 0, 0, 0, (1, (s.number 1000000000).1)⟩) (M54'.trans (Mut.of_le l61))
theorem rr_cast {k k' : Int} (e : k = k') {P : Ps} {n : Nat} (H : RReads k P n) : RReads k' P n := by
  subst e
  exact fun D S _ hK => H D S hK
theorem h6k {P : Ps} {n : Nat} (H : RReads 7 P n) : RReads (6 + 1) P n := rr_cast (by decide) H
theorem h5k {P : Ps} {n : Nat} (H : RReads 6 P n) : RReads (5 + 1) P n := rr_cast (by decide) H
theorem h4k {P : Ps} {n : Nat} (H : RReads 5 P n) : RReads (4 + 1) P n := rr_cast (by decide) H
theorem h2k {P : Ps} {n : Nat} (H : RReads 3 P n) : RReads (2 + 1) P n := rr_cast (by decide) H
theorem h1k {P : Ps} {n : Nat} (H : RReads 2 P n) : RReads (1 + 1) P n := rr_cast (by decide) H
theorem h0k {P : Ps} {n : Nat} (H : RReads 1 P n) : RReads (0 + 1) P n := rr_cast (by decide) H
theorem rreads_step {t : Three} {n : Nat} (h : KP t.o n ∧ KP t.n n ∧ KP t.u n) (H : RReads 0 t.o n ∧ RReads 2 t.n n ∧ RReads 6 t.u n) : RReads 0 (orS t) (n + 1) ∧ RReads 2 (notS t) (n + 1) ∧ RReads 6 (unS t) (n + 1) := by
  obtain ⟨k1, k2, k3, k4, k5, k6, k7⟩ := keeps_S h
  have h7 : RReads 7 (atomP t.o) (n + 1) := level_rest_ok (keeps_atom h.1) fun D S hf _ hK => rd_rest_ok H.1 h.1 D S hf hK
  have e6 : unS t = signP wMinus 3 t.u (atomP t.o) := rfl
  have h6 : RReads 6 (unS t) (n + 1) := by
    rw [e6] at k3 ⊢
    exact level_sign_ok (w := wMinus) (op := 3) (.inr ⟨rfl, rfl, rfl⟩) h.2.2 k3 H.2.2 (h6k h7)
  have h5 : RReads 5 (prodS t) (n + 1) := level_rows_ok (by decide) k4 fun D S _ hK => rd_rows_ok (ops := [(wStar, 8)]) (by unfold RowK; simp) (h5k h6) k3 D S hK
  have h4 : RReads 4 (sumS t) (n + 1) := level_rows_ok (by decide) k5 fun D S _ hK => rd_rows_ok (ops := [(wPlus, 6), (wMinus, 7)]) (by unfold RowK; simp) (h4k h5) k4 D S hK
  have h3 : RReads 3 (cmpS t) (n + 1) := level_cmp_ok k6 fun D S _ hK => rd_compared_ok h4 k5 D S hK
  have e2 : notS t = signP wNot 4 t.n (cmpS t) := rfl
  have h2 : RReads 2 (notS t) (n + 1) := by
    rw [e2] at k2 ⊢
    exact level_sign_ok (w := wNot) (op := 4) (.inl ⟨rfl, rfl, rfl⟩) h.2.1 k2 H.2.1 (h2k h3)
  have h1 : RReads 1 (andS t) (n + 1) := level_rows_ok (by decide) k7 fun D S _ hK => rd_rows_ok (ops := [(wAnd, 9)]) (by unfold RowK; simp) (h1k h2) k2 D S hK
  have h0 : RReads 0 (orS t) (n + 1) := level_rows_ok (by decide) k1 fun D S _ hK => rd_rows_ok (ops := [(wOr, 10)]) (by unfold RowK; simp) (h0k h1) k7 D S hK
  exact ⟨h0, h2, h6⟩
theorem rreads_none (k : Int) (P : Ps) : RReads k P 0 := by
  intro h0 h g W s D S R hK
  exact absurd S.len (Nat.not_lt_zero _)
theorem rreads_all (n : Nat) : RReads 0 (allP n).o n ∧ RReads 2 (allP n).n n ∧ RReads 6 (allP n).u n := by
  induction n with
  | zero => exact ⟨rreads_none _ _, rreads_none _ _, rreads_none _ _⟩
  | succ n ih => rw [allP_succ]; exact rreads_step (keeps_all n) ih
end Go.Proofs.YtejefijpcggkfaaGreatDoor
namespace Go.Proofs.YtejefijpcggkfaaGreatDoor
open Go Go.Vc
set_option maxRecDepth 100000
set_option linter.unusedVariables false
def VC_R_QueryFault (u_qAggsa : Option Addr) (u_qAggsn u_qAggsc : Nat) (u_qWherea : Option Addr) (u_qWheren u_qWherec : Nat) (u_qBya : Option Addr) (u_qByn u_qByc : Nat) (u_qSize : Int) (u_qSlide : Int) (u_qDelay : Int) (u_qLate : Int) (h : Hp) (R : Value → Hp → Prop) : Prop :=
  (((bif (decide ((((u_qAggsn : Nat) : Int) : Int) < 1)) then true else (decide ((((u_qAggsn : Nat) : Int) : Int) > 4))) = true → R (vi 2) h) ∧ ((bif (decide ((((u_qAggsn : Nat) : Int) : Int) < 1)) then true else (decide ((((u_qAggsn : Nat) : Int) : Int) > 4))) = false → (∃ (I3 : List Value → Hp → Prop) (m4 : List Value → Hp → Nat), I3 [(vi 0)] h ∧ ∀ (vs5 : List Value) (h6 : Hp), I3 vs5 h6 → ∃ (x7 : Int), vs5 = [(vi x7)] ∧ (((decide ((x7 : Int) < ((u_qAggsn : Nat) : Int))) = true → (let J24 : Hp → Prop := fun (h25 : Hp) => (∃ (x26 : Int), (IsW x26 (x7 + 1)) ∧ (I3 [(vi x26)] h25 ∧ m4 [(vi x26)] h25 < m4 vs5 h6)); (∃ (b10 o11 : Nat), (u_qAggsa = some ⟨b10, o11, none⟩ ∧ (0 : Int) ≤ x7 ∧ x7 < ((u_qAggsn : Nat) : Int)) ∧ (∃ (x12 : Int) (a13 : Option Addr) (n13 c13 : Nat), (Hp.row h6 b10 (o11 + x7.toNat * 2) 2 = some [(vi x12), (vsl a13 n13 c13)]) ∧ (((bif (bif (decide ((x12 : Int) < 1)) then true else (decide ((x12 : Int) > 5))) then true else (bif (decide ((x12 : Int) = 1)) then (decide ((((n13 : Nat) : Int) : Int) > 0)) else false)) = true → R (vi 3) h6) ∧ ((bif (bif (decide ((x12 : Int) < 1)) then true else (decide ((x12 : Int) > 5))) then true else (bif (decide ((x12 : Int) = 1)) then (decide ((((n13 : Nat) : Int) : Int) > 0)) else false)) = false → (let J17 : Int → Prop := fun (x18 : Int) => (((decide ((x12 : Int) > 1)) = true → (CallOK Tryz.prog 85 [(vsl a13 n13 c13), (vi x18)] h6 fun v19 h20 => ∃ (x21 : Int), v19 = (vi x21) ∧ (((decide ((x21 : Int) > 0)) = true → R (vi x21) h20) ∧ ((decide ((x21 : Int) > 0)) = false → (J24 h20))))) ∧ ((decide ((x12 : Int) > 1)) = false → (J24 h6))); (((decide ((x12 : Int) = 2)) = true → (J17 0)) ∧ ((decide ((x12 : Int) = 2)) = false → (J17 1)))))))))) ∧ ((decide ((x7 : Int) < ((u_qAggsn : Nat) : Int))) = false → (let J32 : Hp → Prop := fun (h33 : Hp) => (let J39 : Hp → Prop := fun (h40 : Hp) => (((bif (bif (bif (bif (bif (bif (bif (decide ((u_qSize : Int) < 1)) then true else (decide ((u_qSize : Int) > 1000))) then true else (decide ((u_qSlide : Int) < 1))) then true else (decide ((u_qSlide : Int) > 1000))) then true else (decide ((u_qDelay : Int) < 0))) then true else (decide ((u_qDelay : Int) > 1000))) then true else (decide ((u_qLate : Int) < 0))) then true else (decide ((u_qLate : Int) > 1000))) = true → R (vi 1) h40) ∧ ((bif (bif (bif (bif (bif (bif (bif (decide ((u_qSize : Int) < 1)) then true else (decide ((u_qSize : Int) > 1000))) then true else (decide ((u_qSlide : Int) < 1))) then true else (decide ((u_qSlide : Int) > 1000))) then true else (decide ((u_qDelay : Int) < 0))) then true else (decide ((u_qDelay : Int) > 1000))) then true else (decide ((u_qLate : Int) < 0))) then true else (decide ((u_qLate : Int) > 1000))) = false → (∃ (x42 : Int), ((decide ((u_qSlide : Int) > u_qSize)) = false → IsW x42 (4 * u_qSlide)) ∧ (((bif (decide ((u_qSlide : Int) > u_qSize)) then true else (decide ((u_qSize : Int) > x42))) = true → R (vi 3) h40) ∧ ((bif (decide ((u_qSlide : Int) > u_qSize)) then true else (decide ((u_qSize : Int) > x42))) = false → R (vi 0) h40))))); (((decide ((((u_qByn : Nat) : Int) : Int) > 0)) = true → (CallOK Tryz.prog 85 [(vsl u_qBya u_qByn u_qByc), (vi 0)] h33 fun v34 h35 => ∃ (x36 : Int), v34 = (vi x36) ∧ (((decide ((x36 : Int) > 0)) = true → R (vi x36) h35) ∧ ((decide ((x36 : Int) > 0)) = false → (J39 h35))))) ∧ ((decide ((((u_qByn : Nat) : Int) : Int) > 0)) = false → (J39 h33)))); (((decide ((((u_qWheren : Nat) : Int) : Int) > 0)) = true → (CallOK Tryz.prog 85 [(vsl u_qWherea u_qWheren u_qWherec), (vi 2)] h6 fun v27 h28 => ∃ (x29 : Int), v27 = (vi x29) ∧ (((decide ((x29 : Int) > 0)) = true → R (vi x29) h28) ∧ ((decide ((x29 : Int) > 0)) = false → (J32 h28))))) ∧ ((decide ((((u_qWheren : Nat) : Int) : Int) > 0)) = false → (J32 h6)))))))))
theorem ok_R_QueryFault {u_qAggsa : Option Addr} {u_qAggsn u_qAggsc : Nat} {u_qWherea : Option Addr} {u_qWheren u_qWherec : Nat} {u_qBya : Option Addr} {u_qByn u_qByc : Nat} {u_qSize : Int} {u_qSlide : Int} {u_qDelay : Int} {u_qLate : Int} {h : Hp} {R : Value → Hp → Prop} (H : VC_R_QueryFault u_qAggsa u_qAggsn u_qAggsc u_qWherea u_qWheren u_qWherec u_qBya u_qByn u_qByc u_qSize u_qSlide u_qDelay u_qLate h R) : CallOK Tryz.prog 53 [(vag [(vsl u_qAggsa u_qAggsn u_qAggsc), (vsl u_qWherea u_qWheren u_qWherec), (vsl u_qBya u_qByn u_qByc), (vi u_qSize), (vi u_qSlide), (vi u_qDelay), (vi u_qLate)])] h R :=
  call_of (cfg := ⟨[], [(4, ([3], [.one (.int .i64)], []))], []⟩) noNG mixed Tryz.func53 [.ag [.v (vsl u_qAggsa u_qAggsn u_qAggsc), .v (vsl u_qWherea u_qWheren u_qWherec), .v (vsl u_qBya u_qByn u_qByc), .v (vi u_qSize), .v (vi u_qSlide), .v (vi u_qDelay), .v (vi u_qLate)]] (by kernel_rfl) rfl (by kernel_rfl) H
def VC_R_typed (u_la : Option Addr) (u_ln u_lc : Nat) (u_kind : Int) (h : Hp) (R : Value → Hp → Prop) : Prop :=
  (CallOK Tryz.prog 113 [(vsl u_la u_ln u_lc)] h fun v1 h2 => ∃ (x3 : Int), v1 = (vi x3) ∧ (((decide ((x3 : Int) > 0)) = true → R (vi x3) h2) ∧ ((decide ((x3 : Int) > 0)) = false → (CallOK Tryz.prog 114 [(vsl u_la u_ln u_lc)] h2 fun v5 h6 => ∃ (x7 : Int) (x8 : Int), v5 = (vtup [(vi x7), (vi x8)]) ∧ (((decide ((x8 : Int) > 0)) = true → R (vi x8) h6) ∧ ((decide ((x8 : Int) > 0)) = false → (((bif (bif (decide ((u_kind : Int) > 0)) then (decide ((x7 : Int) ≠ u_kind)) else false) then (decide ((x7 : Int) > 0)) else false) = true → R (vi 3) h6) ∧ ((bif (bif (decide ((u_kind : Int) > 0)) then (decide ((x7 : Int) ≠ u_kind)) else false) then (decide ((x7 : Int) > 0)) else false) = false → R (vi 0) h6))))))))
theorem ok_R_typed {u_la : Option Addr} {u_ln u_lc : Nat} {u_kind : Int} {h : Hp} {R : Value → Hp → Prop} (H : VC_R_typed u_la u_ln u_lc u_kind h R) : CallOK Tryz.prog 85 [(vsl u_la u_ln u_lc), (vi u_kind)] h R :=
  call_of (cfg := ⟨[], [], []⟩) noNG mixed Tryz.func85 [.one (.v (vsl u_la u_ln u_lc)), .one (.v (vi u_kind))] (by kernel_rfl) rfl (by kernel_rfl) H
end Go.Proofs.YtejefijpcggkfaaGreatDoor
namespace Go.Proofs.YtejefijpcggkfaaGreatDoor
open Go Go.Vc
set_option maxRecDepth 100000
set_option linter.unusedVariables false
end Go.Proofs.YtejefijpcggkfaaGreatDoor
namespace Go.Proofs.YtejefijpcggkfaaGreatDoor
open Go Go.Vc
set_option maxRecDepth 100000
set_option linter.unusedVariables false
end Go.Proofs.YtejefijpcggkfaaGreatDoor
namespace Go.Proofs.YtejefijpcggkfaaGreatDoor
open Go Go.Vc
set_option linter.unusedVariables false
set_option maxRecDepth 100000
end Go.Proofs.YtejefijpcggkfaaGreatDoor
