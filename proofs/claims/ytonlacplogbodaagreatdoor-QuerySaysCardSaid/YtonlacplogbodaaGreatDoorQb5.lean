/-
  Laws and contracts on which the statement's proof stands, part 5. Conditions: those stated at each.
-/
import Derived.Lib.Join
import Derived.Test.YtonlacplogbodaaGreatDoorQb4
/-
  What functions of the program ask, in words: each is what the framework reckons from the loaded code (the kernel holds the two together), and gives the function's call. Conditions: none.
-/
namespace Go.Proofs.YtonlacplogbodaaGreatDoor
open Go Go.Vc
set_option maxRecDepth 100000
set_option linter.unusedVariables false
/-- What 'penstock/penstockref.QueryFault' asks. -/
def VC_R_QueryFault (u_qAggsa : Option Addr) (u_qAggsn u_qAggsc : Nat) (u_qWherea : Option Addr) (u_qWheren u_qWherec : Nat) (u_qBya : Option Addr) (u_qByn u_qByc : Nat) (u_qSize : Int) (u_qSlide : Int) (u_qDelay : Int) (u_qLate : Int) (h : Hp) (R : Value → Hp → Prop) : Prop :=
  (((bif (decide ((((u_qAggsn : Nat) : Int) : Int) < 1)) then true else (decide ((((u_qAggsn : Nat) : Int) : Int) > 4))) = true → R (vi 2) h) ∧ ((bif (decide ((((u_qAggsn : Nat) : Int) : Int) < 1)) then true else (decide ((((u_qAggsn : Nat) : Int) : Int) > 4))) = false → (∃ (I3 : List Value → Hp → Prop) (m4 : List Value → Hp → Nat), I3 [(vi 0)] h ∧ ∀ (vs5 : List Value) (h6 : Hp), I3 vs5 h6 → ∃ (x7 : Int), vs5 = [(vi x7)] ∧ (((decide ((x7 : Int) < ((u_qAggsn : Nat) : Int))) = true → (let J24 : Hp → Prop := fun (h25 : Hp) => (∃ (x26 : Int), (IsW x26 (x7 + 1)) ∧ (I3 [(vi x26)] h25 ∧ m4 [(vi x26)] h25 < m4 vs5 h6)); (∃ (b10 o11 : Nat), (u_qAggsa = some ⟨b10, o11, none⟩ ∧ (0 : Int) ≤ x7 ∧ x7 < ((u_qAggsn : Nat) : Int)) ∧ (∃ (x12 : Int) (a13 : Option Addr) (n13 c13 : Nat), (Hp.row h6 b10 (o11 + x7.toNat * 2) 2 = some [(vi x12), (vsl a13 n13 c13)]) ∧ (((bif (bif (decide ((x12 : Int) < 1)) then true else (decide ((x12 : Int) > 5))) then true else (bif (decide ((x12 : Int) = 1)) then (decide ((((n13 : Nat) : Int) : Int) > 0)) else false)) = true → R (vi 3) h6) ∧ ((bif (bif (decide ((x12 : Int) < 1)) then true else (decide ((x12 : Int) > 5))) then true else (bif (decide ((x12 : Int) = 1)) then (decide ((((n13 : Nat) : Int) : Int) > 0)) else false)) = false → (let J17 : Int → Prop := fun (x18 : Int) => (((decide ((x12 : Int) > 1)) = true → (CallOK Tryz.prog 15 [(vsl a13 n13 c13), (vi x18)] h6 fun v19 h20 => ∃ (x21 : Int), v19 = (vi x21) ∧ (((decide ((x21 : Int) > 0)) = true → R (vi x21) h20) ∧ ((decide ((x21 : Int) > 0)) = false → (J24 h20))))) ∧ ((decide ((x12 : Int) > 1)) = false → (J24 h6))); (((decide ((x12 : Int) = 2)) = true → (J17 0)) ∧ ((decide ((x12 : Int) = 2)) = false → (J17 1)))))))))) ∧ ((decide ((x7 : Int) < ((u_qAggsn : Nat) : Int))) = false → (let J32 : Hp → Prop := fun (h33 : Hp) => (let J39 : Hp → Prop := fun (h40 : Hp) => (((bif (bif (bif (bif (bif (bif (bif (decide ((u_qSize : Int) < 1)) then true else (decide ((u_qSize : Int) > 1000))) then true else (decide ((u_qSlide : Int) < 1))) then true else (decide ((u_qSlide : Int) > 1000))) then true else (decide ((u_qDelay : Int) < 0))) then true else (decide ((u_qDelay : Int) > 1000))) then true else (decide ((u_qLate : Int) < 0))) then true else (decide ((u_qLate : Int) > 1000))) = true → R (vi 1) h40) ∧ ((bif (bif (bif (bif (bif (bif (bif (decide ((u_qSize : Int) < 1)) then true else (decide ((u_qSize : Int) > 1000))) then true else (decide ((u_qSlide : Int) < 1))) then true else (decide ((u_qSlide : Int) > 1000))) then true else (decide ((u_qDelay : Int) < 0))) then true else (decide ((u_qDelay : Int) > 1000))) then true else (decide ((u_qLate : Int) < 0))) then true else (decide ((u_qLate : Int) > 1000))) = false → (∃ (x42 : Int), ((decide ((u_qSlide : Int) > u_qSize)) = false → IsW x42 (4 * u_qSlide)) ∧ (((bif (decide ((u_qSlide : Int) > u_qSize)) then true else (decide ((u_qSize : Int) > x42))) = true → R (vi 3) h40) ∧ ((bif (decide ((u_qSlide : Int) > u_qSize)) then true else (decide ((u_qSize : Int) > x42))) = false → R (vi 0) h40))))); (((decide ((((u_qByn : Nat) : Int) : Int) > 0)) = true → (CallOK Tryz.prog 15 [(vsl u_qBya u_qByn u_qByc), (vi 0)] h33 fun v34 h35 => ∃ (x36 : Int), v34 = (vi x36) ∧ (((decide ((x36 : Int) > 0)) = true → R (vi x36) h35) ∧ ((decide ((x36 : Int) > 0)) = false → (J39 h35))))) ∧ ((decide ((((u_qByn : Nat) : Int) : Int) > 0)) = false → (J39 h33)))); (((decide ((((u_qWheren : Nat) : Int) : Int) > 0)) = true → (CallOK Tryz.prog 15 [(vsl u_qWherea u_qWheren u_qWherec), (vi 2)] h6 fun v27 h28 => ∃ (x29 : Int), v27 = (vi x29) ∧ (((decide ((x29 : Int) > 0)) = true → R (vi x29) h28) ∧ ((decide ((x29 : Int) > 0)) = false → (J32 h28))))) ∧ ((decide ((((u_qWheren : Nat) : Int) : Int) > 0)) = false → (J32 h6)))))))))
theorem ok_R_QueryFault {u_qAggsa : Option Addr} {u_qAggsn u_qAggsc : Nat} {u_qWherea : Option Addr} {u_qWheren u_qWherec : Nat} {u_qBya : Option Addr} {u_qByn u_qByc : Nat} {u_qSize : Int} {u_qSlide : Int} {u_qDelay : Int} {u_qLate : Int} {h : Hp} {R : Value → Hp → Prop} (H : VC_R_QueryFault u_qAggsa u_qAggsn u_qAggsc u_qWherea u_qWheren u_qWherec u_qBya u_qByn u_qByc u_qSize u_qSlide u_qDelay u_qLate h R) : CallOK Tryz.prog 6 [(vag [(vsl u_qAggsa u_qAggsn u_qAggsc), (vsl u_qWherea u_qWheren u_qWherec), (vsl u_qBya u_qByn u_qByc), (vi u_qSize), (vi u_qSlide), (vi u_qDelay), (vi u_qLate)])] h R :=
  call_of (cfg := ⟨[], [(4, ([3], [.one (.int .i64)], []))], []⟩) noNG mixed Tryz.func6 [.ag [.v (vsl u_qAggsa u_qAggsn u_qAggsc), .v (vsl u_qWherea u_qWheren u_qWherec), .v (vsl u_qBya u_qByn u_qByc), .v (vi u_qSize), .v (vi u_qSlide), .v (vi u_qDelay), .v (vi u_qLate)]] (by kernel_rfl) rfl (by kernel_rfl) H

/-- What 'penstock/penstockref.typed' asks. -/
def VC_R_typed (u_la : Option Addr) (u_ln u_lc : Nat) (u_kind : Int) (h : Hp) (R : Value → Hp → Prop) : Prop :=
  (CallOK Tryz.prog 37 [(vsl u_la u_ln u_lc)] h fun v1 h2 => ∃ (x3 : Int), v1 = (vi x3) ∧ (((decide ((x3 : Int) > 0)) = true → R (vi x3) h2) ∧ ((decide ((x3 : Int) > 0)) = false → (CallOK Tryz.prog 38 [(vsl u_la u_ln u_lc)] h2 fun v5 h6 => ∃ (x7 : Int) (x8 : Int), v5 = (vtup [(vi x7), (vi x8)]) ∧ (((decide ((x8 : Int) > 0)) = true → R (vi x8) h6) ∧ ((decide ((x8 : Int) > 0)) = false → (((bif (bif (decide ((u_kind : Int) > 0)) then (decide ((x7 : Int) ≠ u_kind)) else false) then (decide ((x7 : Int) > 0)) else false) = true → R (vi 3) h6) ∧ ((bif (bif (decide ((u_kind : Int) > 0)) then (decide ((x7 : Int) ≠ u_kind)) else false) then (decide ((x7 : Int) > 0)) else false) = false → R (vi 0) h6))))))))
theorem ok_R_typed {u_la : Option Addr} {u_ln u_lc : Nat} {u_kind : Int} {h : Hp} {R : Value → Hp → Prop} (H : VC_R_typed u_la u_ln u_lc u_kind h R) : CallOK Tryz.prog 15 [(vsl u_la u_ln u_lc), (vi u_kind)] h R :=
  call_of (cfg := ⟨[], [], []⟩) noNG mixed Tryz.func15 [.one (.v (vsl u_la u_ln u_lc)), .one (.v (vi u_kind))] (by kernel_rfl) rfl (by kernel_rfl) H

/-- What 'penstock/penstockref.SameQuery' asks. -/
def VC_R_SameQuery (u_aAggsa : Option Addr) (u_aAggsn u_aAggsc : Nat) (u_aWherea : Option Addr) (u_aWheren u_aWherec : Nat) (u_aBya : Option Addr) (u_aByn u_aByc : Nat) (u_aSize : Int) (u_aSlide : Int) (u_aDelay : Int) (u_aLate : Int) (u_bAggsa : Option Addr) (u_bAggsn u_bAggsc : Nat) (u_bWherea : Option Addr) (u_bWheren u_bWherec : Nat) (u_bBya : Option Addr) (u_bByn u_bByc : Nat) (u_bSize : Int) (u_bSlide : Int) (u_bDelay : Int) (u_bLate : Int) (h : Hp) (R : Value → Hp → Prop) : Prop :=
  (CallOK Tryz.prog 36 [(vsl u_aWherea u_aWheren u_aWherec), (vsl u_bWherea u_bWheren u_bWherec)] h fun v1 h2 => ∃ (p3 : Bool), v1 = (vb p3) ∧ (CallOK Tryz.prog 36 [(vsl u_aBya u_aByn u_aByc), (vsl u_bBya u_bByn u_bByc)] h2 fun v4 h5 => ∃ (p6 : Bool), v4 = (vb p6) ∧ (((bif (bif (decide ((((u_aAggsn : Nat) : Int) : Int) ≠ ((u_bAggsn : Nat) : Int))) then true else (!p3)) then true else (!p6)) = true → R (vb false) h5) ∧ ((bif (bif (decide ((((u_aAggsn : Nat) : Int) : Int) ≠ ((u_bAggsn : Nat) : Int))) then true else (!p3)) then true else (!p6)) = false → (∃ (I9 : List Value → Hp → Prop) (m10 : List Value → Hp → Nat), I9 [(vi 0)] h5 ∧ ∀ (vs11 : List Value) (h12 : Hp), I9 vs11 h12 → ∃ (x13 : Int), vs11 = [(vi x13)] ∧ (((decide ((x13 : Int) < ((u_aAggsn : Nat) : Int))) = true → (∃ (b16 o17 : Nat), (u_aAggsa = some ⟨b16, o17, none⟩ ∧ (0 : Int) ≤ x13 ∧ x13 < ((u_aAggsn : Nat) : Int)) ∧ (∃ (a18 : Option Addr) (n18 c18 : Nat), (Hp.cell h12 b16 ((o17 + x13.toNat * 2) + 1) = some (vsl a18 n18 c18)) ∧ (∃ (b19 o20 : Nat), (u_bAggsa = some ⟨b19, o20, none⟩ ∧ (0 : Int) ≤ x13 ∧ x13 < ((u_bAggsn : Nat) : Int)) ∧ (∃ (a21 : Option Addr) (n21 c21 : Nat), (Hp.cell h12 b19 ((o20 + x13.toNat * 2) + 1) = some (vsl a21 n21 c21)) ∧ (CallOK Tryz.prog 36 [(vsl a18 n18 c18), (vsl a21 n21 c21)] h12 fun v22 h23 => ∃ (p24 : Bool), v22 = (vb p24) ∧ (∃ (b25 o26 : Nat), (u_aAggsa = some ⟨b25, o26, none⟩ ∧ (0 : Int) ≤ x13 ∧ x13 < ((u_aAggsn : Nat) : Int)) ∧ (∃ (x27 : Int), (Hp.cell h23 b25 (o26 + x13.toNat * 2) = some (vi x27)) ∧ (∃ (b28 o29 : Nat), (u_bAggsa = some ⟨b28, o29, none⟩ ∧ (0 : Int) ≤ x13 ∧ x13 < ((u_bAggsn : Nat) : Int)) ∧ (∃ (x30 : Int), (Hp.cell h23 b28 (o29 + x13.toNat * 2) = some (vi x30)) ∧ (((bif (decide ((x27 : Int) ≠ x30)) then true else (!p24)) = true → R (vb false) h23) ∧ ((bif (decide ((x27 : Int) ≠ x30)) then true else (!p24)) = false → (∃ (x32 : Int), (IsW x32 (x13 + 1)) ∧ (I9 [(vi x32)] h23 ∧ m10 [(vi x32)] h23 < m10 vs11 h12)))))))))))))) ∧ ((decide ((x13 : Int) < ((u_aAggsn : Nat) : Int))) = false → R (vb (bif (bif (bif (decide ((u_aSize : Int) = u_bSize)) then (decide ((u_aSlide : Int) = u_bSlide)) else false) then (decide ((u_aDelay : Int) = u_bDelay)) else false) then (decide ((u_aLate : Int) = u_bLate)) else false)) h12)))))))
theorem ok_R_SameQuery {u_aAggsa : Option Addr} {u_aAggsn u_aAggsc : Nat} {u_aWherea : Option Addr} {u_aWheren u_aWherec : Nat} {u_aBya : Option Addr} {u_aByn u_aByc : Nat} {u_aSize : Int} {u_aSlide : Int} {u_aDelay : Int} {u_aLate : Int} {u_bAggsa : Option Addr} {u_bAggsn u_bAggsc : Nat} {u_bWherea : Option Addr} {u_bWheren u_bWherec : Nat} {u_bBya : Option Addr} {u_bByn u_bByc : Nat} {u_bSize : Int} {u_bSlide : Int} {u_bDelay : Int} {u_bLate : Int} {h : Hp} {R : Value → Hp → Prop} (H : VC_R_SameQuery u_aAggsa u_aAggsn u_aAggsc u_aWherea u_aWheren u_aWherec u_aBya u_aByn u_aByc u_aSize u_aSlide u_aDelay u_aLate u_bAggsa u_bAggsn u_bAggsc u_bWherea u_bWheren u_bWherec u_bBya u_bByn u_bByc u_bSize u_bSlide u_bDelay u_bLate h R) : CallOK Tryz.prog 13 [(vag [(vsl u_aAggsa u_aAggsn u_aAggsc), (vsl u_aWherea u_aWheren u_aWherec), (vsl u_aBya u_aByn u_aByc), (vi u_aSize), (vi u_aSlide), (vi u_aDelay), (vi u_aLate)]), (vag [(vsl u_bAggsa u_bAggsn u_bAggsc), (vsl u_bWherea u_bWheren u_bWherec), (vsl u_bBya u_bByn u_bByc), (vi u_bSize), (vi u_bSlide), (vi u_bDelay), (vi u_bLate)])] h R :=
  call_of (cfg := ⟨[], [(6, ([7], [.one (.int .i64)], []))], [(8, [0, 1, 2, 3, 4, 5, 6, 7, 8, 9, 10, 11, 12, 13]), (9, [0, 1, 2, 3, 4, 5, 6, 7, 8, 9, 10, 11, 12, 13, 14, 15, 16])]⟩) noNG mixed Tryz.func13 [.ag [.v (vsl u_aAggsa u_aAggsn u_aAggsc), .v (vsl u_aWherea u_aWheren u_aWherec), .v (vsl u_aBya u_aByn u_aByc), .v (vi u_aSize), .v (vi u_aSlide), .v (vi u_aDelay), .v (vi u_aLate)], .ag [.v (vsl u_bAggsa u_bAggsn u_bAggsc), .v (vsl u_bWherea u_bWheren u_bWherec), .v (vsl u_bBya u_bByn u_bByc), .v (vi u_bSize), .v (vi u_bSlide), .v (vi u_bDelay), .v (vi u_bLate)]] (by kernel_rfl) rfl (by kernel_rfl) H

end Go.Proofs.YtonlacplogbodaaGreatDoor
/-
  What functions of the program ask, in words: each is what the framework reckons from the loaded code (the kernel holds the two together), and gives the function's call. Conditions: none.
-/
namespace Go.Proofs.YtonlacplogbodaaGreatDoor
open Go Go.Vc
set_option maxRecDepth 100000
set_option linter.unusedVariables false
/-- What 'penstock/query.typed' asks. -/
def VC_query_typed (u_la : Option Addr) (u_ln u_lc : Nat) (u_kind : Int) (h : Hp) (R : Value → Hp → Prop) : Prop :=
  (CallOK Tryz.prog 39 [(vsl u_la u_ln u_lc)] h fun v1 h2 => ∃ (e3 : Option (TypeId × Value)), v1 = (ifv e3) ∧ (((Option.isSome e3) = true → R (ifv e3) h2) ∧ ((Option.isSome e3) = false → (CallOK Tryz.prog 40 [(vsl u_la u_ln u_lc)] h2 fun v5 h6 => ∃ (x7 : Int) (e8 : Option (TypeId × Value)), v5 = (vtup [(vi x7), (ifv e8)]) ∧ (let J11 : Option (TypeId × Value) → Prop := fun (e12 : Option (TypeId × Value)) => R (ifv e12) h6; (((bif (bif (bif (Option.isNone e8) then (decide ((u_kind : Int) ≠ 0)) else false) then (decide ((x7 : Int) ≠ u_kind)) else false) then (decide ((x7 : Int) ≠ 0)) else false) = true → (J11 (some (44, (vi 3))))) ∧ ((bif (bif (bif (Option.isNone e8) then (decide ((u_kind : Int) ≠ 0)) else false) then (decide ((x7 : Int) ≠ u_kind)) else false) then (decide ((x7 : Int) ≠ 0)) else false) = false → (J11 e8))))))))
theorem ok_query_typed {u_la : Option Addr} {u_ln u_lc : Nat} {u_kind : Int} {h : Hp} {R : Value → Hp → Prop} (H : VC_query_typed u_la u_ln u_lc u_kind h R) : CallOK Tryz.prog 16 [(vsl u_la u_ln u_lc), (vi u_kind)] h R :=
  call_of (cfg := ⟨[], [], []⟩) noNG mixed Tryz.func16 [.one (.v (vsl u_la u_ln u_lc)), .one (.v (vi u_kind))] (by kernel_rfl) rfl (by kernel_rfl) H

/-- What 'penstock/query.numbers' asks. -/
def VC_query_numbers (u_qAggsa : Option Addr) (u_qAggsn u_qAggsc : Nat) (u_qWherea : Option Addr) (u_qWheren u_qWherec : Nat) (u_qBya : Option Addr) (u_qByn u_qByc : Nat) (u_qSize : Int) (u_qSlide : Int) (u_qDelay : Int) (u_qLate : Int) (h : Hp) (R : Value → Hp → Prop) : Prop :=
  (∀ (b1 : Nat), h b1 = none → let h2 : Hp := Hp.set h b1 (cellsO [(vi u_qSize), (vi u_qSlide)] 3); (∃ (I4 : List Value → Hp → Prop) (m5 : List Value → Hp → Nat), I4 [(vi 0)] h2 ∧ ∀ (vs6 : List Value) (h7 : Hp), I4 vs6 h7 → ∃ (x8 : Int), vs6 = [(vi x8)] ∧ (((decide ((x8 : Int) < ((2 : Nat) : Int))) = true → (∃ (b11 o12 : Nat), ((some (⟨b1, 0, none⟩ : Addr)) = some ⟨b11, o12, none⟩ ∧ (0 : Int) ≤ x8 ∧ x8 < ((2 : Nat) : Int)) ∧ (∃ (x13 : Int), (Hp.cell h7 b11 (o12 + x8.toNat * 1) = some (vi x13)) ∧ (((bif (decide ((x13 : Int) < 1)) then true else (decide ((x13 : Int) > 1000))) = true → R (ifv (some (44, (vi 1)))) h7) ∧ ((bif (decide ((x13 : Int) < 1)) then true else (decide ((x13 : Int) > 1000))) = false → (∃ (x15 : Int), (IsW x15 (x8 + 1)) ∧ (I4 [(vi x15)] h7 ∧ m5 [(vi x15)] h7 < m5 vs6 h7))))))) ∧ ((decide ((x8 : Int) < ((2 : Nat) : Int))) = false → (∀ (b16 : Nat), h7 b16 = none → let h17 : Hp := Hp.set h7 b16 (cellsO [(vi u_qDelay), (vi u_qLate)] 3); (∃ (I19 : List Value → Hp → Prop) (m20 : List Value → Hp → Nat), I19 [(vi 0)] h17 ∧ ∀ (vs21 : List Value) (h22 : Hp), I19 vs21 h22 → ∃ (x23 : Int), vs21 = [(vi x23)] ∧ (((decide ((x23 : Int) < ((2 : Nat) : Int))) = true → (∃ (b26 o27 : Nat), ((some (⟨b16, 0, none⟩ : Addr)) = some ⟨b26, o27, none⟩ ∧ (0 : Int) ≤ x23 ∧ x23 < ((2 : Nat) : Int)) ∧ (∃ (x28 : Int), (Hp.cell h22 b26 (o27 + x23.toNat * 1) = some (vi x28)) ∧ (((bif (decide ((x28 : Int) < 0)) then true else (decide ((x28 : Int) > 1000))) = true → R (ifv (some (44, (vi 1)))) h22) ∧ ((bif (decide ((x28 : Int) < 0)) then true else (decide ((x28 : Int) > 1000))) = false → (∃ (x30 : Int), (IsW x30 (x23 + 1)) ∧ (I19 [(vi x30)] h22 ∧ m20 [(vi x30)] h22 < m20 vs21 h22))))))) ∧ ((decide ((x23 : Int) < ((2 : Nat) : Int))) = false → (∃ (x31 : Int), ((decide ((u_qSlide : Int) > u_qSize)) = false → IsW x31 (4 * u_qSlide)) ∧ (((bif (decide ((u_qSlide : Int) > u_qSize)) then true else (decide ((u_qSize : Int) > x31))) = true → R (ifv (some (44, (vi 3)))) h22) ∧ ((bif (decide ((u_qSlide : Int) > u_qSize)) then true else (decide ((u_qSize : Int) > x31))) = false → R (ifv none) h22)))))))))))
theorem ok_query_numbers {u_qAggsa : Option Addr} {u_qAggsn u_qAggsc : Nat} {u_qWherea : Option Addr} {u_qWheren u_qWherec : Nat} {u_qBya : Option Addr} {u_qByn u_qByc : Nat} {u_qSize : Int} {u_qSlide : Int} {u_qDelay : Int} {u_qLate : Int} {h : Hp} {R : Value → Hp → Prop} (H : VC_query_numbers u_qAggsa u_qAggsn u_qAggsc u_qWherea u_qWheren u_qWherec u_qBya u_qByn u_qByc u_qSize u_qSlide u_qDelay u_qLate h R) : CallOK Tryz.prog 17 [(vag [(vsl u_qAggsa u_qAggsn u_qAggsc), (vsl u_qWherea u_qWheren u_qWherec), (vsl u_qBya u_qByn u_qByc), (vi u_qSize), (vi u_qSlide), (vi u_qDelay), (vi u_qLate)])] h R :=
  call_of (cfg := ⟨[], [(2, ([13], [.one (.int .i64)], [])), (8, ([31], [.one (.int .i64)], []))], []⟩) noNG mixed Tryz.func17 [.ag [.v (vsl u_qAggsa u_qAggsn u_qAggsc), .v (vsl u_qWherea u_qWheren u_qWherec), .v (vsl u_qBya u_qByn u_qByc), .v (vi u_qSize), .v (vi u_qSlide), .v (vi u_qDelay), .v (vi u_qLate)]] (by kernel_rfl) rfl (by kernel_rfl) H

/-- What 'penstock/query.Check' asks. -/
def VC_query_Check (u_qAggsa : Option Addr) (u_qAggsn u_qAggsc : Nat) (u_qWherea : Option Addr) (u_qWheren u_qWherec : Nat) (u_qBya : Option Addr) (u_qByn u_qByc : Nat) (u_qSize : Int) (u_qSlide : Int) (u_qDelay : Int) (u_qLate : Int) (h : Hp) (R : Value → Hp → Prop) : Prop :=
  (((bif (decide ((((u_qAggsn : Nat) : Int) : Int) < 1)) then true else (decide ((((u_qAggsn : Nat) : Int) : Int) > 4))) = true → R (ifv (some (44, (vi 2)))) h) ∧ ((bif (decide ((((u_qAggsn : Nat) : Int) : Int) < 1)) then true else (decide ((((u_qAggsn : Nat) : Int) : Int) > 4))) = false → (∃ (I3 : List Value → Hp → Prop) (m4 : List Value → Hp → Nat), I3 [(vi 0)] h ∧ ∀ (vs5 : List Value) (h6 : Hp), I3 vs5 h6 → ∃ (x7 : Int), vs5 = [(vi x7)] ∧ (((decide ((x7 : Int) < ((u_qAggsn : Nat) : Int))) = true → (let J25 : Hp → Prop := fun (h26 : Hp) => (∃ (x27 : Int), (IsW x27 (x7 + 1)) ∧ (I3 [(vi x27)] h26 ∧ m4 [(vi x27)] h26 < m4 vs5 h6)); (∃ (b10 o11 : Nat), (u_qAggsa = some ⟨b10, o11, none⟩ ∧ (0 : Int) ≤ x7 ∧ x7 < ((u_qAggsn : Nat) : Int)) ∧ (∃ (x12 : Int) (a13 : Option Addr) (n13 c13 : Nat), (Hp.row h6 b10 (o11 + x7.toNat * 2) 2 = some [(vi x12), (vsl a13 n13 c13)]) ∧ (((bif (bif (decide ((x12 : Int) < 1)) then true else (decide ((x12 : Int) > 5))) then true else (bif (decide ((x12 : Int) = 1)) then (decide ((((n13 : Nat) : Int) : Int) > 0)) else false)) = true → R (ifv (some (44, (vi 3)))) h6) ∧ ((bif (bif (decide ((x12 : Int) < 1)) then true else (decide ((x12 : Int) > 5))) then true else (bif (decide ((x12 : Int) = 1)) then (decide ((((n13 : Nat) : Int) : Int) > 0)) else false)) = false → (((decide ((x12 : Int) = 1)) = true → (J25 h6)) ∧ ((decide ((x12 : Int) = 1)) = false → (let J19 : Int → Prop := fun (x20 : Int) => (CallOK Tryz.prog 16 [(vsl a13 n13 c13), (vi x20)] h6 fun v21 h22 => ∃ (e23 : Option (TypeId × Value)), v21 = (ifv e23) ∧ (((Option.isSome e23) = true → R (ifv e23) h22) ∧ ((Option.isSome e23) = false → (J25 h22)))); (((decide ((x12 : Int) = 2)) = true → (J19 0)) ∧ ((decide ((x12 : Int) = 2)) = false → (J19 1)))))))))))) ∧ ((decide ((x7 : Int) < ((u_qAggsn : Nat) : Int))) = false → (let J33 : Hp → Prop := fun (h34 : Hp) => (let J40 : Hp → Prop := fun (h41 : Hp) => (CallOK Tryz.prog 17 [(vag [(vsl u_qAggsa u_qAggsn u_qAggsc), (vsl u_qWherea u_qWheren u_qWherec), (vsl u_qBya u_qByn u_qByc), (vi u_qSize), (vi u_qSlide), (vi u_qDelay), (vi u_qLate)])] h41 fun v42 h43 => ∃ (e44 : Option (TypeId × Value)), v42 = (ifv e44) ∧ R (ifv e44) h43); (((decide ((((u_qByn : Nat) : Int) : Int) > 0)) = true → (CallOK Tryz.prog 16 [(vsl u_qBya u_qByn u_qByc), (vi 0)] h34 fun v35 h36 => ∃ (e37 : Option (TypeId × Value)), v35 = (ifv e37) ∧ (((Option.isSome e37) = true → R (ifv e37) h36) ∧ ((Option.isSome e37) = false → (J40 h36))))) ∧ ((decide ((((u_qByn : Nat) : Int) : Int) > 0)) = false → (J40 h34)))); (((decide ((((u_qWheren : Nat) : Int) : Int) > 0)) = true → (CallOK Tryz.prog 16 [(vsl u_qWherea u_qWheren u_qWherec), (vi 2)] h6 fun v28 h29 => ∃ (e30 : Option (TypeId × Value)), v28 = (ifv e30) ∧ (((Option.isSome e30) = true → R (ifv e30) h29) ∧ ((Option.isSome e30) = false → (J33 h29))))) ∧ ((decide ((((u_qWheren : Nat) : Int) : Int) > 0)) = false → (J33 h6)))))))))
theorem ok_query_Check {u_qAggsa : Option Addr} {u_qAggsn u_qAggsc : Nat} {u_qWherea : Option Addr} {u_qWheren u_qWherec : Nat} {u_qBya : Option Addr} {u_qByn u_qByc : Nat} {u_qSize : Int} {u_qSlide : Int} {u_qDelay : Int} {u_qLate : Int} {h : Hp} {R : Value → Hp → Prop} (H : VC_query_Check u_qAggsa u_qAggsn u_qAggsc u_qWherea u_qWheren u_qWherec u_qBya u_qByn u_qByc u_qSize u_qSlide u_qDelay u_qLate h R) : CallOK Tryz.prog 8 [(vag [(vsl u_qAggsa u_qAggsn u_qAggsc), (vsl u_qWherea u_qWheren u_qWherec), (vsl u_qBya u_qByn u_qByc), (vi u_qSize), (vi u_qSlide), (vi u_qDelay), (vi u_qLate)])] h R :=
  call_of (cfg := ⟨[], [(4, ([23], [.one (.int .i64)], []))], []⟩) noNG mixed Tryz.func8 [.ag [.v (vsl u_qAggsa u_qAggsn u_qAggsc), .v (vsl u_qWherea u_qWheren u_qWherec), .v (vsl u_qBya u_qByn u_qByc), .v (vi u_qSize), .v (vi u_qSlide), .v (vi u_qDelay), .v (vi u_qLate)]] (by kernel_rfl) rfl (by kernel_rfl) H

end Go.Proofs.YtonlacplogbodaaGreatDoor
/-
  What functions of the program ask, in words: each is what the framework reckons from the loaded code (the kernel holds the two together), and gives the function's call. Conditions: none.
-/
namespace Go.Proofs.YtonlacplogbodaaGreatDoor
open Go Go.Vc
set_option maxRecDepth 100000
set_option linter.unusedVariables false
/-- What 'penstock/expr.one' asks. -/
def VC_expr_one (u_nOp : Int) (u_nX : Int) (u_nY : Int) (u_nN : Int) (u_nValKind : Int) (u_nValN : Int) (h : Hp) (R : Value → Hp → Prop) : Prop :=
  (CallOK Tryz.prog 67 [(vi u_nOp)] h fun v1 h2 => ∃ (x3 : Int), v1 = (vi x3) ∧ (((decide ((x3 : Int) < 0)) = true → R (ifv (some (44, (vi 3)))) h2) ∧ ((decide ((x3 : Int) < 0)) = false → (∃ (p5 : Bool), ((decide ((u_nOp : Int) ≠ 1)) = true → Rd Tryz.prog ((eqGuard .neq 80 (.tmp 15) (.tmp 16) (vag [(vi u_nValKind), (vi u_nValN)]) (vag [(vi 0), (vi 0)]) >>= fun _ => binOp .neq 80 (vag [(vi u_nValKind), (vi u_nValN)]) (vag [(vi 0), (vi 0)]))) h2 (vb p5)) ∧ (((bif (bif (bif (bif (decide ((u_nOp : Int) ≠ 1)) then p5 else false) then true else (bif (decide ((u_nOp : Int) ≠ 2)) then (decide ((u_nN : Int) ≠ 0)) else false)) then true else (bif (decide ((x3 : Int) < 2)) then (decide ((u_nY : Int) ≠ 0)) else false)) then true else (bif (decide ((x3 : Int) < 1)) then (decide ((u_nX : Int) ≠ 0)) else false)) = true → R (ifv (some (44, (vi 3)))) h2) ∧ ((bif (bif (bif (bif (decide ((u_nOp : Int) ≠ 1)) then p5 else false) then true else (bif (decide ((u_nOp : Int) ≠ 2)) then (decide ((u_nN : Int) ≠ 0)) else false)) then true else (bif (decide ((x3 : Int) < 2)) then (decide ((u_nY : Int) ≠ 0)) else false)) then true else (bif (decide ((x3 : Int) < 1)) then (decide ((u_nX : Int) ≠ 0)) else false)) = false → (((bif (decide ((u_nOp : Int) = 2)) then (bif (decide ((u_nN : Int) < 0)) then true else (decide ((u_nN : Int) > 3))) else false) = true → R (ifv (some (44, (vi 1)))) h2) ∧ ((bif (decide ((u_nOp : Int) = 2)) then (bif (decide ((u_nN : Int) < 0)) then true else (decide ((u_nN : Int) > 3))) else false) = false → (CallOK Tryz.prog 79 [(vag [(vi u_nValKind), (vi u_nValN)])] h2 fun v8 h9 => ∃ (e10 : Option (TypeId × Value)), v8 = (ifv e10) ∧ R (ifv e10) h9)))))))))
theorem ok_expr_one {u_nOp : Int} {u_nX : Int} {u_nY : Int} {u_nN : Int} {u_nValKind : Int} {u_nValN : Int} {h : Hp} {R : Value → Hp → Prop} (H : VC_expr_one u_nOp u_nX u_nY u_nN u_nValKind u_nValN h R) : CallOK Tryz.prog 66 [(vag [(vi u_nOp), (vi u_nX), (vi u_nY), (vi u_nN), (vi u_nValKind), (vi u_nValN)])] h R :=
  call_of (cfg := ⟨[], [], []⟩) noNG mixed Tryz.func66 [.ag [.v (vi u_nOp), .v (vi u_nX), .v (vi u_nY), .v (vi u_nN), .v (vi u_nValKind), .v (vi u_nValN)]] (by kernel_rfl) rfl (by kernel_rfl) H

/-- What 'penstock/expr.Check' asks. -/
def VC_expr_Check (u_la : Option Addr) (u_ln u_lc : Nat) (h : Hp) (R : Value → Hp → Prop) : Prop :=
  (((decide ((((u_ln : Nat) : Int) : Int) > 40)) = true → R (ifv (some (44, (vi 2)))) h) ∧ ((decide ((((u_ln : Nat) : Int) : Int) > 40)) = false → (∃ (I3 : List Value → Hp → Prop) (m4 : List Value → Hp → Nat), I3 [(vsl none 0 0), (vi 0)] h ∧ ∀ (vs5 : List Value) (h6 : Hp), I3 vs5 h6 → ∃ (a7 : Option Addr) (n7 c7 : Nat) (x8 : Int), vs5 = [(vsl a7 n7 c7), (vi x8)] ∧ (((decide ((x8 : Int) < ((u_ln : Nat) : Int))) = true → (∃ (b11 o12 : Nat), (u_la = some ⟨b11, o12, none⟩ ∧ (0 : Int) ≤ x8 ∧ x8 < ((u_ln : Nat) : Int)) ∧ (∃ (x13 : Int) (x14 : Int) (x15 : Int) (x16 : Int) (x17 : Int) (x18 : Int), (Hp.row h6 b11 (o12 + x8.toNat * 6) 6 = some [(vi x13), (vi x14), (vi x15), (vi x16), (vi x17), (vi x18)]) ∧ (CallOK Tryz.prog 66 [(vag [(vi x13), (vi x14), (vi x15), (vi x16), (vi x17), (vi x18)])] h6 fun v19 h20 => ∃ (e21 : Option (TypeId × Value)), v19 = (ifv e21) ∧ (((Option.isSome e21) = true → R (ifv e21) h20) ∧ ((Option.isSome e21) = false → (CallOK Tryz.prog 67 [(vi x13)] h20 fun v23 h24 => ∃ (x25 : Int), v23 = (vi x25) ∧ (((decide ((x25 : Int) > ((n7 : Nat) : Int))) = true → R (ifv (some (44, (vi 3)))) h24) ∧ ((decide ((x25 : Int) > ((n7 : Nat) : Int))) = false → (∃ (x27 : Int), (IsW x27 (((n7 : Nat) : Int) - x25)) ∧ (∃ (a28 : Option Addr) (n28 c28 : Nat), (Rd Tryz.prog (Instr.sliceAt 68 (vsl a7 n7 c7) (some (vi x27)) none none) h24 (vsl a28 n28 c28)) ∧ (∃ (b29 o30 : Nat), ((decide ((x25 : Int) > 0)) = true → (a28 = some ⟨b29, o30, none⟩ ∧ (0 : Int) ≤ 0 ∧ 0 < ((n28 : Nat) : Int))) ∧ (∃ (x31 : Int), ((decide ((x25 : Int) > 0)) = true → Hp.cell h24 b29 (o30 + (0 : Int).toNat * 1) = some (vi x31)) ∧ (∃ (b32 o33 : Nat), (((bif (decide ((x25 : Int) > 0)) then (decide ((x31 : Int) ≠ x14)) else false) = false ∧ (decide ((x25 : Int) > 1)) = true) → (a28 = some ⟨b32, o33, none⟩ ∧ (0 : Int) ≤ 1 ∧ 1 < ((n28 : Nat) : Int))) ∧ (∃ (x34 : Int), (((bif (decide ((x25 : Int) > 0)) then (decide ((x31 : Int) ≠ x14)) else false) = false ∧ (decide ((x25 : Int) > 1)) = true) → Hp.cell h24 b32 (o33 + (1 : Int).toNat * 1) = some (vi x34)) ∧ (((bif (bif (decide ((x25 : Int) > 0)) then (decide ((x31 : Int) ≠ x14)) else false) then true else (bif (decide ((x25 : Int) > 1)) then (decide ((x34 : Int) ≠ x15)) else false)) = true → R (ifv (some (44, (vi 3)))) h24) ∧ ((bif (bif (decide ((x25 : Int) > 0)) then (decide ((x31 : Int) ≠ x14)) else false) then true else (bif (decide ((x25 : Int) > 1)) then (decide ((x34 : Int) ≠ x15)) else false)) = false → (∃ (x36 : Int), (IsW x36 (((n7 : Nat) : Int) - x25)) ∧ (∃ (a37 : Option Addr) (n37 c37 : Nat), (Rd Tryz.prog (Instr.sliceAt 68 (vsl a7 n7 c7) none (some (vi x36)) none) h24 (vsl a37 n37 c37)) ∧ (∀ (b38 : Nat), h24 b38 = none → let h39 : Hp := Hp.set h24 b38 (cellsO [(vi x8)] 3); (SemOK Tryz.prog (Builtin.append_ #[68, 68] 68 #[(vsl a37 n37 c37), (vsl (some (⟨b38, 0, none⟩ : Addr)) 1 1)]) h39 fun v40 h41 => ∃ (a42 : Option Addr) (n42 c42 : Nat), v40 = (vsl a42 n42 c42) ∧ (∃ (x44 : Int), (IsW x44 (x8 + 1)) ∧ (I3 [(vsl a42 n42 c42), (vi x44)] h41 ∧ m4 [(vsl a42 n42 c42), (vi x44)] h41 < m4 vs5 h6))))))))))))))))))))))) ∧ ((decide ((x8 : Int) < ((u_ln : Nat) : Int))) = false → (((decide ((((n7 : Nat) : Int) : Int) ≠ 1)) = true → R (ifv (some (44, (vi 3)))) h6) ∧ ((decide ((((n7 : Nat) : Int) : Int) ≠ 1)) = false → R (ifv none) h6)))))))
theorem ok_expr_Check {u_la : Option Addr} {u_ln u_lc : Nat} {h : Hp} {R : Value → Hp → Prop} (H : VC_expr_Check u_la u_ln u_lc h R) : CallOK Tryz.prog 39 [(vsl u_la u_ln u_lc)] h R :=
  call_of (cfg := ⟨[], [(5, ([3, 15], [.one (.slice), .one (.int .i64)], []))], [(14, [0, 1, 2, 3, 4, 5, 6, 7, 8, 9, 10, 11, 12, 13, 14, 15, 16, 17, 18, 19, 20, 21])]⟩) noNG mixed Tryz.func39 [.one (.v (vsl u_la u_ln u_lc))] (by kernel_rfl) rfl (by kernel_rfl) H

end Go.Proofs.YtonlacplogbodaaGreatDoor
/-
  What functions of the program ask, in words: each is what the framework reckons from the loaded code (the kernel holds the two together), and gives the function's call. Conditions: none.
-/
namespace Go.Proofs.YtonlacplogbodaaGreatDoor
open Go Go.Vc
set_option maxRecDepth 100000
set_option linter.unusedVariables false
/-- What 'penstock/value.Check' asks. -/
def VC_value_Check (u_vKind : Int) (u_vN : Int) (h : Hp) (R : Value → Hp → Prop) : Prop :=
  (let J4 : Bool → Prop := fun (p5 : Bool) => ((p5 = true → R (ifv none) h) ∧ (p5 = false → R (ifv (some (44, (vi 3)))) h)); (((bif (decide ((u_vKind : Int) = 0)) then (decide ((u_vN : Int) = 0)) else false) = true → (J4 (bif (decide ((u_vKind : Int) = 0)) then (decide ((u_vN : Int) = 0)) else false))) ∧ ((bif (decide ((u_vKind : Int) = 0)) then (decide ((u_vN : Int) = 0)) else false) = false → (((bif (bif (decide ((u_vKind : Int) = 1)) then (decide ((u_vN : Int) ≥ (-1000000000))) else false) then (decide ((u_vN : Int) ≤ 1000000000)) else false) = true → (J4 (bif (bif (decide ((u_vKind : Int) = 1)) then (decide ((u_vN : Int) ≥ (-1000000000))) else false) then (decide ((u_vN : Int) ≤ 1000000000)) else false))) ∧ ((bif (bif (decide ((u_vKind : Int) = 1)) then (decide ((u_vN : Int) ≥ (-1000000000))) else false) then (decide ((u_vN : Int) ≤ 1000000000)) else false) = false → (J4 (bif (decide ((u_vKind : Int) = 2)) then (bif (decide ((u_vN : Int) = 0)) then true else (decide ((u_vN : Int) = 1))) else false)))))))
theorem ok_value_Check {u_vKind : Int} {u_vN : Int} {h : Hp} {R : Value → Hp → Prop} (H : VC_value_Check u_vKind u_vN h R) : CallOK Tryz.prog 79 [(vag [(vi u_vKind), (vi u_vN)])] h R :=
  call_of (cfg := ⟨[], [], []⟩) noNG mixed Tryz.func79 [.ag [.v (vi u_vKind), .v (vi u_vN)]] (by kernel_rfl) rfl (by kernel_rfl) H

end Go.Proofs.YtonlacplogbodaaGreatDoor
/-
  Contracts: package value: Check. Conditions: none.
-/
namespace Go.Proofs.YtonlacplogbodaaGreatDoor
open Go Go.Vc
set_option linter.unusedVariables false

theorem value_Check_ok {v : Int × Int} {h : Hp} {R : Value → Hp → Prop} (hK : R (ifv (errV (if goodV v then 0 else 3))) h) : CallOK Tryz.prog 79 [vag (encV v)] h R := by
  refine ok_value_Check ?_
  unfold VC_value_Check
  intro J4
  have yes : goodV v → J4 true := fun hg => ⟨fun _ => by rw [if_pos hg] at hK; exact hK, fun e => by cases e⟩
  have no : ¬ goodV v → J4 false := fun hg => ⟨fun e => (by cases e), fun _ => by rw [if_neg hg] at hK; exact hK⟩
  refine ⟨fun e => ?_, fun e => ⟨fun e2 => ?_, fun e2 => ?_⟩⟩
  · rw [e]; exact yes (by unfold goodV; simp [Bool.cond_eq_ite] at e; omega)
  · rw [e2]; exact yes (by unfold goodV; simp [Bool.cond_eq_ite] at e2; omega)
  · by_cases hg : goodV v
    · have : (bif (decide (v.1 = 2)) then (bif (decide (v.2 = 0)) then true else (decide (v.2 = 1))) else false) = true := by
        unfold goodV at hg
        simp [Bool.cond_eq_ite] at e e2 ⊢
        omega
      rw [this]; exact yes hg
    · have : (bif (decide (v.1 = 2)) then (bif (decide (v.2 = 0)) then true else (decide (v.2 = 1))) else false) = false := by
        unfold goodV at hg
        simp [Bool.cond_eq_ite]
        omega
      rw [this]; exact no hg
end Go.Proofs.YtonlacplogbodaaGreatDoor
/-
  Contracts: package expr: Check. Conditions: those stated at each.
-/
namespace Go.Proofs.YtonlacplogbodaaGreatDoor
open Go Go.Vc
set_option linter.unusedVariables false
set_option maxRecDepth 100000

theorem eq_pair (v : Int × Int) : (v = (0, 0)) = (v.1 = 0 ∧ v.2 = 0) := propext ⟨fun h => by rw [h]; exact ⟨rfl, rfl⟩, fun h => Prod.ext h.1 h.2⟩
theorem expr_one_ok {n : Nd} {h : Hp} {R : Value → Hp → Prop} (hK : R (ifv (errV (nodeF n))) h) : CallOK Tryz.prog 66 [vag (encN n)] h R := by
  refine ok_expr_one ?_
  unfold VC_expr_one
  unfold nodeF at hK
  refine expr_Arity_ok ⟨_, rfl, fun q => ?_, fun q => ⟨_, fun _ => rd_neqV (a := n.v) (b := (0, 0)), fun q2 => ?_, fun q2 => ⟨fun q3 => ?_, fun q3 => value_Check_ok (v := n.v) ⟨_, rfl, ?_⟩⟩⟩⟩
  · rw [if_pos (of_decide_eq_true q)] at hK; exact hK
  all_goals
    have c1 := of_decide_eq_false q
    simp only [cand, cor, cnot] at *
  · have c2 := of_decide_eq_true q2
    rw [if_neg c1, if_pos (by simp only [ne_eq, eq_pair] at c2 ⊢; omega)] at hK
    exact hK
  · have c2 := of_decide_eq_false q2
    have c3 := of_decide_eq_true q3
    rw [if_neg c1, if_neg (by simp only [ne_eq, eq_pair] at c2 ⊢; omega), if_pos c3] at hK
    exact hK
  · have c2 := of_decide_eq_false q2
    have c3 := of_decide_eq_false q3
    rw [if_neg c1, if_neg (by simp only [ne_eq, eq_pair] at c2 ⊢; omega), if_neg c3] at hK
    by_cases hg : goodV n.v
    · rw [if_neg (by simp [hg])] at hK
      rw [if_pos hg]; exact hK
    · rw [if_pos hg] at hK
      rw [if_neg hg]; exact hK
theorem expr_Check_ok {a : Option Addr} {k c : Nat} {l : List Nd} {h : Hp} {R : Value → Hp → Prop} (S : SlP encN h a k l) (hK : ∀ h', h.le h' → R (ifv (errV (exprF l))) h') : CallOK Tryz.prog 39 [vsl a k c] h R := by
  refine ok_expr_Check ?_
  unfold VC_expr_Check
  have hk := S.1
  subst hk
  refine ⟨fun e => ?_, fun e => ?_⟩
  · have : exprF l = 2 := by unfold exprF; rw [if_pos (by have := of_decide_eq_true e; omega)]
    rw [this] at hK; exact hK h (Hp.le_refl h)
  have h40 : l.length ≤ 40 := by have := of_decide_eq_false e; omega
  have e1 : exprF l = chkGo [] 0 l := by unfold exprF; rw [if_neg (by omega)]
  rw [e1] at hK
  refine ⟨fun vs hh => ∃ (i : Nat) (a : Option Addr) (c : Nat) (st : List Int), vs = [vsl a st.length c, vi i] ∧ i ≤ l.length ∧ st.length ≤ i ∧ chkGo [] 0 l = chkGo st i (l.drop i) ∧ OwnV h hh 3 1 a st.length c (st.reverse.map vi), fun vs hh => l.length - (vint vs 1).toNat,
    ⟨0, none, 0, [], rfl, Nat.zero_le _, Nat.le_refl _, rfl, OwnV.nil (Hp.le_refl h) _ _⟩, ?_⟩
  rintro vs hh ⟨i, a1, c1, st, rfl, hi, hst, hc, O⟩
  refine ⟨_, _, _, _, rfl, fun q => ?_, fun q => ?_⟩
  · have hlt : i < l.length := by have := of_decide_eq_true q; omega
    have hx : l[i]? = some l[i] := List.getElem?_eq_getElem hlt
    rw [drop_get hlt] at hc
    obtain ⟨b, o, ha, hr⟩ := (S.le O.le).get encN_len (by decide) hx
    generalize l[i] = n at *
    refine ⟨b, o, ⟨ha, by omega, by omega⟩, _, _, _, _, _, _, hr, expr_one_ok (n := n) ⟨_, rfl, fun q2 => ?_, fun q2 => expr_Arity_ok ⟨_, rfl, ?_⟩⟩⟩
    · rw [errV_some] at q2
      have hf : nodeF n ≠ 0 := by simpa using q2
      rw [chk_fault rfl hf] at hc
      rw [hc] at hK; exact hK hh O.le
    rw [errV_some] at q2
    have hf : nodeF n = 0 := by simpa using q2
    have har : 0 ≤ arI n.op := nodeF_ar hf
    have SI : SlI hh a1 st.length st.reverse := by have := O.sli; exact this
    have hbad : popN n st = none → R (ifv (errV 3)) hh := fun hp => by
      rw [chk_none hf hp] at hc
      rw [hc] at hK; exact hK hh O.le
    have hcap := O.own.cap
    have hgood : ∀ s, popN n st = some s → ∀ x : Int, x = (st.length : Nat) - arI n.op → ∀ K : Value → Hp → Prop, (∀ (a46 : Option Addr) (n46 c46 : Nat) (h45 : Hp), OwnV h h45 3 1 a46 n46 c46 ((((i : Int) :: s).reverse).map vi) → n46 = s.length + 1 → K (vsl a46 n46 c46) h45) →
        ∃ (a38 : Option Addr) (n38 c38 : Nat), (Rd Tryz.prog (Instr.sliceAt 68 (vsl a1 st.length c1) none (some (vi x)) none) hh (vsl a38 n38 c38)) ∧ (∀ (b42 : Nat), hh b42 = none → SemOK Tryz.prog (Builtin.append_ #[68, 68] 68 #[(vsl a38 n38 c38), (vsl (some (⟨b42, 0, none⟩ : Addr)) 1 1)]) (Hp.set hh b42 (cellsO [(vi i)] 3)) K) := by
      intro s hs x hx K hK
      rw [hx]
      obtain ⟨p1, p2⟩ := popN_some har hs
      rw [← p1]
      refine ⟨_, _, _, rd_slice_h (e := 3) (by kernel_rfl) (by kernel_rfl) (by omega) (by omega), fun b42 hb42 => ?_⟩
      rw [Int.toNat_natCast]
      have OC : OwnV h hh 3 1 a1 s.length c1 (s.reverse.map vi) := by
        have := O.cut (m := s.length) (by omega)
        rw [Nat.mul_one, ← List.map_take, p2] at this
        exact this
      refine OwnV.append elInt (OwnV.set hb42 _ OC) (HasRow.new _ _ [vi i] _) (m := 1) rfl (by simp [Value.oneCell']) (by omega) (by omega) fun a2 c2 h2 O2 _ _ => hK _ _ _ _ ?_ rfl
      rw [List.reverse_cons, List.map_append]
      exact O2
    have hnext : ∀ s, popN n st = some s → ∀ (a46 : Option Addr) (n46 c46 : Nat) (h45 : Hp), OwnV h h45 3 1 a46 n46 c46 ((((i : Int) :: s).reverse).map vi) → n46 = s.length + 1 → ∃ (x48 : Int), IsW x48 ((i : Int) + 1) ∧ (∃ (i' : Nat) (a : Option Addr) (c : Nat) (st : List Int), [vsl a46 n46 c46, vi x48] = [vsl a st.length c, vi i'] ∧ i' ≤ l.length ∧ st.length ≤ i' ∧ chkGo [] 0 l = chkGo st i' (l.drop i') ∧ OwnV h h45 3 1 a st.length c (st.reverse.map vi)) ∧ l.length - (vint [vsl a46 n46 c46, vi x48] 1).toNat < l.length - (vint [vsl a1 st.length c1, vi i] 1).toNat := by
      intro s hs a46 n46 c46 h45 O45 hn
      subst hn
      obtain ⟨p1, p2⟩ := popN_some har hs
      refine ⟨_, isW (by unfold InR; omega), ⟨i + 1, a46, c46, (i : Int) :: s, rfl, by omega, by simp; omega, ?_, O45⟩, by simp [vint]; omega⟩
      rw [hc, chk_some hf hs]
    refine ⟨fun q3 => ?_, fun q3 => ?_⟩
    · have hlt2 := of_decide_eq_true q3
      have : popN n st = none := by
        cases hp : popN n st with
        | none => rfl
        | some s => have := (popN_some har hp).1; omega
      exact hbad this
    have hge := of_decide_eq_false q3
    have hw : ∀ {K : Int → Prop}, K ((st.length : Nat) - arI n.op) → ∃ x, IsW x (((st.length : Nat) : Int) - arI n.op) ∧ K x := fun hk => ⟨_, isW (by unfold InR; omega), hk⟩
    refine hw ?_
    have hsz : szT Tryz.prog 3 = 1 := by kernel_rfl
    have rdl := fun (x : Int) (h0 : 0 ≤ x) (h1 : x ≤ st.length) => rd_slice_l (P := Tryz.prog) (h := hh) (t := 68) (e := 3) (by kernel_rfl) (by kernel_rfl) (a := a1) (n := st.length) (c := c1) h0 h1
    rw [hsz] at rdl
    refine ⟨_, _, _, rdl _ (by omega) (by omega), ?_⟩
    have SD := SI.drop (i := ((st.length : Nat) - arI n.op).toNat) (c := c1) (by omega) hcap
    rcases arI_range har with h0 | h0 | h0
    · have hs : popN n st = some st := by unfold popN; rw [if_pos h0]
      rw [h0]
      refine ⟨0, 0, fun g => (by cases g), 0, fun g => (by cases g), 0, 0, fun g => (by cases g.2), 0, fun g => (by cases g.2), fun g => ?_, fun _ => ⟨_, isW (by unfold InR; omega), hgood st hs _ (by rw [h0]) _ fun a46 n46 c46 h45 O e => ⟨_, _, _, rfl, hnext st hs a46 n46 c46 h45 O e⟩⟩⟩
      exfalso
      simp only [cand, cor] at g
      have := of_decide_eq_true g
      omega
    · match st with
      | [] => exfalso; simp at hge; omega
      | z :: s =>
        have hx29 : (((z :: s).length : Nat) : Int) - arI n.op = (s.length : Nat) := by rw [h0]; simp
        rw [hx29] at SD ⊢
        rw [Int.toNat_natCast] at SD ⊢
        have ed : ((z :: s).reverse).drop s.length = [z] := by rw [List.reverse_cons, List.drop_left' (by simp)]
        rw [ed] at SD
        obtain ⟨q, p, hq, hcell⟩ := SD.get (i := 0) (by simp)
        rw [h0]
        by_cases hz : z = n.x
        · have hs : popN n (z :: s) = some s := by unfold popN; rw [if_neg (by omega), if_pos h0]; simp [hz]
          refine ⟨q, p, fun g => ⟨hq, by omega, by simp⟩, z, fun g => hcell, 0, 0, fun g => (by cases g.2), 0, fun g => (by cases g.2), fun g => ?_, fun _ => ?_⟩
          · exfalso
            simp only [cand, cor] at g
            have := of_decide_eq_true g
            omega
          · exact ⟨_, isW (by have : (z :: s).length ≤ i := hst; unfold InR; omega), hgood s hs _ hx29.symm _ fun a46 n46 c46 h45 O e => ⟨_, _, _, rfl, hnext s hs a46 n46 c46 h45 O e⟩⟩
        · have hs : popN n (z :: s) = none := by unfold popN; rw [if_neg (by omega), if_pos h0]; simp [hz]
          have := hbad hs
          refine ⟨q, p, fun g => ⟨hq, by omega, by simp⟩, z, fun g => hcell, 0, 0, fun g => (by cases g.2), 0, fun g => (by cases g.2), fun _ => this, fun g => ?_⟩
          exfalso
          simp only [cand, cor] at g
          have := of_decide_eq_false g
          omega
    · match st with
      | [] => exfalso; simp at hge; omega
      | [z] => exfalso; simp at hge; omega
      | z :: y :: s =>
        have hx29 : (((z :: y :: s).length : Nat) : Int) - arI n.op = (s.length : Nat) := by rw [h0]; simp; omega
        rw [hx29] at SD ⊢
        rw [Int.toNat_natCast] at SD ⊢
        have ed : ((z :: y :: s).reverse).drop s.length = [y, z] := by rw [List.reverse_cons, List.reverse_cons, List.append_assoc, List.drop_left' (by simp)]; rfl
        rw [ed] at SD
        have en : (z :: y :: s).length - s.length = 2 := by simp; omega
        rw [en] at SD ⊢
        obtain ⟨q, p, hq, hcell⟩ := SD.get (i := 0) (by simp)
        obtain ⟨q', p', hq', hcell'⟩ := SD.get (i := 1) (by simp)
        rw [h0]
        by_cases hz : y = n.x ∧ z = n.y
        · have hs : popN n (z :: y :: s) = some s := by unfold popN; rw [if_neg (by omega), if_neg (by omega)]; simp [hz.1, hz.2]
          refine ⟨q, p, fun g => ⟨hq, by omega, by decide⟩, y, fun g => hcell, q', p', fun g => ⟨hq', by omega, by decide⟩, z, fun g => hcell', fun g => ?_, fun _ => ?_⟩
          · exfalso
            simp only [cand, cor] at g
            have := of_decide_eq_true g
            omega
          · exact ⟨_, isW (by have : (z :: y :: s).length ≤ i := hst; unfold InR; omega), hgood s hs _ hx29.symm _ fun a46 n46 c46 h45 O e => ⟨_, _, _, rfl, hnext s hs a46 n46 c46 h45 O e⟩⟩
        · have hs : popN n (z :: y :: s) = none := by unfold popN; rw [if_neg (by omega), if_neg (by omega)]; simp; intro h1 h2; exact hz ⟨h1, h2⟩
          have := hbad hs
          refine ⟨q, p, fun g => ⟨hq, by omega, by decide⟩, y, fun g => hcell, q', p', fun g => ⟨hq', by omega, by decide⟩, z, fun g => hcell', fun _ => this, fun g => ?_⟩
          exfalso
          simp only [cand, cor] at g
          have := of_decide_eq_false g
          omega
  · have hge : i = l.length := by have := of_decide_eq_false q; omega
    subst hge
    rw [List.drop_eq_nil_of_le (Nat.le_refl _), chkGo] at hc
    refine ⟨fun q2 => ?_, fun q2 => ?_⟩
    · rw [if_neg (by have := of_decide_eq_true q2; omega)] at hc
      rw [hc] at hK; exact hK hh O.le
    · rw [if_pos (by have := of_decide_eq_false q2; omega)] at hc
      rw [hc] at hK; exact hK hh O.le
end Go.Proofs.YtonlacplogbodaaGreatDoor
/-
  What functions of the program ask, in words: each is what the framework reckons from the loaded code (the kernel holds the two together), and gives the function's call. Conditions: none.
-/
namespace Go.Proofs.YtonlacplogbodaaGreatDoor
open Go Go.Vc
set_option maxRecDepth 100000
set_option linter.unusedVariables false
/-- What 'penstock/lexer.kind' asks. -/
def VC_lexer_kind (u_c : Int) (h : Hp) (R : Value → Hp → Prop) : Prop :=
  (((bif (decide ((u_c : Int) ≥ 97)) then (decide ((u_c : Int) ≤ 122)) else false) = true → R (vk .u8 97) h) ∧ ((bif (decide ((u_c : Int) ≥ 97)) then (decide ((u_c : Int) ≤ 122)) else false) = false → (((bif (decide ((u_c : Int) ≥ 48)) then (decide ((u_c : Int) ≤ 57)) else false) = true → R (vk .u8 48) h) ∧ ((bif (decide ((u_c : Int) ≥ 48)) then (decide ((u_c : Int) ≤ 57)) else false) = false → (CallOK Tryz.prog 72 [(vs ⟨#[40, 41, 44, 42, 43, 45, 60, 62, 61]⟩), (vk .u8 u_c)] h fun v1 h2 => ∃ (x3 : Int), v1 = (vi x3) ∧ (((decide ((x3 : Int) ≥ 0)) = true → R (vk .u8 40) h2) ∧ ((decide ((x3 : Int) ≥ 0)) = false → R (vk .u8 32) h2)))))))
theorem ok_lexer_kind {u_c : Int} {h : Hp} {R : Value → Hp → Prop} (H : VC_lexer_kind u_c h R) : CallOK Tryz.prog 48 [(vk .u8 u_c)] h R :=
  call_of (cfg := ⟨[], [], []⟩) noNG mixed Tryz.func48 [.one (.v (vk .u8 u_c))] (by kernel_rfl) rfl (by kernel_rfl) H

/-- What 'penstock/lexer.end' asks. -/
def VC_lexer_end (u_s : ByteArray) (u_i : Int) (h : Hp) (R : Value → Hp → Prop) : Prop :=
  (∃ (x1 : Int), (Rd Tryz.prog (Instr.index 9 (vs u_s) (vi u_i)) h (vk .u8 x1)) ∧ (CallOK Tryz.prog 48 [(vk .u8 x1)] h fun v2 h3 => ∃ (x4 : Int), v2 = (vk .u8 x4) ∧ (∃ (x5 : Int), (IsW x5 (u_i + 1)) ∧ (((decide ((x4 : Int) = 40)) = true → (∃ (x6 : Int), ((decide ((x5 : Int) < ((ByteArray.size u_s : Nat) : Int))) = true → Rd Tryz.prog (Instr.index 9 (vs u_s) (vi u_i)) h3 (vk .u8 x6)) ∧ (∃ (x7 : Int), (((decide ((x5 : Int) < ((ByteArray.size u_s : Nat) : Int))) = true ∧ (decide ((x6 : Int) = 60)) = true) → Rd Tryz.prog (Instr.index 9 (vs u_s) (vi x5)) h3 (vk .u8 x7)) ∧ (∃ (x8 : Int), ((((decide ((x5 : Int) < ((ByteArray.size u_s : Nat) : Int))) = true ∧ (decide ((x6 : Int) = 60)) = true) ∧ (decide ((x7 : Int) = 61)) = false) → Rd Tryz.prog (Instr.index 9 (vs u_s) (vi x5)) h3 (vk .u8 x8)) ∧ (∃ (x9 : Int), (((decide ((x5 : Int) < ((ByteArray.size u_s : Nat) : Int))) = true ∧ (bif (decide ((x6 : Int) = 60)) then (bif (decide ((x7 : Int) = 61)) then true else (decide ((x8 : Int) = 62))) else false) = false) → Rd Tryz.prog (Instr.index 9 (vs u_s) (vi u_i)) h3 (vk .u8 x9)) ∧ (∃ (x10 : Int), ((((decide ((x5 : Int) < ((ByteArray.size u_s : Nat) : Int))) = true ∧ (bif (decide ((x6 : Int) = 60)) then (bif (decide ((x7 : Int) = 61)) then true else (decide ((x8 : Int) = 62))) else false) = false) ∧ (decide ((x9 : Int) = 62)) = true) → Rd Tryz.prog (Instr.index 9 (vs u_s) (vi x5)) h3 (vk .u8 x10)) ∧ (let J14 : Int → Prop := fun (x15 : Int) => R (vi x15) h3; (((bif (decide ((x5 : Int) < ((ByteArray.size u_s : Nat) : Int))) then (bif (bif (decide ((x6 : Int) = 60)) then (bif (decide ((x7 : Int) = 61)) then true else (decide ((x8 : Int) = 62))) else false) then true else (bif (decide ((x9 : Int) = 62)) then (decide ((x10 : Int) = 61)) else false)) else false) = true → (∃ (x11 : Int), (IsW x11 (x5 + 1)) ∧ (J14 x11))) ∧ ((bif (decide ((x5 : Int) < ((ByteArray.size u_s : Nat) : Int))) then (bif (bif (decide ((x6 : Int) = 60)) then (bif (decide ((x7 : Int) = 61)) then true else (decide ((x8 : Int) = 62))) else false) then true else (bif (decide ((x9 : Int) = 62)) then (decide ((x10 : Int) = 61)) else false)) else false) = false → (J14 x5)))))))))) ∧ ((decide ((x4 : Int) = 40)) = false → (∃ (I18 : List Value → Hp → Prop) (m19 : List Value → Hp → Nat), I18 [(vi x5)] h3 ∧ ∀ (vs20 : List Value) (h21 : Hp), I18 vs20 h21 → ∃ (x22 : Int), vs20 = [(vi x22)] ∧ (∃ (x23 : Int), ((decide ((x22 : Int) < ((ByteArray.size u_s : Nat) : Int))) = true → Rd Tryz.prog (Instr.index 9 (vs u_s) (vi x22)) h21 (vk .u8 x23)) ∧ (∃ (J24 : SV → Hp → Prop), ((decide ((x22 : Int) < ((ByteArray.size u_s : Nat) : Int))) = true → (CallOK Tryz.prog 48 [(vk .u8 x23)] h21 fun v25 h26 => ∃ (x27 : Int), v25 = (vk .u8 x27) ∧ J24 (.t (.one (.v (vk .u8 x27)))) h26)) ∧ (¬ ((decide ((x22 : Int) < ((ByteArray.size u_s : Nat) : Int))) = true) → J24 (.t (.one (.v (vk .u8 0)))) h21) ∧ ∀ (h28 : Hp) (x29 : Int), J24 (.t (.one (.v (vk .u8 x29)))) h28 → (((bif (decide ((x22 : Int) < ((ByteArray.size u_s : Nat) : Int))) then (decide ((x29 : Int) = x4)) else false) = true → (∃ (x32 : Int), (IsW x32 (x22 + 1)) ∧ (I18 [(vi x32)] h28 ∧ m19 [(vi x32)] h28 < m19 vs20 h21))) ∧ ((bif (decide ((x22 : Int) < ((ByteArray.size u_s : Nat) : Int))) then (decide ((x29 : Int) = x4)) else false) = false → R (vi x22) h28))))))))))
theorem ok_lexer_end {u_s : ByteArray} {u_i : Int} {h : Hp} {R : Value → Hp → Prop} (H : VC_lexer_end u_s u_i h R) : CallOK Tryz.prog 49 [(vs u_s), (vi u_i)] h R :=
  call_of (cfg := ⟨[], [(7, ([6], [.one (.int .i64)], []))], []⟩) noNG mixed Tryz.func49 [.one (.v (vs u_s)), .one (.v (vi u_i))] (by kernel_rfl) rfl (by kernel_rfl) H

/-- What 'penstock/lexer.Words' asks. -/
def VC_lexer_Words (u_s : ByteArray) (h : Hp) (R : Value → Hp → Prop) : Prop :=
  (((decide ((((ByteArray.size u_s : Nat) : Int) : Int) > 240)) = true → R (vtup [(vsl none 0 0), (ifv (some (44, (vi 2))))]) h) ∧ ((decide ((((ByteArray.size u_s : Nat) : Int) : Int) > 240)) = false → (∃ (I3 : List Value → Hp → Prop) (m4 : List Value → Hp → Nat), I3 [(vsl none 0 0), (vi 0)] h ∧ ∀ (vs5 : List Value) (h6 : Hp), I3 vs5 h6 → ∃ (a7 : Option Addr) (n7 c7 : Nat) (x8 : Int), vs5 = [(vsl a7 n7 c7), (vi x8)] ∧ (((decide ((x8 : Int) < ((ByteArray.size u_s : Nat) : Int))) = true → (∃ (x11 : Int), (Rd Tryz.prog (Instr.index 9 (vs u_s) (vi x8)) h6 (vk .u8 x11)) ∧ (((decide ((x11 : Int) = 32)) = true → (∃ (x12 : Int), (IsW x12 (x8 + 1)) ∧ (I3 [(vsl a7 n7 c7), (vi x12)] h6 ∧ m4 [(vsl a7 n7 c7), (vi x12)] h6 < m4 vs5 h6))) ∧ ((decide ((x11 : Int) = 32)) = false → (∃ (x14 : Int), (Rd Tryz.prog (Instr.index 9 (vs u_s) (vi x8)) h6 (vk .u8 x14)) ∧ (CallOK Tryz.prog 48 [(vk .u8 x14)] h6 fun v15 h16 => ∃ (x17 : Int), v15 = (vk .u8 x17) ∧ (((decide ((x17 : Int) = 32)) = true → R (vtup [(vsl none 0 0), (ifv (some (44, (vi 4))))]) h16) ∧ ((decide ((x17 : Int) = 32)) = false → (CallOK Tryz.prog 49 [(vs u_s), (vi x8)] h16 fun v19 h20 => ∃ (x21 : Int), v19 = (vi x21) ∧ (∃ (s22 : ByteArray), (Rd Tryz.prog (Instr.sliceAt 9 (vs u_s) (some (vi x8)) (some (vi x21)) none) h20 (vs s22)) ∧ (∀ (b23 : Nat), h20 b23 = none → let h24 : Hp := Hp.set h20 b23 (cellsO [(vs s22)] 9); (SemOK Tryz.prog (Builtin.append_ #[47, 47] 47 #[(vsl a7 n7 c7), (vsl (some (⟨b23, 0, none⟩ : Addr)) 1 1)]) h24 fun v25 h26 => ∃ (a27 : Option Addr) (n27 c27 : Nat), v25 = (vsl a27 n27 c27) ∧ (((decide ((((n27 : Nat) : Int) : Int) > 80)) = true → R (vtup [(vsl none 0 0), (ifv (some (44, (vi 2))))]) h26) ∧ ((decide ((((n27 : Nat) : Int) : Int) > 80)) = false → (I3 [(vsl a27 n27 c27), (vi x21)] h26 ∧ m4 [(vsl a27 n27 c27), (vi x21)] h26 < m4 vs5 h6))))))))))))))) ∧ ((decide ((x8 : Int) < ((ByteArray.size u_s : Nat) : Int))) = false → R (vtup [(vsl a7 n7 c7), (ifv none)]) h6)))))
theorem ok_lexer_Words {u_s : ByteArray} {h : Hp} {R : Value → Hp → Prop} (H : VC_lexer_Words u_s h R) : CallOK Tryz.prog 23 [(vs u_s)] h R :=
  call_of (cfg := ⟨[], [(5, ([4, 5], [.one (.slice), .one (.int .i64)], []))], []⟩) noNG mixed Tryz.func23 [.one (.v (vs u_s))] (by kernel_rfl) rfl (by kernel_rfl) H

/-- What 'strings.IndexByte' asks. -/
def VC_strings_IndexByte (u_s : ByteArray) (u_c : Int) (h : Hp) (R : Value → Hp → Prop) : Prop :=
  (CallOK Tryz.prog 86 [(vs u_s), (vk .u8 u_c)] h fun v1 h2 => ∃ (x3 : Int), v1 = (vi x3) ∧ R (vi x3) h2)
theorem ok_strings_IndexByte {u_s : ByteArray} {u_c : Int} {h : Hp} {R : Value → Hp → Prop} (H : VC_strings_IndexByte u_s u_c h R) : CallOK Tryz.prog 72 [(vs u_s), (vk .u8 u_c)] h R :=
  call_of (cfg := ⟨[], [], []⟩) noNG mixed Tryz.func72 [.one (.v (vs u_s)), .one (.v (vk .u8 u_c))] (by kernel_rfl) rfl (by kernel_rfl) H

/-- What 'internal/stringslite.IndexByte' asks. -/
def VC_internal_stringslite_IndexByte (u_s : ByteArray) (u_c : Int) (h : Hp) (R : Value → Hp → Prop) : Prop :=
  (ExtOK Tryz.prog 102 [(vs u_s), (vk .u8 u_c)] h fun v1 h2 => ∃ (x3 : Int), v1 = (vi x3) ∧ R (vi x3) h2)
theorem ok_internal_stringslite_IndexByte {u_s : ByteArray} {u_c : Int} {h : Hp} {R : Value → Hp → Prop} (H : VC_internal_stringslite_IndexByte u_s u_c h R) : CallOK Tryz.prog 86 [(vs u_s), (vk .u8 u_c)] h R :=
  call_of (cfg := ⟨[], [], []⟩) noNG mixed Tryz.func86 [.one (.v (vs u_s)), .one (.v (vk .u8 u_c))] (by kernel_rfl) rfl (by kernel_rfl) H

end Go.Proofs.YtonlacplogbodaaGreatDoor
/-
  Contracts: package lexer. Conditions: those stated at each (how long a text is).
-/
namespace Go.Proofs.YtonlacplogbodaaGreatDoor
open Go Go.Vc
set_option linter.unusedVariables false
set_option maxRecDepth 100000

theorem elStr : ElT Tryz.prog 47 9 1 16 := .of (by kernel_rfl) (by kernel_rfl) (by decide)
def isL (c : UInt8) : Bool := decide (97 ≤ c.toNat) && decide (c.toNat ≤ 122)
def isD (c : UInt8) : Bool := decide (48 ≤ c.toNat) && decide (c.toNat ≤ 57)
def isS (c : UInt8) : Bool := c == 40 || c == 41 || c == 44 || c == 42 || c == 43 || c == 45 || c == 60 || c == 62 || c == 61
/-- The kind of a byte. -/
def kindB (c : UInt8) : Nat := if isL c then 97 else if isD c then 48 else if isS c then 40 else 32
def runP (p : UInt8 → Bool) (l : List UInt8) : Nat := (l.takeWhile p).length
/-- Where a word ends. -/
def endW (l : List UInt8) (i : Nat) : Nat :=
  if kindB (l.getD i 0) = 40 then (if i + 1 < l.length ∧ (l.getD i 0 = 60 ∧ (l.getD (i + 1) 0 = 61 ∨ l.getD (i + 1) 0 = 62) ∨ l.getD i 0 = 62 ∧ l.getD (i + 1) 0 = 61) then i + 2 else i + 1)
  else i + 1 + runP (fun c => kindB c == kindB (l.getD i 0)) (l.drop (i + 1))
def lexF (l : List UInt8) : Nat → Nat → List (List UInt8) → List (List UInt8) × Int
  | 0, _, acc => (acc, 0)
  | k + 1, i, acc => if l.length ≤ i then (acc, 0) else if l.getD i 0 = 32 then lexF l k (i + 1) acc else if kindB (l.getD i 0) = 32 then ([], 4) else
      if acc.length + 1 > 80 then ([], 2) else lexF l k (endW l i) (acc ++ [(l.drop i).take (endW l i - i)])
/-- The words of a text, and the error's number. -/
def wordsL (l : List UInt8) : List (List UInt8) × Int := if l.length > 240 then ([], 2) else lexF l (l.length + 1) 0 []

theorem drop_getB {l : List UInt8} {n : Nat} (h : n < l.length) : l.drop n = l.getD n 0 :: l.drop (n + 1) := by
  rw [List.drop_eq_getElem_cons h, List.getD_eq_getElem?_getD, List.getElem?_eq_getElem h]
  rfl
theorem runP_yes {p : UInt8 → Bool} {l : List UInt8} {n : Nat} (h : n < l.length) (hp : p (l.getD n 0) = true) : runP p (l.drop n) = 1 + runP p (l.drop (n + 1)) := by
  unfold runP
  rw [drop_getB h, List.takeWhile_cons, if_pos hp, List.length_cons, Nat.add_comm]
theorem runP_no {p : UInt8 → Bool} {l : List UInt8} {n : Nat} (hp : n < l.length → p (l.getD n 0) = false) : runP p (l.drop n) = 0 := by
  unfold runP
  by_cases h : n < l.length
  · rw [drop_getB h, List.takeWhile_cons, if_neg (by rw [hp h]; simp)]
    rfl
  · rw [List.drop_eq_nil_of_le (by omega)]
    rfl
theorem runP_le (p : UInt8 → Bool) (l : List UInt8) : runP p l ≤ l.length := (List.takeWhile_sublist _).length_le
theorem endW_gt (l : List UInt8) (i : Nat) : i < endW l i := by
  unfold endW
  split
  · split <;> omega
  · omega
theorem endW_le {l : List UInt8} {i : Nat} (h : i < l.length) : endW l i ≤ l.length := by
  unfold endW
  have := runP_le (fun c => kindB c == kindB (l.getD i 0)) (l.drop (i + 1))
  rw [List.length_drop] at this
  split
  · split <;> omega
  · omega
theorem u8_eq {c d : UInt8} : ((c.toNat : Nat) : Int) = (d.toNat : Nat) ↔ c = d := by
  constructor
  · intro h; exact UInt8.toNat_inj.1 (by omega)
  · rintro rfl; rfl

theorem sign_of : ∀ n : Fin 256, (decide (firstIdx (bs [40, 41, 44, 42, 43, 45, 60, 62, 61]) (UInt8.ofNat n.val) ≥ 0)) = isS (UInt8.ofNat n.val) := by decide +kernel
theorem lexer_kind_ok {c : UInt8} {h : Hp} {R : Value → Hp → Prop} (hK : R (vk .u8 ((kindB c : Nat) : Int)) h) : CallOK Tryz.prog 48 [vk .u8 ((c.toNat : Nat) : Int)] h R := by
  refine ok_lexer_kind ?_
  unfold VC_lexer_kind
  unfold kindB at hK
  refine ⟨fun e => ?_, fun e => ⟨fun e2 => ?_, fun e2 => ?_⟩⟩
  · have : isL c = true := by unfold isL; simp [Bool.cond_eq_ite] at e ⊢; omega
    rw [if_pos this] at hK
    exact hK
  · have h1 : ¬ isL c = true := by unfold isL; simp [Bool.cond_eq_ite] at e ⊢; omega
    have h2 : isD c = true := by unfold isD; simp [Bool.cond_eq_ite] at e2 ⊢; omega
    rw [if_neg h1, if_pos h2] at hK
    exact hK
  · have h1 : ¬ isL c = true := by unfold isL; simp [Bool.cond_eq_ite] at e ⊢; omega
    have h2 : ¬ isD c = true := by unfold isD; simp [Bool.cond_eq_ite] at e2 ⊢; omega
    rw [if_neg h1, if_neg h2] at hK
    refine ok_strings_IndexByte (ok_internal_stringslite_IndexByte (ext_indexByte Tryz.func102 (by kernel_rfl) (by kernel_rfl) (by kernel_rfl) (by kernel_rfl) ⟨_, rfl, _, rfl, _, rfl, ?_⟩))
    have key : decide (firstIdx ⟨#[40, 41, 44, 42, 43, 45, 60, 62, 61]⟩ ((c.toNat : Nat) : Int).toNat.toUInt8 ≥ 0) = isS c := by
      have := sign_of ⟨c.toNat, c.toNat_lt⟩
      simp only [UInt8.ofNat_toNat] at this
      rw [← this]
      congr 2
      simp
      rfl
    refine ⟨fun e3 => ?_, fun e3 => ?_⟩
    · rw [key] at e3
      rw [if_pos e3] at hK
      exact hK
    · rw [key] at e3
      rw [if_neg (by rw [e3]; simp)] at hK
      exact hK

theorem lexer_end_ok {l : List UInt8} {i : Nat} {h : Hp} {R : Value → Hp → Prop} (hi : i < l.length) (hl : l.length ≤ 1000000) (hK : R (vi (endW l i : Nat)) h) : CallOK Tryz.prog 49 [vs (bs l), vi i] h R := by
  refine ok_lexer_end ?_
  unfold VC_lexer_end
  rw [bs_size]
  refine ⟨_, rd_idx (by kernel_rfl) (by omega) (by omega), lexer_kind_ok ⟨_, rfl, _, isW (by unfold InR; omega), ?_⟩⟩
  rw [Int.toNat_natCast]
  have e1 : ((i : Nat) : Int) + 1 = ((i + 1 : Nat) : Int) := by omega
  rw [e1]
  refine ⟨fun e => ?_, fun e => ?_⟩
  · have hk : kindB (l.getD i 0) = 40 := by have := of_decide_eq_true e; omega
    unfold endW at hK
    rw [if_pos hk] at hK
    have r0 : Rd Tryz.prog (Instr.index 9 (vs (bs l)) (vi i)) h (vk .u8 ((l.getD i 0).toNat : Nat)) := by
      have := rd_idx (P := Tryz.prog) (h := h) (t := 9) (by kernel_rfl) (l := l) (i := i) (by omega) (by omega)
      rwa [Int.toNat_natCast] at this
    have r1 : ∀ {b : Prop}, (b → i + 1 < l.length) → b → Rd Tryz.prog (Instr.index 9 (vs (bs l)) (vi ((i + 1 : Nat) : Int))) h (vk .u8 ((l.getD (i + 1) 0).toNat : Nat)) := by
      intro b hb hb'
      have := hb hb'
      have := rd_idx (P := Tryz.prog) (h := h) (t := 9) (by kernel_rfl) (l := l) (i := ((i + 1 : Nat) : Int)) (by omega) (by omega)
      rwa [Int.toNat_natCast] at this
    refine ⟨_, fun _ => r0, _, r1 (fun e => by have := of_decide_eq_true e.1; omega), _, r1 (fun e => by have := of_decide_eq_true e.1.1; omega), _, fun _ => r0, _, r1 (fun e => by have := of_decide_eq_true e.1.1; omega), ?_⟩
    have h60 : decide ((((l.getD i 0).toNat : Nat) : Int) = 60) = decide (l.getD i 0 = 60) := decide_eq_decide.2 (u8_eq (d := 60))
    have h62 : decide ((((l.getD i 0).toNat : Nat) : Int) = 62) = decide (l.getD i 0 = 62) := decide_eq_decide.2 (u8_eq (d := 62))
    have g61 : decide ((((l.getD (i + 1) 0).toNat : Nat) : Int) = 61) = decide (l.getD (i + 1) 0 = 61) := decide_eq_decide.2 (u8_eq (d := 61))
    have g62 : decide ((((l.getD (i + 1) 0).toNat : Nat) : Int) = 62) = decide (l.getD (i + 1) 0 = 62) := decide_eq_decide.2 (u8_eq (d := 62))
    rw [h60, h62, g61, g62]
    intro J14
    refine ⟨fun e => ?_, fun e => ?_⟩
    · rw [if_pos (by
        simp only [Bool.cond_eq_ite] at e
        generalize l.getD i 0 = c0 at e ⊢
        generalize l.getD (i + 1) 0 = c1 at e ⊢
        by_cases q1 : c0 = 60 <;> by_cases q2 : c1 = 61 <;> by_cases q3 : c1 = 62 <;> by_cases q4 : c0 = 62 <;> simp [q1, q2, q3, q4] at e ⊢ <;> omega)] at hK
      exact ⟨_, isW (by unfold InR; omega), hK⟩
    · rw [if_neg (by
        simp only [Bool.cond_eq_ite] at e
        generalize l.getD i 0 = c0 at e ⊢
        generalize l.getD (i + 1) 0 = c1 at e ⊢
        by_cases q1 : c0 = 60 <;> by_cases q2 : c1 = 61 <;> by_cases q3 : c1 = 62 <;> by_cases q4 : c0 = 62 <;> simp [q1, q2, q3, q4] at e ⊢ <;> omega)] at hK
      exact hK
  · have hk : ¬ kindB (l.getD i 0) = 40 := by have := of_decide_eq_false e; omega
    unfold endW at hK
    rw [if_neg hk] at hK
    generalize kindB (l.getD i 0) = k at *
    refine ⟨fun vs hh => hh = h ∧ ∃ n : Nat, vs = [vi n] ∧ n ≤ l.length ∧ n + runP (fun c => kindB c == k) (l.drop n) = i + 1 + runP (fun c => kindB c == k) (l.drop (i + 1)), fun vs hh => l.length - (vint vs 0).toNat, ⟨rfl, i + 1, rfl, hi, rfl⟩, ?_⟩
    rintro vs hh ⟨rfl, n, rfl, hn, hr⟩
    refine ⟨n, rfl, ?_⟩
    by_cases hlt : n < l.length
    · refine ⟨_, fun _ => rd_idx (by kernel_rfl) (by omega) (by omega), fun x h' => h' = hh ∧ x = .t (.one (.v (vk .u8 ((kindB (l.getD n 0) : Nat) : Int)))), fun _ => by rw [Int.toNat_natCast]; exact lexer_kind_ok ⟨_, rfl, rfl, rfl⟩, fun e => absurd (by simp; exact hlt) e, ?_⟩
      rintro h28 x29 ⟨rfl, e29⟩
      cases e29
      refine ⟨fun e => ?_, fun e => ?_⟩
      · have hkk : kindB (l.getD n 0) = k := by rw [decide_eq_true (show ((n : Nat) : Int) < (l.length : Nat) by omega), cond_true] at e; have := of_decide_eq_true e; omega
        refine ⟨_, isW (by unfold InR; omega), ⟨rfl, n + 1, rfl, hlt, ?_⟩, by simp [vint]; omega⟩
        rw [runP_yes hlt (by simp only [beq_iff_eq]; exact hkk)] at hr
        omega
      · have hkk : ¬ kindB (l.getD n 0) = k := by rw [decide_eq_true (show ((n : Nat) : Int) < (l.length : Nat) by omega), cond_true] at e; have := of_decide_eq_false e; omega
        rw [runP_no (fun _ => by simp only [beq_eq_false_iff_ne, ne_eq]; exact hkk)] at hr
        rw [← hr] at hK
        exact hK
    · refine ⟨0, fun e => absurd hlt (by simpa using e), fun x h' => h' = hh, fun e => absurd hlt (by simpa using e), fun _ => rfl, ?_⟩
      rintro h28 x29 rfl
      refine ⟨fun e => ?_, fun e => ?_⟩
      · simp [Bool.cond_eq_ite, hlt] at e
      · rw [runP_no (fun h => absurd h hlt)] at hr
        rw [← hr] at hK
        exact hK

theorem lexer_Words_ok {l : List UInt8} {h : Hp} {R : Value → Hp → Prop} (hK : ∀ a n c h', OwnV h h' 9 1 a n c ((wordsL l).1.flatMap encB) → R (vtup [vsl a n c, ifv (if (wordsL l).2 = 0 then none else some (44, vi (wordsL l).2))]) h') :
    CallOK Tryz.prog 23 [vs (bs l)] h R := by
  refine ok_lexer_Words ?_
  unfold VC_lexer_Words
  rw [bs_size]
  refine ⟨fun e => ?_, fun e => ?_⟩
  · have : wordsL l = ([], 2) := by unfold wordsL; rw [if_pos (by simp at e; omega)]
    rw [this] at hK
    exact hK none 0 0 h (OwnV.nil (Hp.le_refl h) _ _)
  have hl : l.length ≤ 240 := by simp at e; omega
  have hw : wordsL l = lexF l (l.length + 1) 0 [] := by unfold wordsL; rw [if_neg (by omega)]
  refine ⟨fun vs hh => ∃ (k i : Nat) (acc : List (List UInt8)) (a : Option Addr) (n c : Nat), vs = [vsl a n c, vi i] ∧ l.length < i + k ∧ i ≤ l.length ∧ lexF l k i acc = wordsL l ∧ OwnV h hh 9 1 a n c (acc.flatMap encB) ∧ acc.length ≤ 80,
    fun vs hh => l.length - (vint vs 1).toNat, ⟨l.length + 1, 0, [], none, 0, 0, rfl, by omega, by omega, hw.symm, OwnV.nil (Hp.le_refl h) _ _, by simp⟩, ?_⟩
  rintro vs hh ⟨k, i, acc, a, n, c, rfl, hk, hi, hf, O, hacc⟩
  have hn : n = acc.length := (O.slp encB_len (by decide)).1
  refine ⟨a, n, c, i, rfl, fun e => ?_, fun e => ?_⟩
  · have hlt : i < l.length := by simpa using e
    obtain ⟨k, rfl⟩ : ∃ k', k = k' + 1 := ⟨k - 1, by omega⟩
    rw [lexF, if_neg (by omega)] at hf
    refine ⟨_, rd_idx (by kernel_rfl) (by omega) (by omega), ?_⟩
    rw [Int.toNat_natCast]
    have h32 : decide ((((l.getD i 0).toNat : Nat) : Int) = 32) = decide (l.getD i 0 = 32) := decide_eq_decide.2 (u8_eq (d := 32))
    rw [h32]
    refine ⟨fun e => ?_, fun e => ?_⟩
    · rw [if_pos (by simpa using e)] at hf
      exact ⟨_, isW (by unfold InR; omega), ⟨k, i + 1, acc, a, n, c, rfl, by omega, by omega, hf, O, hacc⟩, by simp [vint]; omega⟩
    rw [if_neg (by simpa using e)] at hf
    refine ⟨_, rd_idx (by kernel_rfl) (by omega) (by omega), ?_⟩
    rw [Int.toNat_natCast]
    refine lexer_kind_ok ⟨_, rfl, fun e => ?_, fun e => ?_⟩
    · rw [if_pos (by have := of_decide_eq_true e; omega)] at hf
      rw [← hf] at hK
      exact hK none 0 0 hh (OwnV.nil O.le _ _)
    rw [if_neg (by have := of_decide_eq_false e; omega)] at hf
    have g1 := endW_gt l i
    have g2 := endW_le hlt
    refine lexer_end_ok hlt (by omega) ⟨_, rfl, _, rd_cut (by kernel_rfl) (by omega) (by omega) (by omega), ?_⟩
    rw [Int.toNat_natCast, Int.toNat_natCast]
    intro b hb h24
    refine OwnV.append elStr (OwnV.set hb _ O) (HasRow.new _ _ [vs (bs ((l.drop i).take (endW l i - i)))] _) (m := 1) rfl (by simp [Value.oneCell']) (by omega) (by omega) fun a' c' h' O' _ _ => ⟨_, _, _, rfl, fun e => ?_, fun e => ?_⟩
    · rw [if_pos (by simp at e; omega)] at hf
      rw [← hf] at hK
      exact hK none 0 0 h' (OwnV.nil O'.le _ _)
    · have h80 : ¬ acc.length + 1 > 80 := by simp at e; omega
      rw [if_neg h80] at hf
      refine ⟨⟨k, endW l i, acc ++ [(l.drop i).take (endW l i - i)], a', _, c', rfl, by omega, g2, hf, ?_, by simp; omega⟩, by simp [vint]; omega⟩
      rw [List.flatMap_append]
      exact O'
  · have hge : i = l.length := by simp at e; omega
    have : lexF l k i acc = (acc, 0) := by
      cases k with
      | zero => rfl
      | succ k => rw [lexF, if_pos (by omega)]
    rw [this] at hf
    rw [← hf] at hK
    exact hK a n c hh O
end Go.Proofs.YtonlacplogbodaaGreatDoor
/-
  Plain law: what is wrong with a question; a question is read from a text. Conditions: none.
-/
namespace Go.Proofs.YtonlacplogbodaaGreatDoor
open Go Go.Vc Go.Txt
set_option linter.unusedVariables false

/-- An expression that must be of a kind (0: of any). -/
def typedF (l : List Nd) (kind : Int) : Int := if exprF l ≠ 0 then exprF l else if (typE l).2 ≠ 0 then (typE l).2 else if kind ≠ 0 ∧ (typE l).1 ≠ kind ∧ (typE l).1 ≠ 0 then 3 else 0
def numsF (q : Qy) : Int :=
  if q.size < 1 ∨ q.size > 1000 ∨ q.slide < 1 ∨ q.slide > 1000 ∨ q.delay < 0 ∨ q.delay > 1000 ∨ q.late < 0 ∨ q.late > 1000 then 1
  else if q.slide > q.size ∨ q.size > 4 * q.slide then 3 else 0
def aggF (a : Ag) : Int := if a.1 < 1 ∨ a.1 > 5 ∨ (a.1 = 1 ∧ a.2 ≠ []) then 3 else if a.1 = 1 then 0 else typedF a.2 (if a.1 = 2 then 0 else 1)
def firstF : List Int → Int
  | [] => 0
  | f :: l => if f ≠ 0 then f else firstF l
def tailF (q : Qy) : Int := firstF [if q.wh = [] then 0 else typedF q.wh 2, if q.by_ = [] then 0 else typedF q.by_ 0, numsF q]
/-- What is wrong with a question. -/
def qryF (q : Qy) : Int := if q.aggs.length < 1 ∨ q.aggs.length > 4 then 2 else if firstF (q.aggs.map aggF) ≠ 0 then firstF (q.aggs.map aggF) else tailF q
/-- A question is read from words, from a text: and what is wrong. -/
def parseW (ws : List Wd) : Qy × Int := if (readQ ws).2.f ≠ 0 then (noQ, (readQ ws).2.f) else if qryF (readQ ws).1 ≠ 0 then (noQ, qryF (readQ ws).1) else ((readQ ws).1, 0)
def parseQ (s : List UInt8) : Qy × Int := if (wordsL s).2 ≠ 0 then (noQ, (wordsL s).2) else parseW (wordsL s).1
theorem firstF_skip {l : List Int} {f : Int} {r : List Int} (h : ∀ x ∈ l, x = 0) (hf : f ≠ 0) : firstF (l ++ f :: r) = f := by
  induction l with
  | nil => rw [List.nil_append, firstF, if_pos hf]
  | cons x l ih =>
    have hx := h x (List.mem_cons_self ..)
    rw [List.cons_append, firstF, if_neg (by rw [hx]; decide)]
    exact ih fun y hy => h y (List.mem_cons_of_mem _ hy)
theorem firstF_zero {l : List Int} (h : ∀ x ∈ l, x = 0) : firstF l = 0 := by
  induction l with
  | nil => rfl
  | cons x l ih =>
    rw [firstF, if_neg (by rw [h x (List.mem_cons_self ..)]; decide)]
    exact ih fun y hy => h y (List.mem_cons_of_mem _ hy)
theorem firstF_all {l : List Int} (h : firstF l = 0) : ∀ x ∈ l, x = 0 := by
  induction l with
  | nil => intro x hx; cases hx
  | cons y l ih =>
    rw [firstF] at h
    intro x hx
    split at h
    · rename_i q; exact absurd h q
    · rename_i q
      rcases List.mem_cons.1 hx with rfl | hx
      · omega
      · exact ih h x hx
theorem firstF_at {α : Type} {g : α → Int} {l : List α} {i : Nat} {x : α} (h : ∀ y ∈ l.take i, g y = 0) (hx : l[i]? = some x) (hf : g x ≠ 0) : firstF (l.map g) = g x := by
  obtain ⟨hi, rfl⟩ := List.getElem?_eq_some_iff.1 hx
  have e : l = l.take i ++ l[i] :: l.drop (i + 1) := by rw [← List.drop_eq_getElem_cons, List.take_append_drop]
  have e2 := congrArg (List.map g) e
  rw [List.map_append, List.map_cons] at e2
  rw [e2]
  have h2 := firstF_skip (l := (l.take i).map g) (f := g l[i]) (r := (l.drop (i + 1)).map g) (fun y hy => by
    obtain ⟨z, hz, rfl⟩ := List.mem_map.1 hy
    exact h z hz) hf
  exact h2
theorem typE_nat {l : List Nd} (O : OkE l) : 0 ≤ (typE l).1 := by
  unfold typE
  cases h : tAt l (l.length - 1) with
  | none => exact Int.le_refl _
  | some t =>
    simp only
    have hp := O.pos
    have hn : l[l.length - 1]? = some l[l.length - 1] := List.getElem?_eq_getElem (by omega)
    have hm := O.n _ (List.mem_of_getElem? hn)
    have hg : goodV (l[l.length - 1]).v := by
      generalize l[l.length - 1] = n at hm
      unfold nodeF at hm
      repeat' split at hm
      all_goals first | cases hm | skip
      rename_i h1
      exact Decidable.not_not.1 h1
    rw [tAt, fAt_wf own_tyF hn (O.wf _ _ hn)] at h
    generalize fAt none tyF l (l[l.length - 1]).x.toNat = a at h
    generalize fAt none tyF l (l[l.length - 1]).y.toNat = b at h
    generalize l[l.length - 1] = n at h hg
    unfold tyF at h
    split at h
    · cases h
      unfold goodV at hg
      omega
    · split at h
      · cases h; decide
      · unfold tyG at h
        split at h
        · split at h
          · cases h; decide
          · split at h
            · cases h
            · split at h
              · cases h; decide
              · cases h; unfold wantT; split <;> decide
        · cases h
/-- The end of a question: its numbers. -/
def endQ (L : List Ag) (wh by_ : List Nd) (s : RS) : Qy × RS :=
  let z := (s.must wWindow).number 1000
  let sl := optN wSlide z.1 z.2
  let d := optN wDelay 0 sl.2
  let t := optN wLate 0 d.2
  (⟨L, wh, by_, z.1, sl.1, d.1, t.1⟩, if t.2.f = 0 ∧ t.2.ws ≠ [] then t.2.fail 4 else t.2)
def byQ (o : Ps) (L : List Ag) (wh : List Nd) (s : RS) : Qy × RS :=
  let g := optP wGroup (fun s => o (s.must wBy)) s
  endQ L wh g.1 g.2
def restQ (o : Ps) (L : List Ag) (s : RS) : Qy × RS :=
  let w := optP wWhere o ((s.must wFrom).must wEvents)
  byQ o L w.1 w.2
def firstA (o : Ps) (ws : List Wd) : Ag × RS := aggP o ((⟨ws, 0, 0⟩ : RS).must wSelect)
def allA (o : Ps) (ws : List Wd) : List Ag × RS := aggsP o ((firstA o ws).2.ws.length + 1) [(firstA o ws).1] (firstA o ws).2
theorem readQ_eq (ws : List Wd) : readQ ws = restQ (allP (ws.length + 1)).o (allA (allP (ws.length + 1)).o ws).1 (allA (allP (ws.length + 1)).o ws).2 := by
  unfold readQ
  generalize (allP (ws.length + 1)).o = o
  rfl
theorem lexF_words (l : List UInt8) : ∀ (k i : Nat) (acc : List (List UInt8)), acc.length ≤ 80 → (∀ w ∈ acc, w.length ≤ l.length) → (lexF l k i acc).1.length ≤ 80 ∧ ∀ w ∈ (lexF l k i acc).1, w.length ≤ l.length
  | 0, i, acc, h1, h2 => ⟨h1, h2⟩
  | k + 1, i, acc, h1, h2 => by
    rw [lexF]
    split
    · exact ⟨h1, h2⟩
    · split
      · exact lexF_words l k _ acc h1 h2
      · split
        · exact ⟨by simp, by simp⟩
        · split
          · exact ⟨by simp, by simp⟩
          · refine lexF_words l k _ _ (by rw [List.length_append]; simp; omega) fun w hw => ?_
            rcases List.mem_append.1 hw with h3 | h3
            · exact h2 w h3
            · rw [List.mem_singleton.1 h3, List.length_take, List.length_drop]
              omega
theorem wordsL_words (l : List UInt8) : (wordsL l).1.length ≤ 80 ∧ ∀ w ∈ (wordsL l).1, w.length ≤ 240 := by
  unfold wordsL
  split
  · exact ⟨by simp, by simp⟩
  · have := lexF_words l (l.length + 1) 0 [] (by simp) (by simp)
    exact ⟨this.1, fun w hw => Nat.le_trans (this.2 w hw) (by omega)⟩
theorem wordsL_f (l : List UInt8) : (wordsL l).2 = 0 ∨ (wordsL l).2 = 2 ∨ (wordsL l).2 = 4 := by
  have key : ∀ (k i : Nat) (acc : List (List UInt8)), (lexF l k i acc).2 = 0 ∨ (lexF l k i acc).2 = 2 ∨ (lexF l k i acc).2 = 4 := by
    intro k
    induction k with
    | zero => intro i acc; exact .inl rfl
    | succ k ih =>
      intro i acc
      rw [lexF]
      split
      · exact .inl rfl
      · split
        · exact ih _ _
        · split
          · exact .inr (.inr rfl)
          · split
            · exact .inr (.inl rfl)
            · exact ih _ _
  unfold wordsL
  split
  · exact .inr (.inl rfl)
  · exact key _ _ _
theorem goes_optN {s : RS} (h : s.good) (w : Wd) (d : Int) : Goes (optN w d s).2 s := by
  unfold optN
  split
  · exact Goes.refl h
  · exact (goes_is h _).trans (goes_number (goes_is h _).ok _)
/-- What is gathered is few and not deep. -/
theorem allA_ok (ws : List Wd) : (∀ a ∈ (allA (allP (ws.length + 1)).o ws).1, NdsOK a.2) := by
  have ho := (keeps_all (ws.length + 1)).1
  have g0 : (⟨ws, 0, 0⟩ : RS).good := fun h => absurd rfl h
  have g1 := goes_must g0 wSelect
  have l1 : ((⟨ws, 0, 0⟩ : RS).must wSelect).ws.length ≤ ws.length + 1 := Nat.le_trans g1.len (Nat.le_succ _)
  have g2 := goes_agg ho g1.ok l1
  have g3 := goes_aggs ho ((firstA (allP (ws.length + 1)).o ws).2.ws.length + 1) [(firstA (allP (ws.length + 1)).o ws).1] g2.1.ok (Nat.le_trans g2.1.len l1) (by
    intro a ha
    rw [List.mem_singleton.1 ha]
    exact g2.2)
  exact g3.2
end Go.Proofs.YtonlacplogbodaaGreatDoor
/-
  Contracts: package query: Check. Conditions: those stated at each.
-/
namespace Go.Proofs.YtonlacplogbodaaGreatDoor
open Go Go.Vc Go.Txt
set_option linter.unusedVariables false
set_option maxRecDepth 100000

def aggRw : Int → Value → List Value := fun k v => [vi k, v]
theorem aggRw_len (k : Int) (v : Value) : (aggRw k v).length = 2 := rfl
/-- A question as it lies. -/
structure QAt (h : Hp) (q : Qy) (a1 : Option Addr) (n1 : Nat) (a2 : Option Addr) (n2 : Nat) (a3 : Option Addr) (n3 : Nat) : Prop where
  g : GTab encN aggRw h a1 n1 q.aggs
  w : SlP encN h a2 n2 q.wh
  b : SlP encN h a3 n3 q.by_
theorem QAt.le {h h' : Hp} {q : Qy} {a1 a2 a3 : Option Addr} {n1 n2 n3 : Nat} (Q : QAt h q a1 n1 a2 n2 a3 n3) (l : h.le h') : QAt h' q a1 n1 a2 n2 a3 n3 := ⟨Q.g.le l, Q.w.le l, Q.b.le l⟩
/-- The value of a question. -/
abbrev qV (a1 : Option Addr) (n1 c1 : Nat) (a2 : Option Addr) (n2 c2 : Nat) (a3 : Option Addr) (n3 c3 : Nat) (q : Qy) : Value := vag [vsl a1 n1 c1, vsl a2 n2 c2, vsl a3 n3 c3, vi q.size, vi q.slide, vi q.delay, vi q.late]
/-- Not greater than any memory has room for. -/
structure QBig (q : Qy) : Prop where
  w : q.wh.length ≤ 1000000
  b : q.by_.length ≤ 1000000
  g : ∀ a ∈ q.aggs, a.2.length ≤ 1000000
  n : q.aggs.length ≤ 1000000
theorem errV_3 (f : Int) (h : f ≠ 0) : some (44, vi f) = errV f := by unfold errV; rw [if_neg h]
theorem query_typed_ok {a : Option Addr} {k c : Nat} {l : List Nd} {kind : Int} {h : Hp} {R : Value → Hp → Prop} (S : SlP encN h a k l) (hl : l.length ≤ 1000000) (hK : ∀ h', h.le h' → R (ifv (errV (typedF l kind))) h') : CallOK Tryz.prog 16 [vsl a k c, vi kind] h R := by
  refine ok_query_typed ?_
  unfold VC_query_typed
  unfold typedF at hK
  refine expr_Check_ok S fun h2 l2 => ⟨_, rfl, fun e => ?_, fun e => ?_⟩
  · rw [errV_some] at e
    have e2 : exprF l ≠ 0 := by simpa using e
    rw [if_pos e2] at hK
    exact hK h2 l2
  · rw [errV_some] at e
    have e2 : exprF l = 0 := by simpa using e
    rw [if_neg (fun h => h e2)] at hK
    refine expr_Type_ok (S.le l2) (exprF_ok e2).1 hl fun h6 l6 => ⟨_, _, rfl, ?_⟩
    have hc : (bif (bif (bif (Option.isNone (errV (typE l).2)) then (decide ((kind : Int) ≠ 0)) else false) then (decide (((typE l).1 : Int) ≠ kind)) else false) then (decide (((typE l).1 : Int) ≠ 0)) else false) = decide ((((typE l).2 = 0 ∧ kind ≠ 0) ∧ (typE l).1 ≠ kind) ∧ (typE l).1 ≠ 0) := by
      rw [errV_none, cand, cand, cand]
    rw [hc]
    intro J11
    refine ⟨fun q => ?_, fun q => ?_⟩
    · have q := of_decide_eq_true q
      rw [if_neg (fun h => h q.1.1.1), if_pos ⟨q.1.1.2, q.1.2, q.2⟩] at hK
      exact hK h6 (Hp.le_trans l2 l6)
    · have q := of_decide_eq_false q
      have := hK h6 (Hp.le_trans l2 l6)
      by_cases h5 : (typE l).2 ≠ 0
      · rw [if_pos h5] at this; exact this
      · have h5 : (typE l).2 = 0 := Decidable.not_not.1 h5
        rw [if_neg (fun h => h h5), if_neg (fun h => q ⟨⟨⟨h5, h.1⟩, h.2.1⟩, h.2.2⟩)] at this
        show R (ifv (errV (typE l).2)) h6
        rw [h5]; exact this
theorem cell_lit2 (h : Hp) (b : Nat) (x y : Int) (T : TypeId) {i : Nat} (hi : i < 2) : (h.set b (cellsO [vi x, vi y] T)).cell b (0 + (i : Int).toNat * 1) = some (vi (if i = 0 then x else y)) := by
  match i, hi with
  | 0, _ => exact cell_cells (Hp.set_same _ _ _) rfl
  | 1, _ => exact cell_cells (Hp.set_same _ _ _) rfl
theorem query_numbers_ok {q : Qy} {a1 : Option Addr} {n1 c1 : Nat} {a2 : Option Addr} {n2 c2 : Nat} {a3 : Option Addr} {n3 c3 : Nat} {h : Hp} {R : Value → Hp → Prop} (hK : ∀ h', h.le h' → R (ifv (errV (numsF q))) h') : CallOK Tryz.prog 17 [qV a1 n1 c1 a2 n2 c2 a3 n3 c3 q] h R := by
  refine ok_query_numbers ?_
  unfold VC_query_numbers
  intro b1 hb1 h2
  have l2 : h.le h2 := Hp.le_set (Hp.le_refl h) hb1 _
  refine ⟨fun vs' hh => hh = h2 ∧ ∃ i : Nat, vs' = [vi i] ∧ i ≤ 2 ∧ (1 ≤ i → 1 ≤ q.size ∧ q.size ≤ 1000) ∧ (2 ≤ i → 1 ≤ q.slide ∧ q.slide ≤ 1000), fun vs' hh => 2 - (vint vs' 0).toNat, ⟨rfl, 0, rfl, by omega, by omega, by omega⟩, ?_⟩
  rintro vs' hh ⟨rfl, i, rfl, hi, i1, i2⟩
  refine ⟨i, rfl, fun e => ?_, fun e => ?_⟩
  · have hlt : i < 2 := by have := of_decide_eq_true e; omega
    refine ⟨b1, 0, ⟨rfl, by omega, by omega⟩, _, cell_lit2 h b1 q.size q.slide 3 hlt, ?_⟩
    rw [cor]
    refine ⟨fun g => ?_, fun g => ?_⟩
    · have g := of_decide_eq_true g
      have e1 : numsF q = 1 := by
        unfold numsF
        rw [if_pos]
        split at g <;> omega
      rw [e1] at hK
      exact hK _ l2
    · have g := of_decide_eq_false g
      refine ⟨_, isW (by unfold InR; omega), ⟨rfl, i + 1, rfl, by omega, fun h => ?_, fun h => ?_⟩, by simp [vint]; omega⟩
      · by_cases h0 : i = 0
        · rw [if_pos h0] at g; omega
        · exact i1 (by omega)
      · have h0 : ¬ i = 0 := by omega
        rw [if_neg h0] at g; omega
  · have hge : i = 2 := by have := of_decide_eq_false e; omega
    subst hge
    have j1 := i1 (by omega)
    have j2 := i2 (by omega)
    intro b16 hb16 h17
    have l17 : h.le h17 := Hp.le_set l2 hb16 _
    refine ⟨fun vs' hh => hh = h17 ∧ ∃ i : Nat, vs' = [vi i] ∧ i ≤ 2 ∧ (1 ≤ i → 0 ≤ q.delay ∧ q.delay ≤ 1000) ∧ (2 ≤ i → 0 ≤ q.late ∧ q.late ≤ 1000), fun vs' hh => 2 - (vint vs' 0).toNat, ⟨rfl, 0, rfl, by omega, by omega, by omega⟩, ?_⟩
    rintro vs' hh ⟨rfl, i, rfl, hi, i1, i2⟩
    refine ⟨i, rfl, fun e => ?_, fun e => ?_⟩
    · have hlt : i < 2 := by have := of_decide_eq_true e; omega
      refine ⟨b16, 0, ⟨rfl, by omega, by omega⟩, _, cell_lit2 h2 b16 q.delay q.late 3 hlt, ?_⟩
      rw [cor]
      refine ⟨fun g => ?_, fun g => ?_⟩
      · have g := of_decide_eq_true g
        have e1 : numsF q = 1 := by
          unfold numsF
          rw [if_pos]
          split at g <;> omega
        rw [e1] at hK
        exact hK _ l17
      · have g := of_decide_eq_false g
        refine ⟨_, isW (by unfold InR; omega), ⟨rfl, i + 1, rfl, by omega, fun h => ?_, fun h => ?_⟩, by simp [vint]; omega⟩
        · by_cases h0 : i = 0
          · rw [if_pos h0] at g; omega
          · exact i1 (by omega)
        · have h0 : ¬ i = 0 := by omega
          rw [if_neg h0] at g; omega
    · have hge : i = 2 := by have := of_decide_eq_false e; omega
      subst hge
      have j3 := i1 (by omega)
      have j4 := i2 (by omega)
      refine ⟨4 * q.slide, fun _ => isW (by unfold InR; omega), ?_⟩
      rw [cor]
      have hn : numsF q = if q.slide > q.size ∨ q.size > 4 * q.slide then 3 else 0 := by
        unfold numsF
        rw [if_neg (by omega)]
      rw [hn] at hK
      refine ⟨fun g => ?_, fun g => ?_⟩
      · rw [if_pos (of_decide_eq_true g)] at hK
        exact hK _ l17
      · rw [if_neg (of_decide_eq_false g)] at hK
        exact hK _ l17
theorem take_all {α : Type} {l : List α} {g : α → Int} {i : Nat} (hi : i < l.length) (h : ∀ y ∈ l.take i, g y = 0) (h2 : g l[i] = 0) : ∀ y ∈ l.take (i + 1), g y = 0 := by
  intro y hy
  rw [List.take_succ_eq_append_getElem hi] at hy
  rcases List.mem_append.1 hy with h3 | h3
  · exact h y h3
  · rw [List.mem_singleton.1 h3]; exact h2
theorem nil_len {α : Type} {l : List α} : l = [] ↔ l.length = 0 := List.length_eq_zero_iff.symm
theorem query_Check_ok {q : Qy} {a1 : Option Addr} {n1 c1 : Nat} {a2 : Option Addr} {n2 c2 : Nat} {a3 : Option Addr} {n3 c3 : Nat} {h : Hp} {R : Value → Hp → Prop} (Q : QAt h q a1 n1 a2 n2 a3 n3) (B : QBig q) (hK : ∀ h', h.le h' → R (ifv (errV (qryF q))) h') : CallOK Tryz.prog 8 [qV a1 n1 c1 a2 n2 c2 a3 n3 c3 q] h R := by
  refine ok_query_Check ?_
  unfold VC_query_Check
  have hn1 := Q.g.len
  have hn2 := Q.w.1
  have hn3 := Q.b.1
  have hB := B.n
  rw [cor]
  refine ⟨fun e => ?_, fun e => ?_⟩
  · have e := of_decide_eq_true e
    have : qryF q = 2 := by unfold qryF; rw [if_pos (by omega)]
    rw [this] at hK
    exact hK h (Hp.le_refl h)
  have e := of_decide_eq_false e
  have hq : qryF q = if firstF (q.aggs.map aggF) ≠ 0 then firstF (q.aggs.map aggF) else tailF q := by unfold qryF; rw [if_neg (by omega)]
  rw [hq] at hK
  clear hq
  refine ⟨fun vs' hh => h.le hh ∧ ∃ i : Nat, vs' = [vi i] ∧ i ≤ n1 ∧ ∀ y ∈ q.aggs.take i, aggF y = 0, fun vs' hh => n1 - (vint vs' 0).toNat, ⟨Hp.le_refl h, 0, rfl, Nat.zero_le _, by simp⟩, ?_⟩
  rintro vs' hh ⟨lh, i, rfl, hi, hz⟩
  refine ⟨i, rfl, fun g => ?_, fun g => ?_⟩
  · have hlt : i < n1 := by have := of_decide_eq_true g; omega
    have hlt2 : i < q.aggs.length := by omega
    have hx : q.aggs[i]? = some q.aggs[i] := List.getElem?_eq_getElem hlt2
    have hbig := B.g _ (List.mem_of_getElem? hx)
    have hall := @take_all _ q.aggs aggF i hlt2 hz
    generalize q.aggs[i] = y at hx hbig hall
    obtain ⟨k, l⟩ := y
    obtain ⟨b, o, a', c', ha, hrow, hS⟩ := (Q.g.le lh).row aggRw_len (by decide) hx
    have bad : ∀ f, f ≠ 0 → aggF (k, l) = f → ∀ h', h.le h' → R (ifv (errV f)) h' := by
      intro f hf hk h' l'
      have h1 := firstF_at (g := aggF) hz hx (by rw [hk]; exact hf)
      rw [h1, hk, if_pos hf] at hK
      exact hK h' l'
    intro J25
    refine ⟨b, o, ⟨ha, by omega, by omega⟩, k, a', l.length, c', by rw [Int.toNat_natCast]; exact hrow, ?_⟩
    have good : aggF (k, l) = 0 → ∀ h', h.le h' → J25 h' := fun hk h' l' => ⟨_, isW (by unfold InR; omega), ⟨l', i + 1, rfl, by omega, hall hk⟩, by simp [vint]; omega⟩
    clear_value J25
    rw [cor, cand, cor]
    have hnil : l ≠ [] ↔ (l.length : Int) > 0 := by rw [ne_eq, nil_len]; omega
    refine ⟨fun g2 => ?_, fun g2 => ⟨fun g3 => ?_, fun g3 => ?_⟩⟩
    · have g2 := of_decide_eq_true g2
      refine bad 3 (by decide) ?_ hh lh
      unfold aggF
      rw [if_pos (by simp only [hnil]; omega)]
    · have g2 := of_decide_eq_false g2
      have g3 := of_decide_eq_true g3
      refine good ?_ hh lh
      unfold aggF
      rw [if_neg (by simp only [hnil]; omega), if_pos g3]
    · have g2 := of_decide_eq_false g2
      have g3 := of_decide_eq_false g3
      have hf : aggF (k, l) = typedF l (if k = 2 then 0 else 1) := by
        unfold aggF
        rw [if_neg (by simp only [hnil]; omega), if_neg g3]
      intro J19
      have hJ : J19 (if k = 2 then 0 else 1) := by
        refine query_typed_ok hS hbig fun h' l' => ⟨_, rfl, fun g4 => ?_, fun g4 => ?_⟩
        · rw [errV_some] at g4
          exact bad _ (by simpa using g4) hf h' (Hp.le_trans lh l')
        · rw [errV_some] at g4
          exact good (by rw [hf]; simpa using g4) h' (Hp.le_trans lh l')
      clear_value J19
      refine ⟨fun g4 => ?_, fun g4 => ?_⟩
      · rw [if_pos (of_decide_eq_true g4)] at hJ; exact hJ
      · rw [if_neg (of_decide_eq_false g4)] at hJ; exact hJ
  · have hge : i = n1 := by have := of_decide_eq_false g; omega
    have hz0 : firstF (q.aggs.map aggF) = 0 := firstF_zero (by
      intro x hx
      obtain ⟨y, hy, rfl⟩ := List.mem_map.1 hx
      exact hz y (by rw [List.take_of_length_le (by omega)]; exact hy))
    rw [hz0, if_neg (fun h => h rfl)] at hK
    unfold tailF at hK
    have Q := Q.le lh
    intro J33
    have hJ33 : ∀ h', hh.le h' → (if q.wh = [] then 0 else typedF q.wh 2) = 0 → J33 h' := by
      intro h' l' hw
      rw [hw, firstF, if_neg (fun h => h rfl)] at hK
      unfold J33
      intro J40
      have hJ40 : ∀ h2, h'.le h2 → (if q.by_ = [] then 0 else typedF q.by_ 0) = 0 → J40 h2 := by
        intro h2 l2 hb
        rw [hb, firstF, if_neg (fun h => h rfl)] at hK
        refine query_numbers_ok (q := q) fun h3 l3 => ⟨_, rfl, ?_⟩
        have := hK h3 (Hp.le_trans lh (Hp.le_trans l' (Hp.le_trans l2 l3)))
        rw [firstF, firstF] at this
        by_cases hn : numsF q ≠ 0
        · rw [if_pos hn] at this; exact this
        · rw [if_neg hn] at this
          rw [Decidable.not_not.1 hn]; exact this
      clear_value J40
      refine ⟨fun g2 => ?_, fun g2 => ?_⟩
      · have hne : ¬ q.by_ = [] := by have := of_decide_eq_true g2; rw [nil_len]; omega
        rw [if_neg hne] at hJ40 hK
        refine query_typed_ok (Q.le l').b B.b fun h2 l2 => ⟨_, rfl, fun g4 => ?_, fun g4 => ?_⟩
        · rw [errV_some] at g4
          rw [firstF, if_pos (by simpa using g4)] at hK
          exact hK h2 (Hp.le_trans lh (Hp.le_trans l' l2))
        · rw [errV_some] at g4
          exact hJ40 h2 l2 (by simpa using g4)
      · have hnil : q.by_ = [] := by have := of_decide_eq_false g2; rw [nil_len]; omega
        exact hJ40 h' (Hp.le_refl h') (if_pos hnil)
    clear_value J33
    refine ⟨fun g2 => ?_, fun g2 => ?_⟩
    · have hne : ¬ q.wh = [] := by have := of_decide_eq_true g2; rw [nil_len]; omega
      rw [if_neg hne] at hJ33 hK
      refine query_typed_ok Q.w B.w fun h2 l2 => ⟨_, rfl, fun g4 => ?_, fun g4 => ?_⟩
      · rw [errV_some] at g4
        rw [firstF, if_pos (by simpa using g4)] at hK
        exact hK h2 (Hp.le_trans lh l2)
      · rw [errV_some] at g4
        exact hJ33 h2 l2 (by simpa using g4)
    · have hnil : q.wh = [] := by have := of_decide_eq_false g2; rw [nil_len]; omega
      exact hJ33 hh (Hp.le_refl hh) (if_pos hnil)
end Go.Proofs.YtonlacplogbodaaGreatDoor
/-
  What functions of the program ask, in words: each is what the framework reckons from the loaded code (the kernel holds the two together), and gives the function's call. Conditions: none.
-/
namespace Go.Proofs.YtonlacplogbodaaGreatDoor
open Go Go.Vc
set_option maxRecDepth 100000
set_option linter.unusedVariables false
/-- What 'penstock/penstockref.SameNodes' asks. -/
def VC_R_SameNodes (u_aa : Option Addr) (u_an u_ac : Nat) (u_ba : Option Addr) (u_bn u_bc : Nat) (h : Hp) (R : Value → Hp → Prop) : Prop :=
  (((decide ((((u_an : Nat) : Int) : Int) ≠ ((u_bn : Nat) : Int))) = true → R (vb false) h) ∧ ((decide ((((u_an : Nat) : Int) : Int) ≠ ((u_bn : Nat) : Int))) = false → (∃ (I3 : List Value → Hp → Prop) (m4 : List Value → Hp → Nat), I3 [(vi 0)] h ∧ ∀ (vs5 : List Value) (h6 : Hp), I3 vs5 h6 → ∃ (x7 : Int), vs5 = [(vi x7)] ∧ (((decide ((x7 : Int) < ((u_an : Nat) : Int))) = true → (∃ (b10 o11 : Nat), (u_aa = some ⟨b10, o11, none⟩ ∧ (0 : Int) ≤ x7 ∧ x7 < ((u_an : Nat) : Int)) ∧ (∃ (x12 : Int) (x13 : Int) (x14 : Int) (x15 : Int) (x16 : Int) (x17 : Int), (Hp.row h6 b10 (o11 + x7.toNat * 6) 6 = some [(vi x12), (vi x13), (vi x14), (vi x15), (vi x16), (vi x17)]) ∧ (∃ (b18 o19 : Nat), (u_ba = some ⟨b18, o19, none⟩ ∧ (0 : Int) ≤ x7 ∧ x7 < ((u_bn : Nat) : Int)) ∧ (∃ (x20 : Int) (x21 : Int) (x22 : Int) (x23 : Int) (x24 : Int) (x25 : Int), (Hp.row h6 b18 (o19 + x7.toNat * 6) 6 = some [(vi x20), (vi x21), (vi x22), (vi x23), (vi x24), (vi x25)]) ∧ (∃ (p26 : Bool), (Rd Tryz.prog ((eqGuard .neq 82 (.tmp 20) (.tmp 24) (vag [(vi x12), (vi x13), (vi x14), (vi x15), (vi x16), (vi x17)]) (vag [(vi x20), (vi x21), (vi x22), (vi x23), (vi x24), (vi x25)]) >>= fun _ => binOp .neq 82 (vag [(vi x12), (vi x13), (vi x14), (vi x15), (vi x16), (vi x17)]) (vag [(vi x20), (vi x21), (vi x22), (vi x23), (vi x24), (vi x25)]))) h6 (vb p26)) ∧ ((p26 = true → R (vb false) h6) ∧ (p26 = false → (∃ (x28 : Int), (IsW x28 (x7 + 1)) ∧ (I3 [(vi x28)] h6 ∧ m4 [(vi x28)] h6 < m4 vs5 h6)))))))))) ∧ ((decide ((x7 : Int) < ((u_an : Nat) : Int))) = false → R (vb true) h6)))))
theorem ok_R_SameNodes {u_aa : Option Addr} {u_an u_ac : Nat} {u_ba : Option Addr} {u_bn u_bc : Nat} {h : Hp} {R : Value → Hp → Prop} (H : VC_R_SameNodes u_aa u_an u_ac u_ba u_bn u_bc h R) : CallOK Tryz.prog 36 [(vsl u_aa u_an u_ac), (vsl u_ba u_bn u_bc)] h R :=
  call_of (cfg := ⟨[], [(4, ([5], [.one (.int .i64)], []))], [(6, [0, 1, 2, 3, 4, 5, 6, 7, 8])]⟩) noNG mixed Tryz.func36 [.one (.v (vsl u_aa u_an u_ac)), .one (.v (vsl u_ba u_bn u_bc))] (by kernel_rfl) rfl (by kernel_rfl) H

end Go.Proofs.YtonlacplogbodaaGreatDoor
/-
  What functions of the program ask, in words: each is what the framework reckons from the loaded code (the kernel holds the two together), and gives the function's call. Conditions: none.
-/
namespace Go.Proofs.YtonlacplogbodaaGreatDoor
open Go Go.Vc
set_option maxRecDepth 100000
set_option linter.unusedVariables false
/-- What 'penstock/penstocklaw.LightNodes' asks. -/
def VC_law_LightNodes (u_la : Option Addr) (u_ln u_lc : Nat) (h : Hp) (R : Value → Hp → Prop) : Prop :=
  R (vb (decide ((((u_ln : Nat) : Int) : Int) ≤ 50))) h
theorem ok_law_LightNodes {u_la : Option Addr} {u_ln u_lc : Nat} {h : Hp} {R : Value → Hp → Prop} (H : VC_law_LightNodes u_la u_ln u_lc h R) : CallOK Tryz.prog 14 [(vsl u_la u_ln u_lc)] h R :=
  call_of (cfg := ⟨[], [], []⟩) noNG mixed Tryz.func14 [.one (.v (vsl u_la u_ln u_lc))] (by kernel_rfl) rfl (by kernel_rfl) H

end Go.Proofs.YtonlacplogbodaaGreatDoor
/-
  Contracts: lists of nodes that are the same; how many are light. Conditions: that they are the same.
-/
namespace Go.Proofs.YtonlacplogbodaaGreatDoor
open Go Go.Vc
set_option linter.unusedVariables false
set_option maxRecDepth 100000

theorem eqFl_N (a b c d e f a' b' c' d' e' f' : Int) : eqFl Tryz.prog 8 82 [vi a, vi b, vi c, vi d, vi e, vi f] [vi a', vi b', vi c', vi d', vi e', vi f'] =
    some (decide (a = a') && (decide (b = b') && (decide (c = c') && (decide (d = d') && ((decide (e = e') && (decide (f = f') && true)) && true))))) := by kernel_rfl
theorem rd_neqN {h : Hp} {x y : Operand} {a : Nd} : Rd Tryz.prog (eqGuard .neq 82 x y (vag (encN a)) (vag (encN a)) >>= fun _ => binOp .neq 82 (vag (encN a)) (vag (encN a))) h (vb false) := by
  have := rd_neq (P := Tryz.prog) (h := h) (t := 82) (x := x) (y := y) (eqFl_N a.op a.x a.y a.n a.v.1 a.v.2 a.op a.x a.y a.n a.v.1 a.v.2) (by kernel_rfl) (by kernel_rfl)
  have e : (!(decide (a.op = a.op) && (decide (a.x = a.x) && (decide (a.y = a.y) && (decide (a.n = a.n) && ((decide (a.v.1 = a.v.1) && (decide (a.v.2 = a.v.2) && true)) && true)))))) = false := by simp
  rw [e] at this
  exact this
theorem R_SameNodes_ok {a a2 : Option Addr} {n n2 c c2 : Nat} {l : List Nd} {h : Hp} {R : Value → Hp → Prop} (S : SlP encN h a n l) (S2 : SlP encN h a2 n2 l) (hl : l.length ≤ 1000000) (hK : R (vb true) h) : CallOK Tryz.prog 36 [vsl a n c, vsl a2 n2 c2] h R := by
  refine ok_R_SameNodes ?_
  unfold VC_R_SameNodes
  obtain rfl := S.1
  obtain rfl := S2.1
  refine ⟨fun g => by simp at g, fun _ => ⟨fun vs hh => hh = h ∧ ∃ i : Nat, vs = [vi i] ∧ i ≤ l.length, fun vs hh => l.length - (vint vs 0).toNat, ⟨rfl, 0, rfl, Nat.zero_le _⟩, ?_⟩⟩
  rintro vs hh ⟨rfl, i, rfl, hi⟩
  refine ⟨i, rfl, fun q => ?_, fun _ => hK⟩
  have hlt : i < l.length := by have := of_decide_eq_true q; omega
  have hx : l[i]? = some l[i] := List.getElem?_eq_getElem hlt
  obtain ⟨b, o, ha, hr⟩ := S.get encN_len (by decide) hx
  obtain ⟨b', o', ha', hr'⟩ := S2.get encN_len (by decide) hx
  generalize l[i] = y at *
  exact ⟨b, o, ⟨ha, by omega, by omega⟩, _, _, _, _, _, _, hr, b', o', ⟨ha', by omega, by omega⟩, _, _, _, _, _, _, hr', _, rd_neqN (a := y), fun g => (by cases g), fun _ => ⟨_, isW (by unfold InR; omega), ⟨rfl, i + 1, rfl, by omega⟩, by simp [vint]; omega⟩⟩
theorem law_LightNodes_ok {a : Option Addr} {n c : Nat} {h : Hp} {R : Value → Hp → Prop} (hK : R (vb (decide ((n : Int) ≤ 50))) h) : CallOK Tryz.prog 14 [vsl a n c] h R := ok_law_LightNodes hK
end Go.Proofs.YtonlacplogbodaaGreatDoor
/-
  Contracts: what the document finds wrong with a question; two that are the same. Conditions: those stated at each.
-/
namespace Go.Proofs.YtonlacplogbodaaGreatDoor
open Go Go.Vc Go.Txt
set_option linter.unusedVariables false
set_option maxRecDepth 100000

theorem typE_2 (l : List Nd) : 0 ≤ (typE l).2 := by
  unfold typE
  split
  · exact Int.le_refl _
  · show (0 : Int) ≤ 3
    decide
theorem R_typed_ok {a : Option Addr} {k c : Nat} {l : List Nd} {kind : Int} (h0 : 0 ≤ kind) {h : Hp} {R : Value → Hp → Prop} (S : SlP encN h a k l) (hl : l.length ≤ 1000000) (hK : ∀ h', h.le h' → R (vi (typedF l kind)) h') : CallOK Tryz.prog 15 [vsl a k c, vi kind] h R := by
  refine ok_R_typed ?_
  unfold VC_R_typed
  unfold typedF at hK
  have e2 := exprF_2 l
  have t2 := typE_2 l
  refine R_ExprFault_ok S fun h2 l2 => ⟨_, rfl, fun e => ?_, fun e => ?_⟩
  · have e := of_decide_eq_true e
    rw [if_pos (by omega)] at hK
    exact hK h2 l2
  · have e := of_decide_eq_false e
    have ez : exprF l = 0 := by omega
    rw [if_neg (by omega)] at hK
    have O := (exprF_ok ez).1
    have tn := typE_nat O
    refine R_Type_ok (S.le l2) O.wf O.pos hl ⟨_, _, rfl, fun q => ?_, fun q => ?_⟩
    · have q := of_decide_eq_true q
      rw [if_pos (by omega)] at hK
      exact hK h2 l2
    · have q := of_decide_eq_false q
      rw [if_neg (by omega)] at hK
      rw [cand, cand]
      refine ⟨fun q2 => ?_, fun q2 => ?_⟩
      · have q2 := of_decide_eq_true q2
        rw [if_pos (by omega)] at hK
        exact hK h2 l2
      · have q2 := of_decide_eq_false q2
        rw [if_neg (by omega)] at hK
        exact hK h2 l2
theorem typedF_2 (l : List Nd) (k : Int) : 0 ≤ typedF l k := by
  have e2 := exprF_2 l
  have t2 := typE_2 l
  unfold typedF
  split
  · exact e2
  · split
    · exact t2
    · split <;> decide
theorem R_QueryFault_ok {q : Qy} {a1 : Option Addr} {n1 c1 : Nat} {a2 : Option Addr} {n2 c2 : Nat} {a3 : Option Addr} {n3 c3 : Nat} {h : Hp} {R : Value → Hp → Prop} (Q : QAt h q a1 n1 a2 n2 a3 n3) (B : QBig q) (hK : ∀ h', h.le h' → R (vi (qryF q)) h') : CallOK Tryz.prog 6 [qV a1 n1 c1 a2 n2 c2 a3 n3 c3 q] h R := by
  refine ok_R_QueryFault ?_
  unfold VC_R_QueryFault
  have hn1 := Q.g.len
  have hn2 := Q.w.1
  have hn3 := Q.b.1
  have hB := B.n
  rw [cor]
  refine ⟨fun e => ?_, fun e => ?_⟩
  · have e := of_decide_eq_true e
    have : qryF q = 2 := by unfold qryF; rw [if_pos (by omega)]
    rw [this] at hK
    exact hK h (Hp.le_refl h)
  have e := of_decide_eq_false e
  have hq : qryF q = if firstF (q.aggs.map aggF) ≠ 0 then firstF (q.aggs.map aggF) else tailF q := by unfold qryF; rw [if_neg (by omega)]
  rw [hq] at hK
  clear hq
  refine ⟨fun vs' hh => h.le hh ∧ ∃ i : Nat, vs' = [vi i] ∧ i ≤ n1 ∧ ∀ y ∈ q.aggs.take i, aggF y = 0, fun vs' hh => n1 - (vint vs' 0).toNat, ⟨Hp.le_refl h, 0, rfl, Nat.zero_le _, by simp⟩, ?_⟩
  rintro vs' hh ⟨lh, i, rfl, hi, hz⟩
  refine ⟨i, rfl, fun g => ?_, fun g => ?_⟩
  · have hlt : i < n1 := by have := of_decide_eq_true g; omega
    have hlt2 : i < q.aggs.length := by omega
    have hx : q.aggs[i]? = some q.aggs[i] := List.getElem?_eq_getElem hlt2
    have hbig := B.g _ (List.mem_of_getElem? hx)
    have hall := @take_all _ q.aggs aggF i hlt2 hz
    generalize q.aggs[i] = y at hx hbig hall
    obtain ⟨k, l⟩ := y
    obtain ⟨b, o, a', c', ha, hrow, hS⟩ := (Q.g.le lh).row aggRw_len (by decide) hx
    have bad : ∀ f, f ≠ 0 → aggF (k, l) = f → ∀ h', h.le h' → R (vi f) h' := by
      intro f hf hk h' l'
      have h1 := firstF_at (g := aggF) hz hx (by rw [hk]; exact hf)
      rw [h1, hk, if_pos hf] at hK
      exact hK h' l'
    intro J25
    refine ⟨b, o, ⟨ha, by omega, by omega⟩, k, a', l.length, c', by rw [Int.toNat_natCast]; exact hrow, ?_⟩
    have good : aggF (k, l) = 0 → ∀ h', h.le h' → J25 h' := fun hk h' l' => ⟨_, isW (by unfold InR; omega), ⟨l', i + 1, rfl, by omega, hall hk⟩, by simp [vint]; omega⟩
    clear_value J25
    rw [cor, cand, cor]
    have hnil : l ≠ [] ↔ (l.length : Int) > 0 := by rw [ne_eq, nil_len]; omega
    refine ⟨fun g2 => ?_, fun g2 => ?_⟩
    · have g2 := of_decide_eq_true g2
      refine bad 3 (by decide) ?_ hh lh
      unfold aggF
      rw [if_pos (by simp only [hnil]; omega)]
    · have g2 := of_decide_eq_false g2
      intro J17
      have hJ : J17 (if k = 2 then 0 else 1) := by
        refine ⟨fun g3 => ?_, fun g3 => ?_⟩
        · have g3 := of_decide_eq_true g3
          have hf : aggF (k, l) = typedF l (if k = 2 then 0 else 1) := by
            unfold aggF
            rw [if_neg (by simp only [hnil]; omega), if_neg (by show ¬ k = 1; omega)]
          have t2 := typedF_2 l (if k = 2 then 0 else 1)
          refine R_typed_ok (by split <;> decide) hS hbig fun h' l' => ⟨_, rfl, fun g4 => ?_, fun g4 => ?_⟩
          · have g4 := of_decide_eq_true g4
            exact bad _ (by omega) hf h' (Hp.le_trans lh l')
          · have g4 := of_decide_eq_false g4
            exact good (by rw [hf]; omega) h' (Hp.le_trans lh l')
        · have g3 := of_decide_eq_false g3
          refine good ?_ hh lh
          unfold aggF
          rw [if_neg (by simp only [hnil]; omega), if_pos (by show k = 1; omega)]
      clear_value J17
      refine ⟨fun g4 => ?_, fun g4 => ?_⟩
      · rw [if_pos (of_decide_eq_true g4)] at hJ; exact hJ
      · rw [if_neg (of_decide_eq_false g4)] at hJ; exact hJ
  · have hge : i = n1 := by have := of_decide_eq_false g; omega
    have hz0 : firstF (q.aggs.map aggF) = 0 := firstF_zero (by
      intro x hx
      obtain ⟨y, hy, rfl⟩ := List.mem_map.1 hx
      exact hz y (by rw [List.take_of_length_le (by omega)]; exact hy))
    rw [hz0, if_neg (fun h => h rfl)] at hK
    unfold tailF at hK
    have Q := Q.le lh
    intro J33
    have hJ33 : ∀ h', hh.le h' → (if q.wh = [] then 0 else typedF q.wh 2) = 0 → J33 h' := by
      intro h' l' hw
      rw [hw, firstF, if_neg (fun h => h rfl)] at hK
      unfold J33
      intro J40
      have hJ40 : ∀ h2, h'.le h2 → (if q.by_ = [] then 0 else typedF q.by_ 0) = 0 → J40 h2 := by
        intro h2 l2 hb
        rw [hb, firstF, if_neg (fun h => h rfl)] at hK
        have hK := hK h2 (Hp.le_trans lh (Hp.le_trans l' l2))
        rw [firstF, firstF] at hK
        have hnum : numsF q = if ((((((q.size < 1 ∨ q.size > 1000) ∨ q.slide < 1) ∨ q.slide > 1000) ∨ q.delay < 0) ∨ q.delay > 1000) ∨ q.late < 0) ∨ q.late > 1000 then 1 else if q.slide > q.size ∨ q.size > 4 * q.slide then 3 else 0 := by
          unfold numsF
          simp only [or_assoc]
        show (_ ∧ _)
        simp only [cor]
        refine ⟨fun g2 => ?_, fun g2 => ?_⟩
        · rw [if_pos (of_decide_eq_true g2)] at hnum
          rw [hnum, if_pos (by decide)] at hK
          exact hK
        · have g3 := of_decide_eq_false g2
          rw [if_neg g3] at hnum
          refine ⟨4 * q.slide, fun _ => isW (by unfold InR; omega), fun g4 => ?_, fun g4 => ?_⟩
          · rw [if_pos (of_decide_eq_true g4)] at hnum
            rw [hnum, if_pos (by decide)] at hK
            exact hK
          · rw [if_neg (of_decide_eq_false g4)] at hnum
            rw [hnum, if_neg (by decide)] at hK
            exact hK
      clear_value J40
      refine ⟨fun g2 => ?_, fun g2 => ?_⟩
      · have hne : ¬ q.by_ = [] := by have := of_decide_eq_true g2; rw [nil_len]; omega
        rw [if_neg hne] at hJ40 hK
        have t2 := typedF_2 q.by_ 0
        refine R_typed_ok (by decide) (Q.le l').b B.b fun h2 l2 => ⟨_, rfl, fun g4 => ?_, fun g4 => ?_⟩
        · have g4 := of_decide_eq_true g4
          rw [firstF, if_pos (by omega)] at hK
          exact hK h2 (Hp.le_trans lh (Hp.le_trans l' l2))
        · have g4 := of_decide_eq_false g4
          exact hJ40 h2 l2 (by omega)
      · have hnil : q.by_ = [] := by have := of_decide_eq_false g2; rw [nil_len]; omega
        exact hJ40 h' (Hp.le_refl h') (if_pos hnil)
    clear_value J33
    refine ⟨fun g2 => ?_, fun g2 => ?_⟩
    · have hne : ¬ q.wh = [] := by have := of_decide_eq_true g2; rw [nil_len]; omega
      rw [if_neg hne] at hJ33 hK
      have t2 := typedF_2 q.wh 2
      refine R_typed_ok (by decide) Q.w B.w fun h2 l2 => ⟨_, rfl, fun g4 => ?_, fun g4 => ?_⟩
      · have g4 := of_decide_eq_true g4
        rw [firstF, if_pos (by omega)] at hK
        exact hK h2 (Hp.le_trans lh l2)
      · have g4 := of_decide_eq_false g4
        exact hJ33 h2 l2 (by omega)
    · have hnil : q.wh = [] := by have := of_decide_eq_false g2; rw [nil_len]; omega
      exact hJ33 hh (Hp.le_refl hh) (if_pos hnil)
theorem R_SameQuery_ok {q : Qy} {a1 : Option Addr} {n1 c1 : Nat} {a2 : Option Addr} {n2 c2 : Nat} {a3 : Option Addr} {n3 c3 : Nat} {b1 : Option Addr} {m1 d1 : Nat} {b2 : Option Addr} {m2 d2 : Nat} {b3 : Option Addr} {m3 d3 : Nat} {h : Hp} {R : Value → Hp → Prop} (Q : QAt h q a1 n1 a2 n2 a3 n3) (Q' : QAt h q b1 m1 b2 m2 b3 m3) (B : QBig q) (hK : R (vb true) h) : CallOK Tryz.prog 13 [qV a1 n1 c1 a2 n2 c2 a3 n3 c3 q, qV b1 m1 d1 b2 m2 d2 b3 m3 d3 q] h R := by
  refine ok_R_SameQuery ?_
  unfold VC_R_SameQuery
  have hn1 := Q.g.len
  have hm1 := Q'.g.len
  have hB := B.n
  refine R_SameNodes_ok Q.w Q'.w B.w ⟨_, rfl, R_SameNodes_ok Q.b Q'.b B.b ⟨_, rfl, ?_⟩⟩
  have hc : (bif (bif (decide (((n1 : Nat) : Int) ≠ ((m1 : Nat) : Int))) then true else (!true)) then true else (!true)) = false := by
    rw [decide_eq_false (by omega)]; rfl
  rw [hc]
  refine ⟨fun e => by (cases e), fun _ => ?_⟩
  refine ⟨fun vs' hh => hh = h ∧ ∃ i : Nat, vs' = [vi i] ∧ i ≤ n1, fun vs' hh => n1 - (vint vs' 0).toNat, ⟨rfl, 0, rfl, Nat.zero_le _⟩, ?_⟩
  rintro vs' hh ⟨rfl, i, rfl, hi⟩
  refine ⟨i, rfl, fun g => ?_, fun g => ?_⟩
  · have hlt : i < n1 := by have := of_decide_eq_true g; omega
    have hx : q.aggs[i]? = some q.aggs[i] := List.getElem?_eq_getElem (by omega)
    have hbig := B.g _ (List.mem_of_getElem? hx)
    generalize q.aggs[i] = y at hx hbig
    obtain ⟨k, l⟩ := y
    obtain ⟨b, o, a', c', ha, hrow, hS⟩ := Q.g.row aggRw_len (by decide) hx
    obtain ⟨b', o', a'', c'', ha', hrow', hS'⟩ := Q'.g.row aggRw_len (by decide) hx
    have r0 := Hp.row_cell hrow (i := 0) (x := vi k) rfl
    have r1 := Hp.row_cell hrow (i := 1) (x := vsl a' l.length c') rfl
    have s0 := Hp.row_cell hrow' (i := 0) (x := vi k) rfl
    have s1 := Hp.row_cell hrow' (i := 1) (x := vsl a'' l.length c'') rfl
    refine ⟨b, o, ⟨ha, by omega, by omega⟩, a', l.length, c', by rw [Int.toNat_natCast]; exact r1, b', o', ⟨ha', by omega, by omega⟩, a'', l.length, c'', by rw [Int.toNat_natCast]; exact s1, ?_⟩
    refine R_SameNodes_ok hS hS' hbig ⟨_, rfl, b, o, ⟨ha, by omega, by omega⟩, k, by rw [Int.toNat_natCast]; exact r0, b', o', ⟨ha', by omega, by omega⟩, k, by rw [Int.toNat_natCast]; exact s0, ?_⟩
    have hc2 : (bif (decide ((k : Int) ≠ k)) then true else (!true)) = false := by simp
    rw [hc2]
    exact ⟨fun e => by (cases e), fun _ => ⟨_, isW (by unfold InR; omega), ⟨rfl, i + 1, rfl, by omega⟩, by simp [vint]; omega⟩⟩
  · have : (bif (bif (bif (decide ((q.size : Int) = q.size)) then (decide ((q.slide : Int) = q.slide)) else false) then (decide ((q.delay : Int) = q.delay)) else false) then (decide ((q.late : Int) = q.late)) else false) = true := by simp
    rw [this]
    exact hK
end Go.Proofs.YtonlacplogbodaaGreatDoor
/-
  What functions of the program ask, in words: each is what the framework reckons from the loaded code (the kernel holds the two together), and gives the function's call. Conditions: none.
-/
namespace Go.Proofs.YtonlacplogbodaaGreatDoor
open Go Go.Vc
set_option maxRecDepth 100000
set_option linter.unusedVariables false
/-- What 'penstock/penstockref.WordsOf' asks. -/
def VC_R_WordsOf (u_s : ByteArray) (h : Hp) (R : Value → Hp → Prop) : Prop :=
  (((decide ((((ByteArray.size u_s : Nat) : Int) : Int) > 240)) = true → R (vtup [(vsl none 0 0), (vi 2)]) h) ∧ ((decide ((((ByteArray.size u_s : Nat) : Int) : Int) > 240)) = false → (∃ (I3 : List Value → Hp → Prop) (m4 : List Value → Hp → Nat), I3 [(vsl none 0 0), (vi 0)] h ∧ ∀ (vs5 : List Value) (h6 : Hp), I3 vs5 h6 → ∃ (a7 : Option Addr) (n7 c7 : Nat) (x8 : Int), vs5 = [(vsl a7 n7 c7), (vi x8)] ∧ (((decide ((x8 : Int) < ((ByteArray.size u_s : Nat) : Int))) = true → (∃ (x11 : Int), (Rd Tryz.prog (Instr.index 9 (vs u_s) (vi x8)) h6 (vk .u8 x11)) ∧ (((decide ((x11 : Int) = 32)) = true → (∃ (x12 : Int), (IsW x12 (x8 + 1)) ∧ (I3 [(vsl a7 n7 c7), (vi x12)] h6 ∧ m4 [(vsl a7 n7 c7), (vi x12)] h6 < m4 vs5 h6))) ∧ ((decide ((x11 : Int) = 32)) = false → (∃ (I15 : List Value → Hp → Prop) (m16 : List Value → Hp → Nat), I15 [(vi x8)] h6 ∧ ∀ (vs17 : List Value) (h18 : Hp), I15 vs17 h18 → ∃ (x19 : Int), vs17 = [(vi x19)] ∧ (∃ (x20 : Int), ((decide ((x19 : Int) < ((ByteArray.size u_s : Nat) : Int))) = true → Rd Tryz.prog (Instr.index 9 (vs u_s) (vi x19)) h18 (vk .u8 x20)) ∧ (∃ (x21 : Int), ((bif (decide ((x19 : Int) < ((ByteArray.size u_s : Nat) : Int))) then (decide ((x20 : Int) ≥ 97)) else false) = true → Rd Tryz.prog (Instr.index 9 (vs u_s) (vi x19)) h18 (vk .u8 x21)) ∧ (((bif (bif (decide ((x19 : Int) < ((ByteArray.size u_s : Nat) : Int))) then (decide ((x20 : Int) ≥ 97)) else false) then (decide ((x21 : Int) ≤ 122)) else false) = true → (∃ (x24 : Int), (IsW x24 (x19 + 1)) ∧ (I15 [(vi x24)] h18 ∧ m16 [(vi x24)] h18 < m16 vs17 h18))) ∧ ((bif (bif (decide ((x19 : Int) < ((ByteArray.size u_s : Nat) : Int))) then (decide ((x20 : Int) ≥ 97)) else false) then (decide ((x21 : Int) ≤ 122)) else false) = false → (let J37 : Int → Hp → Prop := fun (x39 : Int) (h40 : Hp) => (∃ (x41 : Int), ((decide ((x39 : Int) = x8)) = true → IsW x41 (x39 + 1)) ∧ (∃ (x42 : Int), ((bif (decide ((x39 : Int) = x8)) then (decide ((x41 : Int) < ((ByteArray.size u_s : Nat) : Int))) else false) = true → IsW x42 (x39 + 2)) ∧ (∃ (s43 : ByteArray), ((bif (decide ((x39 : Int) = x8)) then (decide ((x41 : Int) < ((ByteArray.size u_s : Nat) : Int))) else false) = true → Rd Tryz.prog (Instr.sliceAt 9 (vs u_s) (some (vi x39)) (some (vi x42)) none) h40 (vs s43)) ∧ (∃ (p44 : Bool), ((bif (decide ((x39 : Int) = x8)) then (decide ((x41 : Int) < ((ByteArray.size u_s : Nat) : Int))) else false) = true → Rd Tryz.prog ((eqGuard .eql 9 (.tmp 77) (.const (vs ⟨#[60, 61]⟩)) (vs s43) (vs ⟨#[60, 61]⟩) >>= fun _ => binOp .eql 9 (vs s43) (vs ⟨#[60, 61]⟩))) h40 (vb p44)) ∧ (∃ (x45 : Int), (((bif (decide ((x39 : Int) = x8)) then (decide ((x41 : Int) < ((ByteArray.size u_s : Nat) : Int))) else false) = true ∧ p44 = false) → IsW x45 (x39 + 2)) ∧ (∃ (s46 : ByteArray), (((bif (decide ((x39 : Int) = x8)) then (decide ((x41 : Int) < ((ByteArray.size u_s : Nat) : Int))) else false) = true ∧ p44 = false) → Rd Tryz.prog (Instr.sliceAt 9 (vs u_s) (some (vi x39)) (some (vi x45)) none) h40 (vs s46)) ∧ (∃ (p47 : Bool), (((bif (decide ((x39 : Int) = x8)) then (decide ((x41 : Int) < ((ByteArray.size u_s : Nat) : Int))) else false) = true ∧ p44 = false) → Rd Tryz.prog ((eqGuard .eql 9 (.tmp 84) (.const (vs ⟨#[62, 61]⟩)) (vs s46) (vs ⟨#[62, 61]⟩) >>= fun _ => binOp .eql 9 (vs s46) (vs ⟨#[62, 61]⟩))) h40 (vb p47)) ∧ (∃ (x48 : Int), (((bif (decide ((x39 : Int) = x8)) then (decide ((x41 : Int) < ((ByteArray.size u_s : Nat) : Int))) else false) = true ∧ (bif p44 then true else p47) = false) → IsW x48 (x39 + 2)) ∧ (∃ (s49 : ByteArray), (((bif (decide ((x39 : Int) = x8)) then (decide ((x41 : Int) < ((ByteArray.size u_s : Nat) : Int))) else false) = true ∧ (bif p44 then true else p47) = false) → Rd Tryz.prog (Instr.sliceAt 9 (vs u_s) (some (vi x39)) (some (vi x48)) none) h40 (vs s49)) ∧ (∃ (p50 : Bool), (((bif (decide ((x39 : Int) = x8)) then (decide ((x41 : Int) < ((ByteArray.size u_s : Nat) : Int))) else false) = true ∧ (bif p44 then true else p47) = false) → Rd Tryz.prog ((eqGuard .eql 9 (.tmp 92) (.const (vs ⟨#[60, 62]⟩)) (vs s49) (vs ⟨#[60, 62]⟩) >>= fun _ => binOp .eql 9 (vs s49) (vs ⟨#[60, 62]⟩))) h40 (vb p50)) ∧ (let J54 : Int → Prop := fun (x55 : Int) => (let J59 : Int → Prop := fun (x60 : Int) => (((decide ((x60 : Int) = x8)) = true → R (vtup [(vsl none 0 0), (vi 4)]) h40) ∧ ((decide ((x60 : Int) = x8)) = false → (∃ (s62 : ByteArray), (Rd Tryz.prog (Instr.sliceAt 9 (vs u_s) (some (vi x8)) (some (vi x60)) none) h40 (vs s62)) ∧ (∀ (b63 : Nat), h40 b63 = none → let h64 : Hp := Hp.set h40 b63 (cellsO [(vs s62)] 9); (SemOK Tryz.prog (Builtin.append_ #[47, 47] 47 #[(vsl a7 n7 c7), (vsl (some (⟨b63, 0, none⟩ : Addr)) 1 1)]) h64 fun v65 h66 => ∃ (a67 : Option Addr) (n67 c67 : Nat), v65 = (vsl a67 n67 c67) ∧ (((decide ((((n67 : Nat) : Int) : Int) > 80)) = true → R (vtup [(vsl none 0 0), (vi 2)]) h66) ∧ ((decide ((((n67 : Nat) : Int) : Int) > 80)) = false → (I3 [(vsl a67 n67 c67), (vi x60)] h66 ∧ m4 [(vsl a67 n67 c67), (vi x60)] h66 < m4 vs5 h6)))))))); (((bif (decide ((x55 : Int) = x8)) then (bif (bif (bif (bif (bif (bif (bif (bif (decide ((x11 : Int) = 40)) then true else (decide ((x11 : Int) = 41))) then true else (decide ((x11 : Int) = 44))) then true else (decide ((x11 : Int) = 42))) then true else (decide ((x11 : Int) = 43))) then true else (decide ((x11 : Int) = 45))) then true else (decide ((x11 : Int) = 60))) then true else (decide ((x11 : Int) = 62))) then true else (decide ((x11 : Int) = 61))) else false) = true → (∃ (x56 : Int), (IsW x56 (x55 + 1)) ∧ (J59 x56))) ∧ ((bif (decide ((x55 : Int) = x8)) then (bif (bif (bif (bif (bif (bif (bif (bif (decide ((x11 : Int) = 40)) then true else (decide ((x11 : Int) = 41))) then true else (decide ((x11 : Int) = 44))) then true else (decide ((x11 : Int) = 42))) then true else (decide ((x11 : Int) = 43))) then true else (decide ((x11 : Int) = 45))) then true else (decide ((x11 : Int) = 60))) then true else (decide ((x11 : Int) = 62))) then true else (decide ((x11 : Int) = 61))) else false) = false → (J59 x55)))); (((bif (bif (decide ((x39 : Int) = x8)) then (decide ((x41 : Int) < ((ByteArray.size u_s : Nat) : Int))) else false) then (bif (bif p44 then true else p47) then true else p50) else false) = true → (∃ (x51 : Int), (IsW x51 (x39 + 2)) ∧ (J54 x51))) ∧ ((bif (bif (decide ((x39 : Int) = x8)) then (decide ((x41 : Int) < ((ByteArray.size u_s : Nat) : Int))) else false) then (bif (bif p44 then true else p47) then true else p50) else false) = false → (J54 x39)))))))))))))); (((decide ((x19 : Int) = x8)) = true → (∃ (I26 : List Value → Hp → Prop) (m27 : List Value → Hp → Nat), I26 [(vi x19)] h18 ∧ ∀ (vs28 : List Value) (h29 : Hp), I26 vs28 h29 → ∃ (x30 : Int), vs28 = [(vi x30)] ∧ (∃ (x31 : Int), ((decide ((x30 : Int) < ((ByteArray.size u_s : Nat) : Int))) = true → Rd Tryz.prog (Instr.index 9 (vs u_s) (vi x30)) h29 (vk .u8 x31)) ∧ (∃ (x32 : Int), ((bif (decide ((x30 : Int) < ((ByteArray.size u_s : Nat) : Int))) then (decide ((x31 : Int) ≥ 48)) else false) = true → Rd Tryz.prog (Instr.index 9 (vs u_s) (vi x30)) h29 (vk .u8 x32)) ∧ (((bif (bif (decide ((x30 : Int) < ((ByteArray.size u_s : Nat) : Int))) then (decide ((x31 : Int) ≥ 48)) else false) then (decide ((x32 : Int) ≤ 57)) else false) = true → (∃ (x35 : Int), (IsW x35 (x30 + 1)) ∧ (I26 [(vi x35)] h29 ∧ m27 [(vi x35)] h29 < m27 vs28 h29))) ∧ ((bif (bif (decide ((x30 : Int) < ((ByteArray.size u_s : Nat) : Int))) then (decide ((x31 : Int) ≥ 48)) else false) then (decide ((x32 : Int) ≤ 57)) else false) = false → (J37 x30 h29))))))) ∧ ((decide ((x19 : Int) = x8)) = false → (J37 x19 h18))))))))))))) ∧ ((decide ((x8 : Int) < ((ByteArray.size u_s : Nat) : Int))) = false → R (vtup [(vsl a7 n7 c7), (vi 0)]) h6)))))
theorem ok_R_WordsOf {u_s : ByteArray} {h : Hp} {R : Value → Hp → Prop} (H : VC_R_WordsOf u_s h R) : CallOK Tryz.prog 30 [(vs u_s)] h R :=
  call_of (cfg := ⟨[], [(10, ([7], [.one (.int .i64)], [])), (13, ([7], [.one (.int .i64)], [])), (5, ([4, 5], [.one (.slice), .one (.int .i64)], []))], []⟩) noNG mixed Tryz.func30 [.one (.v (vs u_s))] (by kernel_rfl) rfl (by kernel_rfl) H

/-- What 'penstock/penstockref.SameTexts' asks. -/
def VC_R_SameTexts (u_aa : Option Addr) (u_an u_ac : Nat) (u_ba : Option Addr) (u_bn u_bc : Nat) (h : Hp) (R : Value → Hp → Prop) : Prop :=
  (((decide ((((u_an : Nat) : Int) : Int) ≠ ((u_bn : Nat) : Int))) = true → R (vb false) h) ∧ ((decide ((((u_an : Nat) : Int) : Int) ≠ ((u_bn : Nat) : Int))) = false → (∃ (I3 : List Value → Hp → Prop) (m4 : List Value → Hp → Nat), I3 [(vi 0)] h ∧ ∀ (vs5 : List Value) (h6 : Hp), I3 vs5 h6 → ∃ (x7 : Int), vs5 = [(vi x7)] ∧ (((decide ((x7 : Int) < ((u_an : Nat) : Int))) = true → (∃ (b10 o11 : Nat), (u_aa = some ⟨b10, o11, none⟩ ∧ (0 : Int) ≤ x7 ∧ x7 < ((u_an : Nat) : Int)) ∧ (∃ (s12 : ByteArray), (Hp.cell h6 b10 (o11 + x7.toNat * 1) = some (vs s12)) ∧ (∃ (b13 o14 : Nat), (u_ba = some ⟨b13, o14, none⟩ ∧ (0 : Int) ≤ x7 ∧ x7 < ((u_bn : Nat) : Int)) ∧ (∃ (s15 : ByteArray), (Hp.cell h6 b13 (o14 + x7.toNat * 1) = some (vs s15)) ∧ (∃ (p16 : Bool), (Rd Tryz.prog ((eqGuard .neq 9 (.tmp 20) (.tmp 24) (vs s12) (vs s15) >>= fun _ => binOp .neq 9 (vs s12) (vs s15))) h6 (vb p16)) ∧ ((p16 = true → R (vb false) h6) ∧ (p16 = false → (∃ (x18 : Int), (IsW x18 (x7 + 1)) ∧ (I3 [(vi x18)] h6 ∧ m4 [(vi x18)] h6 < m4 vs5 h6)))))))))) ∧ ((decide ((x7 : Int) < ((u_an : Nat) : Int))) = false → R (vb true) h6)))))
end Go.Proofs.YtonlacplogbodaaGreatDoor
/-
  Contracts: the document's words of a text; two lists of texts that are the same. Conditions: those stated at each.
-/
namespace Go.Proofs.YtonlacplogbodaaGreatDoor
open Go Go.Vc
set_option linter.unusedVariables false
set_option maxRecDepth 100000

theorem kind_letter {c : UInt8} : kindB c = 97 ↔ isL c = true := by
  unfold kindB
  cases isL c <;> cases isD c <;> cases isS c <;> simp
theorem kind_digit {c : UInt8} : kindB c = 48 ↔ isL c = false ∧ isD c = true := by
  unfold kindB
  cases isL c <;> cases isD c <;> cases isS c <;> simp
theorem kind_sign {c : UInt8} : kindB c = 40 ↔ isL c = false ∧ isD c = false ∧ isS c = true := by
  unfold kindB
  cases isL c <;> cases isD c <;> cases isS c <;> simp
theorem kind_none {c : UInt8} : kindB c = 32 ↔ isL c = false ∧ isD c = false ∧ isS c = false := by
  unfold kindB
  cases isL c <;> cases isD c <;> cases isS c <;> simp
theorem isL_isD {c : UInt8} (h : isD c = true) : isL c = false := by
  unfold isD at h
  unfold isL
  simp at h ⊢
  omega
theorem letter_fun : (fun c => kindB c == 97) = isL := by
  funext c
  cases h : isL c with
  | true => simp [kind_letter.2 h]
  | false => simp only [beq_eq_false_iff_ne, ne_eq]; intro h'; rw [kind_letter.1 h'] at h; cases h
theorem digit_fun : (fun c => kindB c == 48) = isD := by
  funext c
  cases h : isD c with
  | true => simp [kind_digit.2 ⟨isL_isD h, h⟩]
  | false => simp only [beq_eq_false_iff_ne, ne_eq]; intro h'; rw [(kind_digit.1 h').2] at h; cases h
theorem dec_isL (c : UInt8) : (decide (((c.toNat : Nat) : Int) ≥ 97) && decide (((c.toNat : Nat) : Int) ≤ 122)) = isL c := by
  unfold isL
  congr 1 <;> exact decide_eq_decide.2 (by omega)
theorem dec_isD (c : UInt8) : (decide (((c.toNat : Nat) : Int) ≥ 48) && decide (((c.toNat : Nat) : Int) ≤ 57)) = isD c := by
  unfold isD
  congr 1 <;> exact decide_eq_decide.2 (by omega)
theorem dec_c (c d : UInt8) : decide (((c.toNat : Nat) : Int) = ((d.toNat : Nat) : Int)) = (c == d) := by
  by_cases h : c = d
  · subst h; simp
  · have : ¬ ((c.toNat : Nat) : Int) = (d.toNat : Nat) := fun e => h (u8_eq.1 e)
    rw [decide_eq_false this]
    symm
    simpa using h
theorem two_bytes {l : List UInt8} {i : Nat} (h : i + 1 < l.length) : (l.drop i).take 2 = [l.getD i 0, l.getD (i + 1) 0] := by
  rw [drop_getB (by omega), drop_getB (n := i + 1) h]
  rfl

/-- Where the document's way of reading a word ends. -/
theorem R_WordsOf_ok {l : List UInt8} {h : Hp} {R : Value → Hp → Prop} (hK : ∀ a n c h', OwnV h h' 9 1 a n c ((wordsL l).1.flatMap encB) → R (vtup [vsl a n c, vi (wordsL l).2]) h') :
    CallOK Tryz.prog 30 [vs (bs l)] h R := by
  refine ok_R_WordsOf ?_
  unfold VC_R_WordsOf
  rw [bs_size]
  refine ⟨fun e => ?_, fun e => ?_⟩
  · have : wordsL l = ([], 2) := by unfold wordsL; rw [if_pos (by simp at e; omega)]
    rw [this] at hK
    exact hK none 0 0 h (OwnV.nil (Hp.le_refl h) _ _)
  have hl : l.length ≤ 240 := by simp at e; omega
  have hw : wordsL l = lexF l (l.length + 1) 0 [] := by unfold wordsL; rw [if_neg (by omega)]
  refine ⟨fun vs hh => ∃ (k i : Nat) (acc : List (List UInt8)) (a : Option Addr) (n c : Nat), vs = [vsl a n c, vi i] ∧ l.length < i + k ∧ i ≤ l.length ∧ lexF l k i acc = wordsL l ∧ OwnV h hh 9 1 a n c (acc.flatMap encB) ∧ acc.length ≤ 80,
    fun vs hh => l.length - (vint vs 1).toNat, ⟨l.length + 1, 0, [], none, 0, 0, rfl, by omega, by omega, hw.symm, OwnV.nil (Hp.le_refl h) _ _, by simp⟩, ?_⟩
  rintro vs hh ⟨k, i, acc, a, n, c, rfl, hk, hi, hf, O, hacc⟩
  have hn : n = acc.length := (O.slp encB_len (by decide)).1
  refine ⟨a, n, c, i, rfl, fun e => ?_, fun e => ?_⟩
  · have hlt : i < l.length := by simpa using e
    obtain ⟨k, rfl⟩ : ∃ k', k = k' + 1 := ⟨k - 1, by omega⟩
    rw [lexF, if_neg (by omega)] at hf
    refine ⟨_, rd_idx (by kernel_rfl) (by omega) (by omega), ?_⟩
    rw [Int.toNat_natCast]
    generalize hc0 : l.getD i 0 = c0 at *
    have h32 : decide (((c0.toNat : Nat) : Int) = 32) = (c0 == 32) := dec_c c0 32
    rw [h32]
    refine ⟨fun e => ?_, fun e => ?_⟩
    · rw [if_pos (by simpa using e)] at hf
      exact ⟨_, isW (by unfold InR; omega), ⟨k, i + 1, acc, a, n, c, rfl, by omega, by omega, hf, O, hacc⟩, by simp [vint]; omega⟩
    rw [if_neg (by simpa using e)] at hf
    have gidx : ∀ {h' : Hp} (m : Nat), m < l.length → Rd Tryz.prog (Instr.index 9 (vs (bs l)) (vi (m : Nat))) h' (vk .u8 ((l.getD m 0).toNat : Nat)) := by
      intro h' m hm
      have := rd_idx (P := Tryz.prog) (h := h') (t := 9) (by kernel_rfl) (l := l) (i := (m : Nat)) (by omega) (by omega)
      rwa [Int.toNat_natCast] at this
    have g1 := endW_gt l i
    have g2 := endW_le hlt
    refine ⟨fun vs h' => h' = hh ∧ ∃ m : Nat, vs = [vi m] ∧ i ≤ m ∧ m ≤ l.length ∧ m + runP isL (l.drop m) = i + runP isL (l.drop i), fun vs hh => l.length - (vint vs 0).toNat, ⟨rfl, i, rfl, Nat.le_refl _, hi, rfl⟩, ?_⟩
    rintro vs hh2 ⟨rfl, m, rfl, him, hml, hrun⟩
    -- what is read at m
    refine ⟨m, rfl, ((l.getD m 0).toNat : Nat), fun e => gidx m (by have := of_decide_eq_true e; omega), ((l.getD m 0).toNat : Nat), fun e => gidx m (by
      by_cases q : m < l.length
      · exact q
      · have : decide (((m : Nat) : Int) < (l.length : Nat)) = false := decide_eq_false (by omega)
        rw [this] at e; simp at e), ?_⟩
    have hcond : (bif (bif (decide (((m : Nat) : Int) < (l.length : Nat))) then (decide ((((l.getD m 0).toNat : Nat) : Int) ≥ 97)) else false) then (decide ((((l.getD m 0).toNat : Nat) : Int) ≤ 122)) else false) = (decide (m < l.length) && isL (l.getD m 0)) := by
      rw [← dec_isL]
      by_cases q : m < l.length
      · rw [decide_eq_true (show ((m : Nat) : Int) < (l.length : Nat) by omega), decide_eq_true q, cond_true, Bool.true_and, Bool.and_eq_decide, Bool.cond_eq_ite]
        by_cases q2 : ((l.getD m 0).toNat : Int) ≥ 97 <;> by_cases q3 : ((l.getD m 0).toNat : Int) ≤ 122 <;> simp only [decide_eq_true, decide_eq_false, q2, q3, if_true, if_false, not_false_eq_true, and_self, and_true, true_and, false_and, and_false, decide_true, decide_false, Bool.false_eq_true]
      · rw [decide_eq_false (show ¬ ((m : Nat) : Int) < (l.length : Nat) by omega), decide_eq_false q]
        rfl
    rw [hcond]
    refine ⟨fun e => ?_, fun e => ?_⟩
    · have hm : m < l.length ∧ isL (l.getD m 0) = true := by rw [Bool.and_eq_true, decide_eq_true_eq] at e; exact e
      rw [runP_yes hm.1 hm.2] at hrun
      exact ⟨_, isW (by unfold InR; omega), ⟨rfl, m + 1, rfl, by omega, by omega, by omega⟩, by simp [vint]; omega⟩
    have hrun0 : runP isL (l.drop m) = 0 := runP_no fun q => by rw [decide_eq_true q, Bool.true_and] at e; exact e
    rw [hrun0] at hrun
    clear hcond e
    intro J37
    -- the end, where the word's end is known
    have tail : ∀ J59 : Int → Prop, (J59 = fun (x60 : Int) => (((decide ((x60 : Int) = (i : Nat))) = true → R (vtup [(vsl none 0 0), (vi 4)]) hh2) ∧ ((decide ((x60 : Int) = (i : Nat))) = false → (∃ (s62 : ByteArray), (Rd Tryz.prog (Instr.sliceAt 9 (vs (bs l)) (some (vi (i : Nat))) (some (vi x60)) none) hh2 (vs s62)) ∧ (∀ (b63 : Nat), hh2 b63 = none → let h64 : Hp := Hp.set hh2 b63 (cellsO [(vs s62)] 9); (SemOK Tryz.prog (Builtin.append_ #[47, 47] 47 #[(vsl a n c), (vsl (some (⟨b63, 0, none⟩ : Addr)) 1 1)]) h64 fun v65 h66 => ∃ (a67 : Option Addr) (n67 c67 : Nat), v65 = (vsl a67 n67 c67) ∧ (((decide ((((n67 : Nat) : Int) : Int) > 80)) = true → R (vtup [(vsl none 0 0), (vi 2)]) h66) ∧ ((decide ((((n67 : Nat) : Int) : Int) > 80)) = false → ((∃ (k i : Nat) (acc : List (List UInt8)) (a : Option Addr) (n c : Nat), [(vsl a67 n67 c67), (vi x60)] = [vsl a n c, vi i] ∧ l.length < i + k ∧ i ≤ l.length ∧ lexF l k i acc = wordsL l ∧ OwnV h h66 9 1 a n c (acc.flatMap encB) ∧ acc.length ≤ 80) ∧ l.length - (vint [(vsl a67 n67 c67), (vi x60)] 1).toNat < l.length - (vint [vsl a n c, vi (i : Nat)] 1).toNat))))))))) →
        (kindB c0 = 32 → J59 ((i : Nat) : Int)) ∧ (kindB c0 ≠ 32 → J59 ((endW l i : Nat) : Int)) := by
      rintro J59 rfl
      refine ⟨fun hk32 => ⟨fun _ => ?_, fun e => by simp at e⟩, fun hk32 => ⟨fun e => ?_, fun _ => ?_⟩⟩
      · rw [if_pos hk32] at hf
        rw [← hf] at hK
        exact hK none 0 0 hh2 (OwnV.nil O.le _ _)
      · have := of_decide_eq_true e; omega
      · rw [if_neg hk32] at hf
        refine ⟨_, rd_cut (by kernel_rfl) (by omega) (by omega) (by omega), ?_⟩
        rw [Int.toNat_natCast, Int.toNat_natCast]
        intro b hb h24
        refine OwnV.append elStr (OwnV.set hb _ O) (HasRow.new _ _ [vs (bs ((l.drop i).take (endW l i - i)))] _) (m := 1) rfl (by simp [Value.oneCell']) (by omega) (by omega) fun a' c' h' O' _ _ => ⟨_, _, _, rfl, fun e => ?_, fun e => ?_⟩
        · rw [if_pos (by simp at e; omega)] at hf
          rw [← hf] at hK
          exact hK none 0 0 h' (OwnV.nil O'.le _ _)
        · have h80 : ¬ acc.length + 1 > 80 := by simp at e; omega
          rw [if_neg h80] at hf
          refine ⟨⟨k, endW l i, acc ++ [(l.drop i).take (endW l i - i)], a', _, c', rfl, by omega, g2, hf, ?_, by simp; omega⟩, by simp [vint]; omega⟩
          rw [List.flatMap_append]
          exact O'
    have big : ∀ m' : Nat, i < m' → m' = endW l i → kindB c0 ≠ 32 → J37 (m' : Nat) hh2 := by
      intro m' h1 h2 h3
      have hd : decide (((m' : Nat) : Int) = (i : Nat)) = false := decide_eq_false (by omega)
      refine ⟨0, fun e => by simp [hd] at e, 0, fun e => by simp [hd] at e, bs [], fun e => by simp [hd] at e, false, fun e => by simp [hd] at e, 0, fun e => by simp [hd] at e, bs [], fun e => by simp [hd] at e, false, fun e => by simp [hd] at e, 0, fun e => by simp [hd] at e, bs [], fun e => by simp [hd] at e, false, fun e => by simp [hd] at e, ?_⟩
      intro J54
      refine ⟨fun e => by simp [hd] at e, fun _ => ?_⟩
      refine ⟨fun e => by simp [hd] at e, fun _ => ?_⟩
      rw [h2]
      exact (tail _ rfl).2 h3
    have small : isL c0 = false → isD c0 = false → J37 (i : Nat) hh2 := by
      intro hL hD
      have hd : decide (((i : Nat) : Int) = (i : Nat)) = true := decide_eq_true rfl
      have e1 : ((i : Nat) : Int) + 1 = ((i + 1 : Nat) : Int) := by omega
      have e2 : ((i : Nat) : Int) + 2 = ((i + 2 : Nat) : Int) := by omega
      have cut : ∀ {b : Prop}, (b → i + 1 < l.length) → b → Rd Tryz.prog (Instr.sliceAt 9 (vs (bs l)) (some (vi (i : Nat))) (some (vi ((i + 2 : Nat) : Int))) none) hh2 (vs (bs [c0, l.getD (i + 1) 0])) := by
        intro b hb hb'
        have q := hb hb'
        have := rd_cut (P := Tryz.prog) (h := hh2) (t := 9) (by kernel_rfl) (l := l) (i := (i : Nat)) (j := ((i + 2 : Nat) : Int)) (by omega) (by omega) (by omega)
        rw [Int.toNat_natCast, Int.toNat_natCast, show i + 2 - i = 2 by omega, two_bytes q, hc0] at this
        exact this
      have lt : ∀ {e : Bool}, (bif decide (((i : Nat) : Int) = (i : Nat)) then decide (((i + 1 : Nat) : Int) < (l.length : Nat)) else false) = true → i + 1 < l.length := by
        intro _ e
        rw [hd, cond_true] at e
        have := of_decide_eq_true e
        omega
      have w2 : IsW ((i + 2 : Nat) : Int) (((i : Nat) : Int) + 2) := by rw [e2]; exact isW (by unfold InR; omega)
      refine ⟨((i + 1 : Nat) : Int), fun _ => by rw [e1]; exact isW (by unfold InR; omega), ((i + 2 : Nat) : Int), fun _ => w2, _, cut (lt (e := true)), _, fun _ => rd_eqBs (b := [60, 61]), ((i + 2 : Nat) : Int), fun _ => w2, _, cut (fun e => lt (e := true) e.1), _, fun _ => rd_eqBs (b := [62, 61]),
        ((i + 2 : Nat) : Int), fun _ => w2, _, cut (fun e => lt (e := true) e.1), _, fun _ => rd_eqBs (b := [60, 62]), ?_⟩
      intro J54
      have hlen : decide (((i + 1 : Nat) : Int) < (l.length : Nat)) = decide (i + 1 < l.length) := decide_eq_decide.2 (by omega)
      rw [hd, cond_true, hlen]
      have d40 : decide (((c0.toNat : Nat) : Int) = 40) = (c0 == 40) := dec_c c0 40
      have d41 : decide (((c0.toNat : Nat) : Int) = 41) = (c0 == 41) := dec_c c0 41
      have d44 : decide (((c0.toNat : Nat) : Int) = 44) = (c0 == 44) := dec_c c0 44
      have d42 : decide (((c0.toNat : Nat) : Int) = 42) = (c0 == 42) := dec_c c0 42
      have d43 : decide (((c0.toNat : Nat) : Int) = 43) = (c0 == 43) := dec_c c0 43
      have d45 : decide (((c0.toNat : Nat) : Int) = 45) = (c0 == 45) := dec_c c0 45
      have d60 : decide (((c0.toNat : Nat) : Int) = 60) = (c0 == 60) := dec_c c0 60
      have d62 : decide (((c0.toNat : Nat) : Int) = 62) = (c0 == 62) := dec_c c0 62
      have d61 : decide (((c0.toNat : Nat) : Int) = 61) = (c0 == 61) := dec_c c0 61
      have hsign : (bif (bif (bif (bif (bif (bif (bif (bif (c0 == 40) then true else (c0 == 41)) then true else (c0 == 44)) then true else (c0 == 42)) then true else (c0 == 43)) then true else (c0 == 45)) then true else (c0 == 60)) then true else (c0 == 62)) then true else (c0 == 61)) = isS c0 := by
        unfold isS
        cases c0 == 40 <;> cases c0 == 41 <;> cases c0 == 44 <;> cases c0 == 42 <;> cases c0 == 43 <;> cases c0 == 45 <;> cases c0 == 60 <;> cases c0 == 62 <;> cases c0 == 61 <;> rfl
      by_cases hS : isS c0 = true
      · have hk40 : kindB c0 = 40 := kind_sign.2 ⟨hL, hD, hS⟩
        have hne : kindB c0 ≠ 32 := by omega
        refine ⟨fun e => ?_, fun e => ?_⟩
        · have he : endW l i = i + 2 := by
            unfold endW
            rw [hc0, if_pos hk40, if_pos ?_]
            by_cases q : i + 1 < l.length
            · refine ⟨q, ?_⟩
              generalize l.getD (i + 1) 0 = c1 at e ⊢
              by_cases q1 : c0 = 60 <;> by_cases q2 : c1 = 61 <;> by_cases q3 : c1 = 62 <;> by_cases q4 : c0 = 62 <;> simp [q, q1, q2, q3, q4] at e ⊢
            · simp [q] at e
          refine ⟨((i + 2 : Nat) : Int), w2, ?_⟩
          have hd2 : decide (((i + 2 : Nat) : Int) = (i : Nat)) = false := decide_eq_false (by omega)
          refine ⟨fun e => absurd e (by rw [hd2, cond_false]; simp), fun _ => ?_⟩
          have := (tail _ rfl).2 hne
          rw [he] at this
          exact this
        · have he : endW l i = i + 1 := by
            unfold endW
            rw [hc0, if_pos hk40, if_neg ?_]
            rintro ⟨q, q0⟩
            generalize l.getD (i + 1) 0 = c1 at e q0
            by_cases q1 : c0 = 60 <;> by_cases q2 : c1 = 61 <;> by_cases q3 : c1 = 62 <;> by_cases q4 : c0 = 62 <;> simp [q, q1, q2, q3, q4] at e q0
          refine ⟨fun _ => ⟨((i + 1 : Nat) : Int), by rw [e1]; exact isW (by unfold InR; omega), ?_⟩, fun e => ?_⟩
          · have := (tail _ rfl).2 hne
            rw [he] at this
            exact this
          · rw [hd, cond_true, d40, d41, d44, d42, d43, d45, d60, d62, d61, hsign, hS] at e
            cases e
      · have hS' : isS c0 = false := by simpa using hS
        have hk32 : kindB c0 = 32 := kind_none.2 ⟨hL, hD, hS'⟩
        refine ⟨fun e => ?_, fun e => ?_⟩
        · exfalso
          have h60 : ¬ c0 = 60 := fun h => by rw [h] at hS'; revert hS'; decide
          have h62 : ¬ c0 = 62 := fun h => by rw [h] at hS'; revert hS'; decide
          simp [h60, h62] at e
        · refine ⟨fun e => ?_, fun e => (tail _ rfl).1 hk32⟩
          rw [hd, cond_true, d40, d41, d44, d42, d43, d45, d60, d62, d61, hsign, hS'] at e
          cases e
    -- letters, digits, or neither
    by_cases hL : isL c0 = true
    · have hk97 : kindB c0 = 97 := kind_letter.2 hL
      have he : endW l i = i + runP isL (l.drop i) := by
        unfold endW
        rw [hc0, hk97, if_neg (by decide), letter_fun, runP_yes hlt (by rw [hc0]; exact hL)]
        omega
      have hme : m = endW l i := by omega
      have hd : decide (((m : Nat) : Int) = (i : Nat)) = false := decide_eq_false (by omega)
      refine ⟨fun e => ?_, fun _ => big m (by omega) hme (by omega)⟩
      rw [hd] at e; cases e
    · have hL' : isL c0 = false := by simpa using hL
      have hr0 : runP isL (l.drop i) = 0 := runP_no fun _ => by rw [hc0]; exact hL'
      have hmi : m = i := by omega
      subst hmi
      have hd : decide (((m : Nat) : Int) = (m : Nat)) = true := decide_eq_true rfl
      refine ⟨fun _ => ?_, fun e => by rw [hd] at e; cases e⟩
      refine ⟨fun vs h' => h' = hh2 ∧ ∃ d : Nat, vs = [vi d] ∧ m ≤ d ∧ d ≤ l.length ∧ d + runP isD (l.drop d) = m + runP isD (l.drop m), fun vs hh => l.length - (vint vs 0).toNat, ⟨rfl, m, rfl, Nat.le_refl _, hi, rfl⟩, ?_⟩
      rintro vs hh3 ⟨rfl, d, rfl, hmd, hdl, hrund⟩
      refine ⟨d, rfl, ((l.getD d 0).toNat : Nat), fun e => gidx d (by have := of_decide_eq_true e; omega), ((l.getD d 0).toNat : Nat), fun e => gidx d (by
        by_cases q : d < l.length
        · exact q
        · have : decide (((d : Nat) : Int) < (l.length : Nat)) = false := decide_eq_false (by omega)
          rw [this] at e; simp at e), ?_⟩
      have hcond : (bif (bif (decide (((d : Nat) : Int) < (l.length : Nat))) then (decide ((((l.getD d 0).toNat : Nat) : Int) ≥ 48)) else false) then (decide ((((l.getD d 0).toNat : Nat) : Int) ≤ 57)) else false) = (decide (d < l.length) && isD (l.getD d 0)) := by
        rw [← dec_isD]
        by_cases q : d < l.length
        · rw [decide_eq_true (show ((d : Nat) : Int) < (l.length : Nat) by omega), decide_eq_true q, cond_true, Bool.true_and, Bool.and_eq_decide, Bool.cond_eq_ite]
          by_cases q2 : ((l.getD d 0).toNat : Int) ≥ 48 <;> by_cases q3 : ((l.getD d 0).toNat : Int) ≤ 57 <;> simp only [decide_eq_true, decide_eq_false, q2, q3, if_true, if_false, not_false_eq_true, and_self, and_true, true_and, false_and, and_false, decide_true, decide_false, Bool.false_eq_true]
        · rw [decide_eq_false (show ¬ ((d : Nat) : Int) < (l.length : Nat) by omega), decide_eq_false q]
          rfl
      rw [hcond]
      refine ⟨fun e => ?_, fun e => ?_⟩
      · have hm : d < l.length ∧ isD (l.getD d 0) = true := by rw [Bool.and_eq_true, decide_eq_true_eq] at e; exact e
        rw [runP_yes hm.1 hm.2] at hrund
        exact ⟨_, isW (by unfold InR; omega), ⟨rfl, d + 1, rfl, by omega, by omega, by omega⟩, by simp [vint]; omega⟩
      have hrund0 : runP isD (l.drop d) = 0 := runP_no fun q => by rw [decide_eq_true q, Bool.true_and] at e; exact e
      rw [hrund0] at hrund
      by_cases hD : isD c0 = true
      · have hk48 : kindB c0 = 48 := kind_digit.2 ⟨hL', hD⟩
        have he : endW l m = m + runP isD (l.drop m) := by
          unfold endW
          rw [hc0, hk48, if_neg (by decide), digit_fun, runP_yes hlt (by rw [hc0]; exact hD)]
          omega
        exact big d (by omega) (by omega) (by omega)
      · have hD' : isD c0 = false := by simpa using hD
        have hr1 : runP isD (l.drop m) = 0 := runP_no fun _ => by rw [hc0]; exact hD'
        have hdm : d = m := by omega
        subst hdm
        exact small hL' hD'
  · have hge : i = l.length := by simp at e; omega
    have : lexF l k i acc = (acc, 0) := by
      cases k with
      | zero => rfl
      | succ k => rw [lexF, if_pos (by omega)]
    rw [this] at hf
    rw [← hf] at hK
    exact hK a n c hh O
end Go.Proofs.YtonlacplogbodaaGreatDoor
/-
  Contracts: package query: rows of signs; expressions, as deep as words go. Conditions: that the library's tables and errors and the names of fields lie as laid.
-/
namespace Go.Proofs.YtonlacplogbodaaGreatDoor
open Go Go.Vc Go.Txt
set_option linter.unusedVariables false
set_option maxRecDepth 100000

theorem rd_mapS {h : Hp} {b : Nat} {es : Array MapEntry} {clock : Nat} (hb : h b = some (.map es clock)) {w : Wd} {x : Int} {i : Nat} (hf : Instr.findNow .string (vs (bs w)) es.toList 0 = some (some (i, vi x))) : Rd Tryz.prog (Instr.lookup 97 (.map (some b)) (vs (bs w)) false) h (vi x) :=
  rd_lookup (k := 9) (e := 3) (d := .string) (by kernel_rfl) (by kernel_rfl) hb trivial hf
theorem sem_mapS {h : Hp} {b : Nat} {es : Array MapEntry} {clock : Nat} (hb : h b = some (.map es clock)) {w : Wd} {x : Int} (hf : Instr.findNow .string (vs (bs w)) es.toList 0 = some none) {K : Hp → Prop} (hK : K (h.set b (.map (es.push { key := vs (bs w), val := vi x, born := clock }) (clock + 1)))) : SemOKu Tryz.prog (Instr.mapUpdate 97 (.map (some b)) (vs (bs w)) (vi x)) h K :=
  sem_mapNew (k := 9) (e := 3) (d := .string) (key := vs (bs w)) (by kernel_rfl) (by kernel_rfl) hb trivial hf hK
theorem reader_one_ok {f : FuncId} {P : Ps} {n : Nat} (B : Bodied f) (F : Reads f P n) (kp : KP P n) {w : Wd} {op : Int} (ho : Opr op) (hw : w ≠ []) {h0 h : Hp} {g : Nat} {s : RS} (D : RdAt h0 h g s) (E : EnvQ h0 h g) (S : SOk n s) {R : Value → Hp → Prop} (hK : ∀ a c h', RdAt h0 h' g (rowP P [(w, op)] s).2 → NdAt h h' a (rowP P [(w, op)] s).1.length (rowP P [(w, op)] s).1 → Mut (At g) h (At g) h' → R (vsl a (rowP P [(w, op)] s).1.length c) h') :
    SemOK Tryz.prog (Instr.makeMap 97 none) h fun v1 h2 => ∃ (y3 : Value), v1 = y3 ∧ (SemOKu Tryz.prog (Instr.mapUpdate 97 y3 (vs (bs w)) (vi op)) h2 fun h4 => (∀ (b5 : Nat), h4 b5 = none → let h6 : Hp := Hp.set h4 b5 (cellsO [(vs (bs w))] 9); (CallOK Tryz.prog 53 [(vhp g 0), (Value.func (.func f) #[(vhp g 0)] #[]), y3, (vsl (some (⟨b5, 0, none⟩ : Addr)) 1 1)] h6 fun v7 h8 => ∃ (a9 : Option Addr) (n9 c9 : Nat), v7 = (vsl a9 n9 c9) ∧ R (vsl a9 n9 c9) h8))) := by
  refine sem_makeMap fun b hb => ⟨_, rfl, ?_⟩
  refine sem_mapS (Hp.set_same _ _ _) rfl ?_
  intro b5 hb5 h6
  have hbg : b ≠ g := fun e => by rw [e] at hb; exact D.al hb
  have l1 : h.le (h.set b (.map #[] 0)) := Hp.le_set (Hp.le_refl h) hb _
  rw [Hp.set_set] at hb5
  have l2 : h.le h6 := by
    have : h6 = (h.set b (.map (#[].push { key := vs (bs w), val := vi op, born := 0 }) (0 + 1))).set b5 (cellsO [vs (bs w)] 9) := by
      show ((h.set b _).set b _).set b5 _ = _
      rw [Hp.set_set]
    rw [this]
    exact Hp.le_trans (Hp.le_set (Hp.le_refl h) hb _) (Hp.le_set (Hp.le_refl _) hb5 _)
  have hb6 : h6 b = some (.map (#[].push { key := vs (bs w), val := vi op, born := 0 }) (0 + 1)) := by
    have hne : b ≠ b5 := fun e => by rw [e, Hp.set_same] at hb5; cases hb5
    show (((h.set b _).set b _).set b5 _) b = _
    rw [Hp.set_other _ _ hne, Hp.set_same]
  have D6 := D.le l2
  have hb5g : b5 ≠ g := fun e => by
    subst e
    have : (h.set b (.map (#[].push { key := vs (bs w), val := vi op, born := 0 }) (0 + 1))) b5 ≠ none := by rw [Hp.set_other _ _ hbg.symm]; exact D.al
    exact this hb5
  refine reader_row_ok B F kp (ops := [(w, op)]) (by simpa using ho) (by simpa using hw) (by simp) D6 (E.mut (Mut.of_le l2)) S ⟨slb_one _ b5 w, fun b' o e => by cases e; exact hb5g⟩ (fun h' M w' hw' => ?_) fun a c h' D' N' M' => ⟨_, _, _, rfl, ?_⟩
  · have e : w' = w := by simpa using hw'
    subst e
    have ho : opOf [(w', op)] w' = op := by simp [opOf]
    rw [ho]
    have hm : h' b = _ := M.keep b _ (fun e => hbg e) hb6
    refine rd_mapS hm (i := 0) ?_
    show Instr.findNow .string (vs (bs w')) [{ key := vs (bs w'), val := vi op, born := 0 }] 0 = _
    simp [Instr.findNow, Instr.sameNow, (Go.MapKept.bytes_beq (bs w') (bs w')).2 rfl]
  · exact hK a c h' D' (N'.base (le_up l2)) ((Mut.of_le l2).trans M')
theorem reader_product_ok {P : Ps} {n : Nat} (F : Reads 113 P n) (kp : KP P n) : Reads 110 (rowP P [(wStar, 8)]) n := by
  intro h0 h g s D E S R hK
  refine ok_query_reader_product ?_
  unfold VC_query_reader_product
  exact reader_one_ok ⟨_, Tryz.func113, by kernel_rfl, by kernel_rfl⟩ F kp (by decide) (by decide) D E S hK
theorem reader_and_ok {P : Ps} {n : Nat} (F : Reads 74 P n) (kp : KP P n) : Reads 54 (rowP P [(wAnd, 9)]) n := by
  intro h0 h g s D E S R hK
  refine ok_query_reader_and ?_
  unfold VC_query_reader_and
  exact reader_one_ok ⟨_, Tryz.func74, by kernel_rfl, by kernel_rfl⟩ F kp (by decide) (by decide) D E S hK
theorem reader_or_ok {P : Ps} {n : Nat} (F : Reads 54 P n) (kp : KP P n) : Reads 27 (rowP P [(wOr, 10)]) n := by
  intro h0 h g s D E S R hK
  refine ok_query_reader_or ?_
  unfold VC_query_reader_or
  exact reader_one_ok ⟨_, Tryz.func54, by kernel_rfl, by kernel_rfl⟩ F kp (by decide) (by decide) D E S hK
theorem reader_sum_ok {P : Ps} {n : Nat} (F : Reads 110 P n) (kp : KP P n) : Reads 104 (rowP P [(wPlus, 6), (wMinus, 7)]) n := by
  intro h0 h g s D E S R hK
  refine ok_query_reader_sum ?_
  unfold VC_query_reader_sum
  refine sem_makeMap fun b hb => ⟨_, rfl, ?_⟩
  refine sem_mapS (w := wPlus) (Hp.set_same _ _ _) rfl ?_
  refine sem_mapS (w := wMinus) (Hp.set_same _ _ _) rfl ?_
  rw [Hp.set_set, Hp.set_set]
  generalize hM : Obj.map _ _ = ob
  intro b5 hb5 h6
  have hbg : b ≠ g := fun e => by rw [e] at hb; exact D.al hb
  have l2 : h.le h6 := Hp.le_trans (Hp.le_set (Hp.le_refl h) hb _) (Hp.le_set (Hp.le_refl _) hb5 _)
  have hb6 : h6 b = some ob := by
    have hne : b ≠ b5 := fun e => by rw [e, Hp.set_same] at hb5; cases hb5
    show ((h.set b _).set b5 _) b = _
    rw [Hp.set_other _ _ hne, Hp.set_same]
  have D6 := D.le l2
  have hb5g : b5 ≠ g := fun e => by
    subst e
    have : (h.set b ob) b5 ≠ none := by rw [Hp.set_other _ _ hbg.symm]; exact D.al
    exact this hb5
  refine reader_row_ok ⟨_, Tryz.func110, by kernel_rfl, by kernel_rfl⟩ F kp (ops := [(wPlus, 6), (wMinus, 7)]) (by decide) (by decide) (by simp) D6 (E.mut (Mut.of_le l2)) S ⟨slb_lit _ b5 [wPlus, wMinus] (by decide), fun b' o e => by cases e; exact hb5g⟩ (fun h' M w' hw' => ?_) fun a c h' D' N' M' => ⟨_, _, _, rfl, ?_⟩
  · have hm : h' b = some ob := M.keep b _ (fun e => hbg e) hb6
    rw [← hM] at hm
    have e : w' = wPlus ∨ w' = wMinus := by simpa using hw'
    rcases e with rfl | rfl
    · exact rd_mapS hm (i := 0) rfl
    · exact rd_mapS hm (i := 1) rfl
  · exact hK a c h' D' (N'.base (le_up l2)) ((Mut.of_le l2).trans M')
/-- One step deeper. -/
theorem reads_step {t : Three} {n : Nat} (h : KP t.o n ∧ KP t.n n ∧ KP t.u n) (H : Reads 27 t.o n ∧ Reads 74 t.n n ∧ Reads 113 t.u n) : Reads 27 (orS t) (n + 1) ∧ Reads 74 (notS t) (n + 1) ∧ Reads 113 (unS t) (n + 1) := by
  obtain ⟨k1, k2, k3, k4, k5, k6, k7⟩ := keeps_S h
  have h1 : Reads 113 (unS t) (n + 1) := reader_unary_ok H.2.2 h.2.2 (reader_atom_ok H.1 h.1)
  have h2 : Reads 110 (prodS t) (n + 1) := reader_product_ok h1 k3
  have h3 : Reads 104 (sumS t) (n + 1) := reader_sum_ok h2 k4
  have h4 : Reads 89 (cmpS t) (n + 1) := reader_compare_ok h3 k5
  have h5 : Reads 74 (notS t) (n + 1) := reader_not_ok H.2.1 h.2.1 h4
  have h6 : Reads 54 (andS t) (n + 1) := reader_and_ok h5 k2
  exact ⟨reader_or_ok h6 k7, h5, h1⟩
theorem reads_none (f : FuncId) (P : Ps) : Reads f P 0 := by
  intro h0 h g s D E S R hK
  exact absurd S.len (Nat.not_lt_zero _)
theorem reads_all (n : Nat) : Reads 27 (allP n).o n ∧ Reads 74 (allP n).n n ∧ Reads 113 (allP n).u n := by
  induction n with
  | zero => exact ⟨reads_none _ _, reads_none _ _, reads_none _ _⟩
  | succ n ih => rw [allP_succ]; exact reads_step (keeps_all n) ih
end Go.Proofs.YtonlacplogbodaaGreatDoor
/-
  Contracts: package query: what is gathered; a number behind a word. Conditions: those stated at each.
-/
namespace Go.Proofs.YtonlacplogbodaaGreatDoor
open Go Go.Vc Go.Txt
set_option linter.unusedVariables false
set_option maxRecDepth 100000

theorem is_one {s : RS} {w : Wd} (hw : w ≠ []) (h : (s.is [w]).1 = []) : (s.is [w]).2 = s := by
  rcases s.is_spec [w] with ⟨_, q⟩ | ⟨w', r, _, hm, q, _⟩
  · exact q
  · rw [h] at q
    rw [← q] at hm
    exact absurd (List.mem_singleton.1 hm).symm hw
theorem reader_optional_ok {n : Nat} {h0 h : Hp} {g : Nat} {s : RS} (D : RdAt h0 h g s) (E : EnvQ h0 h g) (S : SOk n s) {w : Wd} (hw : w ≠ []) {d : Int} {R : Value → Hp → Prop} (hK : ∀ h', RdAt h0 h' g (optN w d s).2 → Mut (At g) h (At g) h' → R (vi (optN w d s).1) h') : CallOK Tryz.prog 29 [vhp g 0, vs (bs w), vi d] h R := by
  refine ok_query_reader_optional ?_
  unfold VC_query_reader_optional
  intro b1 hb1 h2
  have hl : h.le h2 := Hp.le_set (Hp.le_refl h) hb1 _
  have hb := S.big
  have io := @is_one s w hw
  have gi := goes_is S.good [w]
  unfold optN at hK
  refine reader_is_ok (D.le hl) (slb_one h b1 w) (by decide) (by omega) fun h4 D4 M4 => ⟨_, rfl, ?_⟩
  have M04 : Mut (At g) h (At g) h4 := (Mut.of_le hl).trans M4
  refine ⟨_, rd_eqBs (b := []), fun e => ?_, fun e => ?_⟩
  · have e := of_decide_eq_true e
    rw [if_pos e] at hK
    rw [io e] at D4
    exact hK h4 D4 M04
  · have e := of_decide_eq_false e
    rw [if_neg e] at hK
    exact reader_number_ok D4 (E.mut M04) (by have := gi.len; omega) (by decide) (by decide) fun h9 D9 M9 => ⟨_, rfl, hK h9 D9 (M04.trans M9)⟩
theorem idx_aggs {w : Wd} (h : w ∈ [[], wCount, wSum, wMin, wMax]) : w ∈ aggsW ∧ (aggsW.idxOf w : Int) = aggKind w := by
  have h2 : w = [] ∨ w = wCount ∨ w = wSum ∨ w = wMin ∨ w = wMax := by simpa using h
  rcases h2 with rfl | rfl | rfl | rfl | rfl <;> exact ⟨by decide, by decide⟩
theorem reader_agg_ok {P : Ps} {n : Nat} (F : Reads 27 P n) (kp : KP P n) {h0 h : Hp} {g : Nat} {s : RS} (D : RdAt h0 h g s) (E : EnvQ h0 h g) (S : SOk n s) {R : Value → Hp → Prop} (hK : ∀ a c h', RdAt h0 h' g (aggP P s).2 → NdAt h h' a (aggP P s).1.2.length (aggP P s).1.2 → Mut (At g) h (At g) h' → R (vag [vi (aggP P s).1.1, vsl a (aggP P s).1.2.length c]) h') : CallOK Tryz.prog 25 [vhp g 0] h R := by
  refine ok_query_reader_agg ?_
  unfold VC_query_reader_agg
  intro b1 hb1 h2
  have hl : h.le h2 := Hp.le_set (Hp.le_refl h) hb1 _
  have hb := S.big
  have gi := goes_is S.good [wCount, wSum, wMin, wMax]
  have gm := @is_mem s [wCount, wSum, wMin, wMax]
  unfold aggP at hK
  simp only at hK
  refine reader_is_ok (D.le hl) (slb_lit h b1 [wCount, wSum, wMin, wMax] (by decide)) (by decide) (by omega) fun h4 D4 M4 => ⟨_, rfl, ?_⟩
  have M04 : Mut (At g) h (At g) h4 := (Mut.of_le hl).trans M4
  generalize s.is [wCount, wSum, wMin, wMax] = B at *
  obtain ⟨w, s1⟩ := B
  simp -zeta only at hK D4 gi gm ⊢
  have S1 := S.goes gi
  have hwm : w ∈ [[], wCount, wSum, wMin, wMax] := by
    by_cases e : w = []
    · rw [e]; simp
    · exact List.mem_cons_of_mem _ (gm e)
  obtain ⟨hwa, hwi⟩ := idx_aggs hwm
  refine ⟨_, rd_eqBs (b := []), ?_⟩
  intro J11
  have hJ : ∀ (h12 : Hp) (t : RS), t = (if w = [] then s1.fail 4 else s1) → RdAt h0 h12 g t → Mut (At g) h (At g) h12 → Goes t s → J11 h12 := by
    intro h12 t ht D12 M12 Gt
    rw [← ht] at hK
    clear ht
    have St := S.goes Gt
    refine reader_must_ok D12 (by have := St.big; omega) fun h14 D14 M14 => ⟨rfl, ?_⟩
    have M014 := M12.trans M14
    have E14 := E.mut M014
    have G2 := Gt.trans (goes_must Gt.ok wOpen)
    obtain ⟨qa, qc, hq, hqs⟩ := E14.now.a
    refine ⟨_, _, _, hq, slices_Index_ok hqs (by decide) ⟨_, rfl, ?_⟩⟩
    rw [if_pos hwa, hwi]
    have D14 : RdAt h0 h14 g (t.must wOpen) := D14
    generalize t.must wOpen = s2 at *
    have S2 := S.goes G2
    intro J56
    have fin : ∀ (k : Int) (a : Option Addr) (c : Nat) (h66 : Hp) (l : List Nd) (u : RS), RdAt h0 h66 g u → NdAt h h66 a l.length l → Mut (At g) h (At g) h66 → SOk n u → (∀ a c h', RdAt h0 h' g (u.must wClose) → NdAt h h' a l.length l → Mut (At g) h (At g) h' → R (vag [vi k, vsl a l.length c]) h') → J56 k a l.length c h66 := by
      intro k a c h66 l u D66 N66 M66 Su hR
      exact reader_must_ok D66 (by have := Su.big; omega) fun h68 D68 M68 => ⟨rfl, hR a c h68 D68 (N66.mut D.al M68) (M66.trans M68)⟩
    clear_value J56
    have orK : ∀ {h26 : Hp} (k : Int), RdAt h0 h26 g s2 → Mut (At g) h (At g) h26 → (∀ a c h', RdAt h0 h' g ((P s2).2.must wClose) → NdAt h h' a (P s2).1.length (P s2).1 → Mut (At g) h (At g) h' → R (vag [vi k, vsl a (P s2).1.length c]) h') → CallOK Tryz.prog 27 [vhp g 0] h26 fun v31 h32 => ∃ (a33 : Option Addr) (n33 c33 : Nat), v31 = vsl a33 n33 c33 ∧ J56 k a33 n33 c33 h32 := by
      intro h26 k D26 M26 hR
      have k2 := kp s2 S2.good (Nat.le_of_lt S2.len)
      exact F D26 (E.mut M26) S2 fun a c h' D' N' M' => ⟨_, _, _, rfl, fin k a c h' _ _ D' (N'.base (M26.up D26.al)) (M26.trans M') (S2.goes k2.goes) hR⟩
    refine ⟨_, rd_eqBs (b := wCount), fun e => ?_, fun e => ?_⟩
    · have ew : w = wCount := of_decide_eq_true e
      have hk1 : aggKind w = 1 := by rw [ew]; rfl
      intro b20 hb20 h21
      have l21 : h14.le h21 := Hp.le_set (Hp.le_refl h14) hb20 _
      have M21 := M014.trans (Mut.of_le l21)
      have gi2 := goes_is S2.good [wStar]
      have io := @is_one s2 wStar (by decide)
      refine ⟨fun x hh => x = .t (.one (.v (vs (bs (s2.is [wStar]).1)))) ∧ RdAt h0 hh g (s2.is [wStar]).2 ∧ Mut (At g) h (At g) hh, fun _ => reader_is_ok (D14.le l21) (slb_one h14 b20 wStar) (by decide) (by have := S2.big; omega) fun h24 D24 M24 => ⟨_, rfl, rfl, D24, M21.trans M24⟩, fun q => absurd e q, ?_⟩
      rintro h26 s27 ⟨e27, D26, M26⟩
      cases e27
      generalize s2.is [wStar] = C at *
      obtain ⟨v, s3⟩ := C
      simp only at hK D26 gi2 io ⊢
      refine ⟨_, fun _ => rd_neBs (b := []), fun q => ?_, fun q => ?_⟩
      · have q2 : v ≠ [] := by simpa [ew] using q
        rw [if_pos ⟨ew, q2⟩] at hK
        rw [hk1]
        exact fin 1 none 0 h26 [] s3 D26 (nd_nil _ _) M26 (S2.goes gi2) hK
      · have q2 : v = [] := by simpa [ew] using q
        rw [if_neg (by rintro ⟨_, h⟩; exact h q2), if_pos ew] at hK
        rw [io q2] at D26
        refine ⟨_, rd_eqBs (b := wCount), fun q3 => orK 2 D26 M26 hK, fun q3 => absurd ew (of_decide_eq_false q3)⟩
    · have e0 : ¬ w = wCount := fun h => e (decide_eq_true h)
      rw [if_neg (by rintro ⟨h, _⟩; exact e0 h), if_neg e0] at hK
      refine ⟨fun x hh => x = .t (.one (.v (vs ⟨#[]⟩))) ∧ hh = h14, fun q => absurd q e, fun _ => ⟨rfl, rfl⟩, ?_⟩
      rintro h43 s44 ⟨e43, rfl⟩
      cases e43
      refine ⟨false, fun q => absurd q e, fun q => by simp at q, fun _ => ?_⟩
      refine ⟨_, rd_eqBs (b := wCount), fun q3 => absurd (of_decide_eq_true q3) e0, fun q3 => orK (aggKind w) D14 M014 hK⟩
  clear_value J11
  refine ⟨fun e => ?_, fun e => ?_⟩
  · have e := of_decide_eq_true e
    exact reader_fail_ok D4 (by decide) fun h8 D8 M8 => ⟨rfl, hJ h8 _ (by rw [if_pos e]) D8 (M04.trans M8) (gi.trans (goes_fail _ _))⟩
  · have e := of_decide_eq_false e
    exact hJ h4 _ (by rw [if_neg e]) D4 M04 gi
end Go.Proofs.YtonlacplogbodaaGreatDoor
/-
  Contracts: package query: Parse. Conditions: that the library's tables and errors and the names of fields lie as laid.
-/
namespace Go.Proofs.YtonlacplogbodaaGreatDoor
open Go Go.Vc Go.Txt
set_option linter.unusedVariables false
set_option maxRecDepth 100000

theorem elAgg : ElT Tryz.prog 22 42 2 32 := .of (by kernel_rfl) (by kernel_rfl) (by decide)
abbrev AggB (G : Nat → Prop) := GTabB encN aggRw 2 42 G
theorem RdAt.keep {h0 h h' : Hp} {g : Nat} {s : RS} (D : RdAt h0 h g s) (hb : h' g = h g) (l : h0.le h') : RdAt h0 h' g s := by
  obtain ⟨a, c, hb', hS, hc⟩ := D.b
  exact ⟨⟨a, c, hb.trans hb', hS, hc⟩, l, D.n, D.w⟩
/-- One more of what is gathered. -/
theorem agg_app {h0 hB h1 : Hp} {g : Nat} {a : Option Addr} {c : Nat} {L : List Ag} {s : RS} (B : AggB (At g) h0 h1 a c L) (D : RdAt h0 h1 g s) (hBg : hB g ≠ none) (hBa : ∀ b, a = some ⟨b, 0, none⟩ → hB b ≠ none) {k : Int} {a2 : Option Addr} {c2 : Nat} {l : List Nd} (N : NdAt hB h1 a2 l.length l) (hL : L.length ≤ 1000)
    {b : Nat} (hb : h1 b = none) {K : Value → Hp → Prop} (hK : ∀ a' c' h', AggB (At g) h0 h' a' c' (L ++ [(k, l)]) → RdAt h0 h' g s → K (vsl a' (L.length + 1) c') h') :
    SemOK Tryz.prog (Builtin.append_ #[22, 22] 22 #[vsl a L.length c, vsl (some ⟨b, 0, none⟩) 1 1]) (h1.set b (cellsO [vi k, vsl a2 l.length c2] 42)) K := by
  refine B.app (x := k) (c2 := c2) elAgg (Hp.le_refl h1) (fun b' e => by rw [show b' = g from e]; exact hBg) hBa N.s.2 N.nw ?_ rfl (fun b' e => by rw [show b' = g from e]; exact D.al) (by omega) (by omega) hb fun a' c' h' B' hk => hK a' c' h' B' ?_
  · intro u hu
    have : u = vi k ∨ u = vsl a2 l.length c2 := by simpa [aggRw] using hu
    rcases this with rfl | rfl <;> rfl
  · obtain ⟨o, ho⟩ : ∃ o, h1 g = some o := by
      cases e : h1 g with
      | none => exact absurd e D.al
      | some o => exact ⟨o, rfl⟩
    exact D.keep ((hk g o ho (B.ne rfl)).trans ho.symm) B'.le0
theorem nds_of {hB h : Hp} {a : Option Addr} {n : Nat} {l : List Nd} (N : NdAt hB h a n l) : SlP encN h a n l := N.s
theorem endQ_goes {s : RS} (h : s.good) (L : List Ag) (wh by_ : List Nd) : (endQ L wh by_ s).1.aggs = L ∧ (endQ L wh by_ s).1.wh = wh ∧ (endQ L wh by_ s).1.by_ = by_ := ⟨rfl, rfl, rfl⟩
theorem noQ_at (h : Hp) : QAt h noQ none 0 none 0 none 0 := ⟨⟨[], rfl, rfl, .inl rfl, fun r hr => by cases hr⟩, ⟨rfl, .inl rfl⟩, ⟨rfl, .inl rfl⟩⟩
set_option maxHeartbeats 1000000 in
theorem query_Parse_ok {l : List UInt8} {h : Hp} (T : TabQ h) {R : Value → Hp → Prop} (hK : ∀ a1 n1 c1 a2 n2 c2 a3 n3 c3 h', h.le h' → QAt h' (parseQ l).1 a1 n1 a2 n2 a3 n3 → R (vtup [qV a1 n1 c1 a2 n2 c2 a3 n3 c3 (parseQ l).1, ifv (errV (parseQ l).2)]) h') : CallOK Tryz.prog 11 [vs (bs l)] h R := by
  refine ok_query_Parse ?_
  unfold VC_query_Parse
  refine lexer_Words_ok fun wa wn wc h2 O => ⟨_, _, _, _, rfl, ?_⟩
  have lw := wordsL_words l
  have l02 := O.le
  unfold parseQ at hK
  generalize wordsL l = WW at *
  obtain ⟨W, fw⟩ := WW
  simp only at hK lw O
  show (Option.isSome (errV fw) = true → R (vtup [qV none 0 0 none 0 0 none 0 0 noQ, ifv (errV fw)]) h2) ∧ (Option.isSome (errV fw) = false → _)
  rw [errV_some]
  refine ⟨fun e => ?_, fun e => ?_⟩
  · have e2 : fw ≠ 0 := by simpa using e
    rw [if_pos e2] at hK
    exact hK none 0 0 none 0 0 none 0 0 h2 l02 (noQ_at h2)
  have e2 : ¬ fw ≠ 0 := by simpa using e
  rw [if_neg e2] at hK
  clear e e2
  have hS := O.slp encB_len (by decide)
  obtain rfl := hS.1
  intro b6 hb6 h7
  have l7 : h2.le h7 := Hp.le_set (Hp.le_refl h2) hb6 _
  have D7 : RdAt h2 h7 b6 ⟨W, 0, 0⟩ := ⟨⟨wa, wc, Hp.set_same _ _ _, hS, O.own.cap⟩, l7, hb6, fun x hx => Nat.le_trans (lw.2 x hx) (by decide)⟩
  have E7 : EnvQ h2 h7 b6 := ⟨T.le l02, l7, hb6⟩
  have F : Reads 27 (allP (W.length + 1)).o (W.length + 1) := (reads_all (W.length + 1)).1
  have kp := (keeps_all (W.length + 1)).1
  have g0 : (⟨W, 0, 0⟩ : RS).good := fun h => absurd rfl h
  have S7 : SOk (W.length + 1) ⟨W, 0, 0⟩ := ⟨g0, Nat.lt_succ_self _, by show W.length ≤ 1000; omega, Int.le_refl _, by show (0 : Int) + (W.length : Int) ≤ 1000000; omega⟩
  have hAll := allA_ok W
  unfold parseW at hK
  rw [readQ_eq] at hK
  unfold allA firstA at hK hAll
  generalize (allP (W.length + 1)).o = o at *
  have G1 := goes_must g0 wSelect
  refine reader_must_ok D7 (by show W.length ≤ 1000000; omega) fun h9 D9 M9 => ⟨rfl, ?_⟩
  have D9 : RdAt h2 h9 b6 ((⟨W, 0, 0⟩ : RS).must wSelect) := D9
  generalize (⟨W, 0, 0⟩ : RS).must wSelect = s1 at *
  have S9 := S7.goes G1
  have G2 := goes_agg kp S9.good (Nat.le_of_lt S9.len)
  have hs1 : s1.ws.length ≤ 80 := Nat.le_trans G1.len lw.1
  refine reader_agg_ok F kp D9 (E7.mut M9) S9 fun a13 c13 h11 D11 N11 M11 => ⟨_, _, _, _, rfl, ?_⟩
  generalize aggP o s1 = A at *
  obtain ⟨⟨k1, l1⟩, s2⟩ := A
  simp -zeta only at hK D11 N11 G2 hAll ⊢
  have S11 := S9.goes G2.1
  have l11 : h2.le h11 := D11.l
  intro b14 hb14 h15
  refine agg_app (L := []) (a := none) (c := 0) (hB := h9) (k := k1) (GTabB.nil l11) D11 D9.al (fun b e => by cases e) N11 (by decide) hb14 fun a18 c18 h17 B17 D17 => ⟨_, _, _, rfl, ?_⟩
  intro J48
  -- the rest, behind what is gathered
  have hRest : ∀ (L : List Ag) (t : RS) (a : Option Addr) (c : Nat) (hE : Hp), AggB (At b6) h2 hE a c L → RdAt h2 hE b6 t → SOk (W.length + 1) t → aggsP o (s2.ws.length + 1) [(k1, l1)] s2 = (L, t) → L.length ≤ 1000 → J48 a L.length c none 0 0 none 0 0 hE := by
    intro L t a c hE BE DE SE hL hLn
    rw [hL] at hK hAll
    simp only at hK hAll
    have EE : EnvQ h2 hE b6 := ⟨E7.t, DE.l, hb6⟩
    have hgE := DE.al
    have hG2 : ∀ b, At b6 b → h2 b = none := fun b e => by rw [show b = b6 from e]; exact hb6
    have G3 := goes_must SE.good wFrom
    refine reader_must_ok DE (by have := SE.big; omega) fun h261 D261 M261 => ⟨rfl, ?_⟩
    have D261 : RdAt h2 h261 b6 (t.must wFrom) := D261
    have S261 := SE.goes G3
    have G4 := G3.trans (goes_must G3.ok wEvents)
    refine reader_must_ok D261 (by have := S261.big; omega) fun h263 D263 M263 => ⟨rfl, ?_⟩
    have D263 : RdAt h2 h263 b6 ((t.must wFrom).must wEvents) := D263
    have ME := M261.trans M263
    have S263 := SE.goes G4
    unfold restQ at hK
    generalize (t.must wFrom).must wEvents = t2 at *
    clear G3 D261 S261
    intro b264 hb264 h265
    have l265 : h263.le h265 := Hp.le_set (Hp.le_refl h263) hb264 _
    have gi := goes_is S263.good [wWhere]
    have io := @is_one t2 wWhere (by decide)
    refine reader_is_ok (D263.le l265) (slb_one h263 b264 wWhere) (by decide) (by have := S263.big; omega) fun h267 D267 M267 => ⟨_, rfl, _, rd_neBs (b := []), ?_⟩
    have D267 : RdAt h2 h267 b6 (t2.is [wWhere]).2 := D267
    have M267' := (ME.trans (Mut.of_le l265)).trans M267
    intro J275
    have h275 : ∀ (wh : List Nd) (aw : Option Addr) (cw : Nat) (u : RS) (h315 : Hp), optP wWhere o t2 = (wh, u) → RdAt h2 h315 b6 u → SOk (W.length + 1) u → NdAt hE h315 aw wh.length wh → NdsOK wh → Mut (At b6) hE (At b6) h315 → J275 aw wh.length cw h315 := by
      intro wh aw cw u h315 hw D315 S315 N315 Kw M315
      rw [hw] at hK
      simp only at hK
      unfold byQ at hK
      intro b316 hb316 h317
      have l317 : h315.le h317 := Hp.le_set (Hp.le_refl h315) hb316 _
      have gi := goes_is S315.good [wGroup]
      have io := @is_one u wGroup (by decide)
      refine reader_is_ok (D315.le l317) (slb_one h315 b316 wGroup) (by decide) (by have := S315.big; omega) fun h319 D319 M319 => ⟨_, rfl, _, rd_neBs (b := []), ?_⟩
      have D319 : RdAt h2 h319 b6 (u.is [wGroup]).2 := D319
      have M319' := (M315.trans (Mut.of_le l317)).trans M319
      intro J329
      have h329 : ∀ (by_ : List Nd) (ab : Option Addr) (cb : Nat) (v : RS) (h354 : Hp), optP wGroup (fun s => o (s.must wBy)) u = (by_, v) → RdAt h2 h354 b6 v → SOk (W.length + 1) v → NdAt hE h354 aw wh.length wh → NdAt hE h354 ab by_.length by_ → NdsOK by_ → Mut (At b6) hE (At b6) h354 → J329 ab by_.length cb h354 := by
        intro by_ ab cb v h354 hv D354 S354 Nw N354 Kb M354
        rw [hv] at hK
        simp only at hK
        unfold endQ at hK
        simp only at hK
        have Ga := goes_must S354.good wWindow
        refine reader_must_ok D354 (by have := S354.big; omega) fun h356 D356 M356 => ⟨rfl, ?_⟩
        have D356 : RdAt h2 h356 b6 (v.must wWindow) := D356
        have Sa := S354.goes Ga
        generalize v.must wWindow = v1 at *
        have Gb := goes_number Sa.good 1000
        refine reader_number_ok D356 (EE.mut (M354.trans M356)) (by have := Sa.big; omega) (by decide) (by decide) fun h358 D358 M358 => ⟨_, rfl, ?_⟩
        have Sb := Sa.goes Gb
        generalize v1.number 1000 = Z at *
        obtain ⟨z, v2⟩ := Z
        simp -zeta only at hK D358 Sb ⊢
        have Gc := goes_optN Sb.good wSlide z
        refine reader_optional_ok (w := wSlide) D358 (EE.mut ((M354.trans M356).trans M358)) Sb (by decide) fun h361 D361 M361 => ⟨_, rfl, ?_⟩
        have Sc := Sb.goes Gc
        generalize optN wSlide z v2 = Z at *
        obtain ⟨sl, v3⟩ := Z
        simp -zeta only at hK D361 Sc ⊢
        have Gd := goes_optN Sc.good wDelay 0
        refine reader_optional_ok (w := wDelay) D361 (EE.mut (((M354.trans M356).trans M358).trans M361)) Sc (by decide) fun h364 D364 M364 => ⟨_, rfl, ?_⟩
        have Sd := Sc.goes Gd
        generalize optN wDelay 0 v3 = Z at *
        obtain ⟨d, v4⟩ := Z
        simp -zeta only at hK D364 Sd ⊢
        have Ge := goes_optN Sd.good wLate 0
        refine reader_optional_ok (w := wLate) D364 (EE.mut ((((M354.trans M356).trans M358).trans M361).trans M364)) Sd (by decide) fun h367 D367 M367 => ⟨_, rfl, ?_⟩
        have Se := Sd.goes Ge
        generalize optN wLate 0 v4 = Z at *
        obtain ⟨lt, v5⟩ := Z
        simp -zeta only at hK D367 Se ⊢
        have M367' := ((((M354.trans M356).trans M358).trans M361).trans M364).trans M367
        have M36 := ((((M356).trans M358).trans M361).trans M364).trans M367
        obtain ⟨qa, qc, hq⟩ := D367.c0
        refine ⟨_, D367.c2, _, _, _, fun _ => hq, ?_⟩
        intro J374
        have h374 : ∀ (h375 : Hp) (y : RS), y.f = (if v5.f = 0 ∧ v5.ws ≠ [] then v5.fail 4 else v5).f → RdAt h2 h375 b6 y → Mut (At b6) h367 (At b6) h375 → J374 h375 := by
          intro h375 y hy D375 M375
          rw [← hy] at hK
          have M375' := M367'.trans M375
          have BE2 : AggB (At b6) h2 h375 a c L := BE.keep hG2 M375'.keep
          have Nw2 := Nw.mut hgE (M36.trans M375)
          have N2 := N354.mut hgE (M36.trans M375)
          have QE : QAt h375 ⟨L, wh, by_, z, sl, d, lt⟩ a L.length aw wh.length ab by_.length := ⟨BE2.tab, Nw2.s, N2.s⟩
          refine ⟨_, D375.c2, ?_⟩
          intro J383
          have h383 : ∀ (h384 : Hp) (f : Int), h384.cell b6 (0 + 2) = some (ifv (errV f)) → h.le h384 → (f ≠ 0 → ∀ h', h.le h' → R (vtup [qV none 0 0 none 0 0 none 0 0 noQ, ifv (errV f)]) h') → (f = 0 → R (vtup [qV a L.length c aw wh.length cw ab by_.length cb ⟨L, wh, by_, z, sl, d, lt⟩, ifv none]) h384) → J383 h384 := by
            intro h384 f hc lh hb hg
            refine ⟨_, hc, fun e => ⟨_, hc, hc, ?_⟩, fun e => ?_⟩
            · rw [errV_some] at e
              exact hb (by simpa using e) h384 lh
            · rw [errV_some] at e
              exact hg (by simpa using e)
          clear_value J383
          refine ⟨fun e => ?_, fun e => ?_⟩
          · rw [errV_none] at e
            have e : y.f = 0 := of_decide_eq_true e
            rw [e, if_neg (fun h => h rfl)] at hK
            have hbig : QBig ⟨L, wh, by_, z, sl, d, lt⟩ := ⟨Nat.le_trans Kw.1 (by decide), Nat.le_trans Kb.1 (by decide), fun x hx => Nat.le_trans (hAll x hx).1 (by decide), by show L.length ≤ 1000000; omega⟩
            refine query_Check_ok (q := ⟨L, wh, by_, z, sl, d, lt⟩) (c1 := c) (c2 := cw) (c3 := cb) QE hbig fun h378 l378 => ⟨errV (qryF ⟨L, wh, by_, z, sl, d, lt⟩), rfl, ?_⟩
            refine (D375.le l378).put2 fun h380 D380 M380 => ?_
            have lh : h.le h380 := Hp.le_trans l02 D380.l
            refine h383 h380 _ D380.c2 lh (fun hf h' l' => ?_) fun hf => ?_
            · rw [if_pos hf] at hK
              exact hK none 0 0 none 0 0 none 0 0 h' l' (noQ_at h')
            · rw [if_neg (fun h => h hf)] at hK
              have M2 := (Mut.of_le l378).trans M380
              exact hK _ _ c _ _ cw _ _ cb h380 lh ⟨(BE2.keep hG2 M2.keep).tab, (Nw2.mut hgE M2).s, (N2.mut hgE M2).s⟩
          · rw [errV_none] at e
            have e : y.f ≠ 0 := of_decide_eq_false e
            rw [if_pos e] at hK
            refine h383 h375 y.f D375.c2 (Hp.le_trans l02 D375.l) (fun hf h' l' => ?_) fun hf => absurd hf e
            exact hK none 0 0 none 0 0 none 0 0 h' l' (noQ_at h')
        clear_value J374
        have hcond : (bif Option.isNone (errV v5.f) then decide (((v5.ws.length : Nat) : Int) > 0) else false) = decide (v5.f = 0 ∧ v5.ws ≠ []) := by
          rw [errV_none, cand]
          refine decide_eq_decide.2 ?_
          rw [ne_eq, nil_len]
          constructor
          · rintro ⟨h1, h2⟩; exact ⟨h1, by omega⟩
          · rintro ⟨h1, h2⟩; exact ⟨h1, by omega⟩
        rw [hcond]
        refine ⟨fun e => ?_, fun e => ?_⟩
        · have e := of_decide_eq_true e
          refine (D367.put2 (f := 4) fun h371 D371 M371 => h374 h371 _ ?_ D371 M371)
          rw [if_pos e]
          unfold RS.fail
          rw [if_pos e.1]
        · have e := of_decide_eq_false e
          exact h374 h367 v5 (by rw [if_neg e]) D367 (Mut.of_le (Hp.le_refl _))
      clear_value J329
      have Nw := (N315.mut hgE ((Mut.of_le l317).trans M319))
      refine ⟨fun e => ?_, fun e => ?_⟩
      · have e : (u.is [wGroup]).1 ≠ [] := by simpa using e
        have hop : optP wGroup (fun s => o (s.must wBy)) u = o ((u.is [wGroup]).2.must wBy) := by unfold optP; rw [if_neg e]
        rw [hop] at h329
        have Su := S315.goes gi
        have Gy := goes_must Su.good wBy
        refine reader_must_ok D319 (by have := Su.big; omega) fun h323 D323 M323 => ⟨rfl, ?_⟩
        have D323 : RdAt h2 h323 b6 ((u.is [wGroup]).2.must wBy) := D323
        have S323 := Su.goes Gy
        have k2 := kp _ S323.good (Nat.le_of_lt S323.len)
        have M323' := M319'.trans M323
        refine F D323 (EE.mut M323') S323 fun a c h325 D325 N325 M325 => ⟨_, _, _, rfl, ?_⟩
        exact h329 _ _ _ _ h325 rfl D325 (S323.goes k2.goes) ((Nw.mut hgE M323).mut hgE M325) (N325.base (M323'.up D323.al)) k2.nds (M323'.trans M325)
      · have e : (u.is [wGroup]).1 = [] := by simpa using e
        have hop : optP wGroup (fun s => o (s.must wBy)) u = ([], u) := by unfold optP; rw [if_pos e]
        rw [io e] at D319
        exact h329 [] none 0 u h319 hop D319 S315 Nw (nd_nil _ _) nds_nil M319'
    clear_value J275
    refine ⟨fun e => ?_, fun e => ?_⟩
    · have e : (t2.is [wWhere]).1 ≠ [] := by simpa using e
      have hop : optP wWhere o t2 = o (t2.is [wWhere]).2 := by unfold optP; rw [if_neg e]
      rw [hop] at h275
      have Su := S263.goes gi
      have k2 := kp _ Su.good (Nat.le_of_lt Su.len)
      refine F D267 (EE.mut M267') Su fun a c h271 D271 N271 M271 => ⟨_, _, _, rfl, ?_⟩
      exact h275 _ _ _ _ h271 rfl D271 (Su.goes k2.goes) (N271.base (M267'.up D267.al)) k2.nds (M267'.trans M271)
    · have e : (t2.is [wWhere]).1 = [] := by simpa using e
      have hop : optP wWhere o t2 = ([], t2) := by unfold optP; rw [if_pos e]
      rw [io e] at D267
      exact h275 [] none 0 t2 h267 hop D267 S263 (nd_nil _ _) nds_nil M267'
  clear_value J48
  -- what is gathered, one behind the other
  refine ⟨fun vs' hh => ∃ (k : Nat) (L : List Ag) (t : RS) (a : Option Addr) (c : Nat), vs' = [vsl a L.length c, vsl none 0 0, vsl none 0 0, vi 0, vi 0, vi 0, vi 0] ∧ AggB (At b6) h2 hh a c L ∧ RdAt h2 hh b6 t ∧ SOk (W.length + 1) t ∧ t.ws.length < k ∧ aggsP o (s2.ws.length + 1) [(k1, l1)] s2 = aggsP o k L t ∧ L.length + t.ws.length ≤ 100, fun _ hh => wordsN hh b6, ⟨_, [(k1, l1)], s2, a18, c18, rfl, B17, D17, S11, Nat.lt_succ_self _, rfl, ?_⟩, ?_⟩
  · have := G2.1.len
    show 1 + s2.ws.length ≤ 100
    omega
  rintro vs' hh ⟨k, L, t, a, c, rfl, B, D, S, hk, hrow, hL⟩
  obtain ⟨k, rfl⟩ : ∃ j, k = j + 1 := ⟨k - 1, by omega⟩
  have hst : aggsP o (k + 1) L t = if (t.is [wComma]).1 = [] then (L, t) else aggsP o k (L ++ [(aggP o (t.is [wComma]).2).1]) (aggP o (t.is [wComma]).2).2 := rfl
  rw [hst] at hrow
  clear hst
  refine ⟨_, _, _, _, _, _, _, _, _, _, _, _, _, rfl, ?_⟩
  intro b31 hb31 h32
  have l32 : hh.le h32 := Hp.le_set (Hp.le_refl hh) hb31 _
  have gi := goes_is S.good [wComma]
  have io := @is_one t wComma (by decide)
  have tk := @taken t [wComma]
  have hG2 : ∀ b, At b6 b → h2 b = none := fun b e => by rw [show b = b6 from e]; exact hb6
  have hwn := D.wn
  refine reader_is_ok (D.le l32) (slb_one hh b31 wComma) (by decide) (by have := S.big; omega) fun h34 D34 M34 => ⟨_, rfl, _, rd_neBs (b := []), fun e => ?_, fun e => ?_⟩
  · have e : (t.is [wComma]).1 ≠ [] := by simpa using e
    rw [if_neg e] at hrow
    have tk := tk e
    have D34 : RdAt h2 h34 b6 (t.is [wComma]).2 := D34
    have B34 := (B.grow l32).keep hG2 M34.keep
    have St := S.goes gi
    have Ga := goes_agg kp St.good (Nat.le_of_lt St.len)
    have E34 : EnvQ h2 h34 b6 := ⟨E7.t, D34.l, hb6⟩
    refine reader_agg_ok F kp D34 E34 St fun a42 c42 h40 D40 N40 M40 => ⟨_, _, _, _, rfl, ?_⟩
    generalize aggP o (t.is [wComma]).2 = A at *
    obtain ⟨⟨k2, l2⟩, t2⟩ := A
    simp -zeta only at hrow D40 N40 Ga ⊢
    have B40 := B34.keep hG2 M40.keep
    intro b43 hb43 h44
    have hlen := Ga.1.len
    refine agg_app (hB := h34) (k := k2) B40 D40 D34.al (fun b e => B34.al e) N40 (by omega) hb43 fun a47 c47 h46 B46 D46 => ⟨_, _, _, rfl, ⟨k, L ++ [(k2, l2)], t2, a47, c47, by simp, B46, D46, St.goes Ga.1, by omega, hrow, by simp; omega⟩, ?_⟩
    have h46n := D46.wn
    show wordsN h46 b6 < wordsN hh b6
    omega
  · have e : (t.is [wComma]).1 = [] := by simpa using e
    rw [if_pos e] at hrow
    rw [io e] at D34
    exact hRest L t a c h34 ((B.grow l32).keep hG2 M34.keep) D34 S hrow (by omega)
end Go.Proofs.YtonlacplogbodaaGreatDoor
/-
  Contracts: the document reads a question. Conditions: none.
-/
namespace Go.Proofs.YtonlacplogbodaaGreatDoor
open Go Go.Vc Go.Txt
set_option linter.unusedVariables false
set_option maxRecDepth 100000

def aggL : List Wd := [wCount, wSum, wMin, wMax]
def refKind (w : Wd) : Int := if w = wCount then 2 else aggKind w
theorem aggL_at {i : Nat} (hi : i < 4) : aggL.getD i [] ∈ aggL ∧ aggL.getD i [] ≠ [] ∧ refKind (aggL.getD i []) = (i : Int) + 2 := by
  match i, hi with
  | 0, _ => decide
  | 1, _ => decide
  | 2, _ => decide
  | 3, _ => decide
theorem ints_at (h : Hp) (b : Nat) {i : Nat} (hi : i < 4) : (h.set b (cellsO [vi 2, vi 3, vi 4, vi 5] 3)).cell b (0 + (i : Int).toNat * 1) = some (vi ((i : Int) + 2)) := by
  match i, hi with
  | 0, _ => exact cell_cells (Hp.set_same _ _ _) rfl
  | 1, _ => exact cell_cells (Hp.set_same _ _ _) rfl
  | 2, _ => exact cell_cells (Hp.set_same _ _ _) rfl
  | 3, _ => exact cell_cells (Hp.set_same _ _ _) rfl
theorem RrAt.keep {h0 h h' : Hp} {g : Nat} {W : List Wd} {s : RS} (D : RrAt h0 h g W s) (hb : h' g = h g) (l : h0.le h') : RrAt h0 h' g W s := by
  obtain ⟨a, c, i, hb', hS, hi, hw⟩ := D.b
  exact ⟨⟨a, c, i, hb.trans hb', hS, hi, hw⟩, l, D.z, D.f0, D.n, D.w⟩
/-- What is gathered, in the making: where something is wrong it may be anything. -/
structure AgW (h0 h : Hp) (g : Nat) (a : Option Addr) (m c : Nat) (s : RS) (L : List Ag) : Prop where
  own : ∃ xs, OwnV h0 h 42 2 a m c xs
  ne : a ≠ some ⟨g, 0, none⟩
  ok : s.f = 0 → AggB (At g) h0 h a c L ∧ m = L.length
theorem AgW.mut {h0 h h' : Hp} {g : Nat} {a : Option Addr} {m c : Nat} {s : RS} {L : List Ag} (A : AgW h0 h g a m c s L) (hg : h0 g = none) (M : Mut (At g) h (At g) h') : AgW h0 h' g a m c s L := by
  have hG2 : ∀ b, At g b → h0 b = none := fun b e => by rw [show b = g from e]; exact hg
  obtain ⟨xs, O⟩ := A.own
  refine ⟨⟨xs, ⟨fun b o hb => M.keep b o (fun q => by rw [hG2 b q] at hb; cases hb) (O.le b o hb), O.own.keep fun b o ha hb => M.keep b o (fun q => A.ne (by rw [ha, show b = g from q])) hb, O.new⟩⟩, A.ne, fun hf => ⟨(A.ok hf).1.keep hG2 M.keep, (A.ok hf).2⟩⟩
theorem AgW.state {h0 h : Hp} {g : Nat} {a : Option Addr} {m c : Nat} {s t : RS} {L : List Ag} (A : AgW h0 h g a m c s L) (hh : t.f = 0 → s.f = 0) : AgW h0 h g a m c t L := ⟨A.own, A.ne, fun hf => A.ok (hh hf)⟩
theorem AgW.al {h0 h : Hp} {g : Nat} {a : Option Addr} {m c : Nat} {s : RS} {L : List Ag} (A : AgW h0 h g a m c s L) {b : Nat} (ha : a = some ⟨b, 0, none⟩) : h b ≠ none := by
  obtain ⟨xs, O⟩ := A.own
  rcases O.own.2 with ⟨q1, _⟩ | ⟨g', cur, q1, q2, _⟩
  · rw [q1] at ha; cases ha
  · rw [q1] at ha; cases ha; rw [q2]; simp
theorem agw_app {h0 hB h1 : Hp} {g : Nat} {a : Option Addr} {m c : Nat} {L : List Ag} {W : List Wd} {s : RS} (A : AgW h0 h1 g a m c s L) (D : RrAt h0 h1 g W s) (hBg : hB g ≠ none) (hBa : ∀ b, a = some ⟨b, 0, none⟩ → hB b ≠ none) {k : Int} {a2 : Option Addr} {m2 c2 : Nat} {l : List Nd} (N : s.f = 0 → NdAt hB h1 a2 m2 l) (hL : m ≤ 1000)
    {b : Nat} (hb : h1 b = none) {K : Value → Hp → Prop} (hK : ∀ a' c' h', AgW h0 h' g a' (m + 1) c' s (L ++ [(k, l)]) → RrAt h0 h' g W s → K (vsl a' (m + 1) c') h') :
    SemOK Tryz.prog (Builtin.append_ #[22, 22] 22 #[vsl a m c, vsl (some ⟨b, 0, none⟩) 1 1]) (h1.set b (cellsO [vi k, vsl a2 m2 c2] 42)) K := by
  obtain ⟨o, ho⟩ : ∃ o, h1 g = some o := by
    cases e : h1 g with
    | none => exact absurd e D.al
    | some o => exact ⟨o, rfl⟩
  by_cases hf : s.f = 0
  · obtain ⟨B, hm⟩ := A.ok hf
    have N := N hf
    obtain rfl := N.s.1
    subst hm
    refine B.app (x := k) (c2 := c2) elAgg (Hp.le_refl h1) (fun b' e => by rw [show b' = g from e]; exact hBg) hBa N.s.2 N.nw ?_ rfl (fun b' e => by rw [show b' = g from e]; exact D.al) (by omega) (by omega) hb fun a' c' h' B' hk => hK a' c' h' ⟨?_, B'.ne rfl, fun _ => ⟨B', by simp⟩⟩ (D.keep ((hk g o ho (B.ne rfl)).trans ho.symm) B'.le0)
    · intro u hu
      have : u = vi k ∨ u = vsl a2 l.length c2 := by simpa [aggRw] using hu
      rcases this with rfl | rfl <;> rfl
    · have := B'.own
      simpa using this
  · obtain ⟨xs, O⟩ := A.own
    have l2 : h1.le (h1.set b (cellsO [vi k, vsl a2 m2 c2] 42)) := Hp.le_set (Hp.le_refl h1) hb _
    refine OwnV.append elAgg (O.mono l2) (HasRow.new _ _ [vi k, vsl a2 m2 c2] _) (m := 1) rfl (by simp [Value.oneCell']) (by omega) (by omega) fun a' c' h' O' k1 k2 => hK a' c' h' ⟨⟨_, O'⟩, fun e => ?_, fun q => absurd q hf⟩ (D.keep ((k1 g o (l2 g o ho) A.ne).trans ho.symm) O'.le)
    rcases k2 g e with q | q
    · exact A.ne (q.trans e)
    · rw [l2 g o ho] at q; cases q
end Go.Proofs.YtonlacplogbodaaGreatDoor
/-
  Contracts: the document reads a question. Conditions: none.
-/
namespace Go.Proofs.YtonlacplogbodaaGreatDoor
open Go Go.Vc Go.Txt
set_option linter.unusedVariables false
set_option maxRecDepth 100000

theorem opt_split {h0 h h2 : Hp} {g : Nat} {W : List Wd} {s : RS} {w : Wd} (hw : w ≠ []) {d : Int} {J : Int → Hp → Prop} (hJ : ∀ h', RrAt h0 h' g W (optN w d s).2 → Mut (At g) h (At g) h' → J (optN w d s).1 h') (D : RrAt h0 h2 g W (s.is [w]).2) (M : Mut (At g) h (At g) h2) :
    (decide ((s.is [w]).1 ≠ []) = true → CallOK Tryz.prog 35 [vhp g 0, vi 1000] h2 fun v1 h3 => ∃ (x : Int), v1 = vi x ∧ J x h3) ∧ (decide ((s.is [w]).1 ≠ []) = false → J d h2) := by
  unfold optN at hJ
  refine ⟨fun e => ?_, fun e => ?_⟩
  · have e : (s.is [w]).1 ≠ [] := of_decide_eq_true e
    rw [if_neg e] at hJ
    exact rd_number_ok D (by decide) (by decide) fun h3 D3 M3 => ⟨_, rfl, hJ h3 D3 (M.trans M3)⟩
  · have e : (s.is [w]).1 = [] := by simpa using e
    rw [if_pos e] at hJ
    rw [is_oneR hw e] at D
    exact hJ h2 D M
theorem RrAt.c01 {h0 h : Hp} {g : Nat} {W : List Wd} {s : RS} (D : RrAt h0 h g W s) : ∃ (a : Option Addr) (c i : Nat), h.cell g 0 = some (vsl a W.length c) ∧ h.cell g (0 + 1) = some (vi i) ∧ (s.f = 0 → (i < W.length ↔ s.ws ≠ [])) := by
  obtain ⟨a, c, i, hb, hS, hi, hw⟩ := D.b
  refine ⟨a, c, i, cell_cells hb rfl, cell_cells hb rfl, fun hf => ?_⟩
  rw [hw, if_pos hf, ne_eq, nil_len, List.length_drop]
  omega
theorem RrAt.put3 {h0 h : Hp} {g : Nat} {W : List Wd} {s : RS} (D : RrAt h0 h g W s) {f : Int} (hf : 0 ≤ f) {K : Hp → Prop} (hK : ∀ h' t, t.f = f → RrAt h0 h' g W t → Mut (At g) h (At g) h' → K h') : h.store g (0 + 3) [vi f] K := by
  obtain ⟨a, c, i, hb, hS, hi, hw⟩ := D.b
  exact store_cells hb (by simp) (hK _ ⟨if f = 0 then W.drop i else [], s.deep, f⟩ rfl ⟨⟨a, c, i, Hp.set_same _ _ _, hS, hi, rfl⟩, le_put D.l D.z _, D.z, hf, D.n, D.w⟩ (mut_set _ _ _))
theorem firstF_2 : ∀ (l : List Int), (∀ x ∈ l, 0 ≤ x) → 0 ≤ firstF l
  | [], _ => Int.le_refl _
  | x :: l, h => by
    rw [firstF]
    split
    · exact h x (List.mem_cons_self ..)
    · exact firstF_2 l fun y hy => h y (List.mem_cons_of_mem _ hy)
theorem qryF_2 (q : Qy) : 0 ≤ qryF q := by
  unfold qryF
  split
  · decide
  · have h1 := firstF_2 (q.aggs.map aggF) (fun x hx => by
      obtain ⟨y, _, rfl⟩ := List.mem_map.1 hx
      unfold aggF
      split
      · decide
      · split
        · decide
        · exact typedF_2 _ _)
    split
    · exact h1
    · refine firstF_2 _ fun x hx => ?_
      have h2 : x = (if q.wh = [] then 0 else typedF q.wh 2) ∨ x = (if q.by_ = [] then 0 else typedF q.by_ 0) ∨ x = numsF q := by simpa using hx
      rcases h2 with rfl | rfl | rfl
      · split
        · decide
        · exact typedF_2 _ _
      · split
        · decide
        · exact typedF_2 _ _
      · unfold numsF
        split
        · decide
        · split <;> decide
theorem noQ_big : QBig noQ := ⟨Nat.zero_le _, Nat.zero_le _, (fun a ha => by cases ha), Nat.zero_le _⟩
def vbool (l : List Value) (i : Nat) : Bool := match l[i]? with | some (.bool x) => x | _ => false
theorem is_agg {s : RS} : (s.is aggL).1 = (if nextW s ∈ aggL then nextW s else []) := by
  have hnil : ([] : Wd) ∉ aggL := by decide
  obtain ⟨ny, nn⟩ := next_any (s := s) hnil
  split
  · rename_i hm
    obtain ⟨r, _, e⟩ := ny hm
    rw [e]
  · rename_i hm
    rw [nn hm]
set_option maxHeartbeats 1000000 in
theorem R_QueryOf_ok {l : List UInt8} {h : Hp} {R : Value → Hp → Prop} (hK : ∀ a1 n1 c1 a2 n2 c2 a3 n3 c3 h', h.le h' → 0 ≤ (parseQ l).2 → QBig (parseQ l).1 → QAt h' (parseQ l).1 a1 n1 a2 n2 a3 n3 → R (vtup [qV a1 n1 c1 a2 n2 c2 a3 n3 c3 (parseQ l).1, vi (parseQ l).2]) h') : CallOK Tryz.prog 12 [vs (bs l)] h R := by
  refine ok_R_QueryOf ?_
  unfold VC_R_QueryOf
  refine R_WordsOf_ok fun wa wn wc h2 O => ⟨_, _, _, _, rfl, ?_⟩
  have lw := wordsL_words l
  have lf := wordsL_f l
  have l02 := O.le
  unfold parseQ at hK
  generalize wordsL l = WW at *
  obtain ⟨W, fw⟩ := WW
  simp only at hK lw O lf
  refine ⟨fun e => ?_, fun e => ?_⟩
  · have e2 : fw ≠ 0 := by have := of_decide_eq_true e; omega
    rw [if_pos e2] at hK
    exact hK none 0 0 none 0 0 none 0 0 h2 l02 (by show 0 ≤ fw; omega) noQ_big (noQ_at h2)
  have e2 : ¬ fw ≠ 0 := by have : ¬ fw > 0 := of_decide_eq_false e; omega
  rw [if_neg e2] at hK
  clear e e2
  have hS := O.slp encB_len (by decide)
  obtain rfl := hS.1
  intro b6 hb6 h7
  have l7 : h2.le h7 := Hp.le_set (Hp.le_refl h2) hb6 _
  have D7 : RrAt h2 h7 b6 W ⟨W, 0, 0⟩ := ⟨⟨wa, wc, 0, Hp.set_same _ _ _, hS, Nat.zero_le _, rfl⟩, l7, hb6, Int.le_refl _, by omega, fun x hx => Nat.le_trans (lw.2 x hx) (by decide)⟩
  have F : RReads 0 (allP (W.length + 1)).o (W.length + 1) := (rreads_all (W.length + 1)).1
  have kp := (keeps_all (W.length + 1)).1
  have g0 : (⟨W, 0, 0⟩ : RS).good := fun h => absurd rfl h
  have S7 : SOk (W.length + 1) ⟨W, 0, 0⟩ := ⟨g0, Nat.lt_succ_self _, by show W.length ≤ 1000; omega, Int.le_refl _, by show (0 : Int) + (W.length : Int) ≤ 1000000; omega⟩
  have hAll := allA_ok W
  unfold parseW at hK
  rw [readQ_eq] at hK
  unfold allA firstA at hK hAll
  generalize (allP (W.length + 1)).o = o at *
  have G1 := goes_must g0 wSelect
  refine rd_must_ok (w := wSelect) D7 (by decide) fun h9 D9 M9 => ⟨rfl, ?_⟩
  generalize (⟨W, 0, 0⟩ : RS).must wSelect = s1 at *
  have S9 := S7.goes G1
  have hs1 : s1.ws.length ≤ 80 := Nat.le_trans G1.len lw.1
  intro J145
  -- the rest, behind what is gathered
  have hRest : ∀ (L : List Ag) (t : RS) (a : Option Addr) (m c : Nat) (hE : Hp), AgW h2 hE b6 a m c t L → RrAt h2 hE b6 W t → SOk (W.length + 1) t → aggsP o ((aggP o s1).2.ws.length + 1) [(aggP o s1).1] (aggP o s1).2 = (L, t) → L.length ≤ 1000 → J145 a m c none 0 0 none 0 0 0 0 hE := by
    intro L t a m c hE AE DE SE hL hLn
    rw [hL] at hK hAll
    simp only at hK hAll
    have hgE := DE.al
    have G3 := goes_must SE.good wFrom
    refine rd_must_ok (w := wFrom) DE (by decide) fun h867 D867 M867 => ⟨rfl, ?_⟩
    have S867 := SE.goes G3
    have G4 := G3.trans (goes_must G3.ok wEvents)
    refine rd_must_ok (w := wEvents) D867 (by decide) fun h869 D869 M869 => ⟨rfl, ?_⟩
    have ME := M867.trans M869
    have S869 := SE.goes G4
    unfold restQ at hK
    generalize (t.must wFrom).must wEvents = t2 at *
    have gi := goes_is S869.good [wWhere]
    have io := @is_oneR t2 wWhere (by decide)
    refine rd_take_ok (w := wWhere) D869 (by decide) fun h871 D871 M871 => ⟨_, rfl, ?_⟩
    have M871' := ME.trans M871
    intro J878
    have h878 : ∀ (wh : List Nd) (aw : Option Addr) (mw cw : Nat) (u : RS) (hX : Hp), optP wWhere o t2 = (wh, u) → RrAt h2 hX b6 W u → SOk (W.length + 1) u → Goes u t → (u.f = 0 → NdAt hE hX aw mw wh) → NdsOK wh → Mut (At b6) hE (At b6) hX → J878 aw mw cw hX := by
      intro wh aw mw cw u hX hw DX SX GX NX Kw MX
      rw [hw] at hK
      simp only at hK
      unfold byQ at hK
      have gi := goes_is SX.good [wGroup]
      have io := @is_oneR u wGroup (by decide)
      refine rd_take_ok (w := wGroup) DX (by decide) fun h939 D939 M939 => ⟨_, rfl, ?_⟩
      have M939' := MX.trans M939
      intro J948
      have h948 : ∀ (by_ : List Nd) (ab : Option Addr) (mb cb : Nat) (v : RS) (hY : Hp), optP wGroup (fun s => o (s.must wBy)) u = (by_, v) → RrAt h2 hY b6 W v → SOk (W.length + 1) v → Goes v t → (v.f = 0 → NdAt hE hY aw mw wh) → (v.f = 0 → NdAt hE hY ab mb by_) → NdsOK by_ → Mut (At b6) hE (At b6) hY → J948 ab mb cb hY := by
        intro by_ ab mb cb v hY hv DY SY GY Nw Nb Kb MY
        rw [hv] at hK
        simp only at hK
        unfold endQ at hK
        simp only at hK
        have Ga := goes_must SY.good wWindow
        refine rd_must_ok (w := wWindow) DY (by decide) fun h997 D997 M997 => ⟨rfl, ?_⟩
        have Sa := SY.goes Ga
        generalize v.must wWindow = v1 at *
        have Gb := goes_number Sa.good 1000
        refine rd_number_ok D997 (by decide) (by decide) fun h999 D999 M999 => ⟨_, rfl, ?_⟩
        have Sb := Sa.goes Gb
        generalize v1.number 1000 = Z at *
        obtain ⟨z, v2⟩ := Z
        simp -zeta only at hK D999 Sb Gb ⊢
        have M2 := (M997.trans M999)
        refine rd_take_ok (w := wSlide) D999 (by decide) fun h1002 D1002 M1002 => ⟨_, rfl, ?_⟩
        intro J1009
        have Gc := goes_optN Sb.good wSlide z
        refine opt_split (h := hY) (d := z) (by decide) (fun hA DA MA => ?_) D1002 (M2.trans M1002)
        have Sc := Sb.goes Gc
        generalize optN wSlide z v2 = Z at *
        obtain ⟨sl, v3⟩ := Z
        simp -zeta only at hK DA Sc Gc ⊢
        unfold J1009
        refine rd_take_ok (w := wDelay) DA (by decide) fun h1043 D1043 M1043 => ⟨_, rfl, ?_⟩
        intro J1050
        have Gd := goes_optN Sc.good wDelay 0
        refine opt_split (h := hY) (d := 0) (by decide) (fun hB DB MB => ?_) D1043 (MA.trans M1043)
        have Sd := Sc.goes Gd
        generalize optN wDelay 0 v3 = Z at *
        obtain ⟨d, v4⟩ := Z
        simp -zeta only at hK DB Sd Gd ⊢
        unfold J1050
        refine rd_take_ok (w := wLate) DB (by decide) fun h1074 D1074 M1074 => ⟨_, rfl, ?_⟩
        intro J1081
        have Ge := goes_optN Sd.good wLate 0
        refine opt_split (h := hY) (d := 0) (by decide) (fun hC DC MC => ?_) D1074 (MB.trans M1074)
        have Se := Sd.goes Ge
        generalize optN wLate 0 v4 = Z at *
        obtain ⟨lt, v5⟩ := Z
        simp -zeta only at hK DC Se Ge ⊢
        unfold J1081
        have GZ : Goes v5 v := ((((Ga.trans Gb).trans Gc).trans Gd).trans Ge)
        have GT : Goes v5 t := GY.trans GZ
        have MC' := MY.trans MC
        obtain ⟨qa, qc, qi, hq0, hq1, hqw⟩ := DC.c01
        refine ⟨_, DC.c3, _, fun _ => hq1, _, _, _, fun _ => hq0, ?_⟩
        intro J1100
        have h1100 : ∀ (hD : Hp) (y : RS), y.f = (if v5.f = 0 ∧ v5.ws ≠ [] then v5.fail 4 else v5).f → (y.f = 0 → v5.f = 0) → RrAt h2 hD b6 W y → Mut (At b6) hC (At b6) hD → J1100 hD := by
          intro hD y hy hy0 DD MD
          rw [← hy] at hK
          have MD' := MC'.trans MD
          refine ⟨_, DD.c3, ?_⟩
          intro J1109
          have h1109 : ∀ (hF : Hp) (f : Int), 0 ≤ f → hF.cell b6 (0 + 3) = some (vi f) → h.le hF → (f ≠ 0 → ∀ h', h.le h' → R (vtup [qV none 0 0 none 0 0 none 0 0 noQ, vi f]) h') → (f = 0 → R (vtup [qV a m c aw mw cw ab mb cb ⟨L, wh, by_, z, sl, d, lt⟩, vi 0]) hF) → J1109 hF := by
            intro hF f hf hc lh hb hg
            refine ⟨_, hc, fun e => ⟨_, hc, hc, ?_⟩, fun e => ?_⟩
            · have e := of_decide_eq_true e
              exact hb (by omega) hF lh
            · have e := of_decide_eq_false e
              exact hg (by omega)
          clear_value J1109
          refine ⟨fun e => ?_, fun e => ?_⟩
          · have e : y.f = 0 := of_decide_eq_true e
            have hv5 := hy0 e
            rw [e, if_neg (fun h => h rfl)] at hK
            have hvf : v.f = 0 := Decidable.byContradiction fun q => q ((GZ.fst q).symm.trans hv5)
            have htf : t.f = 0 := Decidable.byContradiction fun q => q ((GT.fst q).symm.trans hv5)
            have AD := AE.mut hb6 MD'
            obtain ⟨BE, hm⟩ := AD.ok htf
            have Nw2 := (Nw hvf).mut hgE (MC.trans MD)
            have Nb2 := (Nb hvf).mut hgE (MC.trans MD)
            subst hm
            have QE : QAt hD ⟨L, wh, by_, z, sl, d, lt⟩ a L.length aw mw ab mb := ⟨BE.tab, Nw2.s, Nb2.s⟩
            have hbig : QBig ⟨L, wh, by_, z, sl, d, lt⟩ := ⟨Nat.le_trans Kw.1 (by decide), Nat.le_trans Kb.1 (by decide), fun x hx => Nat.le_trans (hAll x hx).1 (by decide), by show L.length ≤ 1000000; omega⟩
            refine R_QueryFault_ok (q := ⟨L, wh, by_, z, sl, d, lt⟩) (c1 := c) (c2 := cw) (c3 := cb) QE hbig fun hG lG => ⟨qryF ⟨L, wh, by_, z, sl, d, lt⟩, rfl, ?_⟩
            refine (DD.le lG).put3 (qryF_2 _) fun hH y2 hy2 DH MH => ?_
            have lh : h.le hH := Hp.le_trans l02 DH.l
            have hc3 := DH.c3
            rw [hy2] at hc3
            refine h1109 hH _ (qryF_2 _) hc3 lh (fun hf h' l' => ?_) fun hf => ?_
            · rw [if_pos hf] at hK
              exact hK none 0 0 none 0 0 none 0 0 h' l' (qryF_2 _) noQ_big (noQ_at h')
            · rw [if_neg (fun h => h hf)] at hK
              have M2 := (Mut.of_le lG).trans MH
              have AD2 := (AD.mut hb6 M2).ok htf
              exact hK _ _ c _ _ cw _ _ cb hH lh (Int.le_refl _) hbig ⟨AD2.1.tab, (Nw2.mut hgE M2).s, (Nb2.mut hgE M2).s⟩
          · have e : y.f ≠ 0 := of_decide_eq_false e
            rw [if_pos e] at hK
            refine h1109 hD y.f DD.f0 DD.c3 (Hp.le_trans l02 DD.l) (fun hf h' l' => ?_) fun hf => absurd hf e
            exact hK none 0 0 none 0 0 none 0 0 h' l' DD.f0 noQ_big (noQ_at h')
        clear_value J1100
        rw [cand]
        refine ⟨fun e => ?_, fun e => ?_⟩
        · have e := of_decide_eq_true e
          have e2 : v5.f = 0 ∧ v5.ws ≠ [] := ⟨e.1, (hqw e.1).1 (by omega)⟩
          refine DC.put3 (f := 4) (by decide) fun hD y hy DD MD => h1100 hD y ?_ (fun q => by rw [hy] at q; cases q) DD MD
          rw [if_pos e2, hy]
          unfold RS.fail
          rw [if_pos e2.1]
        · have e := of_decide_eq_false e
          refine h1100 hC v5 ?_ id DC (Mut.of_le (Hp.le_refl _))
          rw [if_neg]
          rintro ⟨q1, q2⟩
          exact e ⟨q1, by have := (hqw q1).2 q2; omega⟩
      clear_value J948
      refine ⟨fun e => ?_, fun e => ?_⟩
      · have e : (u.is [wGroup]).1 ≠ [] := of_decide_eq_true e
        have hop : optP wGroup (fun s => o (s.must wBy)) u = o ((u.is [wGroup]).2.must wBy) := by unfold optP; rw [if_neg e]
        rw [hop] at h948
        have Su := SX.goes gi
        have Gy := goes_must Su.good wBy
        refine rd_must_ok (w := wBy) D939 (by decide) fun h942 D942 M942 => ⟨rfl, ?_⟩
        have S942 := Su.goes Gy
        have k2 := kp _ S942.good (Nat.le_of_lt S942.len)
        have M942' := M939'.trans M942
        refine F D942 S942 fun a m c hY DY NY MY => ⟨_, _, _, rfl, ?_⟩
        have Gall := (gi.trans Gy).trans k2.goes
        refine h948 _ _ _ _ _ hY rfl DY (S942.goes k2.goes) (GX.trans Gall) (fun q => ?_) (fun q => (NY q).base (M942'.up D942.al)) k2.nds (M942'.trans MY)
        have huf : u.f = 0 := Decidable.byContradiction fun q2 => q2 ((Gall.fst q2).symm.trans q)
        exact (((NX huf).mut hgE M939).mut hgE M942).mut hgE MY
      · have e : (u.is [wGroup]).1 = [] := by simpa using e
        have hop : optP wGroup (fun s => o (s.must wBy)) u = ([], u) := by unfold optP; rw [if_pos e]
        rw [io e] at D939
        exact h948 [] none 0 0 u h939 hop D939 SX GX (fun q => (NX q).mut hgE M939) (fun _ => nd_nil _ _) nds_nil M939'
    clear_value J878
    refine ⟨fun e => ?_, fun e => ?_⟩
    · have e : (t2.is [wWhere]).1 ≠ [] := of_decide_eq_true e
      have hop : optP wWhere o t2 = o (t2.is [wWhere]).2 := by unfold optP; rw [if_neg e]
      rw [hop] at h878
      have Su := S869.goes gi
      have k2 := kp _ Su.good (Nat.le_of_lt Su.len)
      refine F D871 Su fun a m c hX DX NX MX => ⟨_, _, _, rfl, ?_⟩
      exact h878 _ _ _ _ _ hX rfl DX (Su.goes k2.goes) ((G4.trans gi).trans k2.goes) (fun q => (NX q).base (M871'.up D871.al)) k2.nds (M871'.trans MX)
    · have e : (t2.is [wWhere]).1 = [] := by simpa using e
      have hop : optP wWhere o t2 = ([], t2) := by unfold optP; rw [if_pos e]
      rw [io e] at D871
      exact h878 [] none 0 0 t2 h871 hop D871 S869 G4 (fun _ => nd_nil _ _) nds_nil M871'
  clear_value J145
  -- what is gathered, one behind the other
  refine ⟨fun vs' hh => ∃ (p : Bool) (k : Nat) (L : List Ag) (t : RS) (a : Option Addr) (m c : Nat), vs' = [vb p, vsl a m c, vsl none 0 0, vsl none 0 0, vi 0, vi 0, vi 0, vi 0] ∧ AgW h2 hh b6 a m c t L ∧ RrAt h2 hh b6 W t ∧ SOk (W.length + 1) t ∧ aggsP o ((aggP o s1).2.ws.length + 1) [(aggP o s1).1] (aggP o s1).2 = (if p = true then aggsP o k (L ++ [(aggP o t).1]) (aggP o t).2 else (L, t)) ∧ (p = true → (aggP o t).2.ws.length < k) ∧ L.length + t.ws.length ≤ 100 + (if p = true then 0 else 1) ∧ m + t.ws.length ≤ 100 + (if p = true then 0 else 1), fun vs' hh => (if vbool vs' 0 = true then 1 else 0) + rrN hh b6, ⟨true, _, [], s1, none, 0, 0, rfl, ⟨⟨[], OwnV.nil D9.l _ _⟩, (fun e => by cases e), fun _ => ⟨GTabB.nil D9.l, rfl⟩⟩, D9, S9, rfl, fun _ => Nat.lt_succ_self _, by show 0 + s1.ws.length ≤ 100; omega, by show 0 + s1.ws.length ≤ 100; omega⟩, ?_⟩
  rintro vs' h14 ⟨p, k, L, t, a, m, c, rfl, A, D, S, hrow, hk, hL, hm⟩
  refine ⟨_, _, _, _, _, _, _, _, _, _, _, _, _, _, rfl, fun e => ?_, fun e => ?_⟩
  · rw [e] at hrow hk hm
    rw [e] at hL
    rw [if_pos rfl] at hrow hm hL
    have hk := hk rfl
    have hrn := D.rn
    have Ga := goes_agg kp S.good (Nat.le_of_lt S.len)
    intro b25 hb25 h26 b27 hb27 h28
    have l26 : h14.le h26 := Hp.le_set (Hp.le_refl h14) hb25 _
    have l28 : h26.le h28 := Hp.le_set (Hp.le_refl h26) hb27 _
    have l14 := Hp.le_trans l26 l28
    have hg := D.al
    have W25 : ElAt encB h28 b6 (some ⟨b25, 0, none⟩) 4 aggL := ⟨SlP.le l28 (slb_lit h14 b25 aggL (by decide)), fun b o q => by cases q; exact fun q2 => hg (by rw [← q2]; exact hb25)⟩
    have I27 : ∀ {i : Nat}, i < 4 → ∀ hh, Mut (At b6) h28 (At b6) hh → hh.cell b27 (0 + (i : Int).toNat * 1) = some (vi ((i : Int) + 2)) := by
      intro i hi hh M
      have hne : b27 ≠ b6 := fun q => hg (by rw [← q]; exact Hp.none_of_le l26 hb27)
      have := ints_at h26 b27 hi
      unfold Hp.cell at this ⊢
      rw [Hp.set_same] at this
      rw [M.keep b27 _ (fun q => hne q) (Hp.set_same _ _ _)]
      exact this
    have D28 := D.le l14
    intro J56
    -- one that is gathered
    have h56 : ∀ (x95 : Int) (hh : Hp), x95 = (if (t.is aggL).1 = [] then 0 else refKind (t.is aggL).1) → RrAt h2 hh b6 W (t.is aggL).2 → Mut (At b6) h14 (At b6) hh → J56 x95 none 0 0 hh := by
      intro x95 hh hx DD MM
      have hcw : [wCount, wSum, wMin, wMax] = aggL := rfl
      have hagg : aggP o t = (if (t.is aggL).1 = wCount ∧ ((((if (t.is aggL).1 = [] then (t.is aggL).2.fail 4 else (t.is aggL).2).must wOpen).is [wStar]).1 ≠ []) then ((1, []), ((((if (t.is aggL).1 = [] then (t.is aggL).2.fail 4 else (t.is aggL).2).must wOpen).is [wStar]).2.must wClose)) else ((if (t.is aggL).1 = wCount then 2 else aggKind (t.is aggL).1, (o ((if (t.is aggL).1 = [] then (t.is aggL).2.fail 4 else (t.is aggL).2).must wOpen)).1), (o ((if (t.is aggL).1 = [] then (t.is aggL).2.fail 4 else (t.is aggL).2).must wOpen)).2.must wClose)) := rfl
      have gi := goes_is S.good aggL
      have hwm : (t.is aggL).1 ∈ [[], wCount, wSum, wMin, wMax] := by
        by_cases q : (t.is aggL).1 = []
        · rw [q]; simp
        · exact List.mem_cons_of_mem _ (is_mem q)
      generalize t.is aggL = B at *
      obtain ⟨w, u⟩ := B
      simp -zeta only at hx DD hagg gi hwm
      have hkind : x95 = 0 ↔ w = [] := by
        have h5 : w = [] ∨ w = wCount ∨ w = wSum ∨ w = wMin ∨ w = wMax := by simpa using hwm
        rw [hx]
        rcases h5 with rfl | rfl | rfl | rfl | rfl <;> decide
      have hkind2 : x95 = 2 ↔ w = wCount := by
        have h5 : w = [] ∨ w = wCount ∨ w = wSum ∨ w = wMin ∨ w = wMax := by simpa using hwm
        rw [hx]
        rcases h5 with rfl | rfl | rfl | rfl | rfl <;> decide
      have hkind3 : x95 = (if w = wCount then 2 else aggKind w) := by
        have h5 : w = [] ∨ w = wCount ∨ w = wSum ∨ w = wMin ∨ w = wMax := by simpa using hwm
        rw [hx]
        rcases h5 with rfl | rfl | rfl | rfl | rfl <;> decide
      clear hx hwm
      unfold J56
      intro J102
      have h102 : ∀ (hA : Hp) (u2 : RS), u2 = (if w = [] then u.fail 4 else u) → RrAt h2 hA b6 W u2 → Goes u2 t → Mut (At b6) h14 (At b6) hA → J102 hA := by
        intro hA u2 hu DA GA MA
        rw [← hu] at hagg
        clear hu
        have Sa := S.goes GA
        refine rd_must_ok (w := wOpen) DA (by decide) fun h105 D105 M105 => ⟨rfl, ?_⟩
        have G5 := GA.trans (goes_must GA.ok wOpen)
        have M105' := MA.trans M105
        generalize u2.must wOpen = s2 at *
        have S2 := S.goes G5
        intro J111
        -- behind what it is gathered of
        have fin : ∀ (x132 : Int) (a133 : Option Addr) (m133 c133 : Nat) (nl : List Nd) (v : RS) (hB : Hp), aggP o t = ((x132, nl), v.must wClose) → RrAt h2 hB b6 W v → Goes v t → (v.f = 0 → NdAt h14 hB a133 m133 nl) → Mut (At b6) h14 (At b6) hB →
            CallOK Tryz.prog 31 [vhp b6 0, vs ⟨#[41]⟩] hB fun v135 h136 => v135 = (vtup []) ∧ (∀ (b137 : Nat), h136 b137 = none → let h138 : Hp := Hp.set h136 b137 (cellsO [(vi x132), (vsl a133 m133 c133)] 42); (SemOK Tryz.prog (Builtin.append_ #[22, 22] 22 #[(vsl a m c), (vsl (some (⟨b137, 0, none⟩ : Addr)) 1 1)]) h138 fun v139 h140 => ∃ (a141 : Option Addr) (n141 c141 : Nat), v139 = (vsl a141 n141 c141) ∧ (CallOK Tryz.prog 32 [(vhp b6 0), (vs ⟨#[44]⟩)] h140 fun v142 h143 => ∃ (p144 : Bool), v142 = (vb p144) ∧ ((∃ (p : Bool) (k : Nat) (L : List Ag) (t : RS) (a : Option Addr) (m c : Nat), [(vb p144), (vsl a141 n141 c141), (vsl none 0 0), (vsl none 0 0), (vi 0), (vi 0), (vi 0), (vi 0)] = [vb p, vsl a m c, vsl none 0 0, vsl none 0 0, vi 0, vi 0, vi 0, vi 0] ∧ AgW h2 h143 b6 a m c t L ∧ RrAt h2 h143 b6 W t ∧ SOk (W.length + 1) t ∧ aggsP o ((aggP o s1).2.ws.length + 1) [(aggP o s1).1] (aggP o s1).2 = (if p = true then aggsP o k (L ++ [(aggP o t).1]) (aggP o t).2 else (L, t)) ∧ (p = true → (aggP o t).2.ws.length < k) ∧ L.length + t.ws.length ≤ 100 + (if p = true then 0 else 1) ∧ m + t.ws.length ≤ 100 + (if p = true then 0 else 1)) ∧ (if vbool [(vb p144), (vsl a141 n141 c141), (vsl none 0 0), (vsl none 0 0), (vi 0), (vi 0), (vi 0), (vi 0)] 0 = true then 1 else 0) + rrN h143 b6 < (if vbool [vb p, vsl a m c, vsl none 0 0, vsl none 0 0, vi 0, vi 0, vi 0, vi 0] 0 = true then 1 else 0) + rrN h14 b6)))) := by
          intro x132 a133 m133 c133 nl v hB hag DB GB NB MB
          have Gv := goes_must GB.ok wClose
          have GV := GB.trans Gv
          refine rd_must_ok (w := wClose) DB (by decide) fun h136 D136 M136 => ⟨rfl, ?_⟩
          have M136' := MB.trans M136
          rw [hag] at hrow hk
          simp only at hrow hk
          intro b137 hb137 h138
          have A136 : AgW h2 h136 b6 a m c (v.must wClose) L := (A.mut hb6 M136').state fun q => Decidable.byContradiction fun q2 => q2 ((GV.fst q2).symm.trans q)
          refine agw_app (hB := h14) (k := x132) A136 D136 hg (fun b q => A.al q) (fun q => (NB (Decidable.byContradiction fun q2 => q2 ((Gv.fst q2).symm.trans q))).mut hg M136) (by omega) hb137 fun a141 c141 h140 A140 D140 => ⟨_, _, _, rfl, ?_⟩
          have S140 := S.goes GV
          have hlen := GV.len
          have hfm : v.must wClose = v.must wClose := rfl
          have hmono : (v.must wClose).f = 0 → t.f = 0 := fun q => Decidable.byContradiction fun q2 => q2 ((GV.fst q2).symm.trans q)
          generalize v.must wClose = t2 at *
          obtain ⟨k, rfl⟩ : ∃ j, k = j + 1 := ⟨k - 1, by omega⟩
          have hst : aggsP o (k + 1) (L ++ [(x132, nl)]) t2 = if (t2.is [wComma]).1 = [] then (L ++ [(x132, nl)], t2) else aggsP o k (L ++ [(x132, nl)] ++ [(aggP o (t2.is [wComma]).2).1]) (aggP o (t2.is [wComma]).2).2 := rfl
          rw [hst] at hrow
          clear hst
          have gi2 := goes_is S140.good [wComma]
          have io2 := @is_oneR t2 wComma (by decide)
          have tk2 := @taken t2 [wComma]
          obtain ⟨nx1, nx2, nx3⟩ := next_one (s := t2) (w := wComma) (by decide)
          refine rd_take_ok (w := wComma) D140 (by decide) fun h143 D143 M143 => ⟨_, rfl, ?_⟩
          have A143 := A140.mut hb6 M143
          have hrn3 := D143.rn
          have hv1 : vbool [vb p, vsl a m c, vsl none 0 0, vsl none 0 0, vi 0, vi 0, vi 0, vi 0] 0 = true := e
          rw [if_pos hv1, hrn]
          by_cases q : (t2.is [wComma]).1 = []
          · rw [if_pos q] at hrow
            rw [io2 q] at D143 hrn3
            rw [decide_eq_false (fun h => h q)]
            refine ⟨⟨false, 0, _, t2, a141, m + 1, c141, rfl, A143, D143, S140, by rw [hrow]; rfl, (fun q => by cases q), by rw [List.length_append, if_neg (by decide)]; show L.length + 1 + _ ≤ 100 + 1; omega, by rw [if_neg (by decide)]; omega⟩, ?_⟩
            show 0 + rrN h143 b6 < _
            rw [hrn3]
            split
            · rename_i q3
              rw [if_pos (hmono q3)]
              omega
            · split <;> omega
          · rw [if_neg q] at hrow
            have tk2 := tk2 q
            have hf2 : t2.f = 0 := Decidable.byContradiction fun q2 => by
              have := S140.good q2
              rw [this] at tk2
              simp at tk2
            rw [decide_eq_true q]
            have St := S140.goes gi2
            have Gn := goes_agg kp St.good (Nat.le_of_lt St.len)
            have hgn := Gn.1.len
            refine ⟨⟨true, k, L ++ [(x132, nl)], (t2.is [wComma]).2, a141, m + 1, c141, rfl, A143.state (fun _ => hf2), D143, St, by rw [hrow]; rfl, fun _ => by omega, by rw [List.length_append, if_pos rfl]; show L.length + 1 + _ ≤ 100; omega, by rw [if_pos rfl]; omega⟩, ?_⟩
            show 1 + rrN h143 b6 < _
            rw [hrn3, if_pos (hmono hf2)]
            split <;> omega
        have h111 : ∀ (p113 : Bool) (hB : Hp) (v : RS), aggP o t = (if p113 = true then ((1, []), v.must wClose) else ((x95, (o v).1), (o v).2.must wClose)) → RrAt h2 hB b6 W v → Goes v t → Mut (At b6) h14 (At b6) hB → J111 p113 hB := by
          intro p113 hB v hag DB GB MB
          have Sv := S.goes GB
          unfold J111
          intro J120
          refine ⟨fun q => ?_, fun q => ?_⟩
          · rw [if_pos q] at hag
            exact fin 1 none 0 0 [] v hB hag DB GB (fun _ => nd_nil _ _) MB
          · rw [if_neg (by rw [q]; decide)] at hag
            have k2 := kp v Sv.good (Nat.le_of_lt Sv.len)
            refine F DB Sv fun a118 m118 c118 h117 D117 N117 M117 => ⟨_, _, _, rfl, ?_⟩
            exact fin x95 a118 m118 c118 _ _ h117 hag D117 (GB.trans k2.goes) (fun q => (N117 q).base (MB.up DB.al)) (MB.trans M117)
        clear_value J111
        have gs := goes_is S2.good [wStar]
        have ios := @is_oneR s2 wStar (by decide)
        refine ⟨fun q => ?_, fun q => ?_⟩
        · have hw : w = wCount := hkind2.1 (of_decide_eq_true q)
          refine rd_take_ok (w := wStar) D105 (by decide) fun h107 D107 M107 => ⟨_, rfl, ?_⟩
          by_cases q2 : (s2.is [wStar]).1 = []
          · rw [if_neg (fun h => h.2 q2)] at hagg
            rw [ios q2] at D107
            rw [decide_eq_false (fun h => h q2)]
            refine h111 false h107 s2 ?_ D107 G5 (M105'.trans M107)
            rw [if_neg (by decide), hagg, ← hkind3]
          · rw [if_pos ⟨hw, q2⟩] at hagg
            rw [decide_eq_true q2]
            refine h111 true h107 _ ?_ D107 (G5.trans gs) (M105'.trans M107)
            rw [if_pos rfl, hagg]
        · have hw : ¬ w = wCount := fun h => of_decide_eq_false q (hkind2.2 h)
          rw [if_neg (fun h => hw h.1)] at hagg
          refine h111 false h105 s2 ?_ D105 G5 M105'
          rw [if_neg (by decide), hagg, ← hkind3]
      clear_value J102
      refine ⟨fun q => ?_, fun q => ?_⟩
      · have q := hkind.1 (of_decide_eq_true q)
        exact rd_fail_ok DD (by decide) fun hA DA MA => ⟨rfl, h102 hA _ (by rw [if_pos q]) DA (gi.trans (goes_fail _ _)) (MM.trans MA)⟩
      · have q : ¬ w = [] := fun h => of_decide_eq_false q (hkind.2 h)
        exact h102 hh u (by rw [if_neg q]) DD gi MM
    clear_value J56
    -- which it is
    have hnil : ([] : Wd) ∉ aggL := by decide
    obtain ⟨ny, nn⟩ := next_any (s := t) hnil
    refine ⟨fun vs' hh => ∃ (i : Nat) (x : Int), vs' = [vi i, vi x, vsl none 0 0] ∧ i ≤ 4 ∧ Mut (At b6) h28 (At b6) hh ∧ ((x = 0 ∧ (∀ j, j < i → nextW t ≠ aggL.getD j []) ∧ RrAt h2 hh b6 W t) ∨ (nextW t ∈ aggL ∧ x = refKind (nextW t) ∧ x ≠ 0 ∧ RrAt h2 hh b6 W (t.is aggL).2)), fun vs' hh => 4 - (vint vs' 0).toNat, ⟨0, 0, rfl, by omega, Mut.of_le (Hp.le_refl _), .inl ⟨rfl, (fun j hj => by omega), D28⟩⟩, ?_⟩
    rintro vs' hh ⟨i, x, rfl, hi, Mi, hst⟩
    refine ⟨_, _, _, _, _, rfl, fun q => ?_, fun q => ?_⟩
    · rw [cand] at q
      obtain ⟨q1, q2⟩ := of_decide_eq_true q
      have hlt : i < 4 := by omega
      rcases hst with ⟨hx0, hno, Di⟩ | ⟨_, _, hx, _⟩
      · intro J50
        obtain ⟨b, o', ha, hc⟩ := SlP.get1 (W25.mut Mi).s hlt
        refine ⟨b, o', ⟨ha, by omega, by omega⟩, _, hc, ?_⟩
        obtain ⟨ha1, ha2, ha3⟩ := aggL_at hlt
        obtain ⟨o1, o2, o3⟩ := next_one (s := t) ha2
        refine rd_take_ok Di ha2 fun h43 D43 M43 => ⟨_, rfl, fun q3 => ?_, fun q3 => ?_⟩
        · have q3 := o1.1 (of_decide_eq_true q3)
          obtain ⟨r', hr1, hr2⟩ := o2 q3
          rw [← q3] at ha1 ha3
          obtain ⟨r, hr3, hr4⟩ := ny ha1
          have er : r' = r := by rw [hr3, q3] at hr1; exact ((List.cons.inj hr1).2).symm
          refine ⟨b27, 0, ⟨rfl, by omega, by omega⟩, _, I27 hlt h43 (Mi.trans M43), _, isW (by unfold InR; omega), ⟨i + 1, (i : Int) + 2, rfl, by omega, Mi.trans M43, .inr ⟨ha1, ha3.symm, by omega, ?_⟩⟩, by simp [vint]; omega⟩
          rw [hr4]
          rw [hr2, er] at D43
          exact D43
        · have q3 : nextW t ≠ aggL.getD i [] := fun h => of_decide_eq_false q3 (o1.2 h)
          rw [o3 q3] at D43
          refine ⟨_, isW (by unfold InR; omega), ⟨i + 1, x, rfl, by omega, Mi.trans M43, .inl ⟨hx0, fun j hj => ?_, D43⟩⟩, by simp [vint]; omega⟩
          rcases Nat.lt_or_ge j i with h1 | h1
          · exact hno j h1
          · have : j = i := by omega
            rw [this]; exact q3
      · exact absurd q2 hx
    · rw [cand] at q
      have q := of_decide_eq_false q
      have ML := (Mut.of_le l14 : Mut (At b6) h14 (At b6) h28).trans Mi
      rcases hst with ⟨hx0, hno, Di⟩ | ⟨hmm, hx, hx0, Di⟩
      · have hge : i = 4 := by omega
        subst hge
        have hmm : nextW t ∉ aggL := by
          intro hm
          have h1 : nextW t = wCount ∨ nextW t = wSum ∨ nextW t = wMin ∨ nextW t = wMax := by simpa [aggL] using hm
          rcases h1 with h1 | h1 | h1 | h1
          · exact hno 0 (by omega) h1
          · exact hno 1 (by omega) h1
          · exact hno 2 (by omega) h1
          · exact hno 3 (by omega) h1
        refine h56 x hh ?_ (by rw [nn hmm]; exact Di) ML
        rw [nn hmm, if_pos rfl, hx0]
      · obtain ⟨r, hr3, hr4⟩ := ny hmm
        refine h56 x hh ?_ Di ML
        rw [hr4]
        simp only
        rw [if_neg (fun h => hnil (by rw [← h]; exact hmm)), hx]
  · rw [e] at hrow hL
    rw [if_neg (by decide)] at hrow hL
    exact hRest L t a m c h14 A D S hrow (by omega)
end Go.Proofs.YtonlacplogbodaaGreatDoor
/-
  What functions of the program ask, in words: each is what the framework reckons from the loaded code (the kernel holds the two together), and gives the function's call. Conditions: none.
-/
namespace Go.Proofs.YtonlacplogbodaaGreatDoor
open Go Go.Vc
set_option maxRecDepth 100000
set_option linter.unusedVariables false
/-- What 'penstock/penstockref.QueryText' asks. -/
def VC_R_QueryText (u_qAggsa : Option Addr) (u_qAggsn u_qAggsc : Nat) (u_qWherea : Option Addr) (u_qWheren u_qWherec : Nat) (u_qBya : Option Addr) (u_qByn u_qByc : Nat) (u_qSize : Int) (u_qSlide : Int) (u_qDelay : Int) (u_qLate : Int) (h : Hp) (R : Value → Hp → Prop) : Prop :=
  (∀ (b1 : Nat), h b1 = none → let h2 : Hp := Hp.set h b1 (cellsO [(vs ⟨#[]⟩), (vs ⟨#[99, 111, 117, 110, 116]⟩), (vs ⟨#[99, 111, 117, 110, 116]⟩), (vs ⟨#[115, 117, 109]⟩), (vs ⟨#[109, 105, 110]⟩), (vs ⟨#[109, 97, 120]⟩)] 9); (∃ (I4 : List Value → Hp → Prop) (m5 : List Value → Hp → Nat), I4 [(vs ⟨#[115, 101, 108, 101, 99, 116, 32]⟩), (vi 0)] h2 ∧ ∀ (vs6 : List Value) (h7 : Hp), I4 vs6 h7 → ∃ (s8 : ByteArray) (x9 : Int), vs6 = [(vs s8), (vi x9)] ∧ (((decide ((x9 : Int) < ((u_qAggsn : Nat) : Int))) = true → (let J15 : ByteArray → Prop := fun (s39 : ByteArray) => (∃ (b40 o41 : Nat), (u_qAggsa = some ⟨b40, o41, none⟩ ∧ (0 : Int) ≤ x9 ∧ x9 < ((u_qAggsn : Nat) : Int)) ∧ (∃ (x42 : Int), (Hp.cell h7 b40 (o41 + x9.toNat * 2) = some (vi x42)) ∧ (let J55 : ByteArray → Hp → Prop := fun (s65 : ByteArray) (h66 : Hp) => (∃ (b67 o68 : Nat), (u_qAggsa = some ⟨b67, o68, none⟩ ∧ (0 : Int) ≤ x9 ∧ x9 < ((u_qAggsn : Nat) : Int)) ∧ (∃ (x69 : Int), (Hp.cell h66 b67 (o68 + x9.toNat * 2) = some (vi x69)) ∧ (∃ (b70 o71 : Nat), ((some (⟨b1, 0, none⟩ : Addr)) = some ⟨b70, o71, none⟩ ∧ (0 : Int) ≤ x69 ∧ x69 < ((6 : Nat) : Int)) ∧ (∃ (s72 : ByteArray), (Hp.cell h66 b70 (o71 + x69.toNat * 1) = some (vs s72)) ∧ (∃ (s73 : ByteArray), (Rd Tryz.prog ((eqGuard .add 9 (.tmp 41) (.tmp 50) (vs s39) (vs s72) >>= fun _ => binOp .add 9 (vs s39) (vs s72))) h66 (vs s73)) ∧ (∃ (s74 : ByteArray), (Rd Tryz.prog ((eqGuard .add 9 (.tmp 51) (.const (vs ⟨#[40]⟩)) (vs s73) (vs ⟨#[40]⟩) >>= fun _ => binOp .add 9 (vs s73) (vs ⟨#[40]⟩))) h66 (vs s74)) ∧ (∃ (s75 : ByteArray), (Rd Tryz.prog ((eqGuard .add 9 (.tmp 52) (.tmp 53) (vs s74) (vs s65) >>= fun _ => binOp .add 9 (vs s74) (vs s65))) h66 (vs s75)) ∧ (∃ (s76 : ByteArray), (Rd Tryz.prog ((eqGuard .add 9 (.tmp 54) (.const (vs ⟨#[41]⟩)) (vs s75) (vs ⟨#[41]⟩) >>= fun _ => binOp .add 9 (vs s75) (vs ⟨#[41]⟩))) h66 (vs s76)) ∧ (∃ (x78 : Int), (IsW x78 (x9 + 1)) ∧ (I4 [(vs s76), (vi x78)] h66 ∧ m5 [(vs s76), (vi x78)] h66 < m5 vs6 h7)))))))))); (((decide ((x42 : Int) > 1)) = true → (∃ (b43 o44 : Nat), (u_qAggsa = some ⟨b43, o44, none⟩ ∧ (0 : Int) ≤ x9 ∧ x9 < ((u_qAggsn : Nat) : Int)) ∧ (∃ (a45 : Option Addr) (n45 c45 : Nat), (Hp.cell h7 b43 ((o44 + x9.toNat * 2) + 1) = some (vsl a45 n45 c45)) ∧ (∃ (b46 o47 : Nat), (u_qAggsa = some ⟨b46, o47, none⟩ ∧ (0 : Int) ≤ x9 ∧ x9 < ((u_qAggsn : Nat) : Int)) ∧ (∃ (a48 : Option Addr) (n48 c48 : Nat), (Hp.cell h7 b46 ((o47 + x9.toNat * 2) + 1) = some (vsl a48 n48 c48)) ∧ (∃ (x49 : Int), (IsW x49 (((n48 : Nat) : Int) - 1)) ∧ (CallOK Tryz.prog 21 [(vsl a45 n45 c45), (vi x49)] h7 fun v50 h51 => ∃ (s52 : ByteArray), v50 = (vs s52) ∧ (J55 s52 h51)))))))) ∧ ((decide ((x42 : Int) > 1)) = false → (J55 ⟨#[42]⟩ h7)))))); (((decide ((x9 : Int) > 0)) = true → (∃ (s12 : ByteArray), (Rd Tryz.prog ((eqGuard .add 9 (.tmp 17) (.const (vs ⟨#[44, 32]⟩)) (vs s8) (vs ⟨#[44, 32]⟩) >>= fun _ => binOp .add 9 (vs s8) (vs ⟨#[44, 32]⟩))) h7 (vs s12)) ∧ (J15 s12))) ∧ ((decide ((x9 : Int) > 0)) = false → (J15 s8))))) ∧ ((decide ((x9 : Int) < ((u_qAggsn : Nat) : Int))) = false → (∃ (s79 : ByteArray), (Rd Tryz.prog ((eqGuard .add 9 (.tmp 56) (.const (vs ⟨#[32, 102, 114, 111, 109, 32, 101, 118, 101, 110, 116, 115]⟩)) (vs s8) (vs ⟨#[32, 102, 114, 111, 109, 32, 101, 118, 101, 110, 116, 115]⟩) >>= fun _ => binOp .add 9 (vs s8) (vs ⟨#[32, 102, 114, 111, 109, 32, 101, 118, 101, 110, 116, 115]⟩))) h7 (vs s79)) ∧ (let J88 : ByteArray → Hp → Prop := fun (s90 : ByteArray) (h91 : Hp) => (let J100 : ByteArray → Hp → Prop := fun (s102 : ByteArray) (h103 : Hp) => (∃ (s104 : ByteArray), (Rd Tryz.prog ((eqGuard .add 9 (.tmp 86) (.const (vs ⟨#[32, 119, 105, 110, 100, 111, 119, 32]⟩)) (vs s102) (vs ⟨#[32, 119, 105, 110, 100, 111, 119, 32]⟩) >>= fun _ => binOp .add 9 (vs s102) (vs ⟨#[32, 119, 105, 110, 100, 111, 119, 32]⟩))) h103 (vs s104)) ∧ (CallOK Tryz.prog 22 [(vi u_qSize)] h103 fun v105 h106 => ∃ (s107 : ByteArray), v105 = (vs s107) ∧ ((Rd Tryz.prog ((eqGuard .add 9 (.tmp 86) (.const (vs ⟨#[32, 119, 105, 110, 100, 111, 119, 32]⟩)) (vs s102) (vs ⟨#[32, 119, 105, 110, 100, 111, 119, 32]⟩) >>= fun _ => binOp .add 9 (vs s102) (vs ⟨#[32, 119, 105, 110, 100, 111, 119, 32]⟩))) h106 (vs s104)) ∧ (∃ (s108 : ByteArray), (Rd Tryz.prog ((eqGuard .add 9 (.tmp 87) (.tmp 90) (vs s104) (vs s107) >>= fun _ => binOp .add 9 (vs s104) (vs s107))) h106 (vs s108)) ∧ (∃ (s109 : ByteArray), (Rd Tryz.prog ((eqGuard .add 9 (.tmp 91) (.const (vs ⟨#[32, 115, 108, 105, 100, 101, 32]⟩)) (vs s108) (vs ⟨#[32, 115, 108, 105, 100, 101, 32]⟩) >>= fun _ => binOp .add 9 (vs s108) (vs ⟨#[32, 115, 108, 105, 100, 101, 32]⟩))) h106 (vs s109)) ∧ (CallOK Tryz.prog 22 [(vi u_qSlide)] h106 fun v110 h111 => ∃ (s112 : ByteArray), v110 = (vs s112) ∧ ((Rd Tryz.prog ((eqGuard .add 9 (.tmp 91) (.const (vs ⟨#[32, 115, 108, 105, 100, 101, 32]⟩)) (vs s108) (vs ⟨#[32, 115, 108, 105, 100, 101, 32]⟩) >>= fun _ => binOp .add 9 (vs s108) (vs ⟨#[32, 115, 108, 105, 100, 101, 32]⟩))) h111 (vs s109)) ∧ ((Rd Tryz.prog ((eqGuard .add 9 (.tmp 87) (.tmp 90) (vs s104) (vs s107) >>= fun _ => binOp .add 9 (vs s104) (vs s107))) h111 (vs s108)) ∧ ((Rd Tryz.prog ((eqGuard .add 9 (.tmp 86) (.const (vs ⟨#[32, 119, 105, 110, 100, 111, 119, 32]⟩)) (vs s102) (vs ⟨#[32, 119, 105, 110, 100, 111, 119, 32]⟩) >>= fun _ => binOp .add 9 (vs s102) (vs ⟨#[32, 119, 105, 110, 100, 111, 119, 32]⟩))) h111 (vs s104)) ∧ (∃ (s113 : ByteArray), (Rd Tryz.prog ((eqGuard .add 9 (.tmp 92) (.tmp 95) (vs s109) (vs s112) >>= fun _ => binOp .add 9 (vs s109) (vs s112))) h111 (vs s113)) ∧ (∃ (s114 : ByteArray), (Rd Tryz.prog ((eqGuard .add 9 (.tmp 96) (.const (vs ⟨#[32, 100, 101, 108, 97, 121, 32]⟩)) (vs s113) (vs ⟨#[32, 100, 101, 108, 97, 121, 32]⟩) >>= fun _ => binOp .add 9 (vs s113) (vs ⟨#[32, 100, 101, 108, 97, 121, 32]⟩))) h111 (vs s114)) ∧ (CallOK Tryz.prog 22 [(vi u_qDelay)] h111 fun v115 h116 => ∃ (s117 : ByteArray), v115 = (vs s117) ∧ ((Rd Tryz.prog ((eqGuard .add 9 (.tmp 96) (.const (vs ⟨#[32, 100, 101, 108, 97, 121, 32]⟩)) (vs s113) (vs ⟨#[32, 100, 101, 108, 97, 121, 32]⟩) >>= fun _ => binOp .add 9 (vs s113) (vs ⟨#[32, 100, 101, 108, 97, 121, 32]⟩))) h116 (vs s114)) ∧ ((Rd Tryz.prog ((eqGuard .add 9 (.tmp 92) (.tmp 95) (vs s109) (vs s112) >>= fun _ => binOp .add 9 (vs s109) (vs s112))) h116 (vs s113)) ∧ ((Rd Tryz.prog ((eqGuard .add 9 (.tmp 91) (.const (vs ⟨#[32, 115, 108, 105, 100, 101, 32]⟩)) (vs s108) (vs ⟨#[32, 115, 108, 105, 100, 101, 32]⟩) >>= fun _ => binOp .add 9 (vs s108) (vs ⟨#[32, 115, 108, 105, 100, 101, 32]⟩))) h116 (vs s109)) ∧ ((Rd Tryz.prog ((eqGuard .add 9 (.tmp 87) (.tmp 90) (vs s104) (vs s107) >>= fun _ => binOp .add 9 (vs s104) (vs s107))) h116 (vs s108)) ∧ ((Rd Tryz.prog ((eqGuard .add 9 (.tmp 86) (.const (vs ⟨#[32, 119, 105, 110, 100, 111, 119, 32]⟩)) (vs s102) (vs ⟨#[32, 119, 105, 110, 100, 111, 119, 32]⟩) >>= fun _ => binOp .add 9 (vs s102) (vs ⟨#[32, 119, 105, 110, 100, 111, 119, 32]⟩))) h116 (vs s104)) ∧ (∃ (s118 : ByteArray), (Rd Tryz.prog ((eqGuard .add 9 (.tmp 97) (.tmp 100) (vs s114) (vs s117) >>= fun _ => binOp .add 9 (vs s114) (vs s117))) h116 (vs s118)) ∧ (∃ (s119 : ByteArray), (Rd Tryz.prog ((eqGuard .add 9 (.tmp 101) (.const (vs ⟨#[32, 108, 97, 116, 101, 32]⟩)) (vs s118) (vs ⟨#[32, 108, 97, 116, 101, 32]⟩) >>= fun _ => binOp .add 9 (vs s118) (vs ⟨#[32, 108, 97, 116, 101, 32]⟩))) h116 (vs s119)) ∧ (CallOK Tryz.prog 22 [(vi u_qLate)] h116 fun v120 h121 => ∃ (s122 : ByteArray), v120 = (vs s122) ∧ ((Rd Tryz.prog ((eqGuard .add 9 (.tmp 101) (.const (vs ⟨#[32, 108, 97, 116, 101, 32]⟩)) (vs s118) (vs ⟨#[32, 108, 97, 116, 101, 32]⟩) >>= fun _ => binOp .add 9 (vs s118) (vs ⟨#[32, 108, 97, 116, 101, 32]⟩))) h121 (vs s119)) ∧ ((Rd Tryz.prog ((eqGuard .add 9 (.tmp 97) (.tmp 100) (vs s114) (vs s117) >>= fun _ => binOp .add 9 (vs s114) (vs s117))) h121 (vs s118)) ∧ ((Rd Tryz.prog ((eqGuard .add 9 (.tmp 96) (.const (vs ⟨#[32, 100, 101, 108, 97, 121, 32]⟩)) (vs s113) (vs ⟨#[32, 100, 101, 108, 97, 121, 32]⟩) >>= fun _ => binOp .add 9 (vs s113) (vs ⟨#[32, 100, 101, 108, 97, 121, 32]⟩))) h121 (vs s114)) ∧ ((Rd Tryz.prog ((eqGuard .add 9 (.tmp 92) (.tmp 95) (vs s109) (vs s112) >>= fun _ => binOp .add 9 (vs s109) (vs s112))) h121 (vs s113)) ∧ ((Rd Tryz.prog ((eqGuard .add 9 (.tmp 91) (.const (vs ⟨#[32, 115, 108, 105, 100, 101, 32]⟩)) (vs s108) (vs ⟨#[32, 115, 108, 105, 100, 101, 32]⟩) >>= fun _ => binOp .add 9 (vs s108) (vs ⟨#[32, 115, 108, 105, 100, 101, 32]⟩))) h121 (vs s109)) ∧ ((Rd Tryz.prog ((eqGuard .add 9 (.tmp 87) (.tmp 90) (vs s104) (vs s107) >>= fun _ => binOp .add 9 (vs s104) (vs s107))) h121 (vs s108)) ∧ ((Rd Tryz.prog ((eqGuard .add 9 (.tmp 86) (.const (vs ⟨#[32, 119, 105, 110, 100, 111, 119, 32]⟩)) (vs s102) (vs ⟨#[32, 119, 105, 110, 100, 111, 119, 32]⟩) >>= fun _ => binOp .add 9 (vs s102) (vs ⟨#[32, 119, 105, 110, 100, 111, 119, 32]⟩))) h121 (vs s104)) ∧ (∃ (s123 : ByteArray), (Rd Tryz.prog ((eqGuard .add 9 (.tmp 102) (.tmp 105) (vs s119) (vs s122) >>= fun _ => binOp .add 9 (vs s119) (vs s122))) h121 (vs s123)) ∧ R (vs s123) h121)))))))))))))))))))))))))))); (((decide ((((u_qByn : Nat) : Int) : Int) > 0)) = true → (∃ (s92 : ByteArray), (Rd Tryz.prog ((eqGuard .add 9 (.tmp 76) (.const (vs ⟨#[32, 103, 114, 111, 117, 112, 32, 98, 121, 32]⟩)) (vs s90) (vs ⟨#[32, 103, 114, 111, 117, 112, 32, 98, 121, 32]⟩) >>= fun _ => binOp .add 9 (vs s90) (vs ⟨#[32, 103, 114, 111, 117, 112, 32, 98, 121, 32]⟩))) h91 (vs s92)) ∧ (∃ (x93 : Int), (IsW x93 (((u_qByn : Nat) : Int) - 1)) ∧ (CallOK Tryz.prog 21 [(vsl u_qBya u_qByn u_qByc), (vi x93)] h91 fun v94 h95 => ∃ (s96 : ByteArray), v94 = (vs s96) ∧ (∃ (s97 : ByteArray), (Rd Tryz.prog ((eqGuard .add 9 (.tmp 77) (.tmp 84) (vs s92) (vs s96) >>= fun _ => binOp .add 9 (vs s92) (vs s96))) h95 (vs s97)) ∧ (J100 s97 h95)))))) ∧ ((decide ((((u_qByn : Nat) : Int) : Int) > 0)) = false → (J100 s90 h91)))); (((decide ((((u_qWheren : Nat) : Int) : Int) > 0)) = true → (∃ (s80 : ByteArray), (Rd Tryz.prog ((eqGuard .add 9 (.tmp 62) (.const (vs ⟨#[32, 119, 104, 101, 114, 101, 32]⟩)) (vs s79) (vs ⟨#[32, 119, 104, 101, 114, 101, 32]⟩) >>= fun _ => binOp .add 9 (vs s79) (vs ⟨#[32, 119, 104, 101, 114, 101, 32]⟩))) h7 (vs s80)) ∧ (∃ (x81 : Int), (IsW x81 (((u_qWheren : Nat) : Int) - 1)) ∧ (CallOK Tryz.prog 21 [(vsl u_qWherea u_qWheren u_qWherec), (vi x81)] h7 fun v82 h83 => ∃ (s84 : ByteArray), v82 = (vs s84) ∧ (∃ (s85 : ByteArray), (Rd Tryz.prog ((eqGuard .add 9 (.tmp 63) (.tmp 70) (vs s80) (vs s84) >>= fun _ => binOp .add 9 (vs s80) (vs s84))) h83 (vs s85)) ∧ (J88 s85 h83)))))) ∧ ((decide ((((u_qWheren : Nat) : Int) : Int) > 0)) = false → (J88 s79 h7)))))))))
theorem ok_R_QueryText {u_qAggsa : Option Addr} {u_qAggsn u_qAggsc : Nat} {u_qWherea : Option Addr} {u_qWheren u_qWherec : Nat} {u_qBya : Option Addr} {u_qByn u_qByc : Nat} {u_qSize : Int} {u_qSlide : Int} {u_qDelay : Int} {u_qLate : Int} {h : Hp} {R : Value → Hp → Prop} (H : VC_R_QueryText u_qAggsa u_qAggsn u_qAggsc u_qWherea u_qWheren u_qWherec u_qBya u_qByn u_qByc u_qSize u_qSlide u_qDelay u_qLate h R) : CallOK Tryz.prog 10 [(vag [(vsl u_qAggsa u_qAggsn u_qAggsc), (vsl u_qWherea u_qWheren u_qWherec), (vsl u_qBya u_qByn u_qByc), (vi u_qSize), (vi u_qSlide), (vi u_qDelay), (vi u_qLate)])] h R :=
  call_of (cfg := ⟨[], [(4, ([4, 5], [.one (.str), .one (.int .i64)], []))], [(10, [0, 1, 2, 3, 4, 5, 6, 7, 8, 9, 10, 11, 12, 13, 14, 15]), (17, [0, 1, 2, 3, 7, 8, 12, 13, 17, 18, 4, 5, 6, 9, 10, 11, 14, 15, 16, 19, 20, 21])]⟩) noNG mixed Tryz.func10 [.ag [.v (vsl u_qAggsa u_qAggsn u_qAggsc), .v (vsl u_qWherea u_qWheren u_qWherec), .v (vsl u_qBya u_qByn u_qByc), .v (vi u_qSize), .v (vi u_qSlide), .v (vi u_qDelay), .v (vi u_qLate)]] (by kernel_rfl) rfl (by kernel_rfl) H

/-- What 'penstock/penstockref.nodeText' asks. -/
def VC_R_nodeText (u_la : Option Addr) (u_ln u_lc : Nat) (u_at : Int) (h : Hp) (R : Value → Hp → Prop) : Prop :=
  (∃ (b1 o2 : Nat), (u_la = some ⟨b1, o2, none⟩ ∧ (0 : Int) ≤ u_at ∧ u_at < ((u_ln : Nat) : Int)) ∧ (∃ (x3 : Int) (x4 : Int) (x5 : Int) (x6 : Int) (x7 : Int) (x8 : Int), (Hp.row h b1 (o2 + u_at.toNat * 6) 6 = some [(vi x3), (vi x4), (vi x5), (vi x6), (vi x7), (vi x8)]) ∧ (∀ (b9 : Nat), h b9 = none → let h10 : Hp := Hp.set h b9 (cellsO [(vs ⟨#[116]⟩), (vs ⟨#[107]⟩), (vs ⟨#[97]⟩), (vs ⟨#[98]⟩)] 9); (∀ (b11 : Nat), h10 b11 = none → let h12 : Hp := Hp.set h10 b11 (cellsO [(vs ⟨#[43]⟩), (vs ⟨#[45]⟩), (vs ⟨#[42]⟩), (vs ⟨#[97, 110, 100]⟩), (vs ⟨#[111, 114]⟩), (vs ⟨#[60]⟩), (vs ⟨#[61]⟩)] 9); (((decide ((x3 : Int) = 1)) = true → (((decide ((x8 : Int) < 0)) = true → (∃ (x13 : Int), (IsW x13 (-x8)) ∧ (CallOK Tryz.prog 22 [(vi x13)] h12 fun v14 h15 => ∃ (s16 : ByteArray), v14 = (vs s16) ∧ (∃ (s17 : ByteArray), (Rd Tryz.prog ((eqGuard .add 9 (.const (vs ⟨#[40, 48, 32, 45, 32]⟩)) (.tmp 26) (vs ⟨#[40, 48, 32, 45, 32]⟩) (vs s16) >>= fun _ => binOp .add 9 (vs ⟨#[40, 48, 32, 45, 32]⟩) (vs s16))) h15 (vs s17)) ∧ (∃ (s18 : ByteArray), (Rd Tryz.prog ((eqGuard .add 9 (.tmp 27) (.const (vs ⟨#[41]⟩)) (vs s17) (vs ⟨#[41]⟩) >>= fun _ => binOp .add 9 (vs s17) (vs ⟨#[41]⟩))) h15 (vs s18)) ∧ R (vs s18) h15))))) ∧ ((decide ((x8 : Int) < 0)) = false → (CallOK Tryz.prog 47 [(vag [(vi x7), (vi x8)])] h12 fun v20 h21 => ∃ (s22 : ByteArray), v20 = (vs s22) ∧ R (vs s22) h21)))) ∧ ((decide ((x3 : Int) = 1)) = false → (((decide ((x3 : Int) = 2)) = true → (∃ (b23 o24 : Nat), ((some (⟨b9, 0, none⟩ : Addr)) = some ⟨b23, o24, none⟩ ∧ (0 : Int) ≤ x6 ∧ x6 < ((4 : Nat) : Int)) ∧ (∃ (s25 : ByteArray), (Hp.cell h12 b23 (o24 + x6.toNat * 1) = some (vs s25)) ∧ R (vs s25) h12))) ∧ ((decide ((x3 : Int) = 2)) = false → (((decide ((x3 : Int) = 3)) = true → (CallOK Tryz.prog 21 [(vsl u_la u_ln u_lc), (vi x4)] h12 fun v26 h27 => ∃ (s28 : ByteArray), v26 = (vs s28) ∧ (∃ (s29 : ByteArray), (Rd Tryz.prog ((eqGuard .add 9 (.const (vs ⟨#[40, 45, 32]⟩)) (.tmp 44) (vs ⟨#[40, 45, 32]⟩) (vs s28) >>= fun _ => binOp .add 9 (vs ⟨#[40, 45, 32]⟩) (vs s28))) h27 (vs s29)) ∧ (∃ (s30 : ByteArray), (Rd Tryz.prog ((eqGuard .add 9 (.tmp 45) (.const (vs ⟨#[41]⟩)) (vs s29) (vs ⟨#[41]⟩) >>= fun _ => binOp .add 9 (vs s29) (vs ⟨#[41]⟩))) h27 (vs s30)) ∧ R (vs s30) h27)))) ∧ ((decide ((x3 : Int) = 3)) = false → (((decide ((x3 : Int) = 4)) = true → (CallOK Tryz.prog 21 [(vsl u_la u_ln u_lc), (vi x4)] h12 fun v31 h32 => ∃ (s33 : ByteArray), v31 = (vs s33) ∧ (∃ (s34 : ByteArray), (Rd Tryz.prog ((eqGuard .add 9 (.const (vs ⟨#[40, 110, 111, 116, 32]⟩)) (.tmp 52) (vs ⟨#[40, 110, 111, 116, 32]⟩) (vs s33) >>= fun _ => binOp .add 9 (vs ⟨#[40, 110, 111, 116, 32]⟩) (vs s33))) h32 (vs s34)) ∧ (∃ (s35 : ByteArray), (Rd Tryz.prog ((eqGuard .add 9 (.tmp 53) (.const (vs ⟨#[41]⟩)) (vs s34) (vs ⟨#[41]⟩) >>= fun _ => binOp .add 9 (vs s34) (vs ⟨#[41]⟩))) h32 (vs s35)) ∧ R (vs s35) h32)))) ∧ ((decide ((x3 : Int) = 4)) = false → (((decide ((x3 : Int) = 5)) = true → (CallOK Tryz.prog 21 [(vsl u_la u_ln u_lc), (vi x4)] h12 fun v36 h37 => ∃ (s38 : ByteArray), v36 = (vs s38) ∧ (∃ (s39 : ByteArray), (Rd Tryz.prog ((eqGuard .add 9 (.const (vs ⟨#[40]⟩)) (.tmp 60) (vs ⟨#[40]⟩) (vs s38) >>= fun _ => binOp .add 9 (vs ⟨#[40]⟩) (vs s38))) h37 (vs s39)) ∧ (∃ (s40 : ByteArray), (Rd Tryz.prog ((eqGuard .add 9 (.tmp 61) (.const (vs ⟨#[32, 105, 115, 32, 110, 117, 108, 108, 41]⟩)) (vs s39) (vs ⟨#[32, 105, 115, 32, 110, 117, 108, 108, 41]⟩) >>= fun _ => binOp .add 9 (vs s39) (vs ⟨#[32, 105, 115, 32, 110, 117, 108, 108, 41]⟩))) h37 (vs s40)) ∧ R (vs s40) h37)))) ∧ ((decide ((x3 : Int) = 5)) = false → (∃ (x42 : Int), (IsW x42 (x3 - 6)) ∧ (∃ (b43 o44 : Nat), ((some (⟨b11, 0, none⟩ : Addr)) = some ⟨b43, o44, none⟩ ∧ (0 : Int) ≤ x42 ∧ x42 < ((7 : Nat) : Int)) ∧ (∃ (s45 : ByteArray), (Hp.cell h12 b43 (o44 + x42.toNat * 1) = some (vs s45)) ∧ (CallOK Tryz.prog 21 [(vsl u_la u_ln u_lc), (vi x4)] h12 fun v46 h47 => ∃ (s48 : ByteArray), v46 = (vs s48) ∧ ((Hp.cell h47 b43 (o44 + x42.toNat * 1) = some (vs s45)) ∧ (∃ (s49 : ByteArray), (Rd Tryz.prog ((eqGuard .add 9 (.const (vs ⟨#[40]⟩)) (.tmp 66) (vs ⟨#[40]⟩) (vs s48) >>= fun _ => binOp .add 9 (vs ⟨#[40]⟩) (vs s48))) h47 (vs s49)) ∧ (∃ (s50 : ByteArray), (Rd Tryz.prog ((eqGuard .add 9 (.tmp 67) (.const (vs ⟨#[32]⟩)) (vs s49) (vs ⟨#[32]⟩) >>= fun _ => binOp .add 9 (vs s49) (vs ⟨#[32]⟩))) h47 (vs s50)) ∧ (∃ (s51 : ByteArray), (Rd Tryz.prog ((eqGuard .add 9 (.tmp 68) (.tmp 74) (vs s50) (vs s45) >>= fun _ => binOp .add 9 (vs s50) (vs s45))) h47 (vs s51)) ∧ (∃ (s52 : ByteArray), (Rd Tryz.prog ((eqGuard .add 9 (.tmp 75) (.const (vs ⟨#[32]⟩)) (vs s51) (vs ⟨#[32]⟩) >>= fun _ => binOp .add 9 (vs s51) (vs ⟨#[32]⟩))) h47 (vs s52)) ∧ (CallOK Tryz.prog 21 [(vsl u_la u_ln u_lc), (vi x5)] h47 fun v53 h54 => ∃ (s55 : ByteArray), v53 = (vs s55) ∧ ((Rd Tryz.prog ((eqGuard .add 9 (.tmp 75) (.const (vs ⟨#[32]⟩)) (vs s51) (vs ⟨#[32]⟩) >>= fun _ => binOp .add 9 (vs s51) (vs ⟨#[32]⟩))) h54 (vs s52)) ∧ ((Rd Tryz.prog ((eqGuard .add 9 (.tmp 68) (.tmp 74) (vs s50) (vs s45) >>= fun _ => binOp .add 9 (vs s50) (vs s45))) h54 (vs s51)) ∧ ((Rd Tryz.prog ((eqGuard .add 9 (.tmp 67) (.const (vs ⟨#[32]⟩)) (vs s49) (vs ⟨#[32]⟩) >>= fun _ => binOp .add 9 (vs s49) (vs ⟨#[32]⟩))) h54 (vs s50)) ∧ ((Rd Tryz.prog ((eqGuard .add 9 (.const (vs ⟨#[40]⟩)) (.tmp 66) (vs ⟨#[40]⟩) (vs s48) >>= fun _ => binOp .add 9 (vs ⟨#[40]⟩) (vs s48))) h54 (vs s49)) ∧ ((Hp.cell h54 b43 (o44 + x42.toNat * 1) = some (vs s45)) ∧ (∃ (s56 : ByteArray), (Rd Tryz.prog ((eqGuard .add 9 (.tmp 76) (.tmp 80) (vs s52) (vs s55) >>= fun _ => binOp .add 9 (vs s52) (vs s55))) h54 (vs s56)) ∧ (∃ (s57 : ByteArray), (Rd Tryz.prog ((eqGuard .add 9 (.tmp 81) (.const (vs ⟨#[41]⟩)) (vs s56) (vs ⟨#[41]⟩) >>= fun _ => binOp .add 9 (vs s56) (vs ⟨#[41]⟩))) h54 (vs s57)) ∧ R (vs s57) h54)))))))))))))))))))))))))))))))
theorem ok_R_nodeText {u_la : Option Addr} {u_ln u_lc : Nat} {u_at : Int} {h : Hp} {R : Value → Hp → Prop} (H : VC_R_nodeText u_la u_ln u_lc u_at h R) : CallOK Tryz.prog 21 [(vsl u_la u_ln u_lc), (vi u_at)] h R :=
  call_of (cfg := ⟨[], [], [(17, [0, 1, 2, 6, 7, 8, 9, 10, 11, 14, 15, 16, 3, 4, 5, 12, 13, 17, 18, 19, 20])]⟩) noNG mixed Tryz.func21 [.one (.v (vsl u_la u_ln u_lc)), .one (.v (vi u_at))] (by kernel_rfl) rfl (by kernel_rfl) H

end Go.Proofs.YtonlacplogbodaaGreatDoor
/-
  What functions of the program ask, in words: each is what the framework reckons from the loaded code (the kernel holds the two together), and gives the function's call. Conditions: none.
-/
namespace Go.Proofs.YtonlacplogbodaaGreatDoor
open Go Go.Vc
set_option maxRecDepth 100000
set_option linter.unusedVariables false
/-- What 'penstock/query.signs' asks. -/
def VC_query_signs  (h : Hp) (R : Value → Hp → Prop) : Prop :=
  (SemOK Tryz.prog (Instr.makeMap 84 none) h fun v1 h2 => ∃ (y3 : Value), v1 = y3 ∧ (SemOKu Tryz.prog (Instr.mapUpdate 84 y3 (vi 6) (vs ⟨#[43]⟩)) h2 fun h4 => (SemOKu Tryz.prog (Instr.mapUpdate 84 y3 (vi 7) (vs ⟨#[45]⟩)) h4 fun h5 => (SemOKu Tryz.prog (Instr.mapUpdate 84 y3 (vi 8) (vs ⟨#[42]⟩)) h5 fun h6 => (SemOKu Tryz.prog (Instr.mapUpdate 84 y3 (vi 9) (vs ⟨#[97, 110, 100]⟩)) h6 fun h7 => (SemOKu Tryz.prog (Instr.mapUpdate 84 y3 (vi 10) (vs ⟨#[111, 114]⟩)) h7 fun h8 => (SemOKu Tryz.prog (Instr.mapUpdate 84 y3 (vi 11) (vs ⟨#[60]⟩)) h8 fun h9 => (SemOKu Tryz.prog (Instr.mapUpdate 84 y3 (vi 12) (vs ⟨#[61]⟩)) h9 fun h10 => R y3 h10))))))))
theorem ok_query_signs  {h : Hp} {R : Value → Hp → Prop} (H : VC_query_signs  h R) : CallOK Tryz.prog 42 [] h R :=
  call_of (cfg := ⟨[], [], []⟩) noNG mixed Tryz.func42 [] (by kernel_rfl) rfl (by kernel_rfl) H

/-- What 'penstock/query.exprText' asks. -/
def VC_query_exprText (u_la : Option Addr) (u_ln u_lc : Nat) (h : Hp) (R : Value → Hp → Prop) : Prop :=
  (SemOK Tryz.prog (Instr.makeSlice 47 (vi ((u_ln : Nat) : Int)) (vi ((u_ln : Nat) : Int))) h fun v1 h2 => ∃ (a3 : Option Addr) (n3 c3 : Nat), v1 = (vsl a3 n3 c3) ∧ (∃ (I5 : List Value → Hp → Prop) (m6 : List Value → Hp → Nat), I5 [(vi 0)] h2 ∧ ∀ (vs7 : List Value) (h8 : Hp), I5 vs7 h8 → ∃ (x9 : Int), vs7 = [(vi x9)] ∧ (((decide ((x9 : Int) < ((u_ln : Nat) : Int))) = true → (let J92 : Hp → Prop := fun (h93 : Hp) => (∃ (x94 : Int), (IsW x94 (x9 + 1)) ∧ (I5 [(vi x94)] h93 ∧ m6 [(vi x94)] h93 < m6 vs7 h8)); (∃ (b12 o13 : Nat), (u_la = some ⟨b12, o13, none⟩ ∧ (0 : Int) ≤ x9 ∧ x9 < ((u_ln : Nat) : Int)) ∧ (∃ (x14 : Int) (x15 : Int) (x16 : Int) (x17 : Int) (x18 : Int) (x19 : Int), (Hp.row h8 b12 (o13 + x9.toNat * 6) 6 = some [(vi x14), (vi x15), (vi x16), (vi x17), (vi x18), (vi x19)]) ∧ (((decide ((x14 : Int) = 1)) = true → (CallOK Tryz.prog 41 [(vag [(vi x18), (vi x19)])] h8 fun v20 h21 => ∃ (s22 : ByteArray), v20 = (vs s22) ∧ (∃ (b23 o24 : Nat), (a3 = some ⟨b23, o24, none⟩ ∧ (0 : Int) ≤ x9 ∧ x9 < ((n3 : Nat) : Int)) ∧ (Hp.store h21 b23 (o24 + x9.toNat * 1) [(vs s22)] fun h25 => (((decide ((x19 : Int) < 0)) = true → (∃ (x26 : Int), (IsW x26 (-x19)) ∧ (CallOK Tryz.prog 20 [(vi x26)] h25 fun v27 h28 => ∃ (s29 : ByteArray), v27 = (vs s29) ∧ (∃ (s30 : ByteArray), (Rd Tryz.prog ((eqGuard .add 9 (.const (vs ⟨#[40, 48, 32, 45, 32]⟩)) (.tmp 59) (vs ⟨#[40, 48, 32, 45, 32]⟩) (vs s29) >>= fun _ => binOp .add 9 (vs ⟨#[40, 48, 32, 45, 32]⟩) (vs s29))) h28 (vs s30)) ∧ (∃ (s31 : ByteArray), (Rd Tryz.prog ((eqGuard .add 9 (.tmp 60) (.const (vs ⟨#[41]⟩)) (vs s30) (vs ⟨#[41]⟩) >>= fun _ => binOp .add 9 (vs s30) (vs ⟨#[41]⟩))) h28 (vs s31)) ∧ (∃ (b32 o33 : Nat), (a3 = some ⟨b32, o33, none⟩ ∧ (0 : Int) ≤ x9 ∧ x9 < ((n3 : Nat) : Int)) ∧ (Hp.store h28 b32 (o33 + x9.toNat * 1) [(vs s31)] fun h34 => (J92 h34)))))))) ∧ ((decide ((x19 : Int) < 0)) = false → (J92 h25))))))) ∧ ((decide ((x14 : Int) = 1)) = false → (((decide ((x14 : Int) = 2)) = true → (∃ (a37 : Option Addr) (n37 c37 : Nat), (Hp.cell h8 1 0 = some (vsl a37 n37 c37)) ∧ (∃ (b38 o39 : Nat), (a37 = some ⟨b38, o39, none⟩ ∧ (0 : Int) ≤ x17 ∧ x17 < ((n37 : Nat) : Int)) ∧ (∃ (s40 : ByteArray), (Hp.cell h8 b38 (o39 + x17.toNat * 1) = some (vs s40)) ∧ (∃ (b41 o42 : Nat), (a3 = some ⟨b41, o42, none⟩ ∧ (0 : Int) ≤ x9 ∧ x9 < ((n3 : Nat) : Int)) ∧ (Hp.store h8 b41 (o42 + x9.toNat * 1) [(vs s40)] fun h43 => (J92 h43))))))) ∧ ((decide ((x14 : Int) = 2)) = false → (((decide ((x14 : Int) = 3)) = true → (∃ (b45 o46 : Nat), (a3 = some ⟨b45, o46, none⟩ ∧ (0 : Int) ≤ x15 ∧ x15 < ((n3 : Nat) : Int)) ∧ (∃ (s47 : ByteArray), (Hp.cell h8 b45 (o46 + x15.toNat * 1) = some (vs s47)) ∧ (∃ (s48 : ByteArray), (Rd Tryz.prog ((eqGuard .add 9 (.const (vs ⟨#[40, 45, 32]⟩)) (.tmp 81) (vs ⟨#[40, 45, 32]⟩) (vs s47) >>= fun _ => binOp .add 9 (vs ⟨#[40, 45, 32]⟩) (vs s47))) h8 (vs s48)) ∧ (∃ (s49 : ByteArray), (Rd Tryz.prog ((eqGuard .add 9 (.tmp 82) (.const (vs ⟨#[41]⟩)) (vs s48) (vs ⟨#[41]⟩) >>= fun _ => binOp .add 9 (vs s48) (vs ⟨#[41]⟩))) h8 (vs s49)) ∧ (∃ (b50 o51 : Nat), (a3 = some ⟨b50, o51, none⟩ ∧ (0 : Int) ≤ x9 ∧ x9 < ((n3 : Nat) : Int)) ∧ (Hp.store h8 b50 (o51 + x9.toNat * 1) [(vs s49)] fun h52 => (J92 h52)))))))) ∧ ((decide ((x14 : Int) = 3)) = false → (((decide ((x14 : Int) = 4)) = true → (∃ (b54 o55 : Nat), (a3 = some ⟨b54, o55, none⟩ ∧ (0 : Int) ≤ x15 ∧ x15 < ((n3 : Nat) : Int)) ∧ (∃ (s56 : ByteArray), (Hp.cell h8 b54 (o55 + x15.toNat * 1) = some (vs s56)) ∧ (∃ (s57 : ByteArray), (Rd Tryz.prog ((eqGuard .add 9 (.const (vs ⟨#[40, 110, 111, 116, 32]⟩)) (.tmp 93) (vs ⟨#[40, 110, 111, 116, 32]⟩) (vs s56) >>= fun _ => binOp .add 9 (vs ⟨#[40, 110, 111, 116, 32]⟩) (vs s56))) h8 (vs s57)) ∧ (∃ (s58 : ByteArray), (Rd Tryz.prog ((eqGuard .add 9 (.tmp 94) (.const (vs ⟨#[41]⟩)) (vs s57) (vs ⟨#[41]⟩) >>= fun _ => binOp .add 9 (vs s57) (vs ⟨#[41]⟩))) h8 (vs s58)) ∧ (∃ (b59 o60 : Nat), (a3 = some ⟨b59, o60, none⟩ ∧ (0 : Int) ≤ x9 ∧ x9 < ((n3 : Nat) : Int)) ∧ (Hp.store h8 b59 (o60 + x9.toNat * 1) [(vs s58)] fun h61 => (J92 h61)))))))) ∧ ((decide ((x14 : Int) = 4)) = false → (((decide ((x14 : Int) = 5)) = true → (∃ (b63 o64 : Nat), (a3 = some ⟨b63, o64, none⟩ ∧ (0 : Int) ≤ x15 ∧ x15 < ((n3 : Nat) : Int)) ∧ (∃ (s65 : ByteArray), (Hp.cell h8 b63 (o64 + x15.toNat * 1) = some (vs s65)) ∧ (∃ (s66 : ByteArray), (Rd Tryz.prog ((eqGuard .add 9 (.const (vs ⟨#[40]⟩)) (.tmp 105) (vs ⟨#[40]⟩) (vs s65) >>= fun _ => binOp .add 9 (vs ⟨#[40]⟩) (vs s65))) h8 (vs s66)) ∧ (∃ (s67 : ByteArray), (Rd Tryz.prog ((eqGuard .add 9 (.tmp 106) (.const (vs ⟨#[32, 105, 115, 32, 110, 117, 108, 108, 41]⟩)) (vs s66) (vs ⟨#[32, 105, 115, 32, 110, 117, 108, 108, 41]⟩) >>= fun _ => binOp .add 9 (vs s66) (vs ⟨#[32, 105, 115, 32, 110, 117, 108, 108, 41]⟩))) h8 (vs s67)) ∧ (∃ (b68 o69 : Nat), (a3 = some ⟨b68, o69, none⟩ ∧ (0 : Int) ≤ x9 ∧ x9 < ((n3 : Nat) : Int)) ∧ (Hp.store h8 b68 (o69 + x9.toNat * 1) [(vs s67)] fun h70 => (J92 h70)))))))) ∧ ((decide ((x14 : Int) = 5)) = false → (∃ (b72 o73 : Nat), (a3 = some ⟨b72, o73, none⟩ ∧ (0 : Int) ≤ x15 ∧ x15 < ((n3 : Nat) : Int)) ∧ (∃ (s74 : ByteArray), (Hp.cell h8 b72 (o73 + x15.toNat * 1) = some (vs s74)) ∧ (∃ (s75 : ByteArray), (Rd Tryz.prog ((eqGuard .add 9 (.const (vs ⟨#[40]⟩)) (.tmp 24) (vs ⟨#[40]⟩) (vs s74) >>= fun _ => binOp .add 9 (vs ⟨#[40]⟩) (vs s74))) h8 (vs s75)) ∧ (∃ (s76 : ByteArray), (Rd Tryz.prog ((eqGuard .add 9 (.tmp 25) (.const (vs ⟨#[32]⟩)) (vs s75) (vs ⟨#[32]⟩) >>= fun _ => binOp .add 9 (vs s75) (vs ⟨#[32]⟩))) h8 (vs s76)) ∧ (∃ (b77 o78 : Nat), (a3 = some ⟨b77, o78, none⟩ ∧ (0 : Int) ≤ x16 ∧ x16 < ((n3 : Nat) : Int)) ∧ (∃ (s79 : ByteArray), (Hp.cell h8 b77 (o78 + x16.toNat * 1) = some (vs s79)) ∧ (CallOK Tryz.prog 42 [] h8 fun v80 h81 => ∃ (y82 : Value), v80 = y82 ∧ ((Hp.cell h81 b77 (o78 + x16.toNat * 1) = some (vs s79)) ∧ ((Rd Tryz.prog ((eqGuard .add 9 (.tmp 25) (.const (vs ⟨#[32]⟩)) (vs s75) (vs ⟨#[32]⟩) >>= fun _ => binOp .add 9 (vs s75) (vs ⟨#[32]⟩))) h81 (vs s76)) ∧ ((Rd Tryz.prog ((eqGuard .add 9 (.const (vs ⟨#[40]⟩)) (.tmp 24) (vs ⟨#[40]⟩) (vs s74) >>= fun _ => binOp .add 9 (vs ⟨#[40]⟩) (vs s74))) h81 (vs s75)) ∧ ((Hp.cell h81 b72 (o73 + x15.toNat * 1) = some (vs s74)) ∧ (∃ (s83 : ByteArray), (Rd Tryz.prog (Instr.lookup 84 y82 (vi x14) false) h81 (vs s83)) ∧ (∃ (s84 : ByteArray), (Rd Tryz.prog ((eqGuard .add 9 (.tmp 26) (.tmp 30) (vs s76) (vs s83) >>= fun _ => binOp .add 9 (vs s76) (vs s83))) h81 (vs s84)) ∧ (∃ (s85 : ByteArray), (Rd Tryz.prog ((eqGuard .add 9 (.tmp 31) (.const (vs ⟨#[32]⟩)) (vs s84) (vs ⟨#[32]⟩) >>= fun _ => binOp .add 9 (vs s84) (vs ⟨#[32]⟩))) h81 (vs s85)) ∧ (∃ (s86 : ByteArray), (Rd Tryz.prog ((eqGuard .add 9 (.tmp 32) (.tmp 37) (vs s85) (vs s79) >>= fun _ => binOp .add 9 (vs s85) (vs s79))) h81 (vs s86)) ∧ (∃ (s87 : ByteArray), (Rd Tryz.prog ((eqGuard .add 9 (.tmp 38) (.const (vs ⟨#[41]⟩)) (vs s86) (vs ⟨#[41]⟩) >>= fun _ => binOp .add 9 (vs s86) (vs ⟨#[41]⟩))) h81 (vs s87)) ∧ (∃ (b88 o89 : Nat), (a3 = some ⟨b88, o89, none⟩ ∧ (0 : Int) ≤ x9 ∧ x9 < ((n3 : Nat) : Int)) ∧ (Hp.store h81 b88 (o89 + x9.toNat * 1) [(vs s87)] fun h90 => (J92 h90))))))))))))))))))))))))))))))))) ∧ ((decide ((x9 : Int) < ((u_ln : Nat) : Int))) = false → (∃ (x95 : Int), (IsW x95 (((n3 : Nat) : Int) - 1)) ∧ (∃ (b96 o97 : Nat), (a3 = some ⟨b96, o97, none⟩ ∧ (0 : Int) ≤ x95 ∧ x95 < ((n3 : Nat) : Int)) ∧ (∃ (s98 : ByteArray), (Hp.cell h8 b96 (o97 + x95.toNat * 1) = some (vs s98)) ∧ R (vs s98) h8)))))))
theorem ok_query_exprText {u_la : Option Addr} {u_ln u_lc : Nat} {h : Hp} {R : Value → Hp → Prop} (H : VC_query_exprText u_la u_ln u_lc h R) : CallOK Tryz.prog 18 [(vsl u_la u_ln u_lc)] h R :=
  call_of (cfg := ⟨[], [(3, ([11], [.one (.int .i64)], []))], [(6, [0, 1, 2, 3, 4, 5, 6, 7, 8, 10, 11, 15, 16, 17, 18, 19, 9, 12, 13, 14, 20, 21, 22, 23])]⟩) noNG mixed Tryz.func18 [.one (.v (vsl u_la u_ln u_lc))] (by kernel_rfl) rfl (by kernel_rfl) H

/-- What 'penstock/query.Text' asks. -/
def VC_query_Text (u_qAggsa : Option Addr) (u_qAggsn u_qAggsc : Nat) (u_qWherea : Option Addr) (u_qWheren u_qWherec : Nat) (u_qBya : Option Addr) (u_qByn u_qByc : Nat) (u_qSize : Int) (u_qSlide : Int) (u_qDelay : Int) (u_qLate : Int) (h : Hp) (R : Value → Hp → Prop) : Prop :=
  (∃ (I2 : List Value → Hp → Prop) (m3 : List Value → Hp → Nat), I2 [(vsl none 0 0), (vi 0)] h ∧ ∀ (vs4 : List Value) (h5 : Hp), I2 vs4 h5 → ∃ (a6 : Option Addr) (n6 c6 : Nat) (x7 : Int), vs4 = [(vsl a6 n6 c6), (vi x7)] ∧ (((decide ((x7 : Int) < ((u_qAggsn : Nat) : Int))) = true → (∃ (b10 o11 : Nat), (u_qAggsa = some ⟨b10, o11, none⟩ ∧ (0 : Int) ≤ x7 ∧ x7 < ((u_qAggsn : Nat) : Int)) ∧ (∃ (x12 : Int) (a13 : Option Addr) (n13 c13 : Nat), (Hp.row h5 b10 (o11 + x7.toNat * 2) 2 = some [(vi x12), (vsl a13 n13 c13)]) ∧ (let J19 : ByteArray → Hp → Prop := fun (s26 : ByteArray) (h27 : Hp) => (∃ (a28 : Option Addr) (n28 c28 : Nat), (Hp.cell h27 0 0 = some (vsl a28 n28 c28)) ∧ (∃ (b29 o30 : Nat), (a28 = some ⟨b29, o30, none⟩ ∧ (0 : Int) ≤ x12 ∧ x12 < ((n28 : Nat) : Int)) ∧ (∃ (s31 : ByteArray), (Hp.cell h27 b29 (o30 + x12.toNat * 1) = some (vs s31)) ∧ (∃ (s32 : ByteArray), (Rd Tryz.prog ((eqGuard .add 9 (.tmp 27) (.const (vs ⟨#[40]⟩)) (vs s31) (vs ⟨#[40]⟩) >>= fun _ => binOp .add 9 (vs s31) (vs ⟨#[40]⟩))) h27 (vs s32)) ∧ (∃ (s33 : ByteArray), (Rd Tryz.prog ((eqGuard .add 9 (.tmp 28) (.tmp 29) (vs s32) (vs s26) >>= fun _ => binOp .add 9 (vs s32) (vs s26))) h27 (vs s33)) ∧ (∃ (s34 : ByteArray), (Rd Tryz.prog ((eqGuard .add 9 (.tmp 30) (.const (vs ⟨#[41]⟩)) (vs s33) (vs ⟨#[41]⟩) >>= fun _ => binOp .add 9 (vs s33) (vs ⟨#[41]⟩))) h27 (vs s34)) ∧ (∀ (b35 : Nat), h27 b35 = none → let h36 : Hp := Hp.set h27 b35 (cellsO [(vs s34)] 9); (SemOK Tryz.prog (Builtin.append_ #[47, 47] 47 #[(vsl a6 n6 c6), (vsl (some (⟨b35, 0, none⟩ : Addr)) 1 1)]) h36 fun v37 h38 => ∃ (a39 : Option Addr) (n39 c39 : Nat), v37 = (vsl a39 n39 c39) ∧ (∃ (x41 : Int), (IsW x41 (x7 + 1)) ∧ (I2 [(vsl a39 n39 c39), (vi x41)] h38 ∧ m3 [(vsl a39 n39 c39), (vi x41)] h38 < m3 vs4 h5)))))))))); (((decide ((x12 : Int) ≠ 1)) = true → (CallOK Tryz.prog 18 [(vsl a13 n13 c13)] h5 fun v14 h15 => ∃ (s16 : ByteArray), v14 = (vs s16) ∧ (J19 s16 h15))) ∧ ((decide ((x12 : Int) ≠ 1)) = false → (J19 ⟨#[42]⟩ h5))))))) ∧ ((decide ((x7 : Int) < ((u_qAggsn : Nat) : Int))) = false → (CallOK Tryz.prog 19 [(vsl a6 n6 c6), (vs ⟨#[44, 32]⟩)] h5 fun v42 h43 => ∃ (s44 : ByteArray), v42 = (vs s44) ∧ (∃ (s45 : ByteArray), (Rd Tryz.prog ((eqGuard .add 9 (.const (vs ⟨#[115, 101, 108, 101, 99, 116, 32]⟩)) (.tmp 36) (vs ⟨#[115, 101, 108, 101, 99, 116, 32]⟩) (vs s44) >>= fun _ => binOp .add 9 (vs ⟨#[115, 101, 108, 101, 99, 116, 32]⟩) (vs s44))) h43 (vs s45)) ∧ (∃ (s46 : ByteArray), (Rd Tryz.prog ((eqGuard .add 9 (.tmp 37) (.const (vs ⟨#[32, 102, 114, 111, 109, 32, 101, 118, 101, 110, 116, 115]⟩)) (vs s45) (vs ⟨#[32, 102, 114, 111, 109, 32, 101, 118, 101, 110, 116, 115]⟩) >>= fun _ => binOp .add 9 (vs s45) (vs ⟨#[32, 102, 114, 111, 109, 32, 101, 118, 101, 110, 116, 115]⟩))) h43 (vs s46)) ∧ (let J54 : ByteArray → Hp → Prop := fun (s60 : ByteArray) (h61 : Hp) => (let J69 : ByteArray → Hp → Prop := fun (s71 : ByteArray) (h72 : Hp) => (∃ (s73 : ByteArray), (Rd Tryz.prog ((eqGuard .add 9 (.tmp 59) (.const (vs ⟨#[32, 119, 105, 110, 100, 111, 119, 32]⟩)) (vs s71) (vs ⟨#[32, 119, 105, 110, 100, 111, 119, 32]⟩) >>= fun _ => binOp .add 9 (vs s71) (vs ⟨#[32, 119, 105, 110, 100, 111, 119, 32]⟩))) h72 (vs s73)) ∧ (InvOK Tryz.prog (Value.func (.func 20) #[] #[]) [(vi u_qSize)] h72 fun v74 h75 => ∃ (s76 : ByteArray), v74 = (vs s76) ∧ ((Rd Tryz.prog ((eqGuard .add 9 (.tmp 59) (.const (vs ⟨#[32, 119, 105, 110, 100, 111, 119, 32]⟩)) (vs s71) (vs ⟨#[32, 119, 105, 110, 100, 111, 119, 32]⟩) >>= fun _ => binOp .add 9 (vs s71) (vs ⟨#[32, 119, 105, 110, 100, 111, 119, 32]⟩))) h75 (vs s73)) ∧ (∃ (s77 : ByteArray), (Rd Tryz.prog ((eqGuard .add 9 (.tmp 60) (.tmp 64) (vs s73) (vs s76) >>= fun _ => binOp .add 9 (vs s73) (vs s76))) h75 (vs s77)) ∧ (∃ (s78 : ByteArray), (Rd Tryz.prog ((eqGuard .add 9 (.tmp 65) (.const (vs ⟨#[32, 115, 108, 105, 100, 101, 32]⟩)) (vs s77) (vs ⟨#[32, 115, 108, 105, 100, 101, 32]⟩) >>= fun _ => binOp .add 9 (vs s77) (vs ⟨#[32, 115, 108, 105, 100, 101, 32]⟩))) h75 (vs s78)) ∧ (InvOK Tryz.prog (Value.func (.func 20) #[] #[]) [(vi u_qSlide)] h75 fun v79 h80 => ∃ (s81 : ByteArray), v79 = (vs s81) ∧ ((Rd Tryz.prog ((eqGuard .add 9 (.tmp 65) (.const (vs ⟨#[32, 115, 108, 105, 100, 101, 32]⟩)) (vs s77) (vs ⟨#[32, 115, 108, 105, 100, 101, 32]⟩) >>= fun _ => binOp .add 9 (vs s77) (vs ⟨#[32, 115, 108, 105, 100, 101, 32]⟩))) h80 (vs s78)) ∧ ((Rd Tryz.prog ((eqGuard .add 9 (.tmp 60) (.tmp 64) (vs s73) (vs s76) >>= fun _ => binOp .add 9 (vs s73) (vs s76))) h80 (vs s77)) ∧ ((Rd Tryz.prog ((eqGuard .add 9 (.tmp 59) (.const (vs ⟨#[32, 119, 105, 110, 100, 111, 119, 32]⟩)) (vs s71) (vs ⟨#[32, 119, 105, 110, 100, 111, 119, 32]⟩) >>= fun _ => binOp .add 9 (vs s71) (vs ⟨#[32, 119, 105, 110, 100, 111, 119, 32]⟩))) h80 (vs s73)) ∧ (∃ (s82 : ByteArray), (Rd Tryz.prog ((eqGuard .add 9 (.tmp 66) (.tmp 70) (vs s78) (vs s81) >>= fun _ => binOp .add 9 (vs s78) (vs s81))) h80 (vs s82)) ∧ (∃ (s83 : ByteArray), (Rd Tryz.prog ((eqGuard .add 9 (.tmp 71) (.const (vs ⟨#[32, 100, 101, 108, 97, 121, 32]⟩)) (vs s82) (vs ⟨#[32, 100, 101, 108, 97, 121, 32]⟩) >>= fun _ => binOp .add 9 (vs s82) (vs ⟨#[32, 100, 101, 108, 97, 121, 32]⟩))) h80 (vs s83)) ∧ (InvOK Tryz.prog (Value.func (.func 20) #[] #[]) [(vi u_qDelay)] h80 fun v84 h85 => ∃ (s86 : ByteArray), v84 = (vs s86) ∧ ((Rd Tryz.prog ((eqGuard .add 9 (.tmp 71) (.const (vs ⟨#[32, 100, 101, 108, 97, 121, 32]⟩)) (vs s82) (vs ⟨#[32, 100, 101, 108, 97, 121, 32]⟩) >>= fun _ => binOp .add 9 (vs s82) (vs ⟨#[32, 100, 101, 108, 97, 121, 32]⟩))) h85 (vs s83)) ∧ ((Rd Tryz.prog ((eqGuard .add 9 (.tmp 66) (.tmp 70) (vs s78) (vs s81) >>= fun _ => binOp .add 9 (vs s78) (vs s81))) h85 (vs s82)) ∧ ((Rd Tryz.prog ((eqGuard .add 9 (.tmp 65) (.const (vs ⟨#[32, 115, 108, 105, 100, 101, 32]⟩)) (vs s77) (vs ⟨#[32, 115, 108, 105, 100, 101, 32]⟩) >>= fun _ => binOp .add 9 (vs s77) (vs ⟨#[32, 115, 108, 105, 100, 101, 32]⟩))) h85 (vs s78)) ∧ ((Rd Tryz.prog ((eqGuard .add 9 (.tmp 60) (.tmp 64) (vs s73) (vs s76) >>= fun _ => binOp .add 9 (vs s73) (vs s76))) h85 (vs s77)) ∧ ((Rd Tryz.prog ((eqGuard .add 9 (.tmp 59) (.const (vs ⟨#[32, 119, 105, 110, 100, 111, 119, 32]⟩)) (vs s71) (vs ⟨#[32, 119, 105, 110, 100, 111, 119, 32]⟩) >>= fun _ => binOp .add 9 (vs s71) (vs ⟨#[32, 119, 105, 110, 100, 111, 119, 32]⟩))) h85 (vs s73)) ∧ (∃ (s87 : ByteArray), (Rd Tryz.prog ((eqGuard .add 9 (.tmp 72) (.tmp 76) (vs s83) (vs s86) >>= fun _ => binOp .add 9 (vs s83) (vs s86))) h85 (vs s87)) ∧ (∃ (s88 : ByteArray), (Rd Tryz.prog ((eqGuard .add 9 (.tmp 77) (.const (vs ⟨#[32, 108, 97, 116, 101, 32]⟩)) (vs s87) (vs ⟨#[32, 108, 97, 116, 101, 32]⟩) >>= fun _ => binOp .add 9 (vs s87) (vs ⟨#[32, 108, 97, 116, 101, 32]⟩))) h85 (vs s88)) ∧ (InvOK Tryz.prog (Value.func (.func 20) #[] #[]) [(vi u_qLate)] h85 fun v89 h90 => ∃ (s91 : ByteArray), v89 = (vs s91) ∧ ((Rd Tryz.prog ((eqGuard .add 9 (.tmp 77) (.const (vs ⟨#[32, 108, 97, 116, 101, 32]⟩)) (vs s87) (vs ⟨#[32, 108, 97, 116, 101, 32]⟩) >>= fun _ => binOp .add 9 (vs s87) (vs ⟨#[32, 108, 97, 116, 101, 32]⟩))) h90 (vs s88)) ∧ ((Rd Tryz.prog ((eqGuard .add 9 (.tmp 72) (.tmp 76) (vs s83) (vs s86) >>= fun _ => binOp .add 9 (vs s83) (vs s86))) h90 (vs s87)) ∧ ((Rd Tryz.prog ((eqGuard .add 9 (.tmp 71) (.const (vs ⟨#[32, 100, 101, 108, 97, 121, 32]⟩)) (vs s82) (vs ⟨#[32, 100, 101, 108, 97, 121, 32]⟩) >>= fun _ => binOp .add 9 (vs s82) (vs ⟨#[32, 100, 101, 108, 97, 121, 32]⟩))) h90 (vs s83)) ∧ ((Rd Tryz.prog ((eqGuard .add 9 (.tmp 66) (.tmp 70) (vs s78) (vs s81) >>= fun _ => binOp .add 9 (vs s78) (vs s81))) h90 (vs s82)) ∧ ((Rd Tryz.prog ((eqGuard .add 9 (.tmp 65) (.const (vs ⟨#[32, 115, 108, 105, 100, 101, 32]⟩)) (vs s77) (vs ⟨#[32, 115, 108, 105, 100, 101, 32]⟩) >>= fun _ => binOp .add 9 (vs s77) (vs ⟨#[32, 115, 108, 105, 100, 101, 32]⟩))) h90 (vs s78)) ∧ ((Rd Tryz.prog ((eqGuard .add 9 (.tmp 60) (.tmp 64) (vs s73) (vs s76) >>= fun _ => binOp .add 9 (vs s73) (vs s76))) h90 (vs s77)) ∧ ((Rd Tryz.prog ((eqGuard .add 9 (.tmp 59) (.const (vs ⟨#[32, 119, 105, 110, 100, 111, 119, 32]⟩)) (vs s71) (vs ⟨#[32, 119, 105, 110, 100, 111, 119, 32]⟩) >>= fun _ => binOp .add 9 (vs s71) (vs ⟨#[32, 119, 105, 110, 100, 111, 119, 32]⟩))) h90 (vs s73)) ∧ (∃ (s92 : ByteArray), (Rd Tryz.prog ((eqGuard .add 9 (.tmp 78) (.tmp 82) (vs s88) (vs s91) >>= fun _ => binOp .add 9 (vs s88) (vs s91))) h90 (vs s92)) ∧ R (vs s92) h90)))))))))))))))))))))))))))); (((decide ((((u_qByn : Nat) : Int) : Int) > 0)) = true → (CallOK Tryz.prog 18 [(vsl u_qBya u_qByn u_qByc)] h61 fun v62 h63 => ∃ (s64 : ByteArray), v62 = (vs s64) ∧ (∃ (s65 : ByteArray), (Rd Tryz.prog ((eqGuard .add 9 (.const (vs ⟨#[32, 103, 114, 111, 117, 112, 32, 98, 121, 32]⟩)) (.tmp 56) (vs ⟨#[32, 103, 114, 111, 117, 112, 32, 98, 121, 32]⟩) (vs s64) >>= fun _ => binOp .add 9 (vs ⟨#[32, 103, 114, 111, 117, 112, 32, 98, 121, 32]⟩) (vs s64))) h63 (vs s65)) ∧ (∃ (s66 : ByteArray), (Rd Tryz.prog ((eqGuard .add 9 (.tmp 53) (.tmp 57) (vs s60) (vs s65) >>= fun _ => binOp .add 9 (vs s60) (vs s65))) h63 (vs s66)) ∧ (J69 s66 h63))))) ∧ ((decide ((((u_qByn : Nat) : Int) : Int) > 0)) = false → (J69 s60 h61)))); (((decide ((((u_qWheren : Nat) : Int) : Int) > 0)) = true → (CallOK Tryz.prog 18 [(vsl u_qWherea u_qWheren u_qWherec)] h43 fun v47 h48 => ∃ (s49 : ByteArray), v47 = (vs s49) ∧ (∃ (s50 : ByteArray), (Rd Tryz.prog ((eqGuard .add 9 (.const (vs ⟨#[32, 119, 104, 101, 114, 101, 32]⟩)) (.tmp 46) (vs ⟨#[32, 119, 104, 101, 114, 101, 32]⟩) (vs s49) >>= fun _ => binOp .add 9 (vs ⟨#[32, 119, 104, 101, 114, 101, 32]⟩) (vs s49))) h48 (vs s50)) ∧ (∃ (s51 : ByteArray), (Rd Tryz.prog ((eqGuard .add 9 (.tmp 43) (.tmp 47) (vs s46) (vs s50) >>= fun _ => binOp .add 9 (vs s46) (vs s50))) h48 (vs s51)) ∧ (J54 s51 h48))))) ∧ ((decide ((((u_qWheren : Nat) : Int) : Int) > 0)) = false → (J54 s46 h43))))))))))
theorem ok_query_Text {u_qAggsa : Option Addr} {u_qAggsn u_qAggsc : Nat} {u_qWherea : Option Addr} {u_qWheren u_qWherec : Nat} {u_qBya : Option Addr} {u_qByn u_qByc : Nat} {u_qSize : Int} {u_qSlide : Int} {u_qDelay : Int} {u_qLate : Int} {h : Hp} {R : Value → Hp → Prop} (H : VC_query_Text u_qAggsa u_qAggsn u_qAggsc u_qWherea u_qWheren u_qWherec u_qBya u_qByn u_qByc u_qSize u_qSlide u_qDelay u_qLate h R) : CallOK Tryz.prog 9 [(vag [(vsl u_qAggsa u_qAggsn u_qAggsc), (vsl u_qWherea u_qWheren u_qWherec), (vsl u_qBya u_qByn u_qByc), (vi u_qSize), (vi u_qSlide), (vi u_qDelay), (vi u_qLate)])] h R :=
  call_of (cfg := ⟨[], [(3, ([3, 12], [.one (.slice), .one (.int .i64)], []))], [(16, [0, 1, 2, 3, 4, 8, 9, 10, 14, 15, 16, 20, 21, 22, 5, 6, 7, 11, 12, 13, 17, 18, 19, 23, 24, 25])]⟩) noNG mixed Tryz.func9 [.ag [.v (vsl u_qAggsa u_qAggsn u_qAggsc), .v (vsl u_qWherea u_qWheren u_qWherec), .v (vsl u_qBya u_qByn u_qByc), .v (vi u_qSize), .v (vi u_qSlide), .v (vi u_qDelay), .v (vi u_qLate)]] (by kernel_rfl) rfl (by kernel_rfl) H

end Go.Proofs.YtonlacplogbodaaGreatDoor
/-
  Plain law: the text of a question. Conditions: none.
-/
namespace Go.Proofs.YtonlacplogbodaaGreatDoor
open Go Go.Vc Go.Txt
set_option linter.unusedVariables false

def signW (op : Int) : Wd := if op = 6 then [43] else if op = 7 then [45] else if op = 8 then [42] else if op = 9 then wAnd else if op = 10 then wOr else if op = 11 then [60] else [61]
/-- The text of a node, of those of its own. -/
def txF (n : Nd) (a b : Wd) : Wd :=
  if n.op = 1 then (if n.v.2 < 0 then [40, 48, 32, 45, 32] ++ Lib.itoa (-n.v.2) ++ [41] else textV n.v)
  else if n.op = 2 then fieldW.getD n.n.toNat []
  else if n.op = 3 then [40, 45, 32] ++ a ++ [41]
  else if n.op = 4 then [40, 110, 111, 116, 32] ++ a ++ [41]
  else if n.op = 5 then [40] ++ a ++ [32, 105, 115, 32, 110, 117, 108, 108, 41]
  else [40] ++ a ++ [32] ++ signW n.op ++ [32] ++ b ++ [41]
abbrev txAt (l : List Nd) (i : Nat) : Wd := fAt [] txF l i
def txE (l : List Nd) : Wd := txAt l (l.length - 1)
theorem own_txF : Own2 txF := by
  intro n a b a' b' h ha hb
  unfold txF
  by_cases h1 : n.op = 1
  · rw [if_pos h1, if_pos h1]
  rw [if_neg h1, if_neg h1]
  by_cases h2 : n.op = 2
  · rw [if_pos h2, if_pos h2]
  rw [if_neg h2, if_neg h2]
  have ar := ar0 h
  rw [ha (by omega)]
  by_cases h3 : n.op = 3
  · rw [if_pos h3, if_pos h3]
  rw [if_neg h3, if_neg h3]
  by_cases h4 : n.op = 4
  · rw [if_pos h4, if_pos h4]
  rw [if_neg h4, if_neg h4]
  by_cases h5 : n.op = 5
  · rw [if_pos h5, if_pos h5]
  rw [if_neg h5, if_neg h5]
  have : arI n.op = 2 := by
    rcases arI_range h with q | q | q
    · omega
    · exfalso
      unfold arI at q
      split at q
      · omega
      · split at q <;> omega
    · exact q
  rw [hb (by omega)]
theorem nodeF_v {n : Nd} (hm : nodeF n = 0) : goodV n.v := by
  unfold nodeF at hm
  repeat' split at hm
  all_goals first | cases hm | skip
  rename_i h1
  exact Decidable.not_not.1 h1
theorem fieldW_len (i : Nat) : (fieldW.getD i []).length ≤ 1 := by
  match i with
  | 0 => decide
  | 1 => decide
  | 2 => decide
  | 3 => decide
  | n + 4 => exact Nat.zero_le _
theorem signW_len (op : Int) : (signW op).length ≤ 3 := by
  unfold signW
  repeat' split
  all_goals decide
theorem textV_len {v : Int × Int} (h : goodV v) : (textV v).length ≤ 14 := by
  unfold textV
  split
  · decide
  · split
    · unfold goodV at h
      exact itoa_len (by omega) (by omega)
    · split <;> decide
theorem leaf_len {n : Nd} (h : goodV n.v) (h0 : arI n.op = 0) (a b : Wd) : (txF n a b).length ≤ 20 := by
  have h12 : n.op = 1 ∨ n.op = 2 := by
    unfold arI at h0
    split at h0
    · assumption
    · split at h0
      · cases h0
      · split at h0 <;> cases h0
  unfold txF
  rcases h12 with h1 | h1
  · rw [if_pos h1]
    split
    · have := itoa_len (n := -n.v.2) (by unfold goodV at h; omega) (by unfold goodV at h; omega)
      simp only [List.length_append, List.length_cons, List.length_nil]
      omega
    · exact Nat.le_trans (textV_len h) (by decide)
  · rw [if_neg (by omega), if_pos h1]
    exact Nat.le_trans (fieldW_len _) (by decide)
theorem one_len {n : Nd} (h0 : arI n.op = 1) (a b : Wd) : (txF n a b).length ≤ a.length + 20 := by
  have ar : n.op = 3 ∨ n.op = 4 ∨ n.op = 5 := by
    unfold arI at h0
    split at h0
    · cases h0
    · split at h0
      · omega
      · split at h0 <;> cases h0
  unfold txF
  rw [if_neg (by omega), if_neg (by omega)]
  rcases ar with h | h | h
  · rw [if_pos h]; simp only [List.length_append, List.length_cons, List.length_nil]; omega
  · rw [if_neg (by omega), if_pos h]; simp only [List.length_append, List.length_cons, List.length_nil]; omega
  · rw [if_neg (by omega), if_neg (by omega), if_pos h]; simp only [List.length_append, List.length_cons, List.length_nil]; omega
theorem two_len {n : Nd} (h0 : arI n.op = 2) (a b : Wd) : (txF n a b).length ≤ a.length + b.length + 20 := by
  have ar : 6 ≤ n.op := by
    unfold arI at h0
    split at h0
    · cases h0
    · split at h0
      · cases h0
      · split at h0
        · omega
        · cases h0
  unfold txF
  have := signW_len n.op
  rw [if_neg (by omega), if_neg (by omega), if_neg (by omega), if_neg (by omega), if_neg (by omega)]
  simp only [List.length_append, List.length_cons, List.length_nil]
  omega
theorem Blk.txl {l : List Nd} (W : WfL l) (hN : ∀ n ∈ l, nodeF n = 0) {f e : Nat} (B : Blk l f e) : (txAt l (e - 1)).length ≤ 20 * (e - f) := by
  induction B with
  | @leaf j n h h0 =>
    rw [Nat.add_sub_cancel, txAt, fAt_wf own_txF h (W j n h)]
    have := leaf_len (nodeF_v (hN n (List.mem_of_getElem? h))) h0 (fAt [] txF l n.x.toNat) (fAt [] txF l n.y.toNat)
    omega
  | @one f j n B h h0 hx ih =>
    have hlt := B.lt
    rw [Nat.add_sub_cancel, txAt, fAt_wf own_txF h (W j n h)]
    have := one_len h0 (fAt [] txF l n.x.toNat) (fAt [] txF l n.y.toNat)
    rw [show n.x.toNat = j - 1 by omega] at this ⊢
    have ih : (fAt [] txF l (j - 1)).length ≤ 20 * (j - f) := ih
    omega
  | @two f g j n B B' h h0 hx hy ih1 ih2 =>
    have hlt := B.lt
    have hlt' := B'.lt
    rw [Nat.add_sub_cancel, txAt, fAt_wf own_txF h (W j n h)]
    have := two_len h0 (fAt [] txF l n.x.toNat) (fAt [] txF l n.y.toNat)
    rw [show n.x.toNat = g - 1 by omega, show n.y.toNat = j - 1 by omega] at this ⊢
    have ih1 : (fAt [] txF l (g - 1)).length ≤ 20 * (g - f) := ih1
    have ih2 : (fAt [] txF l (j - 1)).length ≤ 20 * (j - g) := ih2
    omega
theorem tx_len {l : List Nd} (O : OkE l) (hl : l.length ≤ 40) {i : Nat} (hi : i < l.length) : (txAt l i).length ≤ 800 := by
  obtain ⟨g, _, B⟩ := O.b.sub i (Nat.zero_le _) hi
  have := B.txl O.wf O.n
  rw [Nat.add_sub_cancel] at this
  have hb := B.lt
  omega
/-- What is gathered, as a text. -/
def aggT (a : Ag) : Wd := aggsW.getD a.1.toNat [] ++ [40] ++ (if a.1 = 1 then [42] else txE a.2) ++ [41]
def wSel : Wd := [115, 101, 108, 101, 99, 116, 32]
def wFrE : Wd := [32, 102, 114, 111, 109, 32, 101, 118, 101, 110, 116, 115]
def wWhr : Wd := [32, 119, 104, 101, 114, 101, 32]
def wGrp : Wd := [32, 103, 114, 111, 117, 112, 32, 98, 121, 32]
def wWin : Wd := [32, 119, 105, 110, 100, 111, 119, 32]
def wSli : Wd := [32, 115, 108, 105, 100, 101, 32]
def wDel : Wd := [32, 100, 101, 108, 97, 121, 32]
def wLat : Wd := [32, 108, 97, 116, 101, 32]
def wSep : Wd := [44, 32]
def numsT (s : Wd) (q : Qy) : Wd := s ++ wWin ++ Lib.itoa q.size ++ wSli ++ Lib.itoa q.slide ++ wDel ++ Lib.itoa q.delay ++ wLat ++ Lib.itoa q.late
def whT (s : Wd) (q : Qy) : Wd := if q.wh = [] then s else s ++ (wWhr ++ txE q.wh)
def byT (s : Wd) (q : Qy) : Wd := if q.by_ = [] then s else s ++ (wGrp ++ txE q.by_)
/-- The text of a question. -/
def queryT (q : Qy) : Wd := numsT (byT (whT (wSel ++ Lib.join (q.aggs.map aggT) wSep ++ wFrE) q) q) q
theorem join_snoc (xs : List Wd) (x sep : Wd) : Lib.join (xs ++ [x]) sep = if xs = [] then x else Lib.join xs sep ++ sep ++ x := by
  unfold Lib.join
  induction xs with
  | nil => simp [List.intercalate]
  | cons y ys ih =>
    rw [if_neg (by simp)]
    cases ys with
    | nil => simp [List.intercalate]
    | cons z zs =>
      rw [if_neg (by simp)] at ih
      simp only [List.cons_append, List.intercalate, List.intersperse_cons_cons, List.flatten_cons] at ih ⊢
      rw [ih]
      simp [List.append_assoc]
theorem join_len (xs : List Wd) (sep : Wd) (k : Nat) (h : ∀ x ∈ xs, x.length ≤ k) : (Lib.join xs sep).length ≤ xs.length * (k + sep.length) := by
  induction xs with
  | nil => simp [Lib.join, List.intercalate]
  | cons y ys ih =>
    have h1 := h y (List.mem_cons_self ..)
    have h2 := ih fun x hx => h x (List.mem_cons_of_mem _ hx)
    cases ys with
    | nil =>
      simp [Lib.join, List.intercalate]
      omega
    | cons z zs =>
      unfold Lib.join at h2 ⊢
      simp only [List.intercalate, List.intersperse_cons_cons, List.flatten_cons, List.length_append, List.length_cons] at h2 ⊢
      rw [Nat.succ_mul]
      omega
/-- What a question that may be is. -/
structure QOk (q : Qy) : Prop where
  n1 : 1 ≤ q.aggs.length
  n2 : q.aggs.length ≤ 4
  g : ∀ a ∈ q.aggs, 1 ≤ a.1 ∧ a.1 ≤ 5 ∧ (a.1 ≠ 1 → exprF a.2 = 0) ∧ (a.1 = 1 → a.2 = [])
  w : q.wh ≠ [] → exprF q.wh = 0
  b : q.by_ ≠ [] → exprF q.by_ = 0
  s : 1 ≤ q.size ∧ q.size ≤ 1000
  l : 1 ≤ q.slide ∧ q.slide ≤ 1000
  d : 0 ≤ q.delay ∧ q.delay ≤ 1000
  t : 0 ≤ q.late ∧ q.late ≤ 1000
  r : q.slide ≤ q.size ∧ q.size ≤ 4 * q.slide
  ga : ∀ a ∈ q.aggs, a.1 ≠ 1 → typedF a.2 (if a.1 = 2 then 0 else 1) = 0
  wa : q.wh ≠ [] → typedF q.wh 2 = 0
  ba : q.by_ ≠ [] → typedF q.by_ 0 = 0
theorem typedF_expr {l : List Nd} {k : Int} (h : typedF l k = 0) : exprF l = 0 := by
  unfold typedF at h
  split at h
  · rename_i q; exact absurd h q
  · rename_i q; exact Decidable.not_not.1 q
theorem qok_of {q : Qy} (h : qryF q = 0) : QOk q := by
  unfold qryF at h
  split at h
  · cases h
  rename_i h1
  split at h
  · rename_i h2; exact absurd h h2
  rename_i h2
  have h2 := firstF_all (Decidable.not_not.1 h2)
  have h3 := firstF_all h
  have ha : ∀ a ∈ q.aggs, aggF a = 0 := fun a ha => h2 _ (List.mem_map.2 ⟨a, ha, rfl⟩)
  have hw := h3 (if q.wh = [] then 0 else typedF q.wh 2) (by simp)
  have hb := h3 (if q.by_ = [] then 0 else typedF q.by_ 0) (by simp)
  have hn := h3 (numsF q) (by simp)
  have hga : ∀ a ∈ q.aggs, 1 ≤ a.1 ∧ a.1 ≤ 5 ∧ (a.1 ≠ 1 → typedF a.2 (if a.1 = 2 then 0 else 1) = 0) ∧ (a.1 = 1 → a.2 = []) := by
    intro a h4
    have h5 := ha a h4
    unfold aggF at h5
    split at h5
    · cases h5
    · rename_i h6
      refine ⟨by omega, by omega, fun h7 => ?_, fun h7 => ?_⟩
      · rw [if_neg h7] at h5; exact h5
      · exact Decidable.byContradiction fun h8 => h6 (.inr (.inr ⟨h7, h8⟩))
  have hwa : q.wh ≠ [] → typedF q.wh 2 = 0 := fun h4 => by rw [if_neg h4] at hw; exact hw
  have hba : q.by_ ≠ [] → typedF q.by_ 0 = 0 := fun h4 => by rw [if_neg h4] at hb; exact hb
  have hnn : ¬ (q.size < 1 ∨ q.size > 1000 ∨ q.slide < 1 ∨ q.slide > 1000 ∨ q.delay < 0 ∨ q.delay > 1000 ∨ q.late < 0 ∨ q.late > 1000) ∧ ¬ (q.slide > q.size ∨ q.size > 4 * q.slide) := by
    unfold numsF at hn
    split at hn
    · cases hn
    · rename_i h4
      split at hn
      · cases hn
      · rename_i h5; exact ⟨h4, h5⟩
  exact ⟨by omega, by omega, fun a h4 => ⟨(hga a h4).1, (hga a h4).2.1, fun h5 => typedF_expr ((hga a h4).2.2.1 h5), (hga a h4).2.2.2⟩, fun h4 => typedF_expr (hwa h4), fun h4 => typedF_expr (hba h4), by omega, by omega, by omega, by omega, by omega, fun a h4 h5 => (hga a h4).2.2.1 h5, hwa, hba⟩
theorem txE_len {l : List Nd} (h : exprF l = 0) : (txE l).length ≤ 800 := by
  obtain ⟨O, hl⟩ := exprF_ok h
  have := O.pos
  exact tx_len O hl (by omega)
theorem aggT_len {q : Qy} (Q : QOk q) {a : Ag} (ha : a ∈ q.aggs) : (aggT a).length ≤ 810 := by
  obtain ⟨h1, h2, h3, h4⟩ := Q.g a ha
  have hk : (aggsW.getD a.1.toNat []).length ≤ 5 := by
    have : a.1.toNat = 1 ∨ a.1.toNat = 2 ∨ a.1.toNat = 3 ∨ a.1.toNat = 4 ∨ a.1.toNat = 5 := by omega
    rcases this with h | h | h | h | h <;> rw [h] <;> decide
  have hc : (if a.1 = 1 then ([42] : Wd) else txE a.2).length ≤ 800 := by
    split
    · decide
    · rename_i h5; exact txE_len (h3 h5)
  unfold aggT
  simp only [List.length_append, List.length_cons, List.length_nil]
  omega
end Go.Proofs.YtonlacplogbodaaGreatDoor
