/-
  What functions of the program ask, in words: each is what the framework reckons from the loaded code (the kernel holds the two together), and gives the function's call. Conditions: none.
-/
import Derived.Test.YtgonnpleihbklaaDoorVcS
namespace Go.Proofs.YtgonnpleihbklaaDoor
open Go Go.Vc
set_option maxRecDepth 100000
set_option linter.unusedVariables false
/-- What 'penstock/value.Truth' asks. -/
def VC_value_Truth (u_is : Bool) (h : Hp) (R : Value → Hp → Prop) : Prop :=
  ((u_is = true → R (vag [(vi 2), (vi 1)]) h) ∧ (u_is = false → R (vag [(vi 2), (vi 0)]) h))
theorem ok_value_Truth {u_is : Bool} {h : Hp} {R : Value → Hp → Prop} (H : VC_value_Truth u_is h R) : CallOK Tryd.prog 13 [(vb u_is)] h R :=
  call_of (cfg := ⟨[], [], []⟩) noNG mixed Tryd.func13 [.one (.v (vb u_is))] (by kernel_rfl) rfl (by kernel_rfl) H

/-- What 'penstock/value.numbers' asks. -/
def VC_value_numbers (u_aKind : Int) (u_aN : Int) (u_bKind : Int) (u_bN : Int) (h : Hp) (R : Value → Hp → Prop) : Prop :=
  R (vb (bif (decide ((u_aKind : Int) = 1)) then (decide ((u_bKind : Int) = 1)) else false)) h
theorem ok_value_numbers {u_aKind : Int} {u_aN : Int} {u_bKind : Int} {u_bN : Int} {h : Hp} {R : Value → Hp → Prop} (H : VC_value_numbers u_aKind u_aN u_bKind u_bN h R) : CallOK Tryd.prog 34 [(vag [(vi u_aKind), (vi u_aN)]), (vag [(vi u_bKind), (vi u_bN)])] h R :=
  call_of (cfg := ⟨[], [], []⟩) noNG mixed Tryd.func34 [.ag [.v (vi u_aKind), .v (vi u_aN)], .ag [.v (vi u_bKind), .v (vi u_bN)]] (by kernel_rfl) rfl (by kernel_rfl) H

/-- What 'penstock/value.Do' asks. -/
def VC_value_Do (u_op : Int) (u_aKind : Int) (u_aN : Int) (u_bKind : Int) (u_bN : Int) (h : Hp) (R : Value → Hp → Prop) : Prop :=
  (((decide ((u_op : Int) = 9)) = true → (CallOK Tryd.prog 23 [(vag [(vi u_aKind), (vi u_aN)]), (vag [(vi u_bKind), (vi u_bN)])] h fun v1 h2 => ∃ (x3 : Int) (x4 : Int), v1 = (vag [(vi x3), (vi x4)]) ∧ R (vag [(vi x3), (vi x4)]) h2)) ∧ ((decide ((u_op : Int) = 9)) = false → (((decide ((u_op : Int) = 10)) = true → (CallOK Tryd.prog 24 [(vag [(vi u_aKind), (vi u_aN)])] h fun v5 h6 => ∃ (x7 : Int) (x8 : Int), v5 = (vag [(vi x7), (vi x8)]) ∧ (CallOK Tryd.prog 24 [(vag [(vi u_bKind), (vi u_bN)])] h6 fun v9 h10 => ∃ (x11 : Int) (x12 : Int), v9 = (vag [(vi x11), (vi x12)]) ∧ (CallOK Tryd.prog 23 [(vag [(vi x7), (vi x8)]), (vag [(vi x11), (vi x12)])] h10 fun v13 h14 => ∃ (x15 : Int) (x16 : Int), v13 = (vag [(vi x15), (vi x16)]) ∧ (CallOK Tryd.prog 24 [(vag [(vi x15), (vi x16)])] h14 fun v17 h18 => ∃ (x19 : Int) (x20 : Int), v17 = (vag [(vi x19), (vi x20)]) ∧ R (vag [(vi x19), (vi x20)]) h18))))) ∧ ((decide ((u_op : Int) = 10)) = false → (CallOK Tryd.prog 34 [(vag [(vi u_aKind), (vi u_aN)]), (vag [(vi u_bKind), (vi u_bN)])] h fun v22 h23 => ∃ (p24 : Bool), v22 = (vb p24) ∧ (((!p24) = true → (CallOK Tryd.prog 10 [] h23 fun v25 h26 => ∃ (x27 : Int) (x28 : Int), v25 = (vag [(vi x27), (vi x28)]) ∧ R (vag [(vi x27), (vi x28)]) h26)) ∧ ((!p24) = false → (((decide ((u_op : Int) = 6)) = true → (∃ (x30 : Int), (IsW x30 (u_aN + u_bN)) ∧ (CallOK Tryd.prog 11 [(vi x30)] h23 fun v31 h32 => ∃ (x33 : Int) (x34 : Int), v31 = (vag [(vi x33), (vi x34)]) ∧ R (vag [(vi x33), (vi x34)]) h32))) ∧ ((decide ((u_op : Int) = 6)) = false → (((decide ((u_op : Int) = 7)) = true → (∃ (x35 : Int), (IsW x35 (u_aN - u_bN)) ∧ (CallOK Tryd.prog 11 [(vi x35)] h23 fun v36 h37 => ∃ (x38 : Int) (x39 : Int), v36 = (vag [(vi x38), (vi x39)]) ∧ R (vag [(vi x38), (vi x39)]) h37))) ∧ ((decide ((u_op : Int) = 7)) = false → (((decide ((u_op : Int) = 8)) = true → (∃ (x40 : Int), (IsW x40 (u_aN * u_bN)) ∧ (CallOK Tryd.prog 11 [(vi x40)] h23 fun v41 h42 => ∃ (x43 : Int) (x44 : Int), v41 = (vag [(vi x43), (vi x44)]) ∧ R (vag [(vi x43), (vi x44)]) h42))) ∧ ((decide ((u_op : Int) = 8)) = false → (((decide ((u_op : Int) = 11)) = true → (CallOK Tryd.prog 13 [(vb (decide ((u_aN : Int) < u_bN)))] h23 fun v45 h46 => ∃ (x47 : Int) (x48 : Int), v45 = (vag [(vi x47), (vi x48)]) ∧ R (vag [(vi x47), (vi x48)]) h46)) ∧ ((decide ((u_op : Int) = 11)) = false → (((decide ((u_op : Int) = 12)) = true → (CallOK Tryd.prog 13 [(vb (decide ((u_aN : Int) = u_bN)))] h23 fun v49 h50 => ∃ (x51 : Int) (x52 : Int), v49 = (vag [(vi x51), (vi x52)]) ∧ R (vag [(vi x51), (vi x52)]) h50)) ∧ ((decide ((u_op : Int) = 12)) = false → (CallOK Tryd.prog 10 [] h23 fun v54 h55 => ∃ (x56 : Int) (x57 : Int), v54 = (vag [(vi x56), (vi x57)]) ∧ R (vag [(vi x56), (vi x57)]) h55))))))))))))))))))
theorem ok_value_Do {u_op : Int} {u_aKind : Int} {u_aN : Int} {u_bKind : Int} {u_bN : Int} {h : Hp} {R : Value → Hp → Prop} (H : VC_value_Do u_op u_aKind u_aN u_bKind u_bN h R) : CallOK Tryd.prog 21 [(vi u_op), (vag [(vi u_aKind), (vi u_aN)]), (vag [(vi u_bKind), (vi u_bN)])] h R :=
  call_of (cfg := ⟨[], [], [(5, [0, 2, 1, 3, 4, 5, 6])]⟩) noNG mixed Tryd.func21 [.one (.v (vi u_op)), .ag [.v (vi u_aKind), .v (vi u_aN)], .ag [.v (vi u_bKind), .v (vi u_bN)]] (by kernel_rfl) rfl (by kernel_rfl) H

/-- What 'penstock/value.And' asks. -/
def VC_value_And (u_aKind : Int) (u_aN : Int) (u_bKind : Int) (u_bN : Int) (h : Hp) (R : Value → Hp → Prop) : Prop :=
  (CallOK Tryd.prog 13 [(vb false)] h fun v1 h2 => ∃ (x3 : Int) (x4 : Int), v1 = (vag [(vi x3), (vi x4)]) ∧ (∃ (p5 : Bool), (Rd Tryd.prog ((eqGuard .eql 32 (.tmp 8) (.tmp 9) (vag [(vi u_aKind), (vi u_aN)]) (vag [(vi x3), (vi x4)]) >>= fun _ => binOp .eql 32 (vag [(vi u_aKind), (vi u_aN)]) (vag [(vi x3), (vi x4)]))) h2 (vb p5)) ∧ (∃ (p6 : Bool), (p5 = false → Rd Tryd.prog ((eqGuard .eql 32 (.tmp 12) (.tmp 13) (vag [(vi u_bKind), (vi u_bN)]) (vag [(vi x3), (vi x4)]) >>= fun _ => binOp .eql 32 (vag [(vi u_bKind), (vi u_bN)]) (vag [(vi x3), (vi x4)]))) h2 (vb p6)) ∧ (((bif p5 then true else p6) = true → R (vag [(vi x3), (vi x4)]) h2) ∧ ((bif p5 then true else p6) = false → (((bif (decide ((u_aKind : Int) = 2)) then (decide ((u_bKind : Int) = 2)) else false) = true → (CallOK Tryd.prog 13 [(vb true)] h2 fun v7 h8 => ∃ (x9 : Int) (x10 : Int), v7 = (vag [(vi x9), (vi x10)]) ∧ R (vag [(vi x9), (vi x10)]) h8)) ∧ ((bif (decide ((u_aKind : Int) = 2)) then (decide ((u_bKind : Int) = 2)) else false) = false → (CallOK Tryd.prog 10 [] h2 fun v12 h13 => ∃ (x14 : Int) (x15 : Int), v12 = (vag [(vi x14), (vi x15)]) ∧ R (vag [(vi x14), (vi x15)]) h13))))))))
theorem ok_value_And {u_aKind : Int} {u_aN : Int} {u_bKind : Int} {u_bN : Int} {h : Hp} {R : Value → Hp → Prop} (H : VC_value_And u_aKind u_aN u_bKind u_bN h R) : CallOK Tryd.prog 23 [(vag [(vi u_aKind), (vi u_aN)]), (vag [(vi u_bKind), (vi u_bN)])] h R :=
  call_of (cfg := ⟨[], [], []⟩) noNG mixed Tryd.func23 [.ag [.v (vi u_aKind), .v (vi u_aN)], .ag [.v (vi u_bKind), .v (vi u_bN)]] (by kernel_rfl) rfl (by kernel_rfl) H

/-- What 'penstock/value.Not' asks. -/
def VC_value_Not (u_aKind : Int) (u_aN : Int) (h : Hp) (R : Value → Hp → Prop) : Prop :=
  (((decide ((u_aKind : Int) ≠ 2)) = true → (CallOK Tryd.prog 10 [] h fun v1 h2 => ∃ (x3 : Int) (x4 : Int), v1 = (vag [(vi x3), (vi x4)]) ∧ R (vag [(vi x3), (vi x4)]) h2)) ∧ ((decide ((u_aKind : Int) ≠ 2)) = false → (CallOK Tryd.prog 13 [(vb (decide ((u_aN : Int) = 0)))] h fun v6 h7 => ∃ (x8 : Int) (x9 : Int), v6 = (vag [(vi x8), (vi x9)]) ∧ R (vag [(vi x8), (vi x9)]) h7)))
theorem ok_value_Not {u_aKind : Int} {u_aN : Int} {h : Hp} {R : Value → Hp → Prop} (H : VC_value_Not u_aKind u_aN h R) : CallOK Tryd.prog 24 [(vag [(vi u_aKind), (vi u_aN)])] h R :=
  call_of (cfg := ⟨[], [], []⟩) noNG mixed Tryd.func24 [.ag [.v (vi u_aKind), .v (vi u_aN)]] (by kernel_rfl) rfl (by kernel_rfl) H

/-- What 'penstock/value.Neg' asks. -/
def VC_value_Neg (u_aKind : Int) (u_aN : Int) (h : Hp) (R : Value → Hp → Prop) : Prop :=
  (((decide ((u_aKind : Int) ≠ 1)) = true → (CallOK Tryd.prog 10 [] h fun v1 h2 => ∃ (x3 : Int) (x4 : Int), v1 = (vag [(vi x3), (vi x4)]) ∧ R (vag [(vi x3), (vi x4)]) h2)) ∧ ((decide ((u_aKind : Int) ≠ 1)) = false → (∃ (x6 : Int), (IsW x6 (-u_aN)) ∧ (CallOK Tryd.prog 11 [(vi x6)] h fun v7 h8 => ∃ (x9 : Int) (x10 : Int), v7 = (vag [(vi x9), (vi x10)]) ∧ R (vag [(vi x9), (vi x10)]) h8))))
theorem ok_value_Neg {u_aKind : Int} {u_aN : Int} {h : Hp} {R : Value → Hp → Prop} (H : VC_value_Neg u_aKind u_aN h R) : CallOK Tryd.prog 26 [(vag [(vi u_aKind), (vi u_aN)])] h R :=
  call_of (cfg := ⟨[], [], []⟩) noNG mixed Tryd.func26 [.ag [.v (vi u_aKind), .v (vi u_aN)]] (by kernel_rfl) rfl (by kernel_rfl) H

end Go.Proofs.YtgonnpleihbklaaDoor
