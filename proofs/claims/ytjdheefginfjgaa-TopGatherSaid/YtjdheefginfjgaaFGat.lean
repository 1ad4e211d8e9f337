/-
  What functions of the program ask, in words: each is what the framework reckons from the loaded code (the kernel holds the two together), and gives the function's call. Conditions: none.
-/
import Derived.Test.YtjdheefginfjgaaVcS
namespace Go.Proofs.Ytjdheefginfjgaa
open Go Go.Vc
set_option maxRecDepth 100000
set_option linter.unusedVariables false
/-- What 'penstock/gather.New' asks. -/
def VC_gather_New (u_kind : Int) (h : Hp) (R : Value → Hp → Prop) : Prop :=
  R (vag [(vi u_kind), (vi 0), (vi 0), (vi 0)]) h
theorem ok_gather_New {u_kind : Int} {h : Hp} {R : Value → Hp → Prop} (H : VC_gather_New u_kind h R) : CallOK Try.prog 11 [(vi u_kind)] h R :=
  call_of (cfg := ⟨[], [], []⟩) noNG mixed Try.func11 [.one (.v (vi u_kind))] (by kernel_rfl) rfl (by kernel_rfl) H

/-- What '(penstock/gather.Acc).Add' asks. -/
def VC_gather_Acc_Add (u_aKind : Int) (u_aN : Int) (u_aSum : Int) (u_aBest : Int) (u_vKind : Int) (u_vN : Int) (h : Hp) (R : Value → Hp → Prop) : Prop :=
  (((bif (decide ((u_aKind : Int) ≠ 1)) then (decide ((u_vKind : Int) = 0)) else false) = true → R (vag [(vi u_aKind), (vi u_aN), (vi u_aSum), (vi u_aBest)]) h) ∧ ((bif (decide ((u_aKind : Int) ≠ 1)) then (decide ((u_vKind : Int) = 0)) else false) = false → (let J4 : Int → Prop := fun (x7 : Int) => (∃ (x8 : Int), (IsW x8 (u_aN + 1)) ∧ (∃ (x9 : Int), (IsW x9 (u_aSum + u_vN)) ∧ R (vag [(vi u_aKind), (vi x8), (vi x9), (vi x7)]) h)); (((bif (bif (decide ((u_aN : Int) = 0)) then true else (bif (decide ((u_aKind : Int) = 4)) then (decide ((u_vN : Int) < u_aBest)) else false)) then true else (bif (decide ((u_aKind : Int) = 5)) then (decide ((u_vN : Int) > u_aBest)) else false)) = true → (J4 u_vN)) ∧ ((bif (bif (decide ((u_aN : Int) = 0)) then true else (bif (decide ((u_aKind : Int) = 4)) then (decide ((u_vN : Int) < u_aBest)) else false)) then true else (bif (decide ((u_aKind : Int) = 5)) then (decide ((u_vN : Int) > u_aBest)) else false)) = false → (J4 u_aBest))))))
theorem ok_gather_Acc_Add {u_aKind : Int} {u_aN : Int} {u_aSum : Int} {u_aBest : Int} {u_vKind : Int} {u_vN : Int} {h : Hp} {R : Value → Hp → Prop} (H : VC_gather_Acc_Add u_aKind u_aN u_aSum u_aBest u_vKind u_vN h R) : CallOK Try.prog 15 [(vag [(vi u_aKind), (vi u_aN), (vi u_aSum), (vi u_aBest)]), (vag [(vi u_vKind), (vi u_vN)])] h R :=
  call_of (cfg := ⟨[], [], []⟩) noNG mixed Try.func15 [.ag [.v (vi u_aKind), .v (vi u_aN), .v (vi u_aSum), .v (vi u_aBest)], .ag [.v (vi u_vKind), .v (vi u_vN)]] (by kernel_rfl) rfl (by kernel_rfl) H

/-- What '(penstock/gather.Acc).Value' asks. -/
def VC_gather_Acc_Value (u_aKind : Int) (u_aN : Int) (u_aSum : Int) (u_aBest : Int) (h : Hp) (R : Value → Hp → Prop) : Prop :=
  (((bif (decide ((u_aKind : Int) = 1)) then true else (decide ((u_aKind : Int) = 2))) = true → (CallOK Try.prog 16 [(vi u_aN)] h fun v1 h2 => ∃ (x3 : Int) (x4 : Int), v1 = (vag [(vi x3), (vi x4)]) ∧ R (vag [(vi x3), (vi x4)]) h2)) ∧ ((bif (decide ((u_aKind : Int) = 1)) then true else (decide ((u_aKind : Int) = 2))) = false → (((decide ((u_aN : Int) = 0)) = true → (CallOK Try.prog 19 [] h fun v5 h6 => ∃ (x7 : Int) (x8 : Int), v5 = (vag [(vi x7), (vi x8)]) ∧ R (vag [(vi x7), (vi x8)]) h6)) ∧ ((decide ((u_aN : Int) = 0)) = false → (((decide ((u_aKind : Int) = 3)) = true → (CallOK Try.prog 16 [(vi u_aSum)] h fun v9 h10 => ∃ (x11 : Int) (x12 : Int), v9 = (vag [(vi x11), (vi x12)]) ∧ R (vag [(vi x11), (vi x12)]) h10)) ∧ ((decide ((u_aKind : Int) = 3)) = false → (CallOK Try.prog 16 [(vi u_aBest)] h fun v14 h15 => ∃ (x16 : Int) (x17 : Int), v14 = (vag [(vi x16), (vi x17)]) ∧ R (vag [(vi x16), (vi x17)]) h15)))))))
theorem ok_gather_Acc_Value {u_aKind : Int} {u_aN : Int} {u_aSum : Int} {u_aBest : Int} {h : Hp} {R : Value → Hp → Prop} (H : VC_gather_Acc_Value u_aKind u_aN u_aSum u_aBest h R) : CallOK Try.prog 13 [(vag [(vi u_aKind), (vi u_aN), (vi u_aSum), (vi u_aBest)])] h R :=
  call_of (cfg := ⟨[], [], []⟩) noNG mixed Try.func13 [.ag [.v (vi u_aKind), .v (vi u_aN), .v (vi u_aSum), .v (vi u_aBest)]] (by kernel_rfl) rfl (by kernel_rfl) H

/-- What 'penstock/value.Number' asks. -/
def VC_value_Number (u_n : Int) (h : Hp) (R : Value → Hp → Prop) : Prop :=
  (((bif (decide ((u_n : Int) < (-1000000000))) then true else (decide ((u_n : Int) > 1000000000))) = true → R (vag [(vi 0), (vi 0)]) h) ∧ ((bif (decide ((u_n : Int) < (-1000000000))) then true else (decide ((u_n : Int) > 1000000000))) = false → R (vag [(vi 1), (vi u_n)]) h))
theorem ok_value_Number {u_n : Int} {h : Hp} {R : Value → Hp → Prop} (H : VC_value_Number u_n h R) : CallOK Try.prog 16 [(vi u_n)] h R :=
  call_of (cfg := ⟨[], [], []⟩) noNG mixed Try.func16 [.one (.v (vi u_n))] (by kernel_rfl) rfl (by kernel_rfl) H

/-- What 'penstock/value.Null' asks. -/
def VC_value_Null  (h : Hp) (R : Value → Hp → Prop) : Prop :=
  R (vag [(vi 0), (vi 0)]) h
theorem ok_value_Null  {h : Hp} {R : Value → Hp → Prop} (H : VC_value_Null  h R) : CallOK Try.prog 19 [] h R :=
  call_of (cfg := ⟨[], [], []⟩) noNG mixed Try.func19 [] (by kernel_rfl) rfl (by kernel_rfl) H

end Go.Proofs.Ytjdheefginfjgaa
