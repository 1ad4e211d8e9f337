/-
  What functions of the program ask, in words: each is what the framework reckons from the loaded code (the kernel holds the two together), and gives the function's call. Conditions: none.
-/
import Derived.Test.YtdkgmpchcahajaaVcS
namespace Go.Proofs.Ytdkgmpchcahajaa
open Go Go.Vc
set_option maxRecDepth 100000
set_option linter.unusedVariables false
/-- What 'penstock/clock.New' asks. -/
def VC_clock_New (u_parts : Int) (h : Hp) (R : Value → Hp → Prop) : Prop :=
  (((bif (decide ((u_parts : Int) < 1)) then true else (decide ((u_parts : Int) > 3))) = true → R (vtup [(vag [(vsl none 0 0)]), (ifv (some (154, (vi 1))))]) h) ∧ ((bif (decide ((u_parts : Int) < 1)) then true else (decide ((u_parts : Int) > 3))) = false → (let J18 : Option Addr → Nat → Nat → Hp → Prop := fun (a20 : Option Addr) (n20 c20 : Nat) (h21 : Hp) => R (vtup [(vag [(vsl a20 n20 c20)]), (ifv none)]) h21; (∃ (I3 : List Value → Hp → Prop) (m4 : List Value → Hp → Nat), I3 [(vi 0), (vsl none 0 0)] h ∧ ∀ (vs5 : List Value) (h6 : Hp), I3 vs5 h6 → ∃ (x7 : Int) (a8 : Option Addr) (n8 c8 : Nat), vs5 = [(vi x7), (vsl a8 n8 c8)] ∧ (((decide ((x7 : Int) < u_parts)) = true → (∀ (b11 : Nat), h6 b11 = none → let h12 : Hp := Hp.set h6 b11 (cellsO [(vi (-1))] 3); (SemOK Try.prog (Builtin.append_ #[24, 24] 24 #[(vsl a8 n8 c8), (vsl (some ⟨b11, 0, none⟩) 1 1)]) h12 fun v13 h14 => ∃ (a15 : Option Addr) (n15 c15 : Nat), v13 = (vsl a15 n15 c15) ∧ (∃ (x17 : Int), (IsW x17 (x7 + 1)) ∧ (I3 [(vi x17), (vsl a15 n15 c15)] h14 ∧ m4 [(vi x17), (vsl a15 n15 c15)] h14 < m4 vs5 h6))))) ∧ ((decide ((x7 : Int) < u_parts)) = false → (J18 a8 n8 c8 h6)))))))
theorem ok_clock_New {u_parts : Int} {h : Hp} {R : Value → Hp → Prop} (H : VC_clock_New u_parts h R) : CallOK Try.prog 15 [(vi u_parts)] h R :=
  call_of (cfg := ⟨[], [(5, ([15], [.one (.int .i64)], [(1, [.slice])]))], []⟩) noNG mixed Try.func15 [.one (.v (vi u_parts))] (by kernel_rfl) rfl (by kernel_rfl) H

/-- What '(penstock/clock.Clock).See' asks. -/
def VC_clock_Clock_See (u_cGreatesta : Option Addr) (u_cGreatestn u_cGreatestc : Nat) (u_part : Int) (u_at : Int) (h : Hp) (R : Value → Hp → Prop) : Prop :=
  (SemOK Try.prog (Builtin.append_ #[24, 24] 24 #[(vsl none 0 0), (vsl u_cGreatesta u_cGreatestn u_cGreatestc)]) h fun v1 h2 => ∃ (a3 : Option Addr) (n3 c3 : Nat), v1 = (vsl a3 n3 c3) ∧ (∃ (b4 o5 : Nat), (a3 = some ⟨b4, o5, none⟩ ∧ (0 : Int) ≤ u_part ∧ u_part < ((n3 : Nat) : Int)) ∧ (∃ (x6 : Int), (Hp.cell h2 b4 (o5 + u_part.toNat * 1) = some (vi x6)) ∧ (∃ (x7 : Int), (Rd Try.prog (Builtin.max_ #[3, 3] 3 #[(vi x6), (vi u_at)]) h2 (vi x7)) ∧ (∃ (b8 o9 : Nat), (a3 = some ⟨b8, o9, none⟩ ∧ (0 : Int) ≤ u_part ∧ u_part < ((n3 : Nat) : Int)) ∧ (Hp.store h2 b8 (o9 + u_part.toNat * 1) [(vi x7)] fun h10 => R (vag [(vsl a3 n3 c3)]) h10))))))
theorem ok_clock_Clock_See {u_cGreatesta : Option Addr} {u_cGreatestn u_cGreatestc : Nat} {u_part : Int} {u_at : Int} {h : Hp} {R : Value → Hp → Prop} (H : VC_clock_Clock_See u_cGreatesta u_cGreatestn u_cGreatestc u_part u_at h R) : CallOK Try.prog 18 [(vag [(vsl u_cGreatesta u_cGreatestn u_cGreatestc)]), (vi u_part), (vi u_at)] h R :=
  call_of (cfg := ⟨[], [], []⟩) noNG mixed Try.func18 [.ag [.v (vsl u_cGreatesta u_cGreatestn u_cGreatestc)], .one (.v (vi u_part)), .one (.v (vi u_at))] (by kernel_rfl) rfl (by kernel_rfl) H

/-- What '(penstock/clock.Clock).All' asks. -/
def VC_clock_Clock_All (u_cGreatesta : Option Addr) (u_cGreatestn u_cGreatestc : Nat) (u_delay : Int) (h : Hp) (R : Value → Hp → Prop) : Prop :=
  (∃ (I2 : List Value → Hp → Prop) (m3 : List Value → Hp → Nat), I2 [(vi 0), (vi 0)] h ∧ ∀ (vs4 : List Value) (h5 : Hp), I2 vs4 h5 → ∃ (x6 : Int) (x7 : Int), vs4 = [(vi x6), (vi x7)] ∧ (((decide ((x7 : Int) < ((u_cGreatestn : Nat) : Int))) = true → (let J17 : Int → Hp → Prop := fun (x20 : Int) (h21 : Hp) => (∃ (x22 : Int), (IsW x22 (x7 + 1)) ∧ (I2 [(vi x20), (vi x22)] h21 ∧ m3 [(vi x20), (vi x22)] h21 < m3 vs4 h5)); (CallOK Try.prog 22 [(vag [(vsl u_cGreatesta u_cGreatestn u_cGreatestc)]), (vi x7), (vi u_delay)] h5 fun v10 h11 => ∃ (x12 : Int) (p13 : Bool), v10 = (vtup [(vi x12), (vb p13)]) ∧ (((!p13) = true → R (vtup [(vi 0), (vb false)]) h11) ∧ ((!p13) = false → (((bif (decide ((x7 : Int) = 0)) then true else (decide ((x12 : Int) < x6))) = true → (J17 x12 h11)) ∧ ((bif (decide ((x7 : Int) = 0)) then true else (decide ((x12 : Int) < x6))) = false → (J17 x6 h11)))))))) ∧ ((decide ((x7 : Int) < ((u_cGreatestn : Nat) : Int))) = false → R (vtup [(vi x6), (vb true)]) h5)))
theorem ok_clock_Clock_All {u_cGreatesta : Option Addr} {u_cGreatestn u_cGreatestc : Nat} {u_delay : Int} {h : Hp} {R : Value → Hp → Prop} (H : VC_clock_Clock_All u_cGreatesta u_cGreatestn u_cGreatestc u_delay h R) : CallOK Try.prog 20 [(vag [(vsl u_cGreatesta u_cGreatestn u_cGreatestc)]), (vi u_delay)] h R :=
  call_of (cfg := ⟨[], [(3, ([6, 13], [.one (.int .i64), .one (.int .i64)], []))], []⟩) noNG mixed Try.func20 [.ag [.v (vsl u_cGreatesta u_cGreatestn u_cGreatestc)], .one (.v (vi u_delay))] (by kernel_rfl) rfl (by kernel_rfl) H

/-- What '(penstock/clock.Clock).Part' asks. -/
def VC_clock_Clock_Part (u_cGreatesta : Option Addr) (u_cGreatestn u_cGreatestc : Nat) (u_part : Int) (u_delay : Int) (h : Hp) (R : Value → Hp → Prop) : Prop :=
  (∃ (b1 o2 : Nat), (u_cGreatesta = some ⟨b1, o2, none⟩ ∧ (0 : Int) ≤ u_part ∧ u_part < ((u_cGreatestn : Nat) : Int)) ∧ (∃ (x3 : Int), (Hp.cell h b1 (o2 + u_part.toNat * 1) = some (vi x3)) ∧ (((decide ((x3 : Int) < 0)) = true → R (vtup [(vi 0), (vb false)]) h) ∧ ((decide ((x3 : Int) < 0)) = false → (∃ (x5 : Int), (IsW x5 (x3 - u_delay)) ∧ R (vtup [(vi x5), (vb true)]) h)))))
theorem ok_clock_Clock_Part {u_cGreatesta : Option Addr} {u_cGreatestn u_cGreatestc : Nat} {u_part : Int} {u_delay : Int} {h : Hp} {R : Value → Hp → Prop} (H : VC_clock_Clock_Part u_cGreatesta u_cGreatestn u_cGreatestc u_part u_delay h R) : CallOK Try.prog 22 [(vag [(vsl u_cGreatesta u_cGreatestn u_cGreatestc)]), (vi u_part), (vi u_delay)] h R :=
  call_of (cfg := ⟨[], [], []⟩) noNG mixed Try.func22 [.ag [.v (vsl u_cGreatesta u_cGreatestn u_cGreatestc)], .one (.v (vi u_part)), .one (.v (vi u_delay))] (by kernel_rfl) rfl (by kernel_rfl) H

end Go.Proofs.Ytdkgmpchcahajaa
