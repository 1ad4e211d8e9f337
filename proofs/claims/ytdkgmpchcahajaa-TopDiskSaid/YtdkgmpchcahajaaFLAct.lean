/-
  What functions of the program ask, in words: each is what the framework reckons from the loaded code (the kernel holds the two together), and gives the function's call. Conditions: none.
-/
import Derived.Test.YtdkgmpchcahajaaVcS
namespace Go.Proofs.Ytdkgmpchcahajaa
open Go Go.Vc
set_option maxRecDepth 100000
set_option linter.unusedVariables false
/-- What 'penstock/penstocklaw.LightActs' asks. -/
def VC_law_LightActs (u_la : Option Addr) (u_ln u_lc : Nat) (u_most : Int) (h : Hp) (R : Value → Hp → Prop) : Prop :=
  (((decide ((((u_ln : Nat) : Int) : Int) > u_most)) = true → R (vb false) h) ∧ ((decide ((((u_ln : Nat) : Int) : Int) > u_most)) = false → (∃ (I3 : List Value → Hp → Prop) (m4 : List Value → Hp → Nat), I3 [(vi 0)] h ∧ ∀ (vs5 : List Value) (h6 : Hp), I3 vs5 h6 → ∃ (x7 : Int), vs5 = [(vi x7)] ∧ (((decide ((x7 : Int) < ((u_ln : Nat) : Int))) = true → (∃ (b10 o11 : Nat), (u_la = some ⟨b10, o11, none⟩ ∧ (0 : Int) ≤ x7 ∧ x7 < ((u_ln : Nat) : Int)) ∧ (∃ (s12 : ByteArray), (Hp.cell h6 b10 ((o11 + x7.toNat * 4) + 2) = some (vs s12)) ∧ (((decide ((((ByteArray.size s12 : Nat) : Int) : Int) > 3000)) = true → R (vb false) h6) ∧ ((decide ((((ByteArray.size s12 : Nat) : Int) : Int) > 3000)) = false → (∃ (x14 : Int), (IsW x14 (x7 + 1)) ∧ (I3 [(vi x14)] h6 ∧ m4 [(vi x14)] h6 < m4 vs5 h6))))))) ∧ ((decide ((x7 : Int) < ((u_ln : Nat) : Int))) = false → R (vb true) h6)))))
theorem ok_law_LightActs {u_la : Option Addr} {u_ln u_lc : Nat} {u_most : Int} {h : Hp} {R : Value → Hp → Prop} (H : VC_law_LightActs u_la u_ln u_lc u_most h R) : CallOK Try.prog 37 [(vsl u_la u_ln u_lc), (vi u_most)] h R :=
  call_of (cfg := ⟨[], [(4, ([5], [.one (.int .i64)], []))], []⟩) noNG mixed Try.func37 [.one (.v (vsl u_la u_ln u_lc)), .one (.v (vi u_most))] (by kernel_rfl) rfl (by kernel_rfl) H

end Go.Proofs.Ytdkgmpchcahajaa
