/-
  What functions of the program ask, in words: each is what the framework reckons from the loaded code (the kernel holds the two together), and gives the function's call. Conditions: none.
-/
import Derived.Test.YtdkgmpchcahajaaVcS
namespace Go.Proofs.Ytdkgmpchcahajaa
open Go Go.Vc
set_option maxRecDepth 100000
set_option linter.unusedVariables false
/-- What 'penstock/penstocklaw.words' asks. -/
def VC_law_words  (h : Hp) (R : Value → Hp → Prop) : Prop :=
  (CallOK Try.prog 24 [(vs ⟨#[97, 60, 61, 49, 50, 32, 98]⟩)] h fun v1 h2 => ∃ (a3 : Option Addr) (n3 c3 : Nat) (e4 : Option (TypeId × Value)), v1 = (vtup [(vsl a3 n3 c3), (ifv e4)]) ∧ (CallOK Try.prog 16 [(ifv e4), (vi 0)] h2 fun v5 h6 => ∃ (p7 : Bool), v5 = (vb p7) ∧ ((p7 = true → (∀ (b8 : Nat), h6 b8 = none → let h9 : Hp := Hp.set h6 b8 (cellsO [(vs ⟨#[97]⟩), (vs ⟨#[60, 61]⟩), (vs ⟨#[49, 50]⟩), (vs ⟨#[98]⟩)] 9); (∃ (J10 : SV → Hp → Prop), (p7 = true → (CallOK Try.prog 26 [(vsl a3 n3 c3), (vsl (some ⟨b8, 0, none⟩) 4 4)] h9 fun v11 h12 => ∃ (p13 : Bool), v11 = (vb p13) ∧ J10 (.t (.one (.v (vb p13)))) h12)) ∧ (¬ (p7 = true) → J10 (.t (.one (.v (vb false)))) h9) ∧ ∀ (h14 : Hp) (p15 : Bool), J10 (.t (.one (.v (vb p15)))) h14 → R (vb (bif p7 then p15 else false)) h14))) ∧ (¬ (p7 = true) → (∃ (J16 : SV → Hp → Prop), (p7 = true → (CallOK Try.prog 26 [(vsl a3 n3 c3), (vsl none 0 0)] h6 fun v17 h18 => ∃ (p19 : Bool), v17 = (vb p19) ∧ J16 (.t (.one (.v (vb p19)))) h18)) ∧ (¬ (p7 = true) → J16 (.t (.one (.v (vb false)))) h6) ∧ ∀ (h20 : Hp) (p21 : Bool), J16 (.t (.one (.v (vb p21)))) h20 → R (vb (bif p7 then p21 else false)) h20)))))
theorem ok_law_words  {h : Hp} {R : Value → Hp → Prop} (H : VC_law_words  h R) : CallOK Try.prog 23 [] h R :=
  call_of (cfg := ⟨[], [], []⟩) noNG mixed Try.func23 [] (by kernel_rfl) rfl (by kernel_rfl) H

/-- What 'penstock/penstocklaw.LexerSays' asks. -/
def VC_law_LexerSays (u_s : ByteArray) (h : Hp) (R : Value → Hp → Prop) : Prop :=
  (CallOK Try.prog 23 [] h fun v1 h2 => ∃ (p3 : Bool), v1 = (vb p3) ∧ (((bif (!p3) then true else (decide ((((ByteArray.size u_s : Nat) : Int) : Int) > 400))) = true → R (vb p3) h2) ∧ ((bif (!p3) then true else (decide ((((ByteArray.size u_s : Nat) : Int) : Int) > 400))) = false → (CallOK Try.prog 24 [(vs u_s)] h2 fun v5 h6 => ∃ (a7 : Option Addr) (n7 c7 : Nat) (e8 : Option (TypeId × Value)), v5 = (vtup [(vsl a7 n7 c7), (ifv e8)]) ∧ (CallOK Try.prog 25 [(vs u_s)] h6 fun v9 h10 => ∃ (a11 : Option Addr) (n11 c11 : Nat) (x12 : Int), v9 = (vtup [(vsl a11 n11 c11), (vi x12)]) ∧ (CallOK Try.prog 16 [(ifv e8), (vi x12)] h10 fun v13 h14 => ∃ (p15 : Bool), v13 = (vb p15) ∧ (∃ (J16 : SV → Hp → Prop), (p15 = true → (CallOK Try.prog 26 [(vsl a7 n7 c7), (vsl a11 n11 c11)] h14 fun v17 h18 => ∃ (p19 : Bool), v17 = (vb p19) ∧ J16 (.t (.one (.v (vb p19)))) h18)) ∧ (¬ (p15 = true) → J16 (.t (.one (.v (vb false)))) h14) ∧ ∀ (h20 : Hp) (p21 : Bool), J16 (.t (.one (.v (vb p21)))) h20 → R (vb (bif p15 then p21 else false)) h20)))))))
theorem ok_law_LexerSays {u_s : ByteArray} {h : Hp} {R : Value → Hp → Prop} (H : VC_law_LexerSays u_s h R) : CallOK Try.prog 4 [(vs u_s)] h R :=
  call_of (cfg := ⟨[], [], []⟩) noNG mixed Try.func4 [.one (.v (vs u_s))] (by kernel_rfl) rfl (by kernel_rfl) H

end Go.Proofs.Ytdkgmpchcahajaa
