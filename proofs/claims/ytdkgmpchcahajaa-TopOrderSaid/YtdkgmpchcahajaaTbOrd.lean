/-
  What the law TopOrder gives, for every argument: true; nothing of what was there has turned. Conditions: none.
-/
import Derived.Test.YtdkgmpchcahajaaCVal
import Derived.Test.YtdkgmpchcahajaaFbOrd
namespace Go.Proofs.Ytdkgmpchcahajaa
open Go Go.Vc
set_option linter.unusedVariables false

theorem cmpI_zero {x y : Int} : cmpI x y = 0 ↔ x = y := by
  unfold cmpI
  split
  · constructor <;> intro h <;> omega
  · split
    · constructor <;> intro h <;> omega
    · constructor <;> intro h <;> omega
theorem cmpI_neg {x y : Int} : cmpI x y < 0 ↔ x < y := by
  unfold cmpI
  split
  · constructor <;> intro h <;> omega
  · split <;> constructor <;> intro h <;> omega
theorem cmpI_pos {x y : Int} : cmpI x y > 0 ↔ x > y := by
  unfold cmpI
  split
  · constructor <;> intro h <;> omega
  · split <;> constructor <;> intro h <;> omega
theorem cmpV_zero {a b : Int × Int} : cmpV a b = 0 ↔ a = b := by
  unfold cmpV
  rw [Prod.ext_iff]
  split
  · rename_i h
    have : ¬ a.1 = b.1 := fun e => h (cmpI_zero.2 e)
    constructor
    · intro h'; exact absurd h' h
    · intro h'; exact absurd h'.1 this
  · rename_i h
    have h1 : a.1 = b.1 := cmpI_zero.1 (by simpa using h)
    rw [cmpI_zero]
    simp [h1]
theorem cmpV_neg {a b : Int × Int} : cmpV a b < 0 ↔ a.1 < b.1 ∨ (a.1 = b.1 ∧ a.2 < b.2) := by
  unfold cmpV
  split
  · rename_i h
    have : ¬ a.1 = b.1 := fun e => h (cmpI_zero.2 e)
    rw [cmpI_neg]
    omega
  · rename_i h
    have h1 : a.1 = b.1 := cmpI_zero.1 (by simpa using h)
    rw [cmpI_neg]
    omega
theorem cmpV_pos {a b : Int × Int} : cmpV a b > 0 ↔ a.1 > b.1 ∨ (a.1 = b.1 ∧ a.2 > b.2) := by
  unfold cmpV
  split
  · rename_i h
    have : ¬ a.1 = b.1 := fun e => h (cmpI_zero.2 e)
    rw [cmpI_pos]
    omega
  · rename_i h
    have h1 : a.1 = b.1 := cmpI_zero.1 (by simpa using h)
    rw [cmpI_pos]
    omega

theorem top_TopOrder_ok {a b c : Int × Int} {h : Hp} : CallOK Try.prog 10 [vag (encV a), vag (encV b), vag (encV c)] h fun v h' => v = vb true ∧ h.le h' := by
  refine ok_top_TopOrder ?_
  unfold VC_top_TopOrder
  refine value_Null_ok ⟨_, _, rfl, value_Number_ok ⟨_, _, rfl, value_Compare_ok (a := (0, 0)) (b := numV (-5)) fun h10 l10 => ⟨_, rfl, fun e => ?_, fun _ => ?_⟩⟩⟩
  · have : decide (cmpV (0, 0) (numV (-5)) ≥ 0) = false := by decide
    rw [this] at e
    cases e
  have ev : ∀ v : Int × Int, (errV (if goodV v then 0 else 3)).isSome = !decide (goodV v) := by
    intro v
    rw [errV_some]
    by_cases hv : goodV v <;> simp [hv]
  refine value_Check_ok ⟨_, rfl, fun x h' => h' = h10 ∧ (goodV a → x = .t (.one (.ifc (errV (if goodV b then 0 else 3))))), fun _ => value_Check_ok ⟨_, rfl, rfl, fun _ => rfl⟩, fun e => ⟨rfl, fun hg => absurd (by rw [ev]; simp [hg]) e⟩, ?_⟩
  rintro h20 e21 ⟨rfl, hb⟩
  refine ⟨fun x h' => h' = h20 ∧ (goodV a → goodV b → x = .t (.one (.ifc (errV (if goodV c then 0 else 3))))), fun _ => value_Check_ok ⟨_, rfl, rfl, fun _ _ => rfl⟩, fun e => ⟨rfl, fun hg hg2 => ?_⟩, ?_⟩
  · have := hb hg
    cases this
    refine absurd ?_ e
    rw [ev, ev]
    simp [hg, hg2]
  rintro h26 e27 ⟨rfl, hc⟩
  refine ⟨fun _ => ⟨rfl, l10⟩, fun e => ?_⟩
  refine value_Compare_ok fun h30 l30 => ⟨_, rfl, value_Compare_ok fun h33 l33 => ⟨_, rfl, _, rd_eqV, _, rd_neB (by kernel_rfl), _, fun _ => rd_neB (by kernel_rfl), fun e => ?_, fun e => ?_⟩⟩
  · exfalso
    have e1 : decide (cmpV a b = 0) = decide (a = b) := decide_eq_decide.2 cmpV_zero
    have e2 : decide (cmpV a b < 0) = decide (cmpV b a > 0) := decide_eq_decide.2 (by rw [cmpV_neg, cmpV_pos]; omega)
    rw [e1, e2] at e
    simp at e
  have l3 := Hp.le_trans (Hp.le_trans l10 l30) l33
  refine ⟨fun x h' => h.le h' ∧ (cmpV a b < 0 → x = .t (.one (.v (vi (cmpV b c))))), fun _ => value_Compare_ok fun h41 l41 => ⟨_, rfl, Hp.le_trans l3 l41, fun _ => rfl⟩, fun e => ⟨l3, fun hn => absurd (decide_eq_true hn) e⟩, ?_⟩
  rintro h43 x44 ⟨l43, hx⟩
  refine ⟨fun x h' => h.le h' ∧ (cmpV a b < 0 → cmpV b c < 0 → x = .t (.one (.v (vi (cmpV a c))))), fun _ => value_Compare_ok fun h47 l47 => ⟨_, rfl, Hp.le_trans l43 l47, fun _ _ => rfl⟩, fun e => ⟨l43, fun hn hn2 => ?_⟩, ?_⟩
  · have := hx hn
    cases this
    refine absurd ?_ e
    rw [decide_eq_true hn, decide_eq_true hn2]
    rfl
  rintro h49 x50 ⟨l49, hy⟩
  refine ⟨?_, l49⟩
  by_cases h1 : cmpV a b < 0
  · have q := hx h1
    cases q
    by_cases h2 : cmpV b c < 0
    · have q := hy h1 h2
      cases q
      have : cmpV a c < 0 := by rw [cmpV_neg] at *; omega
      simp [this]
    · simp [h2]
  · simp [h1]
end Go.Proofs.Ytdkgmpchcahajaa
