/-
  A contract: two rows of numbers that are the same, by the document's answer. Conditions: that the rows are no longer than any memory has room for.
-/
import Derived.Test.YtgonnpleihbklaaDoorFNum
import Derived.Test.YtgonnpleihbklaaDoorVcN
namespace Go.Proofs.YtgonnpleihbklaaDoor
open Go Go.Vc
set_option linter.unusedVariables false

theorem R_SameNumbers_ok {a : Option Addr} {n c : Nat} {l : List Int} {a' : Option Addr} {n' c' : Nat} {l' : List Int} {h : Hp} {R : Value → Hp → Prop} (h1 : SlI h a n l) (h2 : SlI h a' n' l') (hn : n ≤ 140737488355328) (hn' : n' ≤ 140737488355328)
    (hK : R (vb (decide (l = l'))) h) : CallOK Tryd.prog 7 [vsl a n c, vsl a' n' c'] h R := by
  refine ok_R_SameNumbers ?_
  unfold VC_R_SameNumbers
  refine ⟨fun e => ?_, fun e => ?_⟩
  · have : l ≠ l' := fun e' => by
      have := h1.1; have := h2.1; subst e'
      simp at e; omega
    simpa [this] using hK
  · have hl : n = n' := by simp at e; omega
    refine ⟨fun vs hh => hh = h ∧ ∃ i : Nat, vs = [vi i] ∧ i ≤ n ∧ l.take i = l'.take i, fun vs hh => n - (vint vs 0).toNat, ⟨rfl, 0, rfl, Nat.zero_le _, by simp⟩, ?_⟩
    rintro vs hh ⟨rfl, i, rfl, hi, ht⟩
    refine ⟨i, rfl, fun e => ?_, fun e => ?_⟩
    · have hlt : i < n := by simp at e; omega
      obtain ⟨b, o, rfl, hc⟩ := h1.get hlt
      obtain ⟨b', o', rfl, hc'⟩ := h2.get (show i < n' by omega)
      refine ⟨b, o, ⟨rfl, by omega, by omega⟩, _, by simpa using hc, b', o', ⟨rfl, by omega, by omega⟩, _, by simpa using hc', fun e => ?_, fun e => ?_⟩
      · have hne : l ≠ l' := fun e' => by subst e'; simp at e
        simpa [hne] using hK
      · have heq : l.getD i 0 = l'.getD i 0 := by simpa using e
        refine ⟨_, isW (by unfold InR; omega), ⟨rfl, i + 1, rfl, by omega, ?_⟩, ?_⟩
        · have g1 : i < l.length := by have := h1.1; omega
          have g2 : i < l'.length := by have := h2.1; omega
          rw [List.getD_eq_getElem?_getD, List.getD_eq_getElem?_getD, List.getElem?_eq_getElem g1, List.getElem?_eq_getElem g2] at heq
          simp only [Option.getD_some] at heq
          rw [List.take_succ_eq_append_getElem g1, List.take_succ_eq_append_getElem g2, ht, heq]
        · simp [vint]; omega
    · have hge : i = n := by simp at e; omega
      have heq : l = l' := by
        rw [List.take_of_length_le (by have := h1.1; omega), List.take_of_length_le (by have := h2.1; omega)] at ht
        exact ht
      simpa [heq] using hK

end Go.Proofs.YtgonnpleihbklaaDoor
