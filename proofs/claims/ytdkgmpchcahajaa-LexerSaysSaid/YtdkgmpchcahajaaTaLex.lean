/-
  What the law LexerSays gives, for every argument: true; nothing of what was there has turned. Conditions: none.
-/
import Derived.Test.YtdkgmpchcahajaaCRLex
import Derived.Test.YtdkgmpchcahajaaCSame
import Derived.Test.YtdkgmpchcahajaaFaLex
namespace Go.Proofs.Ytdkgmpchcahajaa
open Go Go.Vc
set_option linter.unusedVariables false
set_option maxRecDepth 100000

theorem law_words_ok {h : Hp} {R : Value → Hp → Prop} (hK : ∀ h', h.le h' → R (vb true) h') : CallOK Try.prog 23 [] h R := by
  refine ok_law_words ?_
  unfold VC_law_words
  have e : wordsL [97, 60, 61, 49, 50, 32, 98] = ([[97], [60, 61], [49, 50], [98]], 0) := by decide +kernel
  refine lexer_Words_ok (l := [97, 60, 61, 49, 50, 32, 98]) fun a n c h1 O => ⟨_, _, _, _, rfl, ?_⟩
  rw [e] at O ⊢
  refine law_same_ok (f := 0) (by decide) ⟨true, rfl, fun _ => ?_, fun e => absurd rfl e⟩
  intro b8 hb8 h9
  have S1 : SlB h9 a n [[97], [60, 61], [49, 50], [98]] := (Own.set hb8 _ O).slp encB_len (by decide)
  have S2 : SlB h9 (some ⟨b8, 0, none⟩) 4 [[97], [60, 61], [49, 50], [98]] := ⟨rfl, HasRow.new _ _ [vs (bs [97]), vs (bs [60, 61]), vs (bs [49, 50]), vs (bs [98])] _⟩
  have hn := S1.1
  simp at hn
  refine ⟨fun x h' => h' = h9 ∧ x = .t (.one (.v (vb true))), fun _ => R_SameTexts_ok S1 S2 (by omega) (by omega) ⟨_, rfl, rfl, by simp⟩, fun e => absurd rfl e, ?_⟩
  rintro h14 p15 ⟨rfl, e15⟩
  cases e15
  exact hK _ (Hp.le_set O.le hb8 _)

theorem wordsL_len (l : List UInt8) : (wordsL l).1.length ≤ 80 := by
  have key : ∀ (k i : Nat) (acc : List (List UInt8)), acc.length ≤ 80 → (lexF l k i acc).1.length ≤ 80 := by
    intro k
    induction k with
    | zero => intro i acc h; exact h
    | succ k ih =>
      intro i acc h
      rw [lexF]
      split
      · exact h
      · split
        · exact ih _ _ h
        · split
          · simp
          · split
            · simp
            · exact ih _ _ (by simp; omega)
  unfold wordsL
  split
  · simp
  · exact key _ _ _ (by simp)
theorem wordsL_err (l : List UInt8) : 0 ≤ (wordsL l).2 := by
  have key : ∀ (k i : Nat) (acc : List (List UInt8)), 0 ≤ (lexF l k i acc).2 := by
    intro k
    induction k with
    | zero => intro i acc; exact Int.le_refl _
    | succ k ih =>
      intro i acc
      rw [lexF]
      split
      · exact Int.le_refl _
      · split
        · exact ih _ _
        · split
          · simp
          · split
            · simp
            · exact ih _ _
  unfold wordsL
  split
  · simp
  · exact key _ _ _

theorem law_LexerSays_ok {l : List UInt8} {h : Hp} : CallOK Try.prog 4 [vs (bs l)] h fun v h' => v = vb true ∧ h.le h' := by
  refine ok_law_LexerSays ?_
  unfold VC_law_LexerSays
  refine law_words_ok fun h2 hl2 => ⟨true, rfl, fun e => ⟨rfl, hl2⟩, fun _ => ?_⟩
  have hlen := wordsL_len l
  refine lexer_Words_ok fun a n c h6 O1 => ⟨_, _, _, _, rfl, ?_⟩
  refine R_WordsOf_ok fun a' n' c' h10 O2 => ⟨_, _, _, _, rfl, ?_⟩
  refine law_same_ok (f := (wordsL l).2) (wordsL_err l) ⟨_, rfl, ?_⟩
  have S1 : SlB h10 a n (wordsL l).1 := (O1.slp encB_len (by decide)).le O2.le
  have S2 : SlB h10 a' n' (wordsL l).1 := O2.slp encB_len (by decide)
  have hn1 := S1.1
  have hn2 := S2.1
  rw [decide_eq_true rfl]
  refine ⟨fun x h' => h' = h10 ∧ x = .t (.one (.v (vb true))), fun _ => R_SameTexts_ok S1 S2 (by omega) (by omega) ⟨_, rfl, rfl, by simp⟩, fun e => absurd rfl e, ?_⟩
  rintro h14 p15 ⟨rfl, e15⟩
  cases e15
  exact ⟨rfl, Hp.le_trans (Hp.le_trans hl2 O1.le) O2.le⟩
end Go.Proofs.Ytdkgmpchcahajaa
