/-
  What the law TopValue gives, for every argument: true; nothing of what was there has turned. Conditions: that the library's tables and errors lie there.
-/
import Derived.Test.YtgonnpleihbklaaDoorCTxt
import Derived.Test.YtgonnpleihbklaaDoorCValK
import Derived.Test.YtgonnpleihbklaaDoorFbVal
namespace Go.Proofs.YtgonnpleihbklaaDoor
open Go Go.Vc Go.Txt
set_option linter.unusedVariables false
set_option maxRecDepth 100000

theorem itoa_head {n : Int} : ∃ c r, Lib.itoa n = c :: r ∧ c ≠ 110 ∧ c ≠ 116 ∧ c ≠ 102 := by
  unfold Lib.itoa
  split
  · exact ⟨45, _, rfl, by decide, by decide, by decide⟩
  · obtain ⟨d1, d2, d3, d4⟩ := dec_spec n.toNat
    match hx : Lib.decDigits n.toNat, d3 with
    | c :: r, _ =>
      rw [hx] at d1
      have := d1 c (List.mem_cons_self ..)
      unfold isD at this
      refine ⟨c, r, rfl, ?_, ?_, ?_⟩ <;> (rintro rfl; revert this; decide)
/-- A value's text is read as it. -/
theorem read_text {v : Int × Int} (hv : goodV v) : readV (textV v) = (v, 0) := by
  obtain ⟨a, b⟩ := v
  unfold goodV at hv
  simp only at hv
  rcases hv with ⟨rfl, rfl⟩ | ⟨rfl, h1, h2⟩ | ⟨rfl, rfl | rfl⟩
  · rfl
  · obtain ⟨c, r, e, n1, n2, n3⟩ := itoa_head (n := b)
    have et : textV (1, b) = Lib.itoa b := rfl
    rw [et]
    have hn : Lib.itoa b ≠ wNull := by rw [e]; intro h; unfold wNull at h; injection h with h _; exact n1 h
    have hw : ¬ (Lib.itoa b = wTrue ∨ Lib.itoa b = wFalse) := by
      rw [e]
      rintro (h | h)
      · unfold wTrue at h; injection h with h _; exact n2 h
      · unfold wFalse at h; injection h with h _; exact n3 h
    unfold readV
    rw [if_neg hn, if_neg hw, atoi_itoa (by omega) (by omega)]
    simp only
    rw [if_pos ⟨trivial, h1, h2⟩]
    unfold numV
    rw [if_neg (by omega)]
  · rfl
  · rfl
theorem textV_len {v : Int × Int} (hv : goodV v) : (textV v).length ≤ 14 := by
  unfold goodV at hv
  unfold textV
  split
  · decide
  · split
    · exact itoa_len (by omega) (by omega)
    · split <;> decide
theorem itoa_m5 : Lib.itoa (-5) = [45, 53] := by
  rw [itoa_minus (by decide), itoa_one (by decide) (by decide)]
  rfl
theorem top_TopValue_ok {v : Int × Int} {h : Hp} (T : TabP h) (E : TabE h) : CallOK Tryd.prog 5 [vag (encV v)] h fun v h' => v = vb true ∧ h.le h' := by
  refine ok_top_TopValue ?_
  unfold VC_top_TopValue
  refine value_Number_ok ⟨_, _, rfl, ?_⟩
  have e5 : numV (-5) = (1, -5) := by decide
  rw [e5]
  refine value_Text_ok (v := (1, -5)) (by unfold InR; decide) T ⟨_, rfl, _, rd_neBs (a := textV (1, -5)) (b := [45, 53]), ?_⟩
  have et : textV (1, -5) = [45, 53] := itoa_m5
  rw [et]
  refine ⟨fun g => (by simp at g), fun _ => value_Check_ok (v := v) ⟨_, rfl, fun g => ⟨rfl, Hp.le_refl h⟩, fun g => ?_⟩⟩
  have hv : goodV v := by
    rw [errV_some] at g
    by_cases hv : goodV v
    · exact hv
    · rw [if_neg hv] at g; simp at g
  have hs := hv.small
  unfold smallV at hs
  have hl := textV_len hv
  refine value_Text_ok (v := v) (by unfold InR; omega) T ⟨_, rfl, value_Parse_ok (by omega) T E ⟨_, _, _, rfl, ?_⟩⟩
  rw [read_text hv]
  refine ⟨_, fun _ => rd_eqV (a := v) (b := v), ?_, Hp.le_refl h⟩
  rw [decide_eq_true rfl]
  rfl
end Go.Proofs.YtgonnpleihbklaaDoor
