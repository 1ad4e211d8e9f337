/-
  What the law Names gives: true; nothing of what was there has turned. Conditions: that the library's table of powers lies there.
-/
import Derived.Test.YtgonnpleihbklaaDoorCItoa
import Derived.Test.YtgonnpleihbklaaDoorCNum
import Derived.Test.YtgonnpleihbklaaDoorCSame
import Derived.Test.YtgonnpleihbklaaDoorFaNam
namespace Go.Proofs.YtgonnpleihbklaaDoor
open Go Go.Vc
set_option linter.unusedVariables false
set_option maxRecDepth 100000

theorem api_Errno_Error_ok {n : Int} (hn : -1000000000000 ≤ n ∧ n ≤ 1000000000000) {h : Hp} (T : TabP h) {R : Value → Hp → Prop} (hK : R (vs (bs ([112, 101, 110, 115, 116, 111, 99, 107, 58, 32, 101, 114, 114, 111, 114, 32] ++ Lib.itoa n))) h) : CallOK Tryd.prog 8 [vi n] h R := by
  refine ok_api_Errno_Error ?_
  unfold VC_api_Errno_Error
  have := itoa_len hn.1 hn.2
  exact strconv_Itoa_ok (by unfold InR; omega) T ⟨_, rfl, _, rd_cat (l := [112, 101, 110, 115, 116, 111, 99, 107, 58, 32, 101, 114, 114, 111, 114, 32]) (m := Lib.itoa n) (by simp [maxLen]; omega), hK⟩
abbrev lr : List Int := [240, 80, 12, 40, 4, 1000000000, 9999, 1000, 1000, 4, 3, 40, 256, 160, 80, 260]
abbrev ls : List Int := [0, 1, 2, 1, 2, 3, 4, 5, 6, 7, 8, 9, 10, 11, 12, 1, 2, 3, 4, 5]
theorem law_Names_ok {h : Hp} (T : TabP h) : CallOK Tryd.prog 3 [] h fun v h' => v = vb true ∧ h.le h' := by
  refine ok_law_Names ?_
  unfold VC_law_Names
  intro b1 hb1 h2 b3 hb3 h4 b5 hb5 h6
  have l2 : h.le h2 := Hp.le_set (Hp.le_refl h) hb1 _
  have l4 : h2.le h4 := Hp.le_set (Hp.le_refl h2) hb3 _
  have l6 : h4.le h6 := Hp.le_set (Hp.le_refl h4) hb5 _
  have S1 : HasRow h2 (some ⟨b1, 0, none⟩) (lr.map vi) := HasRow.new _ _ (lr.map vi) _
  have S3 : HasRow h4 (some ⟨b3, 0, none⟩) (lr.map vi) := HasRow.new _ _ (lr.map vi) _
  have S5 : HasRow h6 (some ⟨b5, 0, none⟩) (ls.map vi) := HasRow.new _ _ (ls.map vi) _
  clear_value h2 h4 h6
  refine sem_append_full (m := 20) elInt ((S1.le l4).le l6) rfl (fun e => by cases e) S5 rfl (by decide) (by decide) (by decide) fun a9 c9 h8 O8 => ⟨_, _, _, rfl, ?_⟩
  intro b10 hb10 h11
  have l11 : h8.le h11 := Hp.le_set (Hp.le_refl h8) hb10 _
  have S10 : HasRow h11 (some ⟨b10, 0, none⟩) (ls.map vi) := HasRow.new _ _ (ls.map vi) _
  clear_value h11
  refine sem_append_full (m := 20) elInt (((S3.le l6).le O8.le).le l11) rfl (fun e => by cases e) S10 rfl (by decide) (by decide) (by decide) fun a14 c14 h13 O13 => ⟨_, _, _, rfl, ?_⟩
  intro b15 hb15 h16
  have l16 : h13.le h16 := Hp.le_set (Hp.le_refl h13) hb15 _
  have S16 : SlP (fun f : Int => [ifv (errV f)]) h16 (some ⟨b15, 0, none⟩) 8 [1, 2, 3, 4, 5, 6, 7, 8] := ⟨rfl, HasRow.new _ _ ([1, 2, 3, 4, 5, 6, 7, 8].flatMap fun f : Int => [ifv (errV f)]) _⟩
  clear_value h16
  have L16 : h.le h16 := Hp.le_trans (Hp.le_trans (Hp.le_trans (Hp.le_trans (Hp.le_trans (Hp.le_trans l2 l4) l6) O8.le) l11) O13.le) l16
  have hl : ∀ i : Nat, i < 8 → ([1, 2, 3, 4, 5, 6, 7, 8] : List Int)[i]? = some ((i : Int) + 1) := by
    intro i hi
    have : i = 0 ∨ i = 1 ∨ i = 2 ∨ i = 3 ∨ i = 4 ∨ i = 5 ∨ i = 6 ∨ i = 7 := by omega
    rcases this with rfl | rfl | rfl | rfl | rfl | rfl | rfl | rfl <;> rfl
  refine ⟨fun vs hh => hh = h16 ∧ ∃ i : Nat, vs = [vi i] ∧ i ≤ 8, fun vs hh => 8 - (vint vs 0).toNat, ⟨rfl, 0, rfl, by decide⟩, ?_⟩
  rintro vs hh ⟨rfl, i, rfl, hi⟩
  refine ⟨_, rfl, fun g => ?_, fun g => ?_⟩
  · have hlt : i < 8 := by have := of_decide_eq_true g; omega
    obtain ⟨b, o, ha, hr⟩ := S16.get (sz := 1) (fun _ => rfl) (by decide) (hl i hlt)
    exact ⟨b, o, ⟨ha, by omega, by omega⟩, _, Hp.row_cell hr (i := 0) rfl, _, isW (by unfold InR; omega), law_same_ok (f := (i : Int) + 1) (by omega) ⟨_, rfl, fun e => by simp at e, fun _ => ⟨_, isW (by unfold InR; omega), ⟨rfl, i + 1, rfl, by omega⟩, by simp [vint]; omega⟩⟩⟩
  · have A : SlI hh a9 36 (lr ++ ls) := ⟨rfl, by rw [List.map_append]; exact (((O8.row.le l11).le O13.le).le l16)⟩
    have B : SlI hh a14 36 (lr ++ ls) := ⟨rfl, by rw [List.map_append]; exact (O13.row.le l16)⟩
    refine R_SameNumbers_ok A B (by decide) (by decide) ⟨_, rfl, ?_⟩
    rw [decide_eq_true rfl]
    refine ⟨fun x h' => h' = hh ∧ x = .t (.one (.v (vs (bs ([112, 101, 110, 115, 116, 111, 99, 107, 58, 32, 101, 114, 114, 111, 114, 32] ++ Lib.itoa 8))))), fun _ => api_Errno_Error_ok (by decide) (T.le L16) ⟨_, rfl, rfl, rfl⟩, fun e => absurd rfl e, ?_⟩
    rintro h41 s42 ⟨rfl, e⟩
    cases e
    refine ⟨_, fun _ => rd_eqBs (b := [112, 101, 110, 115, 116, 111, 99, 107, 58, 32, 101, 114, 114, 111, 114, 32, 56]), ?_, L16⟩
    rw [itoa_one (by decide) (by decide)]
    rfl
end Go.Proofs.YtgonnpleihbklaaDoor
