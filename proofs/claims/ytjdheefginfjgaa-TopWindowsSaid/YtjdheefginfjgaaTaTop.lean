/-
  What the law TopWindows gives, for every argument: true; nothing of what was there has turned. Conditions: none.
-/
import Derived.Test.YtjdheefginfjgaaCaWin
namespace Go.Proofs.Ytjdheefginfjgaa
open Go Go.Vc
set_option linter.unusedVariables false

/-- The multiples of s in (lo, lo + n], one by one. -/
theorem upto_mul {s : Int} (hs : 1 ≤ s) : ∀ (k : Nat) (lo : Int) (n : Nat) (f : Int), mulOf s f = true → lo < f → f ≤ lo + s → lo + n < f + k * s → (k = 0 ∨ f + (k - 1) * s ≤ lo + n) →
    upto (mulOf s) lo n = (List.range k).map fun i : Nat => f + i * s
  | 0, lo, n, f, hf, h1, h2, h3, h4 => by
    have := upto_skip (mulOf s) n lo 0 fun x x1 x2 => by
      refine mulOf_between (x := f - s) hs ?_ (by omega) (by simp at h3; omega)
      rw [mulOf_dvd] at hf ⊢
      exact Int.dvd_sub hf (Int.dvd_refl _)
    simpa [upto] using this
  | k + 1, lo, n, f, hf, h1, h2, h3, h4 => by
    have hk : 0 ≤ (k : Int) * s := Int.mul_nonneg (by omega) (by omega)
    have e0 : ((k + 1 : Nat) : Int) * s = k * s + s := by rw [Int.natCast_add, Int.add_mul]; simp
    have e1 : (((k + 1 : Nat) : Int) - 1) * s = k * s := by congr 1; omega
    rw [e0] at h3
    rw [e1] at h4
    have h5 : f + k * s ≤ lo + n := by omega
    have a := upto_skip (mulOf s) (f - 1 - lo).toNat lo ((lo + n - f).toNat + 1) fun x x1 x2 => by
      refine mulOf_between (x := f - s) hs ?_ (by omega) (by omega)
      rw [mulOf_dvd] at hf ⊢
      exact Int.dvd_sub hf (Int.dvd_refl _)
    have e2 : (f - 1 - lo).toNat + ((lo + n - f).toNat + 1) = n := by omega
    have e3 : lo + ((f - 1 - lo).toNat : Int) = f - 1 := by omega
    have e4 : f - 1 + 1 = f := by omega
    rw [e2, e3, upto_cons, e4, hf, if_pos rfl] at a
    have b := upto_mul hs k f (lo + n - f).toNat (f + s) (by rw [mulOf_dvd] at hf ⊢; exact Int.dvd_add hf (Int.dvd_refl _)) (by omega) (by omega) (by omega) (by
      rcases Nat.eq_zero_or_pos k with h | h
      · exact .inl h
      · refine .inr ?_
        rw [Int.sub_mul]
        omega)
    rw [a, b, List.range_succ_eq_map, List.map_cons, List.map_map]
    simp only [List.singleton_append]
    congr 1
    · simp
    · refine List.map_congr_left fun i _ => ?_
      show f + s + i * s = f + ((i + 1 : Nat) : Int) * s
      rw [Int.natCast_add, Int.add_mul]
      simp
      omega

/-- The starts, one by one. -/
theorem starts_mul {at_ size slide : Int} (hs : 1 ≤ slide) (h1 : slide ≤ size) : ∃ (k : Nat) (f : Int), startsOf at_ size slide = ((List.range k).map fun i : Nat => f + i * slide) ∧
    startsOf (at_ + slide) size slide = ((List.range k).map fun i : Nat => f + slide + i * slide) ∧ 1 ≤ k ∧ mulOf slide f = true ∧ at_ - size < f ∧ f ≤ at_ - size + slide ∧ at_ < f + k * slide ∧ f + (k - 1) * slide ≤ at_ := by
  have m0 : 0 ≤ (at_ - size).emod slide := Int.emod_nonneg _ (by omega)
  have m1 : (at_ - size).emod slide < slide := Int.emod_lt_of_pos _ (by omega)
  have d1 : slide * ((at_ - size) / slide) + (at_ - size).emod slide = at_ - size := Int.mul_ediv_add_emod _ _
  let f := slide * ((at_ - size) / slide) + slide
  have hf : mulOf slide f = true := mulOf_dvd.2 ⟨(at_ - size) / slide + 1, by show slide * _ + slide = _; rw [Int.mul_add]; simp⟩
  have f1 : at_ - size < f := by show at_ - size < slide * _ + slide; omega
  have f2 : f ≤ at_ - size + slide := by show slide * _ + slide ≤ _; omega
  have q0 : 0 ≤ (at_ - f).emod slide := Int.emod_nonneg _ (by omega)
  have q1 : (at_ - f).emod slide < slide := Int.emod_lt_of_pos _ (by omega)
  have q2 : slide * ((at_ - f) / slide) + (at_ - f).emod slide = at_ - f := Int.mul_ediv_add_emod _ _
  have q3 : 0 ≤ (at_ - f) / slide := Int.ediv_nonneg (by omega) (by omega)
  have e0 : ((((at_ - f) / slide).toNat + 1 : Nat) : Int) * slide = slide * ((at_ - f) / slide) + slide := by
    rw [Int.natCast_add, Int.add_mul, Int.toNat_of_nonneg q3, Int.mul_comm]; simp
  have e1 : (((((at_ - f) / slide).toNat + 1 : Nat) : Int) - 1) * slide = slide * ((at_ - f) / slide) := by
    rw [Int.sub_mul, e0]; omega
  refine ⟨((at_ - f) / slide).toNat + 1, f, ?_, ?_, by omega, hf, f1, f2, ?_, ?_⟩
  · exact upto_mul hs _ _ _ f hf f1 f2 (by rw [e0]; omega) (.inr (by rw [e1]; omega))
  · exact upto_mul hs _ _ _ (f + slide) (by rw [mulOf_dvd] at hf ⊢; exact Int.dvd_add hf (Int.dvd_refl _)) (by omega) (by omega) (by rw [e0]; omega) (.inr (by rw [e1]; omega))
  · rw [e0]; omega
  · rw [e1]; omega

theorem top_TopWindows_ok {at_ size slide : Int} {h : Hp} : CallOK Try.prog 5 [vi at_, vi size, vi slide] h fun v h' => v = vb true ∧ h.le h' := by
  refine ok_top_TopWindows ?_
  unfold VC_top_TopWindows
  refine window_Starts_ok (by decide) (by decide) (by decide) (by decide) (by decide) (by decide) fun a n c h2 l1 s1 => ⟨a, n, c, rfl, fun e => ?_, fun e => ⟨fun e => ?_, fun e => ?_, fun e => ⟨rfl, l1⟩, fun e => ?_⟩⟩
  · have e0 : (startsOf 3 10 10).length = 1 := by decide
    have := s1.1
    rw [e0] at this
    subst this
    simp at e
  · simp [Bool.cond_eq_ite] at e
    unfold InR
    omega
  · simp [Bool.cond_eq_ite] at e
    unfold InR
    omega
  · simp [Bool.cond_eq_ite] at e
    obtain ⟨k, f, e1, e2, k1, hf, f1, f2, f3, f4⟩ := starts_mul (at_ := at_) (size := size) (slide := slide) (by omega) (by omega)
    refine window_Starts_ok (by omega) (by omega) (by omega) (by omega) (by omega) (by omega) fun a1 n1 c1 h3 l3 s3 => ⟨a1, n1, c1, rfl, by unfold InR; omega, ?_⟩
    refine window_Starts_ok (by omega) (by omega) (by omega) (by omega) (by omega) (by omega) fun a2 n2 c2 h4 l4 s4 => ⟨a2, n2, c2, rfl, ?_⟩
    rw [e1] at s3
    rw [e2] at s4
    have hn1 : n1 = k := by have := s3.1; simpa using this
    have hn2 : n2 = k := by have := s4.1; simpa using this
    subst hn1
    subst hn2
    have s3' := s3.le l4
    have hk4 : n2 ≤ 4 := by
      rcases Nat.lt_or_ge 4 n2 with h | h
      · have : 4 * slide ≤ ((n2 : Int) - 1) * slide := Int.mul_le_mul_of_nonneg_right (by omega) (by omega)
        omega
      · exact h
    refine ⟨fun e => ?_, fun e => ?_⟩
    · simp [Bool.cond_eq_ite] at e
      omega
    · refine ⟨fun vs hh => hh = h4 ∧ ∃ i : Nat, vs = [vi i] ∧ i ≤ n2, fun vs hh => n2 - (vint vs 0).toNat, ⟨rfl, 0, rfl, Nat.zero_le _⟩, ?_⟩
      rintro vs hh ⟨rfl, i, rfl, hi⟩
      have gl : ∀ j, j < n2 → ((List.range n2).map fun i : Nat => f + i * slide).getD j 0 = f + j * slide := by
        intro j hj
        simp [List.getD_eq_getElem?_getD, List.getElem?_map, List.getElem?_range hj]
      have gm : ∀ j, j < n2 → ((List.range n2).map fun i : Nat => f + slide + i * slide).getD j 0 = f + slide + j * slide := by
        intro j hj
        simp [List.getD_eq_getElem?_getD, List.getElem?_map, List.getElem?_range hj]
      refine ⟨i, rfl, fun e => ?_, fun e => ?_⟩
      · have hlt : i < n2 := by simpa using e
        obtain ⟨b, o, ea, hc⟩ := s3'.get hlt
        obtain ⟨b', o', ea', hc'⟩ := s4.get hlt
        rw [gl i hlt, Nat.mul_one] at hc
        rw [gm i hlt, Nat.mul_one] at hc'
        have p0 : 0 ≤ (i : Int) * slide := Int.mul_nonneg (by omega) (by omega)
        have p1 : (i : Int) * slide ≤ ((n2 : Int) - 1) * slide := Int.mul_le_mul_of_nonneg_right (by omega) (by omega)
        have p2 : (f + (i : Int) * slide).tmod slide = 0 := by
          refine Int.dvd_iff_tmod_eq_zero.1 ?_
          rw [mulOf_dvd] at hf
          exact Int.dvd_add hf ⟨i, Int.mul_comm _ _⟩
        have p3 : (((i : Int) - 1)) * slide = (i : Int) * slide - slide := by rw [Int.sub_mul]; omega
        have hp : 0 < i → hh.cell b (o + (i - 1)) = some (vi (f + (i : Int) * slide - slide)) := by
          intro h0
          obtain ⟨b2, o2, eb, h2⟩ := s3'.get (i := i - 1) (by omega)
          rw [ea] at eb
          cases eb
          rw [gl (i - 1) (by omega), Nat.mul_one, Int.natCast_sub (by omega)] at h2
          rw [h2]
          congr 2
          have : ((i : Int) - ((1 : Nat) : Int)) * slide = (i : Int) * slide - slide := p3
          omega
        generalize hpp : (i : Int) * slide = p at *
        have c1 : hh.cell b (o + (i : Int).toNat * 1) = some (vi (f + p)) := by simpa using hc
        have c2 : hh.cell b' (o' + (i : Int).toNat * 1) = some (vi (f + slide + p)) := by simpa using hc'
        have c3 : 0 < i → hh.cell b (o + ((i : Int) - 1).toNat * 1) = some (vi (f + p - slide)) := fun h0 => by
          have : ((i : Int) - 1).toNat = i - 1 := by omega
          rw [this, Nat.mul_one]
          exact hp h0
        have A : a1 = some ⟨b, o, none⟩ ∧ (0 : Int) ≤ i ∧ (i : Int) < ((n2 : Nat) : Int) := ⟨ea, by omega, by omega⟩
        refine ⟨b, o, A, _, c1, b, o, fun _ => A, _, fun _ => c1, fun _ => by unfold InR; omega, b, o, fun _ => A, _, fun _ => c1, fun _ => by omega, b, o, fun _ => A, _, fun _ => c1, fun _ => by unfold InR; omega,
          b, o, fun g => ⟨ea, by have := of_decide_eq_true g.2; omega, by have := of_decide_eq_true g.2; omega⟩, _, fun g => c3 (by have := of_decide_eq_true g.2; omega), fun _ => by unfold InR; omega,
          b', o', fun _ => ⟨ea', by omega, by omega⟩, _, fun _ => c2, b, o, fun _ => A, _, fun _ => c1, fun _ => by unfold InR; omega, fun e => ?_, fun e => ?_⟩
        · exfalso
          simp only [Bool.cond_eq_ite, p2] at e
          simp at e
          omega
        · exact ⟨by unfold InR; omega, ⟨rfl, i + 1, by simp, by omega⟩, by simp [vint]; omega⟩
      · have hge : i = n2 := by simp at e; omega
        subst hge
        obtain ⟨b, o, ea, hc⟩ := s3'.get (i := 0) (by omega)
        obtain ⟨b2, o2, eb, hc2⟩ := s3'.get (i := i - 1) (by omega)
        rw [ea] at eb
        cases eb
        rw [gl 0 (by omega)] at hc
        rw [gl (i - 1) (by omega), Nat.mul_one, Int.natCast_sub (by omega)] at hc2
        have z : ((0 : Nat) : Int) * slide = 0 := by simp
        rw [z] at hc
        have z2 : ((i : Int) - 1) * slide = (i : Int) * slide - slide := by rw [Int.sub_mul]; omega
        have z3 : ((i : Int) - ((1 : Nat) : Int)) * slide = (i : Int) * slide - slide := z2
        rw [z3] at hc2
        rw [z2] at f4
        have z4 : (i : Int) * slide ≤ 4 * slide := Int.mul_le_mul_of_nonneg_right (by omega) (by omega)
        generalize hpp : (i : Int) * slide = p at *
        have zi : ((i : Int) - 1).toNat = i - 1 := by omega
        refine ⟨b, o, ⟨ea, by omega, by omega⟩, f, by simpa using hc, by unfold InR; omega, by unfold InR; omega, fun _ => by unfold InR; omega, b, o, fun _ => ⟨ea, by omega, by omega⟩, _, fun _ => by rw [zi, Nat.mul_one]; exact hc2, fun _ => by unfold InR; omega, ?_, Hp.le_trans l1 (Hp.le_trans l3 l4)⟩
        have y1 : decide (f - slide + size ≤ at_) = true := decide_eq_true (by omega)
        have y2 : decide (f + (p - slide) + slide > at_) = true := decide_eq_true (by omega)
        rw [y1, y2]
        rfl
end Go.Proofs.Ytjdheefginfjgaa
