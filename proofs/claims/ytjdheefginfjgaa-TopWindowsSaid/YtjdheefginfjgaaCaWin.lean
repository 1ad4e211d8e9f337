/-
  Contracts: the starts of windows, by the program and by the document's answer; two rows of numbers that are the same. Conditions: those stated at each.
-/
import Derived.Test.YtjdheefginfjgaaFaWin
import Derived.Test.YtjdheefginfjgaaVcL
namespace Go.Proofs.Ytjdheefginfjgaa
open Go Go.Vc
set_option linter.unusedVariables false

def mulOf (slide x : Int) : Bool := decide (x.tmod slide = 0)
/-- THE STARTS OF WINDOWS: the multiples of 'slide' in (at - size, at]. -/
def startsOf (at_ size slide : Int) : List Int := upto (mulOf slide) (at_ - size) size.toNat

theorem R_SameNumbers_ok {a : Option Addr} {n c : Nat} {l : List Int} {a' : Option Addr} {n' c' : Nat} {l' : List Int} {h : Hp} {R : Value → Hp → Prop} (h1 : SlI h a n l) (h2 : SlI h a' n' l') (hn : n ≤ 140737488355328) (hn' : n' ≤ 140737488355328)
    (hK : R (vb (decide (l = l'))) h) : CallOK Try.prog 8 [vsl a n c, vsl a' n' c'] h R := by
  refine ok_R_SameNumbers ?_
  unfold VC_R_SameNumbers
  refine ⟨fun e => ?_, fun e => ?_⟩
  · have : l ≠ l' := fun e' => by
      have := h1.1; have := h2.1; subst e'
      simp at e; omega
    simpa [this] using hK
  · have hl : n = n' := by simp at e; omega
    refine ⟨fun vs hh => hh = h ∧ ∃ i : Nat, vs = [vi i] ∧ i ≤ n ∧ l.take i = l'.take i, fun vs hh => n - (vint vs 0).toNat, ⟨rfl, 0, rfl, Nat.zero_le _, by simp⟩, ?_⟩
    rintro vs hh ⟨rfl, i, rfl, hi, ht⟩
    refine ⟨i, rfl, fun e => ?_, fun e => ?_⟩
    · have hlt : i < n := by simp at e; omega
      obtain ⟨b, o, rfl, hc⟩ := h1.get hlt
      obtain ⟨b', o', rfl, hc'⟩ := h2.get (show i < n' by omega)
      refine ⟨b, o, ⟨rfl, by omega, by omega⟩, _, by simpa using hc, b', o', ⟨rfl, by omega, by omega⟩, _, by simpa using hc', fun e => ?_, fun e => ?_⟩
      · have hne : l ≠ l' := fun e' => by subst e'; simp at e
        simpa [hne] using hK
      · have heq : l.getD i 0 = l'.getD i 0 := by simpa using e
        refine ⟨by unfold InR; omega, ⟨rfl, i + 1, rfl, by omega, ?_⟩, ?_⟩
        · have g1 : i < l.length := by have := h1.1; omega
          have g2 : i < l'.length := by have := h2.1; omega
          rw [List.getD_eq_getElem?_getD, List.getD_eq_getElem?_getD, List.getElem?_eq_getElem g1, List.getElem?_eq_getElem g2] at heq
          simp only [Option.getD_some] at heq
          rw [List.take_succ_eq_append_getElem g1, List.take_succ_eq_append_getElem g2, ht, heq]
        · simp [vint]; omega
    · have hge : i = n := by simp at e; omega
      have heq : l = l' := by
        rw [List.take_of_length_le (by have := h1.1; omega), List.take_of_length_le (by have := h2.1; omega)] at ht
        exact ht
      simpa [heq] using hK

theorem R_Starts_ok {at_ size slide : Int} {h : Hp} {R : Value → Hp → Prop} (hs : 1 ≤ slide) (hz : 0 ≤ size) (hz2 : size ≤ 1048576) (ha : -1048576 ≤ at_) (ha2 : at_ ≤ 1048576)
    (hK : ∀ a n c h', h.le h' → SlI h' a n (startsOf at_ size slide) → R (vsl a n c) h') : CallOK Try.prog 9 [vi at_, vi size, vi slide] h R := by
  refine ok_R_Starts ?_
  unfold VC_R_Starts
  refine ⟨by unfold InR; omega, by unfold InR; omega,
    fun vs hh => ∃ (a : Option Addr) (n c : Nat) (k : Nat), vs = [vsl a n c, vi (at_ - size + 1 + k)] ∧ k ≤ size.toNat ∧ Own h hh 3 1 a n c ((upto (mulOf slide) (at_ - size) k).map vi),
    fun vs hh => (at_ + 1 - vint vs 1).toNat, ⟨none, 0, 0, 0, by simp, Nat.zero_le _, Own.nil (Hp.le_refl h) _ _⟩, ?_⟩
  rintro vs hh ⟨a, n, c, k, rfl, hk, O⟩
  have hn : n = (upto (mulOf slide) (at_ - size) k).length := O.sli.1
  have hn2 := upto_length (mulOf slide) (at_ - size) k
  refine ⟨a, n, c, _, rfl, fun e => ?_, fun e => ?_⟩
  · have hlt : at_ - size + 1 + k ≤ at_ := by simpa using e
    have stp : ∀ a' c' h', Own h h' 3 1 a' (upto (mulOf slide) (at_ - size) (k + 1)).length c' ((upto (mulOf slide) (at_ - size) (k + 1)).map vi) →
        (InR (at_ - size + 1 + k + 1) ∧ (∃ (a : Option Addr) (n c : Nat) (k' : Nat), [vsl a' (upto (mulOf slide) (at_ - size) (k + 1)).length c', vi (at_ - size + 1 + k + 1)] = [vsl a n c, vi (at_ - size + 1 + k')] ∧ k' ≤ size.toNat ∧ Own h h' 3 1 a n c ((upto (mulOf slide) (at_ - size) k').map vi)) ∧
          (at_ + 1 - vint [vsl a' (upto (mulOf slide) (at_ - size) (k + 1)).length c', vi (at_ - size + 1 + k + 1)] 1).toNat < (at_ + 1 - vint [vsl a n c, vi (at_ - size + 1 + k)] 1).toNat) := by
      intro a' c' h' O'
      refine ⟨by unfold InR; omega, ⟨a', _, c', k + 1, by simp; omega, by omega, O'⟩, by simp [vint]; omega⟩
    refine ⟨by omega, fun e => ?_, fun e => ?_⟩
    · intro b hb h11
      refine Own.append (m := 1) elInt (O.set hb _) (HasRow.new hh b [vi (at_ - size + 1 + k)] _) rfl (one_ints [_]) (by omega) (by omega) fun a' c' h' O' _ _ => ⟨_, _, _, rfl, ?_⟩
      have hu : upto (mulOf slide) (at_ - size) (k + 1) = upto (mulOf slide) (at_ - size) k ++ [at_ - size + 1 + k] := by
        have e2 : (at_ - size + ((k + 1 : Nat) : Int)) = at_ - size + 1 + k := by omega
        have hm : mulOf slide (at_ - size + 1 + k) = true := by simpa [mulOf] using e
        rw [upto, e2, hm]; rfl
      have := stp a' c' h'
      rw [hu, List.map_append, List.length_append, ← hn] at this
      exact this O'
    · have hu : upto (mulOf slide) (at_ - size) (k + 1) = upto (mulOf slide) (at_ - size) k := by
        have e2 : (at_ - size + ((k + 1 : Nat) : Int)) = at_ - size + 1 + k := by omega
        have hm : mulOf slide (at_ - size + 1 + k) = false := by simpa [mulOf] using e
        rw [upto, e2, hm]; simp
      have := stp a c hh
      rw [hu, ← hn] at this
      exact this O
  · have hge : k = size.toNat := by simp at e; omega
    subst hge
    exact hK a n c hh O.le O.sli

theorem mulOf_dvd {slide x : Int} : mulOf slide x = true ↔ slide ∣ x := by
  unfold mulOf
  rw [decide_eq_true_iff]
  exact (Int.dvd_iff_tmod_eq_zero).symm
theorem mulOf_between {slide x y : Int} (hs : 1 ≤ slide) (hx : mulOf slide x = true) (h1 : x < y) (h2 : y < x + slide) : mulOf slide y = false := by
  rw [← Bool.not_eq_true]
  intro hy
  rw [mulOf_dvd] at hx hy
  obtain ⟨u, rfl⟩ := hx
  obtain ⟨v, rfl⟩ := hy
  have h3 : u < v := by
    rcases Int.lt_or_le u v with h | h
    · exact h
    · have := Int.mul_le_mul_of_nonneg_left h (show (0 : Int) ≤ slide by omega); omega
  have h4 : slide * (u + 1) ≤ slide * v := Int.mul_le_mul_of_nonneg_left h3 (by omega)
  rw [Int.mul_add] at h4
  omega

theorem window_Starts_ok {at_ size slide : Int} {h : Hp} {R : Value → Hp → Prop} (hs : 1 ≤ slide) (hsl2 : slide ≤ 1048576) (hz : 0 ≤ size) (hz2 : size ≤ 1048576) (ha : -1048576 ≤ at_) (ha2 : at_ ≤ 1048576)
    (hK : ∀ a n c h', h.le h' → SlI h' a n (startsOf at_ size slide) → R (vsl a n c) h') : CallOK Try.prog 7 [vi at_, vi size, vi slide] h R := by
  refine ok_window_Starts ?_
  unfold VC_window_Starts
  have h1 : at_.tdiv slide * slide + at_.tmod slide = at_ := Int.tdiv_mul_add_tmod at_ slide
  have h2 : at_.tmod slide < slide := Int.tmod_lt_of_pos at_ (by omega)
  have h3 : -slide < at_.tmod slide := Int.lt_tmod_of_pos at_ (by omega)
  have h4 : mulOf slide (at_.tdiv slide * slide) = true := mulOf_dvd.2 ⟨at_.tdiv slide, Int.mul_comm _ _⟩
  have h5 : -1048576 ≤ at_.tdiv slide ∧ at_.tdiv slide ≤ 1048576 := by
    have := Int.natAbs_tdiv_le_natAbs at_ slide
    omega
  have fin : ∀ x : Int, mulOf slide x = true → x ≤ at_ → at_ < x + slide → (∃ (I7 : List Value → Hp → Prop) (m8 : List Value → Hp → Nat), I7 [(vsl none 0 0), (vi x)] h ∧ ∀ (vs9 : List Value) (h10 : Hp), I7 vs9 h10 → ∃ (a11 : Option Addr) (n11 c11 : Nat) (x12 : Int), vs9 = [(vsl a11 n11 c11), (vi x12)] ∧ ((InR (at_ - size)) ∧ (((decide ((x12 : Int) > (at_ - size))) = true → (∀ (b15 : Nat), h10 b15 = none → let h16 : Hp := Hp.set h10 b15 (cellsO [(vi x12)] 3); (SemOK Try.prog (Builtin.append_ #[22, 22] 22 #[(vsl (some ⟨b15, 0, none⟩) 1 1), (vsl a11 n11 c11)]) h16 fun v17 h18 => ∃ (a19 : Option Addr) (n19 c19 : Nat), v17 = (vsl a19 n19 c19) ∧ ((InR (x12 - slide)) ∧ (I7 [(vsl a19 n19 c19), (vi (x12 - slide))] h18 ∧ m8 [(vsl a19 n19 c19), (vi (x12 - slide))] h18 < m8 vs9 h10))))) ∧ ((decide ((x12 : Int) > (at_ - size))) = false → R (vsl a11 n11 c11) h10)))) := by
    intro x hx1 hx2 hx3
    have up : ∀ (y : Int) (k : Nat), mulOf slide y = true → y + k < y + slide → ∀ n, upto (mulOf slide) y (k + n) = upto (mulOf slide) (y + k) n := by
      intro y k hy hk n
      exact upto_skip _ k y n fun z z1 z2 => mulOf_between hs hy z1 (by omega)
    refine ⟨fun vs hh => ∃ (a : Option Addr) (n c : Nat) (x : Int), vs = [vsl a n c, vi x] ∧ mulOf slide x = true ∧ x ≤ at_ ∧ at_ - size < x + slide ∧ SlI hh a n (upto (mulOf slide) x (at_ - x).toNat) ∧ h.le hh ∧ -4194304 ≤ x,
      fun vs hh => (vint vs 1 - (at_ - size)).toNat, ⟨none, 0, 0, x, rfl, hx1, hx2, by omega, ?_, Hp.le_refl h, by omega⟩, ?_⟩
    · have := up x (at_ - x).toNat hx1 (by omega) 0
      rw [Nat.add_zero] at this
      rw [this]
      exact ⟨rfl, .inl rfl⟩
    rintro vs hh ⟨a, n, c, y, rfl, hy1, hy2, hy3, S, hle, hy4⟩
    refine ⟨a, n, c, y, rfl, by unfold InR; omega, fun e => ?_, fun e => ?_⟩
    · have hlt : at_ - size < y := by simpa using e
      intro b hb h16
      have hn := S.1
      have hn2 := upto_length (mulOf slide) y (at_ - y).toNat
      refine Own.append (n := 1) (m := n) (c2 := c) elInt (Own.mk_new hle hb _ (n := 1) [vi y] rfl (by decide)) (S.2.le (Hp.le_set (Hp.le_refl hh) hb _)) (by rw [hn, List.length_map, Nat.mul_one]) (one_ints _) (by omega) (by omega) fun a' c' h' O' _ _ => ⟨_, _, _, rfl, by unfold InR; omega, ⟨a', _, c', _, rfl, ?_, by omega, by omega, ?_, O'.le, by omega⟩, by simp [vint]; omega⟩
      · rw [mulOf_dvd] at hy1 ⊢
        exact Int.dvd_sub hy1 (Int.dvd_refl _)
      · have hm : mulOf slide (y - slide) = true := by
          rw [mulOf_dvd] at hy1 ⊢
          exact Int.dvd_sub hy1 (Int.dvd_refl _)
        have e1 := up (y - slide) (slide - 1).toNat hm (by omega) ((at_ - y).toNat + 1)
        have e2 : (slide - 1).toNat + ((at_ - y).toNat + 1) = (at_ - (y - slide)).toNat := by omega
        have e3 : y - slide + ((slide - 1).toNat : Int) = y - 1 := by omega
        have e4 : y - 1 + 1 = y := by omega
        rw [e2, e3, upto_cons, e4, hy1, if_pos rfl] at e1
        rw [e1]
        exact O'.sli (l := y :: upto (mulOf slide) y (at_ - y).toNat)
    · have hge : y ≤ at_ - size := by simpa using e
      refine hK a n c hh hle ?_
      have e1 := up y (at_ - size - y).toNat hy1 (by omega) size.toNat
      have e2 : (at_ - size - y).toNat + size.toNat = (at_ - y).toNat := by omega
      have e3 : y + ((at_ - size - y).toNat : Int) = at_ - size := by omega
      rw [e2, e3] at e1
      rw [e1] at S
      exact S
  refine ⟨⟨by omega, by unfold InR; omega⟩, by unfold InR; omega, fun e => ?_, fun e => ?_⟩
  · have hlt : at_ < at_.tdiv slide * slide := by simpa using e
    refine ⟨by unfold InR; omega, fin _ ?_ (by omega) (by omega)⟩
    rw [mulOf_dvd] at h4 ⊢
    exact Int.dvd_sub h4 (Int.dvd_refl _)
  · have hge : at_.tdiv slide * slide ≤ at_ := by simpa using e
    exact fin _ h4 hge (by omega)
end Go.Proofs.Ytjdheefginfjgaa
