/-
  The plain law of numbers as texts: what is read is what is written, and nothing else. No program in sight. Conditions: none.
-/
import Derived.Lib.ItoaNum
import Derived.Lib.AtoiAll
namespace Go.Txt
open Go.Lib
set_option linter.unusedVariables false

def isD (c : UInt8) : Prop := 48 ≤ c.toNat ∧ c.toNat ≤ 57
instance (c : UInt8) : Decidable (isD c) := by unfold isD; infer_instance
def dv (c : UInt8) : Nat := c.toNat - 48
def valF : Nat → List UInt8 → Nat
  | a, [] => a
  | a, c :: l => valF (10 * a + dv c) l
theorem valF_snoc : ∀ (l : List UInt8) (a : Nat) (c : UInt8), valF a (l ++ [c]) = 10 * valF a l + dv c
  | [], a, c => rfl
  | x :: l, a, c => by
    exact valF_snoc l (10 * a + dv x) c
theorem valF_ge : ∀ (l : List UInt8) (a : Nat), a ≤ valF a l
  | [], a => Nat.le_refl _
  | c :: l, a => by
    have := valF_ge l (10 * a + dv c)
    have e : valF a (c :: l) = valF (10 * a + dv c) l := rfl
    omega
theorem ofNat_toNat {d : Nat} (h : d < 10) : (UInt8.ofNat (48 + d)).toNat = 48 + d := by
  simp
  omega
theorem dec_spec : ∀ u : Nat, (∀ c ∈ decDigits u, isD c) ∧ valF 0 (decDigits u) = u ∧ decDigits u ≠ [] ∧ ((decDigits u).head? = some 48 → u = 0) := by
  intro u
  induction u using Nat.strongRecOn with
  | _ u ih =>
    by_cases h : u < 10
    · rw [decDigits_one h]
      have e := ofNat_toNat h
      refine ⟨fun c hc => ?_, ?_, by simp, fun hh => ?_⟩
      · rw [List.mem_singleton] at hc; subst hc; unfold isD; omega
      · show 10 * 0 + dv (UInt8.ofNat (48 + u)) = u
        unfold dv; omega
      · simp only [List.head?_cons, Option.some.injEq] at hh
        have := congrArg UInt8.toNat hh
        rw [e] at this
        simp at this
        omega
    · obtain ⟨h1, h2, h3, h4⟩ := ih (u / 10) (by omega)
      have hd : decDigits u = decDigits (u / 10) ++ [UInt8.ofNat (48 + u % 10)] := by rw [decDigits, dif_neg h]
      have e := ofNat_toNat (d := u % 10) (by omega)
      rw [hd]
      refine ⟨fun c hc => ?_, ?_, by simp, fun hh => ?_⟩
      · rcases List.mem_append.1 hc with hc | hc
        · exact h1 c hc
        · rw [List.mem_singleton] at hc; subst hc; unfold isD; omega
      · rw [valF_snoc, h2]; unfold dv; omega
      · match hx : decDigits (u / 10), h3 with
        | x :: l, _ =>
          rw [hx] at hh h4
          have := h4 hh
          omega
/-- Digits without noughts ahead are what is written of their number. -/
theorem digits_dec : ∀ (k : Nat) (l : List UInt8), l.length = k → l ≠ [] → (∀ c ∈ l, isD c) → (l.head? = some 48 → l.length = 1) → decDigits (valF 0 l) = l := by
  intro k
  induction k using Nat.strongRecOn with
  | _ k ih =>
    intro l hk hne hd hh
    obtain ⟨l', c, rfl⟩ : ∃ l' c, l = l' ++ [c] := ⟨l.dropLast, l.getLast hne, (List.dropLast_concat_getLast hne).symm⟩
    have hc := hd c (by simp)
    unfold isD at hc
    have ec : UInt8.ofNat (48 + dv c) = c := by
      unfold dv
      rw [show 48 + (c.toNat - 48) = c.toNat by omega]
      simp
    rw [valF_snoc]
    match l', hk, hd, hh, hne with
    | [], _, _, _, _ =>
      show decDigits (10 * 0 + dv c) = [c]
      rw [Nat.mul_zero, Nat.zero_add, decDigits_one (by unfold dv; omega), ec]
    | x :: l2, hk, hd, hh, _ =>
      have hx : x ≠ 48 := fun e => by
        have := hh (by rw [e]; rfl)
        simp at this
      have h1 := ih (x :: l2).length (by simp at hk ⊢; omega) (x :: l2) rfl (by simp) (fun c hc => hd c (List.mem_append_left _ hc)) (fun e => absurd (by simpa using e) hx)
      have h2 : valF 0 (x :: l2) ≠ 0 := fun e => by
        rw [e, decDigits_one (by decide)] at h1
        have := congrArg List.head? h1
        simp at this
        exact hx this.symm
      have e1 : (10 * valF 0 (x :: l2) + dv c) / 10 = valF 0 (x :: l2) := by unfold dv; omega
      have e2 : (10 * valF 0 (x :: l2) + dv c) % 10 = dv c := by unfold dv; omega
      rw [decDigits, dif_neg (by omega), e1, e2, h1, ec]
/-- A natural number of a text, as the document reads it. -/
def natGo (most : Int) : Int → List UInt8 → Int
  | a, [] => a
  | a, c :: l => if c.toNat < 48 ∨ c.toNat > 57 then -1 else if 10 * a + ((c.toNat : Int) - 48) > most then -1 else natGo most (10 * a + ((c.toNat : Int) - 48)) l
def natF (l : List UInt8) (most : Int) (plain : Bool) : Int := if l = [] ∨ (plain = true ∧ l.head? = some 48 ∧ 1 < l.length) then -1 else natGo most 0 l
theorem natGo_spec (most : Int) : ∀ (l : List UInt8) (a : Nat), (a : Int) ≤ most → natGo most a l = if (∀ c ∈ l, isD c) ∧ (valF a l : Int) ≤ most then (valF a l : Int) else -1
  | [], a, ha => by
    have hv0 : valF a [] = a := rfl
    rw [natGo, hv0, if_pos ⟨by simp, ha⟩]
  | c :: l, a, ha => by
    have hv0 : valF a (c :: l) = valF (10 * a + dv c) l := rfl
    rw [natGo, hv0]
    by_cases hc : isD c
    · have hc' := hc
      unfold isD at hc'
      have e : (10 * (a : Int) + ((c.toNat : Int) - 48)) = ((10 * a + dv c : Nat) : Int) := by unfold dv; omega
      rw [if_neg (by omega), e]
      by_cases hm : ((10 * a + dv c : Nat) : Int) > most
      · rw [if_pos hm, if_neg]
        rintro ⟨_, h⟩
        have := valF_ge l (10 * a + dv c)
        omega
      · rw [if_neg hm, natGo_spec most l _ (by omega)]
        have : (∀ x ∈ c :: l, isD x) ↔ ∀ x ∈ l, isD x := ⟨fun h x hx => h x (List.mem_cons_of_mem _ hx), fun h x hx => by
          rcases List.mem_cons.1 hx with rfl | hx
          · exact hc
          · exact h x hx⟩
        simp only [this]
    · have hc' := hc
      unfold isD at hc'
      rw [if_pos (by omega), if_neg]
      rintro ⟨h, _⟩
      exact hc (h c (List.mem_cons_self ..))
/-- It reads what is written, and nothing else. -/
theorem natF_dec {k : Nat} {most : Int} (h : (k : Int) ≤ most) (hm : 0 ≤ most) : natF (decDigits k) most true = k := by
  obtain ⟨h1, h2, h3, h4⟩ := dec_spec k
  unfold natF
  rw [if_neg]
  · have := natGo_spec most (decDigits k) 0 hm
    rw [h2, if_pos ⟨h1, h⟩] at this
    exact this
  · rintro (h | ⟨_, h, h5⟩)
    · exact h3 h
    · have := h4 h
      subst this
      rw [decDigits_one (by decide)] at h5
      simp at h5
theorem natF_inv {l : List UInt8} {most : Int} (hm : 0 ≤ most) (h : 0 ≤ natF l most true) : l = decDigits (natF l most true).toNat ∧ natF l most true ≤ most := by
  unfold natF at h ⊢
  split at h
  · omega
  · rename_i h1
    have hg := natGo_spec most l 0 hm
    simp only [Int.natCast_zero] at hg
    rw [if_neg h1]
    rw [hg] at h ⊢
    split at h
    · rename_i h2
      rw [if_pos h2]
      refine ⟨?_, h2.2⟩
      rw [Int.toNat_natCast]
      refine (digits_dec _ l rfl (fun e => h1 (.inl e)) h2.1 fun e => ?_).symm
      have : ¬ 1 < l.length := fun h3 => h1 (.inr ⟨rfl, e, h3⟩)
      have : l ≠ [] := fun e => h1 (.inl e)
      have := List.length_pos_iff.2 this
      omega
    · omega
theorem parse_spec : ∀ (l : List UInt8) (a : Nat), (∀ c ∈ l, isD c) → valF a l < 1844674407370955162 → parseUint10 a l = .ok (valF a l)
  | [], a, _, _ => rfl
  | c :: l, a, hd, hv => by
    have hc := hd c (List.mem_cons_self ..)
    have hc' := hc
    unfold isD at hc'
    have hv0 : valF a (c :: l) = valF (10 * a + dv c) l := rfl
    rw [hv0] at hv ⊢
    have hg := valF_ge l (10 * a + dv c)
    have ed : dv c = c.toNat - 48 := rfl
    rw [parseUint10, if_pos hc', if_neg (by omega), if_neg (by omega)]
    have := parse_spec l (10 * a + dv c) (fun x hx => hd x (List.mem_cons_of_mem _ hx)) hv
    rw [ed, Nat.mul_comm] at this
    rw [this, ed, Nat.mul_comm]
theorem atoi_itoa {n : Int} (h0 : -1000000000000 ≤ n) (h1 : n ≤ 1000000000000) : atoiAll (itoa n) = .ok n := by
  unfold itoa
  split
  · rename_i hn
    obtain ⟨d1, d2, d3, d4⟩ := dec_spec n.natAbs
    unfold atoiAll
    simp only
    rw [if_pos (.inr (by decide))]
    unfold parseMag
    rw [if_neg d3, parse_spec _ _ d1 (by rw [d2]; omega), d2]
    simp only
    rw [if_neg (by intro h; exact h.1 (by decide)), if_neg (by omega), if_pos (by decide)]
    congr 1
    omega
  · rename_i hn
    obtain ⟨d1, d2, d3, d4⟩ := dec_spec n.toNat
    have hp : parseMag (decDigits n.toNat) = .ok n.toNat := by
      unfold parseMag
      rw [if_neg d3, parse_spec _ _ d1 (by rw [d2]; omega), d2]
    unfold atoiAll
    match hx : decDigits n.toNat, d3 with
    | c :: r, _ =>
      rw [hx] at d1 hp
      have hc := d1 c (List.mem_cons_self ..)
      unfold isD at hc
      simp only
      rw [if_neg (by omega), hp]
      simp only
      rw [if_neg (by omega), if_neg (by omega), if_neg (by omega)]
      congr 1
      omega
end Go.Txt
