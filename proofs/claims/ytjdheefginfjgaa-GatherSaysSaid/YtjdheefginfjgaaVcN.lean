/-
  The framework, part N: slices of any elements, cut. No program in sight. Conditions: none.
-/
import Derived.Test.YtjdheefginfjgaaVcM
namespace Go.Vc
open Go
set_option linter.unusedVariables false

/-- A slice whose elements are known by their cells. -/
def SlP {α : Type} (enc : α → List Value) (h : Hp) (a : Option Addr) (n : Nat) (l : List α) : Prop := n = l.length ∧ HasRow h a (l.flatMap enc)
theorem flatMap_length {α : Type} {enc : α → List Value} {sz : Nat} (he : ∀ x, (enc x).length = sz) : ∀ l : List α, (l.flatMap enc).length = l.length * sz
  | [] => by simp
  | x :: l => by simp [flatMap_length he l, he x, Nat.add_mul, Nat.add_comm]
theorem flatMap_drop {α : Type} {enc : α → List Value} {sz : Nat} (he : ∀ x, (enc x).length = sz) : ∀ (i : Nat) (l : List α), (l.flatMap enc).drop (i * sz) = (l.drop i).flatMap enc
  | 0, l => by simp
  | i + 1, [] => by simp
  | i + 1, x :: l => by
    have e : (enc x ++ l.flatMap enc).drop sz = l.flatMap enc := by
      have := List.drop_left (l₁ := enc x) (l₂ := l.flatMap enc)
      rw [he] at this
      exact this
    rw [List.flatMap_cons, Nat.add_mul, Nat.one_mul, Nat.add_comm, ← List.drop_drop, e, flatMap_drop he i l]
    rfl
theorem flatMap_take {α : Type} {enc : α → List Value} {sz : Nat} (he : ∀ x, (enc x).length = sz) : ∀ (i : Nat) (l : List α), (l.flatMap enc).take (i * sz) = (l.take i).flatMap enc
  | 0, l => by simp
  | i + 1, [] => by simp
  | i + 1, x :: l => by
    rw [List.flatMap_cons, List.take_append, List.take_of_length_le (by rw [he, Nat.add_mul]; omega), he, List.take_succ_cons, List.flatMap_cons, show (i + 1) * sz - sz = i * sz by rw [Nat.add_mul]; omega, flatMap_take he i l]
theorem SlP.le {α : Type} {enc : α → List Value} {h h' : Hp} (hl : h.le h') {a : Option Addr} {n : Nat} {l : List α} (H : SlP enc h a n l) : SlP enc h' a n l := ⟨H.1, H.2.le hl⟩
section
variable {α : Type} {enc : α → List Value} {sz : Nat} {h : Hp} {a : Option Addr} {n : Nat} {l : List α}
theorem SlP.get (he : ∀ x, (enc x).length = sz) (hz : 0 < sz) (H : SlP enc h a n l) {i : Nat} {x : α} (hx : l[i]? = some x) : ∃ b o, a = some ⟨b, o, none⟩ ∧ h.row b (o + i * sz) sz = some (enc x) := by
  have hi : i < l.length := (List.getElem?_eq_some_iff.1 hx).1
  have hlen := flatMap_length he l
  rcases H.2 with h1 | ⟨b, o, rfl, hr⟩
  · rw [h1] at hlen
    have h2 : 1 * sz ≤ l.length * sz := Nat.mul_le_mul_right _ (by omega)
    simp only [List.length_nil] at hlen
    omega
  · refine ⟨b, o, rfl, ?_⟩
    have h3 : i * sz + sz ≤ (l.flatMap enc).length := by
      rw [hlen]
      have : (i + 1) * sz ≤ l.length * sz := Nat.mul_le_mul_right _ hi
      rw [Nat.add_mul] at this
      omega
    rw [Hp.row_sub hr h3, flatMap_drop he]
    have h4 := flatMap_take he 1 (l.drop i)
    rw [Nat.one_mul] at h4
    rw [h4, show (l.drop i).take 1 = [x] by
      rw [List.drop_eq_getElem_cons hi]
      have : l[i] = x := by rw [List.getElem?_eq_getElem hi] at hx; exact Option.some.inj hx
      simp [this]]
    simp
theorem SlP.cell (he : ∀ x, (enc x).length = sz) (hz : 0 < sz) (H : SlP enc h a n l) {i j : Nat} {x : α} {v : Value} (hx : l[i]? = some x) (hv : (enc x)[j]? = some v) : ∃ b o, a = some ⟨b, o, none⟩ ∧ h.cell b (o + i * sz + j) = some v := by
  obtain ⟨b, o, e, hr⟩ := H.get he hz hx
  exact ⟨b, o, e, Hp.row_cell hr hv⟩
theorem SlP.take (he : ∀ x, (enc x).length = sz) (H : SlP enc h a n l) {i : Nat} (hi : i ≤ n) : SlP enc h a i (l.take i) := by
  refine ⟨by rw [List.length_take, ← H.1]; omega, ?_⟩
  rw [← flatMap_take he]
  rcases H.2 with h1 | ⟨b, o, rfl, hr⟩
  · rw [h1]; exact .inl (by simp)
  · refine .inr ⟨b, o, rfl, ?_⟩
    have hlen := flatMap_length he l
    have h3 : i * sz ≤ (l.flatMap enc).length := by rw [hlen]; exact Nat.mul_le_mul_right _ (by rw [← H.1]; exact hi)
    have := Hp.row_sub hr (i := 0) (k := i * sz) (by omega)
    rw [List.length_take, Nat.min_eq_left h3]
    simpa using this
/-- The address behind a cut's beginning. -/
def cutA (a : Option Addr) (i c sz : Nat) : Option Addr := if c = i then a else a.map (·.add (i * sz))
theorem SlP.drop (he : ∀ x, (enc x).length = sz) (H : SlP enc h a n l) {i c : Nat} (hi : i ≤ n) (hc : n ≤ c) : SlP enc h (cutA a i c sz) (n - i) (l.drop i) := by
  refine ⟨by rw [List.length_drop, ← H.1], ?_⟩
  rw [← flatMap_drop he]
  rcases H.2 with h1 | ⟨b, o, rfl, hr⟩
  · rw [h1]; exact .inl (by simp)
  · have hlen := flatMap_length he l
    rcases Nat.eq_or_lt_of_le hi with h2 | h2
    · refine .inl (List.drop_eq_nil_of_le ?_)
      rw [hlen, ← H.1, h2]
      exact Nat.le_refl _
    · refine .inr ⟨b, o + i * sz, ?_, ?_⟩
      · have : c ≠ i := by omega
        simp only [cutA, if_neg this, Option.map_some, Addr.add]
        split
        · rename_i h0; rw [h0]; rfl
        · rfl
      · have h3 : i * sz ≤ (l.flatMap enc).length := by rw [hlen]; exact Nat.mul_le_mul_right _ (by rw [← H.1]; exact hi)
        have := Hp.row_sub hr (i := i * sz) (k := (l.flatMap enc).length - i * sz) (by omega)
        rw [List.length_drop]
        rw [this, List.take_of_length_le (by rw [List.length_drop]; exact Nat.le_refl _)]
theorem Own.slp {h0 : Hp} {e : TypeId} {c : Nat} (he : ∀ x, (enc x).length = sz) (hz : 0 < sz) (O : Own h0 h e sz a n c (l.flatMap enc)) : SlP enc h a n l := by
  refine ⟨?_, O.row⟩
  have := O.own.1
  rw [flatMap_length he] at this
  exact (Nat.eq_of_mul_eq_mul_right hz this).symm
end
section
variable {P : Program}
theorem rd_slice_h {h : Hp} {t e : TypeId} (ht : P.underlying t = some (.slice e)) (hi : (P.info? e).isSome = true) {a : Option Addr} {n c : Nat} {x : Int} (h0 : 0 ≤ x) (h1 : x ≤ c) : Rd P (Instr.sliceAt t (vsl a n c) none (some (vi x)) none) h (vsl a x.toNat c) := by
  intro w _
  have he : P.elem t = e := by simp [Program.elem, ht]
  obtain ⟨i, hi⟩ := Option.isSome_iff_exists.1 hi
  rw [run_sliceAt_slice w t _ _ _ _ (by rw [he]; exact ht), run_slice_h w t a n c (by rw [he]; exact ht) _ x h0 h1, he]
  simp [sizeOf, typeInfo, hi, sliced]
  intro _
  cases a <;> simp [Addr.add]
theorem rd_slice_l {h : Hp} {t e : TypeId} (ht : P.underlying t = some (.slice e)) (hi : (P.info? e).isSome = true) {a : Option Addr} {n c : Nat} {x : Int} (h0 : 0 ≤ x) (h1 : x ≤ n) :
    Rd P (Instr.sliceAt t (vsl a n c) (some (vi x)) none none) h (vsl (cutA a x.toNat c (szT P e)) (n - x.toNat) (c - x.toNat)) := by
  intro w _
  have he : P.elem t = e := by simp [Program.elem, ht]
  obtain ⟨i, hi⟩ := Option.isSome_iff_exists.1 hi
  rw [run_sliceAt_slice w t _ _ _ _ (by rw [he]; exact ht), run_slice_l w t a n c (by rw [he]; exact ht) _ x h0 h1, he]
  simp [sizeOf, typeInfo, hi, sliced, cutA, szT, Program.cellsOf]
theorem rd_slice_lh {h : Hp} {t e : TypeId} (ht : P.underlying t = some (.slice e)) (hi : (P.info? e).isSome = true) {a : Option Addr} {n c : Nat} {x y : Int} (h0 : 0 ≤ x) (h1 : x ≤ y) (h2 : y ≤ c) :
    Rd P (Instr.sliceAt t (vsl a n c) (some (vi x)) (some (vi y)) none) h (vsl (cutA a x.toNat c (szT P e)) (y.toNat - x.toNat) (c - x.toNat)) := by
  intro w _
  have he : P.elem t = e := by simp [Program.elem, ht]
  obtain ⟨i, hi⟩ := Option.isSome_iff_exists.1 hi
  rw [run_sliceAt_slice w t _ _ _ _ (by rw [he]; exact ht), run_slice_lh w t a n c (by rw [he]; exact ht) _ _ x y h0 h1 h2, he]
  simp [sizeOf, typeInfo, hi, sliced, cutA, szT, Program.cellsOf]
end
end Go.Vc
