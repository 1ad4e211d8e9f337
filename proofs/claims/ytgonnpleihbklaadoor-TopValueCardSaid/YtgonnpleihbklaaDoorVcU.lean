/-
  More of byte strings: cut at one end. No program in sight. Conditions: none.
-/
import Derived.Test.YtgonnpleihbklaaDoorVcQ
namespace Go.Vc
open Go
set_option linter.unusedVariables false
variable {P : Program} {h : Hp}
theorem rd_cutH {t : TypeId} (ht : P.underlying t = some .string) {l : List UInt8} {j : Int} (h0 : 0 ≤ j) (h2 : j ≤ l.length) : Rd P (Instr.sliceAt t (vs (bs l)) none (some (vi j)) none) h (vs (bs (l.take j.toNat))) := by
  intro w _
  rw [run_sliceAt_string w t _ _ _ _ ht, run_slice_string_h w t (bs l) ht .i64 j h0 (by rw [bs_size]; exact h2), bs_extract]
  simp
theorem rd_cutL {t : TypeId} (ht : P.underlying t = some .string) {l : List UInt8} {i : Int} (h0 : 0 ≤ i) (h2 : i ≤ l.length) : Rd P (Instr.sliceAt t (vs (bs l)) (some (vi i)) none none) h (vs (bs (l.drop i.toNat))) := by
  intro w _
  rw [run_sliceAt_string w t _ _ _ _ ht, run_slice_string_l w t (bs l) ht .i64 i h0 (by rw [bs_size]; exact h2), bs_extract, bs_size]
  rw [List.take_of_length_le (by simp)]
/-- The first of a slice of one's own: one's own too. -/
theorem OwnS.cut {e : TypeId} {sz n c m : Nat} {a : Option Addr} {xs : List Value} (O : OwnS h e sz a n c xs) (hm : m ≤ n) : OwnS h e sz a m c (xs.take (m * sz)) := by
  obtain ⟨hl, O⟩ := O
  have h1 : m * sz ≤ n * sz := Nat.mul_le_mul_right _ hm
  refine ⟨by rw [List.length_take]; omega, ?_⟩
  rcases O with ⟨ha, hn, hc⟩ | ⟨g, cur, ha, hg, h2, h3, h4, h5⟩
  · exact .inl ⟨ha, by omega, hc⟩
  · refine .inr ⟨g, cur, ha, hg, by omega, h3, h4, ?_⟩
    rw [← h5, List.take_take, Nat.min_eq_left h1]
theorem Own.cut {h0 : Hp} {e : TypeId} {sz n c m : Nat} {a : Option Addr} {xs : List Value} (O : Own h0 h e sz a n c xs) (hm : m ≤ n) : Own h0 h e sz a m c (xs.take (m * sz)) := ⟨O.le, O.own.cut hm, O.new⟩
theorem OwnS.cap {e : TypeId} {sz n c : Nat} {a : Option Addr} {xs : List Value} (O : OwnS h e sz a n c xs) : n ≤ c := by
  rcases O.2 with ⟨ha, hn, hc⟩ | ⟨g, cur, ha, hg, h2, h3, h4, h5⟩ <;> omega
theorem flatMap_vi (l : List Int) : l.flatMap (fun x => [vi x]) = l.map vi := by
  induction l with
  | nil => rfl
  | cons x l ih => rw [List.flatMap_cons, ih]; rfl
theorem SlI.slp {a : Option Addr} {n : Nat} {l : List Int} (S : SlI h a n l) : SlP (fun x => [vi x]) h a n l := ⟨S.1, by rw [flatMap_vi]; exact S.2⟩
theorem SlI.of_slp {a : Option Addr} {n : Nat} {l : List Int} (S : SlP (fun x => [vi x]) h a n l) : SlI h a n l := ⟨S.1, by rw [← flatMap_vi]; exact S.2⟩
theorem SlI.take {a : Option Addr} {n i : Nat} {l : List Int} (S : SlI h a n l) (hi : i ≤ n) : SlI h a i (l.take i) := .of_slp (S.slp.take (sz := 1) (fun _ => rfl) hi)
theorem SlI.drop {a : Option Addr} {n i c : Nat} {l : List Int} (S : SlI h a n l) (hi : i ≤ n) (hc : n ≤ c) : SlI h (cutA a i c 1) (n - i) (l.drop i) := .of_slp (S.slp.drop (sz := 1) (fun _ => rfl) hi hc)
/-- '&&' and '||' of what is decided. -/
theorem cand (p q : Prop) [Decidable p] [Decidable q] : (bif decide p then decide q else false) = decide (p ∧ q) := by
  by_cases h : p <;> simp [h]
theorem cor (p q : Prop) [Decidable p] [Decidable q] : (bif decide p then true else decide q) = decide (p ∨ q) := by
  by_cases h : p <;> simp [h]
theorem cnot (p : Prop) [Decidable p] : (!decide p) = decide (¬ p) := by
  by_cases h : p <;> simp [h]
theorem bor_false {a b : Bool} (h : (bif a then true else b) = false) : a = false ∧ b = false := by
  cases a
  · exact ⟨rfl, h⟩
  · cases h
end Go.Vc
