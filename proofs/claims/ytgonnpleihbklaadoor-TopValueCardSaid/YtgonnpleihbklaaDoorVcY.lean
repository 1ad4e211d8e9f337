/-
  The framework, part Y: slices cut to their room; append to one that has none. No program in sight. Conditions: none.
-/
import Derived.Test.YtgonnpleihbklaaDoorVcV
namespace Go.Vc
open Go
set_option linter.unusedVariables false

section
variable {P : Program}
theorem rd_slice_hm {h : Hp} {t e : TypeId} (ht : P.underlying t = some (.slice e)) (hi : (P.info? e).isSome = true) {a : Option Addr} {n c : Nat} {x y : Int} (h0 : 0 ≤ x) (h1 : x ≤ y) (h2 : y ≤ c) : Rd P (Instr.sliceAt t (vsl a n c) none (some (vi x)) (some (vi y))) h (vsl a x.toNat y.toNat) := by
  intro w _
  have he : P.elem t = e := by simp [Program.elem, ht]
  obtain ⟨i, hi⟩ := Option.isSome_iff_exists.1 hi
  rw [run_sliceAt_slice w t _ _ _ _ (by rw [he]; exact ht), run_slice_hm w t a n c (by rw [he]; exact ht) _ _ x y h0 h1 h2, he]
  simp [sizeOf, typeInfo, hi, sliced]
  intro _
  cases a <;> simp [Addr.add]
/-- 'append' to a slice without room: a new one. -/
theorem sem_append_full {h : Hp} {t ty e : TypeId} {sz bytes : Nat} (T : ElT P t e sz bytes) {a : Option Addr} {n : Nat} {xs : List Value} (H : HasRow h a xs) (hxs : xs.length = n * sz) (ha : a = none → n = 0)
    {a2 : Option Addr} {m c2 : Nat} {news : List Value} (H2 : HasRow h a2 news) (hl : news.length = m * sz) (hm0 : 0 < m)
    (hb : (n + m) * bytes ≤ 140737488355328) (hm : n + m ≤ 140737488355328) {K : Value → Hp → Prop}
    (hK : ∀ a' c' h', Own h h' e sz a' (n + m) c' (xs ++ news) → K (vsl a' (n + m) c') h') :
    SemOK P (Builtin.append_ #[t, t] ty #[vsl a n n, vsl a2 m c2]) h K := by
  intro w hs
  obtain ⟨i, z, hi, hz, rfl, rfl, hzs⟩ := T.el
  have hlen : (xs ++ news).length = (n + m) * i.size := by rw [List.length_append, hxs, hl, Nat.add_mul]
  have h63 : n + m ≤ maxLen := by simp only [maxLen]; omega
  have hnn : news ≠ [] := fun e => by
    subst e
    have h0 : m * i.size = 0 := by simpa using hl.symm
    rcases Nat.mul_eq_zero.1 h0 with h2 | h2
    · omega
    · have := T.pos; omega
  obtain ⟨b2, o2, rfl, hr2⟩ := (show ∃ b o, a2 = some ⟨b, o, none⟩ ∧ h.row b o news.length = some news from H2.resolve_left hnn)
  have hnews := HasRow.cells hs (a := ⟨b2, o2, none⟩) H2
  have hno : h w.heap.size = none := Sub.none hs
  have grown : ∀ old, old < n + m → Own h (h.set w.heap.size (.cells (xs.toArray ++ news.toArray ++ Builtin.zeroCells z.cells (grownCap w (n + m) old e - (n + m))) e (0, 0))) e i.size (some ⟨w.heap.size, 0, none⟩) (n + m) (grownCap w (n + m) old e) (xs ++ news) := by
    intro old ho
    have hge := grownCap_ge w (n + m) old e
    have hcm : grownCap w (n + m) old e ≤ maxLen := grownCap_le_maxLen w (n + m) old e h63
    refine ⟨Hp.le_set (Hp.le_refl h) hno _, ⟨hlen, .inr ⟨w.heap.size, _, rfl, Hp.set_same _ _ _, hge, hcm, ?_, ?_⟩⟩, fun g hg => ?_⟩
    · simp only [Array.size_append, List.size_toArray, size_zeroCells, hzs, hxs, hl, ← Nat.add_mul]
      congr 1
      omega
    · simp only [Array.toList_append, List.append_assoc]
      rw [← List.append_assoc, ← hlen]
      exact List.take_left
    · cases hg; exact hno
  cases a with
  | none =>
    obtain rfl := ha rfl
    have hx : xs = [] := List.eq_nil_of_length_eq_zero (by simpa using hxs)
    subst hx
    have hr := run_append_nil (P := P) w t ty e i z T.sl hi hz ⟨b2, o2, none⟩ m c2 news hl hnews (by omega) (by omega) (by simp only [Nat.zero_add] at hb; omega)
    have hgr := grown 0 (by omega)
    simp only [Nat.zero_add, List.nil_append, Array.empty_append] at hgr hK ⊢
    exact ⟨_, _, _, hr, drew_alloc_Sub hs _, drew_alloc_Fr h w _, hK _ _ _ hgr⟩
  | some g =>
    have holds : ∀ j u, xs[j]? = some u → w.cell? (g.add j) = some u := HasRow.cells hs H
    have hr := run_append_grow (P := P) w t ty e i z T.sl hi hz g n n xs hxs holds ⟨b2, o2, none⟩ m c2 news hl hnews (by omega) (by omega) (growslice_fits (by omega) hb)
    exact ⟨_, _, _, hr, drew_alloc_Sub hs _, drew_alloc_Fr h w _, hK _ _ _ (grown n (by omega))⟩
end
end Go.Vc
