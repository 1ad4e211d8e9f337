/-
  THE STATEMENT Rows.FoldSaysSaid, proved: for every input the law returns true, and the input reads as it did. Conditions: none.
-/
import Derived.Test.YtgonnpleihbklaaRows
import Derived.WalkKit
import Derived.ProofKit
import Derived.OpenShut
import Derived.Test.YtgonnpleihbklaaTaFold
import Derived.Test.YtgonnpleihbklaaVcO
namespace Go.Proofs.Ytgonnpleihbklaa.foldSays
open Go.ChangeShapes Go.WideShapes Go.ChangeAt Go.RowKit Go.Vc
set_option linter.unusedVariables false
set_option maxRecDepth 100000

theorem own : ownKnob Try.prog.godebug = none := by kernel_rfl
/-- The cells of what was read. -/
theorem open0 {H : Type} {enc : TypeId × Value → H} {W : World} {cs : List Value} (L : LeafL Try.prog enc W (fun _ => True) (flatIds Try.prog 4 106) cs) : ∃ (x0 : Int) (x1 : Int) (x2 : Int) (x3 : Int) (x4 : Int) (x5 : Int), cs = encN ⟨x0, x1, x2, x3, (x4, x5)⟩ ∧ InR x0 ∧ InR x1 ∧ InR x2 ∧ InR x3 ∧ InR x4 ∧ InR x5 := by
  have e : flatIds Try.prog 4 106 = [3, 3, 3, 3, 3, 3] := by kernel_rfl
  rw [e] at L
  match cs, L with
  | [v0, v1, v2, v3, v4, v5], L =>
    obtain ⟨x0, h0, g0⟩ := leaf_i64 Try.underlying3 (L.1)
    cases h0
    obtain ⟨x1, h1, g1⟩ := leaf_i64 Try.underlying3 (L.2.1)
    cases h1
    obtain ⟨x2, h2, g2⟩ := leaf_i64 Try.underlying3 (L.2.2.1)
    cases h2
    obtain ⟨x3, h3, g3⟩ := leaf_i64 Try.underlying3 (L.2.2.2.1)
    cases h3
    obtain ⟨x4, h4, g4⟩ := leaf_i64 Try.underlying3 (L.2.2.2.2.1)
    cases h4
    obtain ⟨x5, h5, g5⟩ := leaf_i64 Try.underlying3 (L.2.2.2.2.2.1)
    cases h5
    exact ⟨x0, x1, x2, x3, x4, x5, rfl, g0, g1, g2, g3, g4, g5⟩
/-- The cells of what was read. -/
theorem open1 {H : Type} {enc : TypeId × Value → H} {W : World} {cs : List Value} (L : LeafL Try.prog enc W (fun _ => True) (flatIds Try.prog 4 50) cs) : ∃ (x0 : Int) (x1 : Int) (x2 : Int) (x3 : Int) (x4 : Int) (x5 : Int) (x6 : Int), cs = encE (x0, (x1, x2), (x3, x4), (x5, x6)) ∧ InR x0 ∧ InR x1 ∧ InR x2 ∧ InR x3 ∧ InR x4 ∧ InR x5 ∧ InR x6 := by
  have e : flatIds Try.prog 4 50 = [3, 3, 3, 3, 3, 3, 3] := by kernel_rfl
  rw [e] at L
  match cs, L with
  | [v0, v1, v2, v3, v4, v5, v6], L =>
    obtain ⟨x0, h0, g0⟩ := leaf_i64 Try.underlying3 (L.1)
    cases h0
    obtain ⟨x1, h1, g1⟩ := leaf_i64 Try.underlying3 (L.2.1)
    cases h1
    obtain ⟨x2, h2, g2⟩ := leaf_i64 Try.underlying3 (L.2.2.1)
    cases h2
    obtain ⟨x3, h3, g3⟩ := leaf_i64 Try.underlying3 (L.2.2.2.1)
    cases h3
    obtain ⟨x4, h4, g4⟩ := leaf_i64 Try.underlying3 (L.2.2.2.2.1)
    cases h4
    obtain ⟨x5, h5, g5⟩ := leaf_i64 Try.underlying3 (L.2.2.2.2.2.1)
    cases h5
    obtain ⟨x6, h6, g6⟩ := leaf_i64 Try.underlying3 (L.2.2.2.2.2.2.1)
    cases h6
    exact ⟨x0, x1, x2, x3, x4, x5, x6, rfl, g0, g1, g2, g3, g4, g5, g6⟩

set_option maxRecDepth 100000 in
theorem lifted (os : Os) (started : os.Started) (H : Type) (enc : TypeId × Value → H) :
    ReturnsInHanded {} Try.checked os 4 .any (Rows.foldSaysSpec.pre6 enc Try.prog Try.f4 Rows.foldSaysRow.domain false) (Rows.foldSaysSpec.post enc Try.prog Try.f4 false true false false) := by
  refine returnsInHanded_of_change (C := Try.checked) own started (by kernel_rfl) Try.func4
    (ChangeSpec.witness6 (enc := enc) (C := Try.checked) false ⟨#[], #[.slice none 0 0, .slice none 0 0], []⟩ 8 (by kernel_rfl) (by kernel_rfl) (by kernel_rfl) (by kernel_rfl)) ?_
  intro W base args ds gs before hval0 hW hcnd _
  have hval : ∀ (j : Nat) t v, Try.f4.params[j]? = some t → args[j]? = some v → Value.okWide Try.prog W .any base t v := hval0
  have hW' := hW
  obtain ⟨p, q, hA0, hV, rfl, hfz, hnd⟩ := hW
  have hA : DataW.TrodAll enc Try.prog W 0 (fun _ => true) true Try.f4.params.toList args.toList ds p := hA0
  rw [Try.params4] at hA hval
  obtain ⟨v0, vs0, d0, ds0, p0, q0, hargs, rfl, rfl, h0, r0⟩ := trodAll_cons hA
  obtain ⟨v1, vs1, d1, ds1, p1, q1, rfl, rfl, rfl, h1, r1⟩ := trodAll_cons r0
  obtain ⟨rfl, rfl, rfl⟩ := trodAll_nil r1
  obtain rfl : args = #[v0, v1] := by cases args; simp_all
  obtain ⟨rfl, rfl⟩ := trodVars_none hV
  obtain ⟨w1, w2, w3, rfl⟩ := okWide_slice (e := 106) (by kernel_rfl) (hval 0 39 v0 rfl rfl)
  obtain ⟨p0, n0, c0, l0, e0, S0, hc0, hm0, _, g0⟩ := leaf_slice (enc := encN) (sz := 6) (good := fun y => True) smTrue (e := 106) (by kernel_rfl) (by kernel_rfl) (by decide) (fun _ => rfl)
    (fun cs L => by
      have hf := leaf_flat smTrue 4 (by kernel_rfl) L
      obtain ⟨x0, x1, x2, x3, x4, x5, hy, hg⟩ := open0 hf
      exact ⟨⟨x0, x1, x2, x3, (x4, x5)⟩, hy, trivial⟩) (leafC_of (Sm := fun _ => True) h0 trivial)
  cases e0
  obtain ⟨w1, w2, w3, rfl⟩ := okWide_slice (e := 50) (by kernel_rfl) (hval 1 40 v1 rfl rfl)
  obtain ⟨p1, n1, c1, l1, e1, S1, hc1, hm1, _, g1⟩ := leaf_slice (enc := encE) (sz := 7) (good := fun y => True) smTrue (e := 50) (by kernel_rfl) (by kernel_rfl) (by decide) (fun _ => rfl)
    (fun cs L => by
      have hf := leaf_flat smTrue 4 (by kernel_rfl) L
      obtain ⟨x0, x1, x2, x3, x4, x5, x6, hy, hg⟩ := open1 hf
      exact ⟨(x0, (x1, x2), (x3, x4), (x5, x6)), hy, trivial⟩) (leafC_of (Sm := fun _ => True) h1 trivial)
  cases e1
  refine (calls_law (law_FoldSays_ok S0 S1)).mono fun e W' ⟨he, hg⟩ => ?_
  subst he
  exact ⟨_, rfl, law_post big hW' hg (by kernel_rfl) (tb := 4) (by kernel_rfl) (by kernel_rfl) rfl⟩

theorem over : Rows.foldSaysRow.holds Try.pinned (OpenSpec.ofChange Rows.foldSaysSpec) :=
  OpenClaim.holds_of_wide 4 Try.f4 rfl rfl rfl rfl rfl rfl rfl ⟨rfl, rfl, rfl, rfl, rfl⟩ rfl rfl rfl rfl rfl (by kernel_rfl) Try.func4 (by kernel_rfl)
    (of_decide_eq_true (by kernel_rfl)) (by unfold Func.isWrapper; first | (rw [if_pos (by decide +kernel)]; kernel_rfl) | (rw [if_neg (by decide +kernel)]; exact ⟨rfl, rfl⟩))
    (fun os started H enc _ => lifted os started H enc)

theorem proved : Rows.FoldSaysSaid :=
  over
end Go.Proofs.Ytgonnpleihbklaa.foldSays
