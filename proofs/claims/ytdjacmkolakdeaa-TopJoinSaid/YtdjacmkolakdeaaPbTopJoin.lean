/-
  THE STATEMENT Rows.TopJoinSaid, proved: for every input the law returns true, and the input reads as it did. Conditions: none.
-/
import Derived.Test.YtdjacmkolakdeaaRows
import Derived.WalkKit
import Derived.ProofKit
import Derived.OpenShut
import Derived.Test.YtdjacmkolakdeaaTbJoin
import Derived.Test.YtdjacmkolakdeaaVcO
namespace Go.Proofs.Ytdjacmkolakdeaa.topJoin
open Go.ChangeShapes Go.WideShapes Go.ChangeAt Go.RowKit Go.Vc
set_option linter.unusedVariables false
set_option maxRecDepth 100000

theorem own : ownKnob Try.prog.godebug = none := by kernel_rfl
/-- The cells of what was read. -/
theorem open0 {H : Type} {enc : TypeId × Value → H} {W : World} {cs : List Value} (L : LeafL Try.prog enc W (fun _ => True) (flatIds Try.prog 4 54) cs) : ∃ (x0 : Int) (x1 : Int) (x2 : Int) (x3 : Int) (x4 : Int) (x5 : Int), cs = encN ⟨x0, x1, x2, x3, (x4, x5)⟩ ∧ InR x0 ∧ InR x1 ∧ InR x2 ∧ InR x3 ∧ InR x4 ∧ InR x5 := by
  have e : flatIds Try.prog 4 54 = [3, 3, 3, 3, 3, 3] := by kernel_rfl
  rw [e] at L
  match cs, L with
  | [v0, v1, v2, v3, v4, v5], L =>
    obtain ⟨x0, h0, g0⟩ := leaf_i64 Try.underlying3 (L.1)
    cases h0
    obtain ⟨x1, h1, g1⟩ := leaf_i64 Try.underlying3 (L.2.1)
    cases h1
    obtain ⟨x2, h2, g2⟩ := leaf_i64 Try.underlying3 (L.2.2.1)
    cases h2
    obtain ⟨x3, h3, g3⟩ := leaf_i64 Try.underlying3 (L.2.2.2.1)
    cases h3
    obtain ⟨x4, h4, g4⟩ := leaf_i64 Try.underlying3 (L.2.2.2.2.1)
    cases h4
    obtain ⟨x5, h5, g5⟩ := leaf_i64 Try.underlying3 (L.2.2.2.2.2.1)
    cases h5
    exact ⟨x0, x1, x2, x3, x4, x5, rfl, g0, g1, g2, g3, g4, g5⟩
/-- The cells of what was read. -/
theorem open1 {H : Type} {enc : TypeId × Value → H} {W : World} {cs : List Value} (L : LeafL Try.prog enc W (fun _ => True) (flatIds Try.prog 4 50) cs) : ∃ (x0 : Int) (x1 : Int) (x2 : Int) (x3 : Int) (x4 : Int) (x5 : Int) (x6 : Int), cs = encE (x0, (x1, x2), (x3, x4), (x5, x6)) ∧ InR x0 ∧ InR x1 ∧ InR x2 ∧ InR x3 ∧ InR x4 ∧ InR x5 ∧ InR x6 := by
  have e : flatIds Try.prog 4 50 = [3, 3, 3, 3, 3, 3, 3] := by kernel_rfl
  rw [e] at L
  match cs, L with
  | [v0, v1, v2, v3, v4, v5, v6], L =>
    obtain ⟨x0, h0, g0⟩ := leaf_i64 Try.underlying3 (L.1)
    cases h0
    obtain ⟨x1, h1, g1⟩ := leaf_i64 Try.underlying3 (L.2.1)
    cases h1
    obtain ⟨x2, h2, g2⟩ := leaf_i64 Try.underlying3 (L.2.2.1)
    cases h2
    obtain ⟨x3, h3, g3⟩ := leaf_i64 Try.underlying3 (L.2.2.2.1)
    cases h3
    obtain ⟨x4, h4, g4⟩ := leaf_i64 Try.underlying3 (L.2.2.2.2.1)
    cases h4
    obtain ⟨x5, h5, g5⟩ := leaf_i64 Try.underlying3 (L.2.2.2.2.2.1)
    cases h5
    obtain ⟨x6, h6, g6⟩ := leaf_i64 Try.underlying3 (L.2.2.2.2.2.2.1)
    cases h6
    exact ⟨x0, x1, x2, x3, x4, x5, x6, rfl, g0, g1, g2, g3, g4, g5, g6⟩

set_option maxRecDepth 100000 in
theorem lifted (os : Os) (started : os.Started) (H : Type) (enc : TypeId × Value → H) :
    ReturnsInHanded {} Try.checked os 5 .any (Rows.topJoinSpec.pre6 enc Try.prog Try.f5 Rows.topJoinRow.domain false) (Rows.topJoinSpec.post enc Try.prog Try.f5 false true false false) := by
  refine returnsInHanded_of_change (C := Try.checked) own started (by kernel_rfl) Try.func5
    (ChangeSpec.witness6 (enc := enc) (C := Try.checked) false ⟨#[], #[.slice none 0 0, .slice none 0 0, .int .i64 0, .agg #[.int .i64 0, .int .i64 0, .int .i64 0, .int .i64 0, .int .i64 0, .int .i64 0, .int .i64 0]], []⟩ 8 (by kernel_rfl) (by kernel_rfl) (by kernel_rfl) (by kernel_rfl)) ?_
  intro W base args ds gs before hval0 hW hcnd _
  have hval : ∀ (j : Nat) t v, Try.f5.params[j]? = some t → args[j]? = some v → Value.okWide Try.prog W .any base t v := hval0
  have hW' := hW
  obtain ⟨p, q, hA0, hV, rfl, hfz, hnd⟩ := hW
  have hA : DataW.TrodAll enc Try.prog W 0 (fun _ => true) true Try.f5.params.toList args.toList ds p := hA0
  rw [Try.params5] at hA hval
  obtain ⟨v0, vs0, d0, ds0, p0, q0, hargs, rfl, rfl, h0, r0⟩ := trodAll_cons hA
  obtain ⟨v1, vs1, d1, ds1, p1, q1, rfl, rfl, rfl, h1, r1⟩ := trodAll_cons r0
  obtain ⟨v2, vs2, d2, ds2, p2, q2, rfl, rfl, rfl, h2, r2⟩ := trodAll_cons r1
  obtain ⟨v3, vs3, d3, ds3, p3, q3, rfl, rfl, rfl, h3, r3⟩ := trodAll_cons r2
  obtain ⟨rfl, rfl, rfl⟩ := trodAll_nil r3
  obtain rfl : args = #[v0, v1, v2, v3] := by cases args; simp_all
  obtain ⟨rfl, rfl⟩ := trodVars_none hV
  obtain ⟨w1, w2, w3, rfl⟩ := okWide_slice (e := 54) (by kernel_rfl) (hval 0 39 v0 rfl rfl)
  obtain ⟨p0, n0, c0, l0, e0, S0, hc0, hm0, _, g0⟩ := leaf_slice (enc := encN) (sz := 6) (good := fun y => True) smTrue (e := 54) (by kernel_rfl) (by kernel_rfl) (by decide) (fun _ => rfl)
    (fun cs L => by
      have hf := leaf_flat smTrue 4 (by kernel_rfl) L
      obtain ⟨x0, x1, x2, x3, x4, x5, hy, hg⟩ := open0 hf
      exact ⟨⟨x0, x1, x2, x3, (x4, x5)⟩, hy, trivial⟩) (leafC_of (Sm := fun _ => True) h0 trivial)
  cases e0
  obtain ⟨w1, w2, w3, rfl⟩ := okWide_slice (e := 54) (by kernel_rfl) (hval 1 39 v1 rfl rfl)
  obtain ⟨p1, n1, c1, l1, e1, S1, hc1, hm1, _, g1⟩ := leaf_slice (enc := encN) (sz := 6) (good := fun y => True) smTrue (e := 54) (by kernel_rfl) (by kernel_rfl) (by decide) (fun _ => rfl)
    (fun cs L => by
      have hf := leaf_flat smTrue 4 (by kernel_rfl) L
      obtain ⟨x0, x1, x2, x3, x4, x5, hy, hg⟩ := open0 hf
      exact ⟨⟨x0, x1, x2, x3, (x4, x5)⟩, hy, trivial⟩) (leafC_of (Sm := fun _ => True) h1 trivial)
  cases e1
  obtain ⟨a2, rfl⟩ := okWide_int Try.underlying3 (hval 2 3 v2 rfl rfl)
  obtain ⟨b2, e2, ga2⟩ := leaf_i64 Try.underlying3 (leafC_of (Sm := fun _ => True) h2 trivial)
  cases e2
  obtain ⟨cs3, rfl, _⟩ := okWide_struct Try.underlying50 (hval 3 50 v3 rfl rfl)
  obtain ⟨x3_0, x3_1, x3_2, x3_3, x3_4, x3_5, x3_6, e3, g3⟩ := open1 (leaf_flat smTrue 4 (by kernel_rfl) (leafC_of (Sm := fun _ => True) h3 trivial))
  obtain rfl : cs3 = (encE (x3_0, (x3_1, x3_2), (x3_3, x3_4), (x3_5, x3_6))).toArray := by have q : cs3.toList = _ := e3; rw [← q]
  refine (calls_law (top_TopJoin_ok (e := (x3_0, (x3_1, x3_2), (x3_3, x3_4), (x3_5, x3_6))) S0 S1)).mono fun e W' ⟨he, hg⟩ => ?_
  subst he
  exact ⟨_, rfl, law_post big hW' hg (by kernel_rfl) (tb := 4) (by kernel_rfl) (by kernel_rfl) rfl⟩

theorem over : Rows.topJoinRow.holds Try.pinned (OpenSpec.ofChange Rows.topJoinSpec) :=
  OpenClaim.holds_of_wide 5 Try.f5 rfl rfl rfl rfl rfl rfl rfl ⟨rfl, rfl, rfl, rfl, rfl⟩ rfl rfl rfl rfl rfl (by kernel_rfl) Try.func5 (by kernel_rfl)
    (of_decide_eq_true (by kernel_rfl)) (by unfold Func.isWrapper; first | (rw [if_pos (by decide +kernel)]; kernel_rfl) | (rw [if_neg (by decide +kernel)]; exact ⟨rfl, rfl⟩))
    (fun os started H enc _ => lifted os started H enc)

theorem proved : Rows.TopJoinSaid :=
  over
end Go.Proofs.Ytdjacmkolakdeaa.topJoin
