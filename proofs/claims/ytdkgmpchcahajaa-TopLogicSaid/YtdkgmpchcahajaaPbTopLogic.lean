/-
  THE STATEMENT Rows.TopLogicSaid, proved: for every input the law returns true, and the input reads as it did. Conditions: none.
-/
import Derived.Test.YtdkgmpchcahajaaRows
import Derived.WalkKit
import Derived.ProofKit
import Derived.OpenShut
import Derived.Test.YtdkgmpchcahajaaTbLog
import Derived.Test.YtdkgmpchcahajaaVcO
namespace Go.Proofs.Ytdkgmpchcahajaa.topLogic
open Go.ChangeShapes Go.WideShapes Go.ChangeAt Go.RowKit Go.Vc
set_option linter.unusedVariables false
set_option maxRecDepth 100000

theorem own : ownKnob Try.prog.godebug = none := by kernel_rfl
/-- The cells of what was read. -/
theorem open0 {H : Type} {enc : TypeId × Value → H} {W : World} {cs : List Value} (L : LeafL Try.prog enc W (fun _ => True) (flatIds Try.prog 3 65) cs) : ∃ x0 x1, cs = encV (x0, x1) ∧ InR x0 ∧ InR x1 := by
  have e : flatIds Try.prog 3 65 = [3, 3] := by kernel_rfl
  rw [e] at L
  match cs, L with
  | [v0, v1], L =>
    obtain ⟨x0, h0, g0⟩ := leaf_i64 Try.underlying3 (L.1)
    cases h0
    obtain ⟨x1, h1, g1⟩ := leaf_i64 Try.underlying3 (L.2.1)
    cases h1
    exact ⟨x0, x1, rfl, g0, g1⟩

set_option maxRecDepth 100000 in
theorem lifted (os : Os) (started : os.Started) (H : Type) (enc : TypeId × Value → H) :
    ReturnsInHanded {} Try.checked os 12 .any (Rows.topLogicSpec.pre6 enc Try.prog Try.f12 Rows.topLogicRow.domain false) (Rows.topLogicSpec.post enc Try.prog Try.f12 false true false false) := by
  refine returnsInHanded_of_change (C := Try.checked) own started (by kernel_rfl) Try.func12
    (ChangeSpec.witness6 (enc := enc) (C := Try.checked) false ⟨#[], #[.agg #[.int .i64 0, .int .i64 0], .agg #[.int .i64 0, .int .i64 0], .agg #[.int .i64 0, .int .i64 0]], []⟩ 8 (by kernel_rfl) (by kernel_rfl) (by kernel_rfl) (by kernel_rfl)) ?_
  intro W base args ds gs before hval0 hW hcnd _
  have hval : ∀ (j : Nat) t v, Try.f12.params[j]? = some t → args[j]? = some v → Value.okWide Try.prog W .any base t v := hval0
  have hW' := hW
  obtain ⟨p, q, hA0, hV, rfl, hfz, hnd⟩ := hW
  have hA : DataW.TrodAll enc Try.prog W 0 (fun _ => true) true Try.f12.params.toList args.toList ds p := hA0
  rw [Try.params12] at hA hval
  obtain ⟨v0, vs0, d0, ds0, p0, q0, hargs, rfl, rfl, h0, r0⟩ := trodAll_cons hA
  obtain ⟨v1, vs1, d1, ds1, p1, q1, rfl, rfl, rfl, h1, r1⟩ := trodAll_cons r0
  obtain ⟨v2, vs2, d2, ds2, p2, q2, rfl, rfl, rfl, h2, r2⟩ := trodAll_cons r1
  obtain ⟨rfl, rfl, rfl⟩ := trodAll_nil r2
  obtain rfl : args = #[v0, v1, v2] := by cases args; simp_all
  obtain ⟨rfl, rfl⟩ := trodVars_none hV
  obtain ⟨cs0, rfl, _⟩ := okWide_struct Try.underlying65 (hval 0 65 v0 rfl rfl)
  obtain ⟨x0_0, x0_1, e0, g0⟩ := open0 (leaf_flat smTrue 3 (by kernel_rfl) (leafC_of (Sm := fun _ => True) h0 trivial))
  obtain rfl : cs0 = (encV (x0_0, x0_1)).toArray := by have q : cs0.toList = _ := e0; rw [← q]
  obtain ⟨cs1, rfl, _⟩ := okWide_struct Try.underlying65 (hval 1 65 v1 rfl rfl)
  obtain ⟨x1_0, x1_1, e1, g1⟩ := open0 (leaf_flat smTrue 3 (by kernel_rfl) (leafC_of (Sm := fun _ => True) h1 trivial))
  obtain rfl : cs1 = (encV (x1_0, x1_1)).toArray := by have q : cs1.toList = _ := e1; rw [← q]
  obtain ⟨cs2, rfl, _⟩ := okWide_struct Try.underlying65 (hval 2 65 v2 rfl rfl)
  obtain ⟨x2_0, x2_1, e2, g2⟩ := open0 (leaf_flat smTrue 3 (by kernel_rfl) (leafC_of (Sm := fun _ => True) h2 trivial))
  obtain rfl : cs2 = (encV (x2_0, x2_1)).toArray := by have q : cs2.toList = _ := e2; rw [← q]
  refine (calls_law (top_TopLogic_ok)).mono fun e W' ⟨he, hg⟩ => ?_
  subst he
  exact ⟨_, rfl, law_post big hW' hg (by kernel_rfl) (tb := 4) (by kernel_rfl) (by kernel_rfl) rfl⟩

theorem over : Rows.topLogicRow.holds Try.pinned (OpenSpec.ofChange Rows.topLogicSpec) :=
  OpenClaim.holds_of_wide 12 Try.f12 rfl rfl rfl rfl rfl rfl rfl ⟨rfl, rfl, rfl, rfl, rfl⟩ rfl rfl rfl rfl rfl (by kernel_rfl) Try.func12 (by kernel_rfl)
    (of_decide_eq_true (by kernel_rfl)) (by unfold Func.isWrapper; first | (rw [if_pos (by decide +kernel)]; kernel_rfl) | (rw [if_neg (by decide +kernel)]; exact ⟨rfl, rfl⟩))
    (fun os started H enc _ => lifted os started H enc)

theorem proved : Rows.TopLogicSaid :=
  over
end Go.Proofs.Ytdkgmpchcahajaa.topLogic
