/-
  THE STATEMENT Rows.TopDiskSaid, proved: for every input the law returns true, and the input reads as it did. Conditions: none.
-/
import Derived.Test.YtdkgmpchcahajaaRows
import Derived.WalkKit
import Derived.ProofKit
import Derived.OpenShut
import Derived.Test.YtdkgmpchcahajaaTbDsk
import Derived.Test.YtdkgmpchcahajaaVcO
namespace Go.Proofs.Ytdkgmpchcahajaa.topDisk
open Go.ChangeShapes Go.WideShapes Go.ChangeAt Go.RowKit Go.Vc
set_option linter.unusedVariables false
set_option maxRecDepth 100000

theorem own : ownKnob Try.prog.godebug = none := by kernel_rfl
/-- The cells of what was read. -/
theorem open0 {H : Type} {enc : TypeId × Value → H} {W : World} {cs : List Value} (L : LeafL Try.prog enc W (fun _ => True) (flatIds Try.prog 3 89) cs) : ∃ (x0 : ByteArray) (x1 : Int) (x2 : ByteArray) (x3 : Int), cs = encA (x0.data.toList, x1, x2.data.toList, x3) ∧ x0.size ≤ maxLen ∧ InR x1 ∧ x2.size ≤ maxLen ∧ 0 ≤ x3 ∧ x3 ≤ 18446744073709551615 := by
  have e : flatIds Try.prog 3 89 = [9, 3, 9, 87] := by kernel_rfl
  rw [e] at L
  match cs, L with
  | [v0, v1, v2, v3], L =>
    obtain ⟨x0, h0, _, g0⟩ := leaf_string smTrue Try.underlying9 (L.1)
    cases h0
    obtain ⟨x1, h1, g1⟩ := leaf_i64 Try.underlying3 (L.2.1)
    cases h1
    obtain ⟨x2, h2, _, g2⟩ := leaf_string smTrue Try.underlying9 (L.2.2.1)
    cases h2
    obtain ⟨x3, h3, g3⟩ := leaf_int Try.underlying87 (L.2.2.2.1)
    have g3 := wf_u64 g3
    cases h3
    exact ⟨x0, x1, x2, x3, rfl, g0, g1, g2, g3⟩

set_option maxRecDepth 100000 in
theorem lifted (os : Os) (started : os.Started) (H : Type) (enc : TypeId × Value → H) :
    ReturnsInHanded {} Try.checked os 13 .any (Rows.topDiskSpec.pre6 enc Try.prog Try.f13 Rows.topDiskRow.domain false) (Rows.topDiskSpec.post enc Try.prog Try.f13 false true false false) := by
  refine returnsInHanded_of_change (C := Try.checked) own started (by kernel_rfl) Try.func13
    (ChangeSpec.witness6 (enc := enc) (C := Try.checked) false ⟨#[], #[.slice none 0 0, .slice none 0 0, .int .u64 0], []⟩ 8 (by kernel_rfl) (by kernel_rfl) (by kernel_rfl) (by kernel_rfl)) ?_
  intro W base args ds gs before hval0 hW hcnd _
  have hval : ∀ (j : Nat) t v, Try.f13.params[j]? = some t → args[j]? = some v → Value.okWide Try.prog W .any base t v := hval0
  have hW' := hW
  obtain ⟨p, q, hA0, hV, rfl, hfz, hnd⟩ := hW
  have hA : DataW.TrodAll enc Try.prog W 0 (fun _ => true) true Try.f13.params.toList args.toList ds p := hA0
  rw [Try.params13] at hA hval
  obtain ⟨v0, vs0, d0, ds0, p0, q0, hargs, rfl, rfl, h0, r0⟩ := trodAll_cons hA
  obtain ⟨v1, vs1, d1, ds1, p1, q1, rfl, rfl, rfl, h1, r1⟩ := trodAll_cons r0
  obtain ⟨v2, vs2, d2, ds2, p2, q2, rfl, rfl, rfl, h2, r2⟩ := trodAll_cons r1
  obtain ⟨rfl, rfl, rfl⟩ := trodAll_nil r2
  obtain rfl : args = #[v0, v1, v2] := by cases args; simp_all
  obtain ⟨rfl, rfl⟩ := trodVars_none hV
  obtain ⟨w1, w2, w3, rfl⟩ := okWide_slice (e := 89) (by kernel_rfl) (hval 0 79 v0 rfl rfl)
  obtain ⟨p0, n0, c0, l0, e0, S0, hc0, hm0, _, g0⟩ := leaf_slice (enc := encA) (sz := 4) (good := fun y => True) smTrue (e := 89) (by kernel_rfl) (by kernel_rfl) (by decide) (fun _ => rfl)
    (fun cs L => by
      have hf := leaf_flat smTrue 3 (by kernel_rfl) L
      obtain ⟨x0, x1, x2, x3, hy, hg⟩ := open0 hf
      exact ⟨(x0.data.toList, x1, x2.data.toList, x3), hy, trivial⟩) (leafC_of (Sm := fun _ => True) h0 trivial)
  cases e0
  obtain ⟨w1, w2, w3, rfl⟩ := okWide_slice (e := 89) (by kernel_rfl) (hval 1 79 v1 rfl rfl)
  obtain ⟨p1, n1, c1, l1, e1, S1, hc1, hm1, _, g1⟩ := leaf_slice (enc := encA) (sz := 4) (good := fun y => True) smTrue (e := 89) (by kernel_rfl) (by kernel_rfl) (by decide) (fun _ => rfl)
    (fun cs L => by
      have hf := leaf_flat smTrue 3 (by kernel_rfl) L
      obtain ⟨x0, x1, x2, x3, hy, hg⟩ := open0 hf
      exact ⟨(x0.data.toList, x1, x2.data.toList, x3), hy, trivial⟩) (leafC_of (Sm := fun _ => True) h1 trivial)
  cases e1
  obtain ⟨a2, rfl⟩ := okWide_int Try.underlying87 (hval 2 87 v2 rfl rfl)
  obtain ⟨b2, e2, ga2⟩ := leaf_int Try.underlying87 (leafC_of (Sm := fun _ => True) h2 trivial)
  cases e2
  have ga2 := wf_u64 ga2
  refine (calls_law (top_TopDisk_ok S0 S1 ga2)).mono fun e W' ⟨he, hg⟩ => ?_
  subst he
  exact ⟨_, rfl, law_post big hW' hg (by kernel_rfl) (tb := 4) (by kernel_rfl) (by kernel_rfl) rfl⟩

theorem over : Rows.topDiskRow.holds Try.pinned (OpenSpec.ofChange Rows.topDiskSpec) :=
  OpenClaim.holds_of_wide 13 Try.f13 rfl rfl rfl rfl rfl rfl rfl ⟨rfl, rfl, rfl, rfl, rfl⟩ rfl rfl rfl rfl rfl (by kernel_rfl) Try.func13 (by kernel_rfl)
    (of_decide_eq_true (by kernel_rfl)) (by unfold Func.isWrapper; first | (rw [if_pos (by decide +kernel)]; kernel_rfl) | (rw [if_neg (by decide +kernel)]; exact ⟨rfl, rfl⟩))
    (fun os started H enc _ => lifted os started H enc)

theorem proved : Rows.TopDiskSaid :=
  over
end Go.Proofs.Ytdkgmpchcahajaa.topDisk
