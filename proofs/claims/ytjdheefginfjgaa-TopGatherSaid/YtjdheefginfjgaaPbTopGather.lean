/-
  THE STATEMENT Rows.TopGatherSaid, proved: for every input the law returns true, and the input reads as it did. Conditions: none.
-/
import Derived.Test.YtjdheefginfjgaaRows
import Derived.WalkKit
import Derived.ProofKit
import Derived.OpenShut
import Derived.Test.YtjdheefginfjgaaTbGat
import Derived.Test.YtjdheefginfjgaaVcO
namespace Go.Proofs.Ytjdheefginfjgaa.topGather
open Go.ChangeShapes Go.WideShapes Go.ChangeAt Go.RowKit Go.Vc
set_option linter.unusedVariables false
set_option maxRecDepth 100000

/-- The cells of a value that was read. -/
theorem open_V {H : Type} {enc : TypeId × Value → H} {W : World} {Sm : DataW H → Prop} {cs : List Value} (L : LeafL Try.prog enc W Sm (flatIds Try.prog 3 33) cs) : ∃ y, cs = encV y := by
  have e : flatIds Try.prog 3 33 = [3, 3] := by kernel_rfl
  rw [e] at L
  match cs, L with
  | [x, y], L =>
    obtain ⟨n, h1, _⟩ := leaf_i64 Try.underlying3 L.1
    obtain ⟨m, h2, _⟩ := leaf_i64 Try.underlying3 L.2.1
    cases h1
    cases h2
    exact ⟨(n, m), rfl⟩
theorem own : ownKnob Try.prog.godebug = none := by kernel_rfl

set_option maxRecDepth 100000 in
theorem lifted (os : Os) (started : os.Started) (H : Type) (enc : TypeId × Value → H) :
    ReturnsInHanded {} Try.checked os 6 .any (Rows.topGatherSpec.pre6 enc Try.prog Try.f6 Rows.topGatherRow.domain false) (Rows.topGatherSpec.post enc Try.prog Try.f6 false true false false) := by
  refine returnsInHanded_of_change (C := Try.checked) own started (by kernel_rfl) Try.func6
    (ChangeSpec.witness6 (enc := enc) (C := Try.checked) false ⟨#[], #[.int .i64 0, .slice none 0 0], []⟩ 8 (by kernel_rfl) (by kernel_rfl) (by kernel_rfl) (by kernel_rfl)) ?_
  intro W base args ds gs before hval0 hW hcnd _
  have hval : ∀ (j : Nat) t v, Try.f6.params[j]? = some t → args[j]? = some v → Value.okWide Try.prog W .any base t v := hval0
  have hW' := hW
  obtain ⟨p, q, hA0, hV, rfl, hfz, hnd⟩ := hW
  have hA : DataW.TrodAll enc Try.prog W 0 (fun _ => true) true Try.f6.params.toList args.toList ds p := hA0
  rw [Try.params6] at hA hval
  obtain ⟨v0, vs0, d0, ds0, p0, q0, hargs, rfl, rfl, h0, r0⟩ := trodAll_cons hA
  obtain ⟨v1, vs1, d1, ds1, p1, q1, rfl, rfl, rfl, h1, r1⟩ := trodAll_cons r0
  obtain ⟨rfl, rfl, rfl⟩ := trodAll_nil r1
  obtain rfl : args = #[v0, v1] := by cases args; simp_all
  obtain ⟨rfl, rfl⟩ := trodVars_none hV
  obtain ⟨a0, rfl, rfl, rfl, w0⟩ := open_int Try.underlying3 (hval 0 3 v0 rfl rfl) h0
  obtain ⟨x1, x2, x3, rfl⟩ := okWide_slice (e := 33) (by kernel_rfl) (hval 1 26 v1 rfl rfl)
  obtain ⟨a, n, c, l, e1, S, hc, _, _, _⟩ := leaf_slice (enc := encV) (sz := 2) (good := fun _ => True) smTrue (e := 33) (by kernel_rfl) (by kernel_rfl) (by decide) encV_len
    (fun cs L => by
      have hf := leaf_flat smTrue 3 (by kernel_rfl) L
      obtain ⟨y, hy⟩ := open_V hf
      exact ⟨y, hy, trivial⟩) (leafC_of (Sm := fun _ => True) h1 trivial)
  cases e1
  refine (calls_law (top_TopGather_ok (k := a0) S)).mono fun e W' ⟨he, hg⟩ => ?_
  subst he
  exact ⟨_, rfl, law_post big hW' hg (by kernel_rfl) (tb := 4) (by kernel_rfl) (by kernel_rfl) rfl⟩

theorem over : Rows.topGatherRow.holds Try.pinned (OpenSpec.ofChange Rows.topGatherSpec) :=
  OpenClaim.holds_of_wide 6 Try.f6 rfl rfl rfl rfl rfl rfl rfl ⟨rfl, rfl, rfl, rfl, rfl⟩ rfl rfl rfl rfl rfl (by kernel_rfl) Try.func6 (by kernel_rfl)
    (of_decide_eq_true (by kernel_rfl)) (by unfold Func.isWrapper; first | (rw [if_pos (by decide +kernel)]; kernel_rfl) | (rw [if_neg (by decide +kernel)]; exact ⟨rfl, rfl⟩))
    (fun os started H enc _ => lifted os started H enc)

theorem proved : Rows.TopGatherSaid :=
  over
end Go.Proofs.Ytjdheefginfjgaa.topGather
