/-
  A contract: acts that are light enough. And what becomes of a disk that may be. Conditions: none.
-/
import Derived.Test.YtdkgmpchcahajaaFLAct
import Derived.Test.YtdkgmpchcahajaaCDsk0
import Derived.Test.YtdkgmpchcahajaaCDsk
namespace Go.Proofs.Ytdkgmpchcahajaa
open Go Go.Vc
set_option linter.unusedVariables false
set_option maxRecDepth 100000

/-- An act: its kind, a number, a text, a mask. -/
abbrev ActL := List UInt8 × Int × List UInt8 × Int
def encA (y : ActL) : List Value := [vs (bs y.1), vi y.2.1, vs (bs y.2.2.1), vk .u64 y.2.2.2]
theorem encA_len (y : ActL) : (encA y).length = 4 := rfl
/-- The numbers of an act are what they may be. -/
def goodA (y : ActL) : Prop := InR y.2.1 ∧ 0 ≤ y.2.2.2 ∧ y.2.2.2 ≤ 18446744073709551615
def lightA (l : List ActL) (most : Int) : Bool := decide ((l.length : Int) ≤ most ∧ ∀ y ∈ l, y.2.2.1.length ≤ 3000)
theorem law_LightActs_ok {a : Option Addr} {n c : Nat} {l : List ActL} {h : Hp} (S : SlP encA h a n l) {most : Int} (hm : most ≤ 1000000) {R : Value → Hp → Prop} (hK : R (vb (lightA l most)) h) : CallOK Try.prog 37 [vsl a n c, vi most] h R := by
  refine ok_law_LightActs ?_
  unfold VC_law_LightActs
  have hn := S.1
  refine ⟨fun e => ?_, fun e => ?_⟩
  · have e2 : (n : Int) > most := of_decide_eq_true e
    have : lightA l most = false := by unfold lightA; rw [decide_eq_false_iff_not]; rintro ⟨q, _⟩; omega
    rw [this] at hK; exact hK
  have e2 : ¬ (n : Int) > most := of_decide_eq_false e
  refine ⟨fun vs hh => hh = h ∧ ∃ i : Nat, vs = [vi i] ∧ i ≤ n ∧ ∀ y ∈ l.take i, y.2.2.1.length ≤ 3000, fun vs hh => n - (vint vs 0).toNat, ⟨rfl, 0, rfl, Nat.zero_le _, by simp⟩, ?_⟩
  rintro vs hh ⟨rfl, i, rfl, hi, ht⟩
  refine ⟨i, rfl, fun e => ?_, fun e => ?_⟩
  · have hlt : i < n := by have := of_decide_eq_true e; omega
    have hlt2 : i < l.length := by omega
    have hx : l[i]? = some l[i] := List.getElem?_eq_getElem hlt2
    obtain ⟨b, o, ha, hc⟩ := S.cell (j := 2) (v := vs (bs l[i].2.2.1)) encA_len (by decide) hx rfl
    refine ⟨b, o, ⟨ha, by omega, by omega⟩, _, hc, fun e3 => ?_, fun e3 => ?_⟩
    · rw [bs_size] at e3
      have e4 : ((l[i].2.2.1.length : Nat) : Int) > 3000 := of_decide_eq_true e3
      have : lightA l most = false := by
        unfold lightA; rw [decide_eq_false_iff_not]; rintro ⟨_, q⟩
        have := q l[i] (List.getElem_mem hlt2)
        omega
      rw [this] at hK; exact hK
    · rw [bs_size] at e3
      have e4 : ¬ ((l[i].2.2.1.length : Nat) : Int) > 3000 := of_decide_eq_false e3
      have tk : l.take (i + 1) = l.take i ++ [l[i]] := List.take_succ_eq_append_getElem hlt2
      refine ⟨_, isW (by unfold InR; omega), ⟨rfl, i + 1, rfl, by omega, ?_⟩, by simp [vint]; omega⟩
      intro y hy
      rw [tk] at hy
      rcases List.mem_append.1 hy with h1 | h1
      · exact ht y h1
      · simp at h1; subst h1; omega
  · have hge : i = n := by have := of_decide_eq_false e; omega
    subst hge
    rw [List.take_of_length_le (by omega)] at ht
    have : lightA l most = true := by unfold lightA; exact decide_eq_true ⟨by omega, ht⟩
    rw [this] at hK; exact hK

theorem dStep_wf {s : DK} {n : Nat} (W : s.wf n) : (dStep s).1.wf n := by
  have f := W.f
  have f2 := W.f2
  unfold dStep
  split
  · exact W
  · split
    · exact ⟨W.k, W.w, W.t, by simp, by simp, W.n1, W.n2⟩
    · exact ⟨W.k, W.w, W.t, by simp only; omega, by simp only; omega, W.n1, W.n2⟩
theorem dStep_2 (s : DK) : (dStep s).2 = 0 ∨ (dStep s).2 = 7 := by unfold dStep; split <;> (try split) <;> simp
theorem dStep_w (s : DK) : (dStep s).1.wait = s.wait := by unfold dStep; split <;> (try split) <;> rfl
theorem dWrite_wf {s : DK} {n : Nat} (W : s.wf n) (i : Int) (d : List UInt8) : (dWrite s i d).1.wf n := by
  have S := dStep_wf W
  have hw := W.w
  unfold dWrite
  split
  · exact W
  · rename_i h1
    split
    · exact S
    · refine ⟨S.k, by simp only [List.length_set]; exact W.w, ?_, S.f, S.f2, W.n1, W.n2⟩
      intro x hx
      rcases List.mem_append.1 hx with h2 | h2
      · exact W.t x h2
      · simp at h2; subst h2; simp only; omega
theorem dWrite_wait (s : DK) (i : Int) (d : List UInt8) : (dWrite s i d).1.wait.length ≤ s.wait.length + 1 := by
  unfold dWrite
  split
  · exact Nat.le_succ _
  · split
    · rw [dStep_w]; exact Nat.le_succ _
    · simp
theorem dWrite_2 (s : DK) (i : Int) (d : List UInt8) : 0 ≤ (dWrite s i d).2 := by
  unfold dWrite
  split
  · exact (by decide : (0 : Int) ≤ 1)
  · split
    · rcases dStep_2 s with h | h <;> rw [h] <;> decide
    · exact Int.le_refl 0
theorem dFlush_wf {s : DK} {n : Nat} (W : s.wf n) : (dFlush s).1.wf n := by
  have S := dStep_wf W
  unfold dFlush
  split
  · exact S
  · exact ⟨W.w, S.w, by simp, S.f, S.f2, W.n1, W.n2⟩
theorem dFlush_wait (s : DK) : (dFlush s).1.wait.length ≤ s.wait.length := by
  unfold dFlush
  split
  · rw [dStep_w]; omega
  · simp
theorem dFlush_2 (s : DK) : 0 ≤ (dFlush s).2 := by
  unfold dFlush
  split
  · rcases dStep_2 s with h | h <;> rw [h] <;> decide
  · exact Int.le_refl 0
theorem dRestart_wf {s : DK} {n : Nat} (W : s.wf n) (k : Int) : (dRestart s k).wf n :=
  ⟨by simp [dRestart, dKeep_length, W.k], by simp [dRestart, dKeep_length, W.k], by simp [dRestart], by simp [dRestart], by simp [dRestart], W.n1, W.n2⟩
theorem dArm_wf {s : DK} {n : Nat} (W : s.wf n) {x : Int} (hx : InR x) : ({ s with fuse := max x (-1) } : DK).wf n :=
  ⟨W.k, W.w, W.t, by simp only; omega, by simp only; unfold InR at hx; omega, W.n1, W.n2⟩
theorem dRead_2 (s : DK) (i : Int) : 0 ≤ (dRead s i).2 := by
  unfold dRead
  split
  · exact (by decide : (0 : Int) ≤ 7)
  · split
    · exact (by decide : (0 : Int) ≤ 1)
    · exact Int.le_refl 0
end Go.Proofs.Ytdkgmpchcahajaa
