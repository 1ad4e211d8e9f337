/-
  What the laws WindowSays and TopWindows give, for every argument: true; nothing of what was there has turned. Conditions: none.
-/
import Derived.Test.YtjdheefginfjgaaCaWin
namespace Go.Proofs.Ytjdheefginfjgaa
open Go Go.Vc
set_option linter.unusedVariables false

theorem law_WindowSays_ok {at_ size slide : Int} {h : Hp} : CallOK Try.prog 3 [vi at_, vi size, vi slide] h fun v h' => v = vb true ∧ h.le h' := by
  refine ok_law_WindowSays ?_
  unfold VC_law_WindowSays
  refine window_Starts_ok (by decide) (by decide) (by decide) (by decide) (by decide) (by decide) fun a n c h2 l1 s1 => ⟨a, n, c, rfl, fun b hb => ?_⟩
  intro h5
  have hn := s1.1
  have e0 : startsOf 7 10 5 = [0, 5] := by decide
  rw [e0] at s1 hn
  have l2 : h2.le (h2.set b (cellsO [vi 0, vi 5] 3)) := Hp.le_set (Hp.le_refl h2) hb _
  refine R_SameNumbers_ok (l := [0, 5]) (l' := [0, 5]) (s1.le l2) ⟨rfl, HasRow.new h2 b _ _⟩ (by rw [hn]; decide) (by decide) ?_
  refine ⟨_, rfl, fun e => by simp at e, fun _ => ⟨fun e => ?_, fun e => ⟨rfl, Hp.le_trans l1 l2⟩, fun e => ?_⟩⟩
  · simp [Bool.cond_eq_ite] at e
    unfold InR
    omega
  · simp [Bool.cond_eq_ite] at e
    refine window_Starts_ok (by omega) (by omega) (by omega) (by omega) (by omega) (by omega) fun a1 n1 c1 h3 l3 s3 => ⟨a1, n1, c1, rfl, ?_⟩
    refine R_Starts_ok (by omega) (by omega) (by omega) (by omega) (by omega) fun a2 n2 c2 h4 l4 s4 => ⟨a2, n2, c2, rfl, ?_⟩
    have k1 := s3.1
    have k2 := s4.1
    have k3 := upto_length (mulOf slide) (at_ - size) size.toNat
    unfold startsOf at k1 k2
    refine R_SameNumbers_ok (s3.le l4) s4 (by omega) (by omega) ?_
    exact ⟨_, rfl, by simp, Hp.le_trans l1 (Hp.le_trans l2 (Hp.le_trans l3 l4))⟩
end Go.Proofs.Ytjdheefginfjgaa
