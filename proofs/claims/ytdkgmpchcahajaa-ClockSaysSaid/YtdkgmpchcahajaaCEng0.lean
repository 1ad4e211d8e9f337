/-
  Contracts: the document's engine, made anew; how far all is known. Conditions: those stated at each.
-/
import Derived.Test.YtdkgmpchcahajaaFREng0
import Derived.Test.YtdkgmpchcahajaaCClk
namespace Go.Proofs.Ytdkgmpchcahajaa
open Go Go.Vc
set_option linter.unusedVariables false

theorem setL_7 (a b c d e f g r x : Value) (l : List Value) : setL ([a, b, c, d, e, f, g, x] ++ l) 7 [r] = [a, b, c, d, e, f, g, r] ++ l := by simp [setL]
theorem setL_8 (a b c d e f g r x y : Value) (l : List Value) : setL ([a, b, c, d, e, f, g, x, y] ++ l) 8 [r] = [a, b, c, d, e, f, g, x, r] ++ l := by simp [setL]

theorem R_NewEngine_ok {a1 : Option Addr} {n1 c1 : Nat} {a2 : Option Addr} {n2 c2 : Nat} {a3 : Option Addr} {n3 c3 : Nat} {s1 s2 s3 s4 p : Int} {h : Hp} {R : Value → Hp → Prop} (hp : p ≤ 1000)
    (hK : ∀ (b : Nat) (aR : Option Addr) (cR : Nat) (aF : Option Addr) (cF : Nat) (h' : Hp), h.le h' → h b = none →
      h' b = some (cellsO [vsl a1 n1 c1, vsl a2 n2 c2, vsl a3 n3 c3, vi s1, vi s2, vi s3, vi s4, vsl aR p.toNat cR, vsl aF p.toNat cF, vsl none 0 0, vi 0, vsl none 0 0] 45) →
      OwnS h' 3 1 aR p.toNat cR ((List.replicate p.toNat (0 : Int)).map vi) → OwnS h' 3 1 aF p.toNat cF ((List.replicate p.toNat (-1 : Int)).map vi) →
      (∀ g, aR = some ⟨g, 0, none⟩ → h g = none ∧ g ≠ b) → (∀ g, aF = some ⟨g, 0, none⟩ → h g = none ∧ g ≠ b ∧ aR ≠ some ⟨g, 0, none⟩) → R (vhp b 0) h') :
    CallOK Try.prog 17 [vag [vsl a1 n1 c1, vsl a2 n2 c2, vsl a3 n3 c3, vi s1, vi s2, vi s3, vi s4], vi p] h R := by
  refine ok_R_NewEngine ?_
  unfold VC_R_NewEngine
  intro b1 hb1 h2
  refine ⟨fun vs hh => ∃ (i : Nat) (aR : Option Addr) (cR : Nat) (aF : Option Addr) (cF : Nat), vs = [vi i] ∧ i ≤ p.toNat ∧ h.le hh ∧
      hh b1 = some (cellsO [vsl a1 n1 c1, vsl a2 n2 c2, vsl a3 n3 c3, vi s1, vi s2, vi s3, vi s4, vsl aR i cR, vsl aF i cF, vsl none 0 0, vi 0, vsl none 0 0] 45) ∧
      OwnS hh 3 1 aR i cR ((List.replicate i (0 : Int)).map vi) ∧ OwnS hh 3 1 aF i cF ((List.replicate i (-1 : Int)).map vi) ∧
      (∀ g, aR = some ⟨g, 0, none⟩ → h g = none ∧ g ≠ b1) ∧ (∀ g, aF = some ⟨g, 0, none⟩ → h g = none ∧ g ≠ b1 ∧ aR ≠ some ⟨g, 0, none⟩),
    fun vs hh => p.toNat - (vint vs 0).toNat, ⟨0, none, 0, none, 0, rfl, Nat.zero_le _, Hp.le_set (Hp.le_refl h) hb1 _, by simp [h2, Hp.set], OwnS.nil _ _ _, OwnS.nil _ _ _, by simp, by simp⟩, ?_⟩
  rintro vs hh ⟨i, aR, cR, aF, cF, rfl, hi, hl, hB, OR, OF, fR, fF⟩
  refine ⟨i, rfl, fun e => ?_, fun e => ?_⟩
  · have hlt : (i : Int) < p := by simpa using e
    refine ⟨aR, i, cR, cell_cells hB rfl, ?_⟩
    intro b12 hb12 h13
    have hb1n : b1 ≠ b12 := Hp.ne_of hB hb12
    have OR1 : OwnS h13 3 1 aR i cR ((List.replicate i (0 : Int)).map vi) := OR.set (OR.not_at hb12) _
    have OF1 : OwnS h13 3 1 aF i cF ((List.replicate i (-1 : Int)).map vi) := OF.set (OF.not_at hb12) _
    have hB13 : h13 b1 = _ := (Hp.set_other hh _ hb1n).trans hB
    have hl13 : h.le h13 := Hp.le_set hl hb12 _
    refine sem_append elInt OR1 (HasRow.new _ _ [vi 0] _) (m := 1) rfl (by simp [Value.oneCell']) (by omega) (by omega) fun aR' cR' h15 OR' k1 k2 _ _ => ⟨_, _, _, rfl, ?_⟩
    have fR' : ∀ g, aR' = some ⟨g, 0, none⟩ → h g = none ∧ g ≠ b1 ∧ aF ≠ some ⟨g, 0, none⟩ := by
      intro g hg
      rcases k2 g hg with e | e
      · have h1 := fR g (e.trans hg)
        exact ⟨h1.1, h1.2, fun hf => (fF g hf).2.2 (e.trans hg)⟩
      · exact ⟨Hp.none_of_le hl13 e, (Hp.ne_of hB13 e).symm, OF1.not_at e⟩
    have hB15 := k1 b1 _ hB13 (fun e => (fR b1 e).2 rfl)
    have OF15 : OwnS h15 3 1 aF i cF ((List.replicate i (-1 : Int)).map vi) := OF1.keep fun g o hg ho => k1 g o ho (fun e => (fF g hg).2.2 e)
    have hl15 : h.le h15 := fun g o ho => k1 g o (hl13 g o ho) (fun e => by rw [(fR g e).1] at ho; cases ho)
    refine store_cells hB15 (by simp) ?_
    have e7 := setL_7 (vsl a1 n1 c1) (vsl a2 n2 c2) (vsl a3 n3 c3) (vi s1) (vi s2) (vi s3) (vi s4) (vsl aR' (i + 1) cR') (vsl aR i cR) [vsl aF i cF, vsl none 0 0, vi 0, vsl none 0 0]
    rw [show (0 + 7 : Nat) = 7 from rfl]
    simp only [List.cons_append, List.nil_append] at e7
    rw [e7]
    generalize hh17 : h15.set b1 _ = h17
    have hB17 := hh17 ▸ Hp.set_same h15 b1 (cellsO [vsl a1 n1 c1, vsl a2 n2 c2, vsl a3 n3 c3, vi s1, vi s2, vi s3, vi s4, vsl aR' (i + 1) cR', vsl aF i cF, vsl none 0 0, vi 0, vsl none 0 0] 45)
    have OR17 := hh17 ▸ OR'.set (g := b1) (fun e => (fR' b1 e).2.1 rfl) (cellsO [vsl a1 n1 c1, vsl a2 n2 c2, vsl a3 n3 c3, vi s1, vi s2, vi s3, vi s4, vsl aR' (i + 1) cR', vsl aF i cF, vsl none 0 0, vi 0, vsl none 0 0] 45)
    have OF17 := hh17 ▸ OF15.set (g := b1) (fun e => (fF b1 e).2.1 rfl) (cellsO [vsl a1 n1 c1, vsl a2 n2 c2, vsl a3 n3 c3, vi s1, vi s2, vi s3, vi s4, vsl aR' (i + 1) cR', vsl aF i cF, vsl none 0 0, vi 0, vsl none 0 0] 45)
    have hl17 : h.le h17 := by rw [← hh17]; exact fun g o ho => (Hp.set_other h15 _ (fun e => by subst e; rw [hb1] at ho; cases ho)).trans (hl15 g o ho)
    clear hh17
    refine ⟨aF, i, cF, cell_cells hB17 rfl, ?_⟩
    intro b19 hb19 h20
    have hb19n : b1 ≠ b19 := Hp.ne_of hB17 hb19
    have OR20 : OwnS h20 _ _ _ _ _ _ := OR17.set (OR17.not_at hb19) _
    have OF20 : OwnS h20 _ _ _ _ _ _ := OF17.set (OF17.not_at hb19) _
    have hB20 : h20 b1 = _ := (Hp.set_other h17 _ hb19n).trans hB17
    have hl20 : h.le h20 := Hp.le_set hl17 hb19 _
    refine sem_append elInt OF20 (HasRow.new _ _ [vi (-1)] _) (m := 1) rfl (by simp [Value.oneCell']) (by omega) (by omega) fun aF' cF' h22 OF' k3 k4 _ _ => ⟨_, _, _, rfl, ?_⟩
    have fF' : ∀ g, aF' = some ⟨g, 0, none⟩ → h g = none ∧ g ≠ b1 ∧ aR' ≠ some ⟨g, 0, none⟩ := by
      intro g hg
      rcases k4 g hg with e | e
      · have h1 := fF g (e.trans hg)
        exact ⟨h1.1, h1.2.1, fun hf => (fR' g hf).2.2 (e.trans hg)⟩
      · exact ⟨Hp.none_of_le hl20 e, (Hp.ne_of hB20 e).symm, OR20.not_at e⟩
    have hB22 := k3 b1 _ hB20 (fun e => (fF b1 e).2.1 rfl)
    have OR22 := OR20.keep (h' := h22) fun g o hg ho => k3 g o ho (fun e => (fR' g hg).2.2 e)
    have hl22 : h.le h22 := fun g o ho => k3 g o (hl20 g o ho) (fun e => by rw [(fF g e).1] at ho; cases ho)
    refine store_cells hB22 (by simp) ?_
    have e8 := setL_8 (vsl a1 n1 c1) (vsl a2 n2 c2) (vsl a3 n3 c3) (vi s1) (vi s2) (vi s3) (vi s4) (vsl aF' (i + 1) cF') (vsl aR' (i + 1) cR') (vsl aF i cF) [vsl none 0 0, vi 0, vsl none 0 0]
    rw [show (0 + 8 : Nat) = 8 from rfl]
    simp only [List.cons_append, List.nil_append] at e8
    rw [e8]
    refine ⟨_, isW (by unfold InR; omega), ⟨i + 1, aR', cR', aF', cF', rfl, by omega, ?_, Hp.set_same _ _ _, ?_, ?_, fun g hg => ⟨(fR' g hg).1, (fR' g hg).2.1⟩, fF'⟩, by simp [vint]; omega⟩
    · exact fun g o ho => (Hp.set_other h22 _ (fun e => by subst e; rw [hb1] at ho; cases ho)).trans (hl22 g o ho)
    · rw [List.replicate_succ', List.map_append]; exact OR22.set (fun e => (fR' b1 e).2.1 rfl) _
    · rw [List.replicate_succ', List.map_append]; exact OF'.set (fun e => (fF' b1 e).2.1 rfl) _
  · have hge : i = p.toNat := by simp at e; omega
    rw [hge] at hB OR OF
    exact hK b1 aR cR aF cF hh hl hb1 hB OR OF fR fF

theorem R_Upto_ok {b : Nat} {l : List Int} {a : Option Addr} {n c : Nat} {cs : List Value} {t : TypeId} {d : Int} {h : Hp} {R : Value → Hp → Prop} (hB : h b = some (cellsO cs t)) (h8 : cs[8]? = some (vsl a n c)) (h5 : cs[5]? = some (vi d))
    (S : SlI h a n l) (hn : n ≤ 1000) (hl : ∀ x ∈ l, -1 ≤ x ∧ x ≤ 9999) (hd : 0 ≤ d ∧ d ≤ 1000)
    (hK : R (if ∀ x ∈ l, 0 ≤ x then vtup [vi (minL l - d), vb true] else vtup [vi 0, vb false]) h) :
    CallOK Try.prog 21 [vhp b 0] h R := by
  refine ok_R_Engine_Upto ?_
  unfold VC_R_Engine_Upto
  have hlen := S.1
  refine ⟨fun vs hh => hh = h ∧ ∃ i : Nat, vs = [vi (minL (l.take i)), vi i] ∧ i ≤ n ∧ (∀ x ∈ l.take i, 0 ≤ x), fun vs hh => n - (vint vs 1).toNat, ⟨rfl, 0, rfl, by omega, by simp⟩, ?_⟩
  rintro vs hh ⟨rfl, i, rfl, hi, hg⟩
  refine ⟨_, i, rfl, a, n, c, cell_cells hB (by simpa using h8), fun e => ?_, fun e => ?_⟩
  · have hlt : i < n := by simpa using e
    have hx : i < l.length := by omega
    have hget : l.getD i 0 = l[i] := by rw [List.getD_eq_getElem?_getD, List.getElem?_eq_getElem hx]; rfl
    have hb := hl l[i] (List.getElem_mem hx)
    have tk : l.take (i + 1) = l.take i ++ [l[i]] := List.take_succ_eq_append_getElem hx
    obtain ⟨bb, o, ea, hc⟩ := S.get hlt
    rw [hget] at hc
    intro J26
    have A : a = some ⟨bb, o, none⟩ ∧ (0 : Int) ≤ i ∧ (i : Int) < (n : Nat) := ⟨ea, by omega, by omega⟩
    refine ⟨a, n, c, cell_cells hB (by simpa using h8), bb, o, A, _, hc, fun e => ?_, fun e => ?_⟩
    · have hneg : l[i] < 0 := by simpa using e
      rw [if_neg (fun hall => by have := hall _ (List.getElem_mem hx); omega)] at hK
      exact hK
    · have hneg : ¬ l[i] < 0 := by simpa using e
      have next : ∀ m' : Int, m' = minL (l.take (i + 1)) → J26 m' := by
        intro m' hm'
        refine ⟨_, isW (by unfold InR; omega), ⟨rfl, i + 1, ?_, by omega, ?_⟩, by simp [vint]; omega⟩
        · rw [hm']; rfl
        · intro x hx'
          rw [tk] at hx'
          rcases List.mem_append.1 hx' with h1 | h1
          · exact hg x h1
          · simp at h1; omega
      refine ⟨a, n, c, fun _ => cell_cells hB (by simpa using h8), bb, o, fun _ => A, _, fun _ => hc, fun e => ⟨a, n, c, cell_cells hB (by simpa using h8), bb, o, A, _, hc, next _ ?_⟩, fun e => next _ ?_⟩
      · rw [tk]
        by_cases h0 : l.take i = []
        · rw [h0]; simp [minL]
        · rw [minL_snoc _ _ h0]
          have hi0 : i ≠ 0 := fun h => h0 (by rw [h]; rfl)
          simp [Bool.cond_eq_ite, hi0] at e
          rw [Int.min_eq_right (by omega)]
      · rw [tk]
        have hi0 : i ≠ 0 := by rintro rfl; simp at e
        have h0 : l.take i ≠ [] := fun h => hi0 (by
          have := congrArg List.length h
          rw [List.length_take] at this
          simp only [List.length_nil] at this
          omega)
        rw [minL_snoc _ _ h0]
        simp [Bool.cond_eq_ite, hi0] at e
        rw [Int.min_eq_left (by omega)]
  · have hge : i = n := by simp at e; omega
    have ht : l.take i = l := List.take_of_length_le (by omega)
    rw [ht] at hg ⊢
    rw [if_pos hg] at hK
    have hb : -1 ≤ minL l ∧ minL l ≤ 9999 := by
      by_cases h0 : l = []
      · rw [h0]; decide
      · exact hl _ (minL_mem h0)
    exact ⟨d, cell_cells hB (by simpa using h5), _, isW (by unfold InR; omega), hK⟩
end Go.Proofs.Ytdkgmpchcahajaa
