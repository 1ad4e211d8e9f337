/-
  What the law ClockSays gives, for every argument: true; nothing of what was there has turned. Conditions: none.
-/
import Derived.Test.YtdkgmpchcahajaaCEng0
import Derived.Test.YtdkgmpchcahajaaCSame
import Derived.Test.YtdkgmpchcahajaaCNum
import Derived.Test.YtdkgmpchcahajaaFaClk
namespace Go.Proofs.Ytdkgmpchcahajaa
open Go Go.Vc
set_option linter.unusedVariables false

theorem seeAll (l : List Int) (p : Nat) (t : Int) (hl : ∀ x ∈ l, -1 ≤ x ∧ x ≤ 9999) (ht : 0 ≤ t ∧ t ≤ 9999) (hp : p < l.length) : ∀ x ∈ see l p t, -1 ≤ x ∧ x ≤ 9999 := by
  intro x hx
  unfold see at hx
  rcases List.mem_or_eq_of_mem_set hx with h | h
  · exact hl x h
  · have : l.getD p 0 ∈ l := by rw [List.getD_eq_getElem?_getD, List.getElem?_eq_getElem hp]; exact List.getElem_mem hp
    have := hl _ this
    rw [h]
    rcases Int.le_total (l.getD p 0) t with h1 | h1
    · rw [Int.max_eq_right h1]; omega
    · rw [Int.max_eq_left h1]; omega
/-- A time of a part. -/
def encP (v : Int × Int) : List Value := [vi v.1, vi v.2]
theorem encP_len (v : Int × Int) : (encP v).length = 2 := rfl

theorem law_clocks_ok {h : Hp} {R : Value → Hp → Prop} (hK : ∀ h', h.le h' → R (vb true) h') : CallOK Try.prog 14 [] h R := by
  refine ok_law_clocks ?_
  unfold VC_law_clocks
  refine clock_New_ok (fun e => absurd e (by decide)) fun _ _ a n c h1 O1 => ⟨_, _, _, none, rfl, fun e => by simp at e, fun _ => ?_⟩
  have n2 : n = 2 := by have := O1.sli.1; simpa using this
  refine clock_See_ok (p := 0) (t := 9) O1.sli (by omega) (by decide) (by omega) fun a2 c2 h2 O2 => ⟨_, _, _, rfl, ?_⟩
  refine clock_See_ok (p := 1) (t := 5) O2.sli (by omega) (by decide) (by omega) fun a3 c3 h3 O3 => ⟨_, _, _, rfl, ?_⟩
  have e : see (see (List.replicate (2 : Int).toNat (-1)) (0 : Int).toNat 9) (1 : Int).toNat 5 = [9, 5] := by decide
  have S3 := O3.sli
  rw [e] at S3
  refine clock_All_ok S3 (by omega) (by decide) (by decide) ⟨_, _, rfl, ?_⟩
  have e2 : farL 2 [9, 5] = (3, true) := by decide
  rw [e2]
  exact hK _ (Hp.le_trans (Hp.le_trans O1.le O2.le) O3.le)

theorem le_set_new {h h' : Hp} (hl : h.le h') {g : Nat} (hg : h g = none) (ob : Obj) : h.le (h'.set g ob) := fun b o ho =>
  (Hp.set_other h' ob (fun e => by subst e; rw [hg] at ho; cases ho)).trans (hl b o ho)

theorem law_ClockSays_ok {p d : Int} {a : Option Addr} {n c : Nat} {l : List (Int × Int)} {h : Hp} (S : SlP encP h a n l) :
    CallOK Try.prog 3 [vi p, vsl a n c, vi d] h fun v h' => v = vb true ∧ h.le h' := by
  refine ok_law_ClockSays ?_
  unfold VC_law_ClockSays
  refine law_clocks_ok fun h2 hl2 => ⟨true, rfl, fun e => ⟨rfl, hl2⟩, fun e => ?_⟩
  have hb : n ≤ 60 ∧ 0 ≤ d ∧ d ≤ 1000 := by simp [Bool.cond_eq_ite] at e; omega
  refine clock_New_ok (fun hp => ?_) (fun hp1 hp3 aC nC cC h6 OC => ?_)
  · refine ⟨none, 0, 0, _, rfl, fun _ => ?_, fun e => ?_⟩
    · have e1 : (some (154, vi 1) : Option (TypeId × Value)) = errV 1 := rfl
      rw [e1]
      exact law_same_ok (by decide) ⟨_, rfl, rfl, hl2⟩
    · exfalso; apply hp; simp [Bool.cond_eq_ite] at e; omega
  refine ⟨aC, nC, cC, none, rfl, fun e => ?_, fun _ => ⟨fun e => by simp at e, fun _ => ?_⟩⟩
  · exfalso; simp [Bool.cond_eq_ite] at e; omega
  have hnC : nC = p.toNat := by have := OC.sli.1; simpa using this
  refine R_NewEngine_ok (by omega) fun b aR cR aF cF h15 hl15 hb6 hB OR OF fR fF => ⟨_, rfl, ?_⟩
  intro J120
  -- Far's block
  obtain ⟨gF, rfl, hgF⟩ : ∃ g, aF = some ⟨g, 0, none⟩ ∧ h15 g ≠ none := by
    rcases OF.2 with ⟨h1, h2, h3⟩ | ⟨g, cur, h1, h2, _⟩
    · omega
    · exact ⟨g, h1, by rw [h2]; simp⟩
  obtain ⟨hgF6, hgFb, _⟩ := fF gF rfl
  have hle6 : h.le h6 := Hp.le_trans hl2 OC.le
  have hgF0 : h gF = none := Hp.none_of_le hle6 hgF6
  generalize hEC : [vsl none 0 0, vsl none 0 0, vsl none 0 0, vi 0, vi 0, vi d, vi 0, vsl aR p.toNat cR, vsl (some ⟨gF, 0, none⟩) p.toNat cF, vsl none 0 0, vi 0, vsl none 0 0] = EC at hB
  have EC8 : EC[8]? = some (vsl (some ⟨gF, 0, none⟩) p.toNat cF) := by rw [← hEC]; rfl
  have EC5 : EC[5]? = some (vi d) := by rw [← hEC]; rfl
  refine ⟨fun vs hh => ∃ (i : Nat) (aC : Option Addr) (cC : Nat) (cl : List Int), vs = [vi i, vsl aC p.toNat cC] ∧ i ≤ n ∧ h.le hh ∧ hh b = some (cellsO EC 45) ∧ OwnS hh 3 1 (some ⟨gF, 0, none⟩) p.toNat cF (cl.map vi) ∧
      SlI (hh.del gF) aC p.toNat cl ∧ (∀ x ∈ cl, -1 ≤ x ∧ x ≤ 9999), fun vs hh => n - (vint vs 0).toNat, ⟨0, aC, cC, _, by rw [hnC]; rfl, Nat.zero_le _, Hp.le_trans hle6 hl15, hB, OF, ?_, ?_⟩, ?_⟩
  · have S6 := OC.sli
    rw [hnC] at S6
    refine ⟨S6.1, (S6.2.del (g := gF) fun b' o' ha hbg => ?_).le (Hp.del_mono hl15 gF)⟩
    obtain rfl := OC.own.at0 b' o' ha
    subst hbg
    rcases OC.own.2 with ⟨h1, _⟩ | ⟨g, cur, h1, h2, _⟩
    · rw [h1] at ha; cases ha
    · rw [h1] at ha; cases ha; rw [hgF6] at h2; cases h2
  · intro x hx
    rw [List.mem_replicate] at hx
    omega
  rintro vs hh ⟨i, aC, cC, cl, rfl, hi, hlh, hBh, OFh, SC, hcl⟩
  have hclen : cl.length = p.toNat := SC.1.symm
  refine ⟨i, aC, _, cC, rfl, fun e => ?_, fun e => ⟨rfl, hlh⟩⟩
  have hlt : i < n := by simpa using e
  have hll : i < l.length := by have := S.1; omega
  have hx : l[i]? = some l[i] := List.getElem?_eq_getElem hll
  obtain ⟨bl, ol, ea, hr⟩ := (S.le hlh).get encP_len (by decide) hx
  have A : a = some ⟨bl, ol, none⟩ ∧ (0 : Int) ≤ i ∧ (i : Int) < (n : Nat) := ⟨ea, by omega, by omega⟩
  have c0 : ∀ {h'}, h.le h' → Hp.cell h' bl (ol + i * 2) = some (vi l[i].1) := by
    intro h' hl'
    obtain ⟨b', o', e', hr'⟩ := (S.le hl').get encP_len (by decide) hx
    rw [ea] at e'; cases e'
    exact Hp.row_cell hr' (i := 0) rfl
  have c1 : ∀ {h'}, h.le h' → Hp.cell h' bl (ol + i * 2 + 1) = some (vi l[i].2) := by
    intro h' hl'
    obtain ⟨b', o', e', hr'⟩ := (S.le hl').get encP_len (by decide) hx
    rw [ea] at e'; cases e'
    exact Hp.row_cell hr' (i := 1) rfl
  intro J114
  refine ⟨bl, ol, A, _, c0 hlh, _, rd_and1023, by omega, bl, ol, A, _, c1 hlh, bl, ol, fun _ => A, _, fun _ => c1 hlh, fun e => ?_, fun e => ?_⟩
  · exact ⟨_, isW (by unfold InR; omega), ⟨i + 1, aC, cC, cl, rfl, hlt, hlh, hBh, OFh, SC, hcl⟩, by simp [vint]; omega⟩
  have ht : 0 ≤ l[i].2 ∧ l[i].2 ≤ 9999 := by simp [Bool.cond_eq_ite] at e; omega
  have hq := tmod_part (a := l[i].1) hp1
  generalize hqe : Int.tmod (l[i].1 % 1024) p = q at hq
  have SCh : SlI hh aC p.toNat cl := ⟨SC.1, SC.2.of_del⟩
  refine ⟨bl, ol, A, _, c1 hlh, clock_See_ok SCh (by omega) hq.1 (by omega) fun a2 c2 h42 O2 => ⟨_, _, _, rfl, b, 0, rfl, ?_⟩⟩
  have hB42 := O2.le _ _ hBh
  have OF42 : OwnS h42 3 1 (some ⟨gF, 0, none⟩) p.toNat cF (cl.map vi) := OFh.le O2.le
  have hl42 : h.le h42 := Hp.le_trans hlh O2.le
  have SF : SlI h42 (some ⟨gF, 0, none⟩) p.toNat cl := ⟨SC.1, OF42.row⟩
  have F8 : h42.cell b (0 + 8) = some (vsl (some ⟨gF, 0, none⟩) p.toNat cF) := cell_cells hB42 EC8
  refine ⟨_, _, _, F8, R_SameNumbers_ok (SCh.le O2.le) SF (by omega) (by omega) ⟨_, rfl, fun e => by simp at e, fun _ => ?_⟩⟩
  refine ⟨b, 0, rfl, _, _, _, F8, b, 0, rfl, _, _, _, F8, ?_⟩
  have hqn : q.toNat < p.toNat := by omega
  obtain ⟨bF, oF, eF, hcF⟩ := SF.get hqn
  cases eF
  have OwF : Own h h42 3 1 (some ⟨gF, 0, none⟩) p.toNat cF (cl.map vi) := ⟨hl42, OF42, fun g hg => by cases hg; exact hgF0⟩
  refine ⟨gF, 0, ⟨rfl, hq.1, by omega⟩, _, hcF, bl, ol, A, _, c1 hl42, _, rd_max, gF, 0, ⟨rfl, hq.1, by omega⟩, ?_⟩
  refine OwF.store_i hqn rfl fun ob O66 => ?_
  have hsee : cl.set q.toNat (max (cl.getD q.toNat 0) l[i].2) = see cl q.toNat l[i].2 := rfl
  rw [hsee] at O66
  generalize hh66 : h42.set gF ob = h66 at O66
  have hB66 : h66 b = some (cellsO EC 45) := by rw [← hh66, Hp.set_other _ _ (fun e => hgFb e.symm)]; exact hB42
  have D2 : SlI (h66.del gF) a2 p.toNat (see cl q.toNat l[i].2) := by
    rw [← hh66, Hp.del_set]
    exact O2.del_sli (by rcases OFh.2 with ⟨h1, _⟩ | ⟨g, cur, h1, h2, _⟩; · cases h1
                         · cases h1; rw [h2]; simp)
  have S2 : SlI h66 a2 p.toNat (see cl q.toNat l[i].2) := ⟨D2.1, D2.2.of_del⟩
  have hcl2 := seeAll cl q.toNat l[i].2 hcl ht (by omega)
  have SF66 : SlI h66 (some ⟨gF, 0, none⟩) p.toNat (see cl q.toNat l[i].2) := O66.sli
  generalize hcl' : see cl q.toNat l[i].2 = cl2 at *
  have hcl2len : cl2.length = p.toNat := D2.1.symm
  have hne : cl2 ≠ [] := fun e => by rw [e] at hcl2len; simp at hcl2len; omega
  refine clock_All_ok S2 (by omega) hcl2 hb.2 ⟨_, _, rfl, ?_⟩
  refine R_Upto_ok hB66 EC8 EC5 SF66 (by omega) hcl2 hb.2 ?_
  have hfar : (if ∀ x ∈ cl2, 0 ≤ x then vtup [vi (minL cl2 - d), vb true] else vtup [vi 0, vb false]) = vtup [vi (farL d cl2).1, vb (farL d cl2).2] := by
    unfold farL
    by_cases hall : ∀ x ∈ cl2, 0 ≤ x
    · rw [if_pos hall, if_pos hall, if_neg hne]
    · rw [if_neg hall, if_neg hall]
  rw [hfar]
  have F866 : h66.cell b (0 + 8) = some (vsl (some ⟨gF, 0, none⟩) p.toNat cF) := cell_cells hB66 EC8
  refine ⟨_, _, rfl, _, rd_neB (by kernel_rfl), b, 0, fun _ => rfl, _, _, _, fun _ => F866, fun x h' => h' = h66 ∧ x = .t (.one (.v (vb true))), fun _ => R_SameNumbers_ok S2 SF66 (by omega) (by omega) ⟨_, rfl, rfl, by simp⟩, fun e => absurd (by simp) e, ?_⟩
  rintro h83 p84 ⟨rfl, e84⟩
  cases e84
  refine ⟨fun e => by simp at e, fun _ => ?_⟩
  refine ⟨fun vs hh => hh = h83 ∧ ∃ k : Nat, vs = [vi k] ∧ k ≤ p.toNat, fun vs hh => p.toNat - (vint vs 0).toNat, ⟨rfl, 0, rfl, Nat.zero_le _⟩, ?_⟩
  rintro vs hk ⟨rfl, k, rfl, hkp⟩
  refine ⟨k, rfl, fun e => ?_, fun e => ?_⟩
  · have hkl : k < p.toNat := by simp at e; omega
    have hget := hcl2 (cl2.getD k 0) (by rw [List.getD_eq_getElem?_getD, List.getElem?_eq_getElem (by omega)]; exact List.getElem_mem _)
    obtain ⟨b3, o3, e3, hc3⟩ := SF66.get hkl
    cases e3
    have A3 : (some ⟨gF, 0, none⟩ : Option Addr) = some ⟨gF, 0, none⟩ ∧ (0 : Int) ≤ k ∧ (k : Int) < (p.toNat : Nat) := ⟨rfl, by omega, by omega⟩
    refine clock_Part_ok S2 (by omega) (by omega) (by rw [Int.toNat_natCast]; unfold InR; omega) ?_
    rw [Int.toNat_natCast]
    have fin : ∃ z : Int, IsW z ((k : Int) + 1) ∧ ((hk = hk ∧ ∃ j : Nat, [vi z] = [vi j] ∧ j ≤ p.toNat) ∧ p.toNat - (vint [vi z] 0).toNat < p.toNat - (vint [vi (k : Int)] 0).toNat) :=
      ⟨_, isW (by unfold InR; omega), ⟨rfl, k + 1, rfl, hkl⟩, by simp [vint]; omega⟩
    by_cases hneg : cl2.getD k 0 < 0
    · rw [if_pos hneg]
      have hd1 : decide (cl2.getD k 0 ≥ 0) = false := decide_eq_false (by omega)
      refine ⟨_, _, rfl, b, 0, rfl, _, _, _, F866, gF, 0, A3, _, hc3, _, rd_neB (by kernel_rfl), b, 0, fun _ => rfl, _, _, _, fun _ => F866, gF, 0, fun _ => A3, _, fun _ => hc3, 0, fun e => by simp at e, fun e => ?_, fun _ => fin⟩
      rw [hd1] at e; simp at e
    · rw [if_neg hneg]
      have hd1 : decide (cl2.getD k 0 ≥ 0) = true := decide_eq_true (by omega)
      refine ⟨_, _, rfl, b, 0, rfl, _, _, _, F866, gF, 0, A3, _, hc3, _, rd_neB (by kernel_rfl), b, 0, fun _ => rfl, _, _, _, fun _ => F866, gF, 0, fun _ => A3, _, fun _ => hc3, _, fun _ => isW (by unfold InR; omega), fun e => ?_, fun _ => fin⟩
      rw [hd1] at e; simp at e
  · refine ⟨_, isW (by unfold InR; omega), ⟨i + 1, a2, c2, cl2, rfl, hlt, O66.le, hB66, O66.own, D2, hcl2⟩, by simp [vint]; omega⟩
end Go.Proofs.Ytdkgmpchcahajaa
