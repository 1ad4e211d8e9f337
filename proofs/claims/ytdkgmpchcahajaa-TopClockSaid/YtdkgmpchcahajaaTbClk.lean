/-
  What the law TopClock gives, for every argument: true; nothing of what was there has turned. Conditions: none.
-/
import Derived.Test.YtdkgmpchcahajaaCClk
import Derived.Test.YtdkgmpchcahajaaCNum
import Derived.Test.YtdkgmpchcahajaaFbClk
namespace Go.Proofs.Ytdkgmpchcahajaa
open Go Go.Vc
set_option linter.unusedVariables false

theorem see_comm (l : List Int) (p q : Nat) (s t : Int) : see (see l p s) q t = see (see l q t) p s := by
  unfold see
  by_cases h : p = q
  · subst h
    by_cases hp : p < l.length
    · have e : ∀ x : Int, (l.set p x).getD p 0 = x := by
        intro x
        rw [List.getD_eq_getElem?_getD, List.getElem?_set_self hp]
        rfl
      rw [e, e, List.set_set, List.set_set]
      congr 1
      omega
    · have e : ∀ x : Int, l.set p x = l := fun x => List.set_eq_of_length_le (by omega)
      simp only [e]
  · have e1 : ∀ x : Int, (l.set p x).getD q 0 = l.getD q 0 := by
      intro x
      rw [List.getD_eq_getElem?_getD, List.getElem?_set_ne h, ← List.getD_eq_getElem?_getD]
    have e2 : ∀ x : Int, (l.set q x).getD p 0 = l.getD p 0 := by
      intro x
      rw [List.getD_eq_getElem?_getD, List.getElem?_set_ne (fun e => h e.symm), ← List.getD_eq_getElem?_getD]
    rw [e1, e2, List.set_comm _ _ h]
def seeP (p : Int) (c : List Int) (x : Int × Int) : List Int := see c (Int.tmod (x.1 % 1024) p).toNat x.2
theorem seeP_length (p : Int) : ∀ (l : List (Int × Int)) (c : List Int), (l.foldl (seeP p) c).length = c.length
  | [], c => rfl
  | x :: l, c => by rw [List.foldl_cons, seeP_length p l]; exact see_length _ _ _
theorem seeP_rev (p : Int) : ∀ (l : List (Int × Int)) (c : List Int), l.reverse.foldl (seeP p) c = l.foldl (seeP p) c := by
  have key : ∀ (l : List (Int × Int)) (c : List Int) (x : Int × Int), l.foldl (seeP p) (seeP p c x) = seeP p (l.foldl (seeP p) c) x := by
    intro l
    induction l with
    | nil => intro c x; rfl
    | cons y l ih => intro c x; simp only [List.foldl_cons]; rw [show seeP p (seeP p c x) y = seeP p (seeP p c y) x from see_comm _ _ _ _ _, ih]
  intro l
  induction l with
  | nil => intro c; rfl
  | cons x l ih => intro c; rw [List.reverse_cons, List.foldl_append, ih, List.foldl_cons, List.foldl_nil, List.foldl_cons, key]
theorem see_ge {l : List Int} {p : Nat} {t m : Int} (h : ∀ x ∈ l, m ≤ x) (hp : p < l.length) : ∀ x ∈ see l p t, m ≤ x := by
  intro x hx
  unfold see at hx
  rcases List.mem_or_eq_of_mem_set hx with h1 | h1
  · exact h x h1
  · have : l.getD p 0 ∈ l := by rw [List.getD_eq_getElem?_getD, List.getElem?_eq_getElem hp]; exact List.getElem_mem hp
    have := h _ this
    have h2 := Int.le_max_left (l.getD p 0) t
    omega

theorem top_TopClock_ok {p d : Int} {a : Option Addr} {n c : Nat} {l : List (Int × Int)} {h : Hp} (S : SlP encP h a n l) :
    CallOK Try.prog 9 [vi p, vsl a n c, vi d] h fun v h' => v = vb true ∧ h.le h' := by
  refine ok_top_TopClock ?_
  unfold VC_top_TopClock
  refine clock_New_ok (fun e => absurd e (by decide)) fun _ _ a1 n1 c1 h1 O1 => ⟨_, _, _, none, rfl, fun e => by simp at e, fun _ => ?_⟩
  have n11 : n1 = 1 := by have := O1.sli.1; simpa using this
  refine clock_See_ok (p := 0) (t := 7) O1.sli (by omega) (by decide) (by omega) fun a2 c2 h2 O2 => ⟨_, _, _, rfl, ?_⟩
  have e2 : see (List.replicate (1 : Int).toNat (-1)) (0 : Int).toNat 7 = [7] := by decide
  have S2 := O2.sli
  rw [e2] at S2
  refine clock_All_ok S2 (by omega) (by decide) (by decide) ⟨_, _, rfl, ?_⟩
  have e3 : farL 2 [7] = (5, true) := by decide
  rw [e3]
  refine ⟨fun e => by simp at e, fun _ => ⟨fun e => ⟨rfl, Hp.le_trans O1.le O2.le⟩, fun e => ?_⟩⟩
  have hb : n ≤ 60 ∧ 0 ≤ d ∧ d ≤ 1000 ∧ 1 ≤ p ∧ p ≤ 3 := by simp [Bool.cond_eq_ite] at e; omega
  refine clock_New_ok (fun e => absurd ⟨hb.2.2.2.1, hb.2.2.2.2⟩ e) fun _ _ aC nC cC h16 OC => ⟨_, _, _, none, rfl, ?_⟩
  refine clock_New_ok (fun e => absurd ⟨hb.2.2.2.1, hb.2.2.2.2⟩ e) fun _ _ aD nD cD h20 OD => ⟨_, _, _, none, rfl, fun e => by simp at e, fun _ => ?_⟩
  intro J87
  have hl20 : h.le h20 := Hp.le_trans (Hp.le_trans (Hp.le_trans O1.le O2.le) OC.le) OD.le
  have hnC : nC = p.toNat := by have := OC.sli.1; simpa using this
  have hnD : nD = p.toNat := by have := OD.sli.1; simpa using this
  subst hnC
  subst hnD
  generalize hz : List.replicate p.toNat (-1 : Int) = z0 at OC OD
  have hzlen : z0.length = p.toNat := by rw [← hz]; simp
  have hz0 : ∀ x ∈ z0, -1 ≤ x ∧ x ≤ 9999 := by
    intro x hx
    rw [← hz, List.mem_replicate] at hx
    omega
  have hlen := S.1
  refine ⟨fun vs hh => ∃ (i : Nat) (aC : Option Addr) (cC : Nat) (aD : Option Addr) (cD : Nat), vs = [vi i, vsl aC p.toNat cC, vsl aD p.toNat cD] ∧ i ≤ n ∧ h.le hh ∧ SlI hh aC p.toNat ((l.take i).foldl (seeP p) z0) ∧ SlI hh aD p.toNat ((l.reverse.take i).foldl (seeP p) z0) ∧
      (∀ x ∈ (l.take i).foldl (seeP p) z0, -1 ≤ x ∧ x ≤ 9999), fun vs hh => n - (vint vs 0).toNat, ⟨0, aC, cC, aD, cD, rfl, Nat.zero_le _, hl20, OC.sli.le OD.le, OD.sli, hz0⟩, ?_⟩
  rintro vs hh ⟨i, aC, cC, aD, cD, rfl, hi, hlh, SC, SD, hcl⟩
  refine ⟨i, aC, _, cC, aD, _, cD, rfl, fun e => ?_, fun e => ?_⟩
  · have hlt : i < n := by simpa using e
    have rd : ∀ {h'} (k : Nat), h.le h' → (hk : k < n) → ∃ bl ol, (a = some ⟨bl, ol, none⟩ ∧ (0 : Int) ≤ k ∧ (k : Int) < (n : Nat)) ∧ Hp.cell h' bl (ol + k * 2) = some (vi (l[k]'(by omega)).1) ∧ Hp.cell h' bl (ol + k * 2 + 1) = some (vi (l[k]'(by omega)).2) := by
      intro h' k hl' hk
      have hx : l[k]? = some (l[k]'(by omega)) := List.getElem?_eq_getElem (by omega)
      obtain ⟨b', o', e', hr'⟩ := (S.le hl').get encP_len (by decide) hx
      exact ⟨b', o', ⟨e', by omega, by omega⟩, Hp.row_cell hr' (i := 0) rfl, Hp.row_cell hr' (i := 1) rfl⟩
    have hil : i < l.length := by omega
    obtain ⟨b1, o1, A1, c10, c11⟩ := rd i hlh hlt
    refine ⟨b1, o1, A1, _, c11, b1, o1, fun _ => A1, _, fun _ => c11, fun e => ⟨rfl, hlh⟩, fun e => ?_⟩
    have ht : 0 ≤ l[i].2 ∧ l[i].2 ≤ 9999 := by simp [Bool.cond_eq_ite] at e; omega
    refine clock_All_ok SC (by omega) hcl ⟨hb.2.1, hb.2.2.1⟩ ⟨_, _, rfl, b1, o1, A1, _, c10, _, rd_and1023, by omega, b1, o1, A1, _, c11, ?_⟩
    have hq := tmod_part (a := l[i].1) hb.2.2.2.1
    refine clock_See_ok SC (by omega) hq.1 (by omega) fun a5 c5 h53 O5 => ⟨_, _, _, rfl, ?_⟩
    have tk : l.take (i + 1) = l.take i ++ [l[i]] := List.take_succ_eq_append_getElem hil
    have st : see ((l.take i).foldl (seeP p) z0) (Int.tmod (l[i].1 % 1024) p).toNat l[i].2 = (l.take (i + 1)).foldl (seeP p) z0 := by rw [tk, List.foldl_append]; rfl
    have hlenC := SC.1
    have hcl2 := seeAll _ (Int.tmod (l[i].1 % 1024) p).toNat l[i].2 hcl ht (by omega)
    have hmono : ∀ m : Int, (∀ x ∈ (l.take i).foldl (seeP p) z0, m ≤ x) → ∀ x ∈ (l.take (i + 1)).foldl (seeP p) z0, m ≤ x := by
      intro m hm
      rw [← st]
      exact see_ge hm (by omega)
    rw [st] at O5 hcl2
    have S5 := O5.sli
    have hlen5 := S5.1
    have hl53 := Hp.le_trans hlh O5.le
    generalize hC2 : (l.take (i + 1)).foldl (seeP p) z0 = C2 at *
    generalize hC1 : (l.take i).foldl (seeP p) z0 = C1 at *
    refine clock_All_ok S5 (by omega) hcl2 ⟨hb.2.1, hb.2.2.1⟩ ⟨_, _, rfl, _, isW (by unfold InR; omega), _, isW (by unfold InR; omega), ?_⟩
    have hk : ((n : Nat) : Int) - 1 - (i : Nat) = ((n - 1 - i : Nat) : Int) := by omega
    rw [hk]
    obtain ⟨b2, o2, A2, c20, c21⟩ := rd (n - 1 - i) hl53 (by omega)
    refine ⟨b2, o2, A2, _, c20, _, rd_and1023, by omega, b2, o2, A2, _, c21, ?_⟩
    have hq2 := tmod_part (a := (l[n - 1 - i]'(by omega)).1) hb.2.2.2.1
    refine clock_See_ok (SD.le O5.le) (by omega) hq2.1 (by omega) fun a6 c6 h69 O6 => ⟨_, _, _, rfl, ?_⟩
    have tk2 : l.reverse.take (i + 1) = l.reverse.take i ++ [l[n - 1 - i]'(by omega)] := by
      rw [List.take_succ_eq_append_getElem (by simp; omega), List.getElem_reverse]
      congr 2
      simp [hlen]
    have st2 : see ((l.reverse.take i).foldl (seeP p) z0) (Int.tmod ((l[n - 1 - i]'(by omega)).1 % 1024) p).toNat (l[n - 1 - i]'(by omega)).2 = (l.reverse.take (i + 1)).foldl (seeP p) z0 := by rw [tk2, List.foldl_append]; rfl
    rw [st2] at O6
    have ne1 : C1 ≠ [] := fun e => by rw [e] at hlenC; simp at hlenC; omega
    have ne2 : C2 ≠ [] := fun e => by rw [e] at hlen5; simp at hlen5; omega
    have S5' := S5.le O6.le
    refine ⟨fun e => ?_, fun _ => ?_⟩
    · exfalso
      by_cases h1 : ∀ x ∈ C1, 0 ≤ x
      · have h2 := hmono 0 h1
        have e1 : farL d C1 = (minL C1 - d, true) := by unfold farL; rw [if_pos h1, if_neg ne1]
        have e2 : farL d C2 = (minL C2 - d, true) := by unfold farL; rw [if_pos h2, if_neg ne2]
        rw [e1, e2] at e
        have := hmono (minL C1) (fun x hx => minL_le hx) _ (minL_mem ne2)
        simp at e
        omega
      · have e1 : farL d C1 = (0, false) := by unfold farL; rw [if_neg h1]
        rw [e1] at e
        simp at e
    · refine ⟨fun vs h' => h' = h69 ∧ ∃ k : Nat, vs = [vi k] ∧ k ≤ p.toNat, fun vs hh => p.toNat - (vint vs 0).toNat, ⟨rfl, 0, rfl, Nat.zero_le _⟩, ?_⟩
      rintro vs h' ⟨rfl, k, rfl, hkp⟩
      refine ⟨k, rfl, fun e => ?_, fun e => ?_⟩
      · have hk2 : (k : Int) < p ∧ (farL d C2).2 = true := by simpa [Bool.cond_eq_ite] using e
        have hall : ∀ x ∈ C2, 0 ≤ x := by
          by_cases h1 : ∀ x ∈ C2, 0 ≤ x
          · exact h1
          · have e1 : farL d C2 = (0, false) := by unfold farL; rw [if_neg h1]
            rw [e1] at hk2; simp at hk2
        have e2 : farL d C2 = (minL C2 - d, true) := by unfold farL; rw [if_pos hall, if_neg ne2]
        have hmem : C2.getD k 0 ∈ C2 := by rw [List.getD_eq_getElem?_getD, List.getElem?_eq_getElem (by omega)]; exact List.getElem_mem _
        have hget := hcl2 _ hmem
        have hge := hall _ hmem
        have hmin := minL_le hmem
        refine clock_Part_ok S5' (by omega) (by omega) (by rw [Int.toNat_natCast]; unfold InR; omega) ?_
        rw [Int.toNat_natCast, if_neg (by omega)]
        refine ⟨_, _, rfl, fun e => ?_, fun _ => ⟨_, isW (by unfold InR; omega), ⟨rfl, k + 1, rfl, by omega⟩, by simp [vint]; omega⟩⟩
        exfalso
        have : C2.getD k 0 - d < minL C2 - d := by
          rw [e2] at e
          have := of_decide_eq_true (by simpa [Bool.cond_eq_ite] using e : decide (C2.getD k 0 - d < minL C2 - d) = true)
          exact this
        omega
      · exact ⟨_, isW (by unfold InR; omega), ⟨i + 1, a5, c5, a6, c6, rfl, hlt, Hp.le_trans hl53 O6.le, by rw [hC2]; exact S5', O6.sli, by rw [hC2]; exact hcl2⟩, by simp [vint]; omega⟩
  · have hge : i = n := by simp at e; omega
    have t1 : l.take i = l := List.take_of_length_le (by omega)
    have t2 : l.reverse.take i = l.reverse := List.take_of_length_le (by simp; omega)
    rw [t1] at SC
    rw [t2, seeP_rev] at SD
    exact R_SameNumbers_ok SC SD (by omega) (by omega) ⟨_, rfl, by simp, hlh⟩
end Go.Proofs.Ytdkgmpchcahajaa
