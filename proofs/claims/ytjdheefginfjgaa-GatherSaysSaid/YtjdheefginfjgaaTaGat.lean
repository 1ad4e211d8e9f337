/-
  What the law GatherSays gives, for every argument: true; nothing of what was there has turned. Conditions: that the slice's length is not above its capacity.
-/
import Derived.Test.YtjdheefginfjgaaCGat
import Derived.Test.YtjdheefginfjgaaFaGat
namespace Go.Proofs.Ytjdheefginfjgaa
open Go Go.Vc
set_option linter.unusedVariables false

theorem R_Num_ok {n : Int} {h : Hp} {R : Value → Hp → Prop} (hK : R (vag (encV (numV n))) h) : CallOK Try.prog 20 [vi n] h R := by
  refine ok_R_Num ?_
  unfold VC_R_Num
  refine ⟨fun e => ?_, fun e => ?_⟩
  · simp [Bool.cond_eq_ite] at e
    have : numV n = (0, 0) := by unfold numV; rw [if_pos (by omega)]
    rw [this] at hK
    exact hK
  · simp [Bool.cond_eq_ite] at e
    have : numV n = (1, n) := by unfold numV; rw [if_neg (by omega)]
    rw [this] at hK
    exact hK
theorem R_ValueFault_ok {v : Int × Int} {h : Hp} {R : Value → Hp → Prop} (hK : R (vi (if goodV v then 0 else 3)) h) : CallOK Try.prog 18 [vag (encV v)] h R := by
  refine ok_R_ValueFault ?_
  unfold VC_R_ValueFault
  refine ⟨fun e => ?_, fun e => ?_⟩
  · have : goodV v := by unfold goodV; simp [Bool.cond_eq_ite] at e; omega
    rw [if_pos this] at hK
    exact hK
  · have : ¬ goodV v := by unfold goodV; simp [Bool.cond_eq_ite] at e; omega
    rw [if_neg this] at hK
    exact hK
theorem law_good_ok {v : Int × Int} {h : Hp} {R : Value → Hp → Prop} (hK : R (vb (decide (goodV v))) h) : CallOK Try.prog 12 [vag (encV v)] h R := by
  refine ok_law_good ?_
  unfold VC_law_good
  refine R_ValueFault_ok ⟨_, rfl, ?_⟩
  have : decide ((if goodV v then (0 : Int) else 3) = 0) = decide (goodV v) := by by_cases hg : goodV v <;> simp [hg]
  rw [this]
  exact hK
theorem law_gathers_ok {h : Hp} {R : Value → Hp → Prop} (hK : R (vb true) h) : CallOK Try.prog 10 [] h R := by
  refine ok_law_gathers ?_
  unfold VC_law_gathers
  refine gather_New_ok ⟨_, _, _, _, rfl, ?_⟩
  refine gather_Add_ok (k := 3) (s := (0, 0, 0)) (v := (1, 3)) (by decide) (by decide) ⟨_, _, _, _, rfl, ?_⟩
  refine gather_Add_ok (k := 3) (s := (1, 3, 3)) (v := (0, 0)) (by decide) (by decide) ⟨_, _, _, _, rfl, ?_⟩
  refine gather_Add_ok (k := 3) (s := (1, 3, 3)) (v := (1, 4)) (by decide) (by decide) ⟨_, _, _, _, rfl, ?_⟩
  refine gather_Value_ok (k := 3) (s := (2, 7, 3)) ⟨_, _, rfl, _, rd_eqV (a := (1, 7)) (b := (1, 7)), ?_⟩
  simpa using hK
theorem R_Gathered_ok {k : Int} (hk : 1 ≤ k) {a : Option Addr} {n c : Nat} {l : List (Int × Int)} {h : Hp} {R : Value → Hp → Prop} (S : SlP encV h a n l) (hv : ∀ v ∈ l, smallV v) (hn : n ≤ 1048576)
    (hK : R (vag (encV (gVal k (l.foldl (gStep k) (0, 0, 0))))) h) : CallOK Try.prog 14 [vi k, vsl a n c] h R := by
  refine ok_R_Gathered ?_
  unfold VC_R_Gathered
  have hl := S.1
  refine ⟨fun vs hh => hh = h ∧ ∃ i : Nat, i ≤ n ∧ vs = [vi ((l.take i).foldl (gStep k) (0, 0, 0)).1, vi ((l.take i).foldl (gStep k) (0, 0, 0)).2.1, vi ((l.take i).foldl (gStep k) (0, 0, 0)).2.2, vi i],
    fun vs hh => n - (vint vs 3).toNat, ⟨rfl, 0, Nat.zero_le _, by simp⟩, ?_⟩
  rintro vs hh ⟨rfl, i, hi, rfl⟩
  refine ⟨_, _, _, _, rfl, fun e => ?_, fun e => ?_⟩
  · have hlt : i < n := by simpa using e
    have hx : l[i]? = some l[i] := List.getElem?_eq_getElem (by omega)
    obtain ⟨b, o, ea, hr⟩ := S.get encV_len (by decide) hx
    have tk : l.take (i + 1) = l.take i ++ [l[i]] := List.take_succ_eq_append_getElem (by omega)
    have B := gfold_bound (k := k) (l.take i) (0, 0, 0) (fun v hm => hv v (List.mem_of_mem_take hm)) (by decide)
    have hs := hv l[i] (List.getElem_mem _)
    have st : ((l.take (i + 1)).foldl (gStep k) (0, 0, 0)) = gStep k ((l.take i).foldl (gStep k) (0, 0, 0)) l[i] := by rw [tk, List.foldl_append]; rfl
    have len : (l.take i).length ≤ i := by rw [List.length_take]; exact Nat.min_le_left _ _
    simp only at B
    have go : ∀ x y z : Int, (x, y, z) = ((l.take (i + 1)).foldl (gStep k) (0, 0, 0)) → ∃ u : Int, IsW u ((i : Int) + 1) ∧ ((hh = hh ∧ ∃ j : Nat, j ≤ n ∧ [vi x, vi y, vi z, vi u] = [vi ((l.take j).foldl (gStep k) (0, 0, 0)).1, vi ((l.take j).foldl (gStep k) (0, 0, 0)).2.1, vi ((l.take j).foldl (gStep k) (0, 0, 0)).2.2, vi j]) ∧
        n - (vint [vi x, vi y, vi z, vi u] 3).toNat < n - (vint [vi ((l.take i).foldl (gStep k) (0, 0, 0)).1, vi ((l.take i).foldl (gStep k) (0, 0, 0)).2.1, vi ((l.take i).foldl (gStep k) (0, 0, 0)).2.2, vi (i : Int)] 3).toNat) := by
      intro x y z e
      refine ⟨_, isW (by unfold InR; omega), ⟨rfl, i + 1, hlt, ?_⟩, by simp [vint]; omega⟩
      rw [← e]
      simp
    generalize hG : (l.take i).foldl (gStep k) (0, 0, 0) = G at *
    generalize hG2 : (l.take (i + 1)).foldl (gStep k) (0, 0, 0) = G2 at *
    unfold smallV at hs
    have i1 : InR (G.1 + 1) := by unfold InR; omega
    have i2 : InR (G.2.1 + l[i].2) := by unfold InR; omega
    intro J23
    refine ⟨b, o, ⟨ea, by omega, by omega⟩, _, _, by simpa [encV] using hr, fun e => ?_, fun e => ?_⟩
    · have e' : k ≠ 1 ∧ l[i].1 = 0 := by simpa [Bool.cond_eq_ite] using e
      refine go _ _ _ ?_
      rw [st, gStep, if_pos e']
    · have e' : ¬ (k ≠ 1 ∧ l[i].1 = 0) := by simpa [Bool.cond_eq_ite] using e
      intro J20
      refine ⟨fun e => ?_, fun e => ?_⟩
      · have e2 : G.1 = 0 ∨ (k = 4 ∧ l[i].2 < G.2.2) ∨ (k = 5 ∧ l[i].2 > G.2.2) := by simp [Bool.cond_eq_ite] at e; omega
        refine ⟨_, isW i1, _, isW i2, go _ _ _ ?_⟩
        rw [st, gStep, if_neg e', if_pos e2]
      · have e2 : ¬ (G.1 = 0 ∨ (k = 4 ∧ l[i].2 < G.2.2) ∨ (k = 5 ∧ l[i].2 > G.2.2)) := by simp [Bool.cond_eq_ite] at e; omega
        refine ⟨_, isW i1, _, isW i2, go _ _ _ ?_⟩
        rw [st, gStep, if_neg e', if_neg e2]
  · have hge : i = n := by simp at e; omega
    have ht : l.take i = l := List.take_of_length_le (by omega)
    rw [ht]
    generalize hG : l.foldl (gStep k) (0, 0, 0) = G at *
    unfold gVal at hK
    refine ⟨fun e => ?_, fun e => ⟨fun e2 => ?_, fun e2 => ⟨fun e3 => ?_, fun e3 => ?_⟩⟩⟩
    · have e : k = 1 ∨ k = 2 := by simp at e; omega
      rw [if_pos e] at hK
      exact R_Num_ok ⟨_, _, rfl, hK⟩
    all_goals have e : ¬ (k = 1 ∨ k = 2) := by simp at e; omega
    all_goals rw [if_neg e] at hK
    · have e2 : G.1 = 0 := by simpa using e2
      rw [if_pos e2] at hK
      exact hK
    all_goals have e2 : ¬ G.1 = 0 := by simpa using e2
    all_goals rw [if_neg e2] at hK
    · have e3 : k = 3 := by simpa using e3
      rw [if_pos e3] at hK
      exact R_Num_ok ⟨_, _, rfl, hK⟩
    · have e3 : ¬ k = 3 := by simpa using e3
      rw [if_neg e3] at hK
      exact R_Num_ok ⟨_, _, rfl, hK⟩

theorem law_GatherSays_ok {k : Int} {a : Option Addr} {n c : Nat} {l : List (Int × Int)} {h : Hp} (S : SlP encV h a n l) (hc : n ≤ c) :
    CallOK Try.prog 4 [vi k, vsl a n c] h fun v h' => v = vb true ∧ h.le h' := by
  refine ok_law_GatherSays ?_
  unfold VC_law_GatherSays
  refine law_gathers_ok ⟨true, rfl, fun e => ⟨rfl, Hp.le_refl _⟩, fun e => ?_⟩
  have hb : n ≤ 60 ∧ 1 ≤ k ∧ k ≤ 5 := by simp [Bool.cond_eq_ite] at e; omega
  have hl := S.1
  refine gather_New_ok ⟨_, _, _, _, rfl, ?_⟩
  intro J56
  refine ⟨fun vs hh => hh = h ∧ ∃ i : Nat, i ≤ n ∧ (∀ v ∈ l.take i, goodV v) ∧ vs = vi i :: encA k ((l.take i).foldl (gStep k) (0, 0, 0)), fun vs hh => n - (vint vs 0).toNat, ⟨rfl, 0, Nat.zero_le _, by simp, by simp [encA]⟩, ?_⟩
  rintro vs hh ⟨rfl, i, hi, hg, rfl⟩
  refine ⟨_, _, _, _, _, rfl, fun e => ?_, fun e => ?_⟩
  · have hlt : i < n := by simpa using e
    have hx : l[i]? = some l[i] := List.getElem?_eq_getElem (by omega)
    obtain ⟨b, o, ea, hr⟩ := S.get encV_len (by decide) hx
    have hcell : hh.cell b (o + (i : Int).toNat * 2) = some (vi l[i].1) := by
      have := Hp.row_cell hr (i := 0) (x := vi l[i].1) rfl
      simpa using this
    have hrow : hh.row b (o + (i : Int).toNat * 2) 2 = some [vi l[i].1, vi l[i].2] := by simpa [encV] using hr
    have tk : l.take (i + 1) = l.take i ++ [l[i]] := List.take_succ_eq_append_getElem (by omega)
    have B := gfold_bound (k := k) (l.take i) (0, 0, 0) (fun v hm => (hg v hm).small) (by decide)
    have st : ((l.take (i + 1)).foldl (gStep k) (0, 0, 0)) = gStep k ((l.take i).foldl (gStep k) (0, 0, 0)) l[i] := by rw [tk, List.foldl_append]; rfl
    have len : (l.take i).length ≤ i := by rw [List.length_take]; exact Nat.min_le_left _ _
    simp only at B
    have A : a = some ⟨b, o, none⟩ ∧ (0 : Int) ≤ i ∧ (i : Int) < ((n : Nat) : Int) := ⟨ea, by omega, by omega⟩
    refine ⟨b, o, A, _, _, hrow, law_good_ok ⟨_, rfl, b, o, fun _ => A, _, fun _ => hcell, fun e => ⟨rfl, Hp.le_refl _⟩, fun e => ?_⟩⟩
    have hgood : goodV l[i] := by
      by_cases hh : goodV l[i]
      · exact hh
      · simp [hh] at e
    have hs := hgood.small
    unfold smallV at hs
    refine ⟨_, _, _, rd_slice_h (e := 33) (by kernel_rfl) (by kernel_rfl) (by omega) (by omega), ?_⟩
    refine gather_Value_ok ⟨_, _, rfl, Hp.le_refl _, ?_⟩
    refine R_Gathered_ok hb.2.1 (l := l.take i) (by have := S.take encV_len hi; simpa using this) (fun v hm => (hg v hm).small) (by omega) ⟨_, _, rfl, _, rd_neqV, ?_⟩
    refine ⟨fun e => by simp at e, fun _ => ⟨b, o, A, _, _, hrow, ?_⟩⟩
    refine gather_Add_ok (k := k) (s := (l.take i).foldl (gStep k) (0, 0, 0)) (v := l[i]) (by unfold InR; omega) (by unfold InR; omega) ⟨_, _, _, _, rfl, _, isW (by unfold InR; omega), ⟨rfl, i + 1, by omega, ?_, ?_⟩, by simp [vint]; omega⟩
    · intro v hm
      rw [tk] at hm
      rcases List.mem_append.1 hm with h1 | h1
      · exact hg v h1
      · simp at h1; subst h1; exact hgood
    · rw [st]; simp [encA]
  · have hge : i = n := by simp at e; omega
    have ht : l.take i = l := List.take_of_length_le (by omega)
    rw [ht] at hg ⊢
    refine gather_Value_ok ⟨_, _, rfl, ?_⟩
    refine R_Gathered_ok hb.2.1 S (fun v hm => (hg v hm).small) (by omega) ⟨_, _, rfl, _, rd_eqV, ?_⟩
    exact ⟨by simp, Hp.le_refl _⟩
end Go.Proofs.Ytjdheefginfjgaa
