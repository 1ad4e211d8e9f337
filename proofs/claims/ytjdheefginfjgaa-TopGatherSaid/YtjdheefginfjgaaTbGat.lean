/-
  What the law TopGather gives, for every argument: true; nothing of what was there has turned. Conditions: that the slice's length is not above its capacity.
-/
import Derived.Test.YtjdheefginfjgaaCGat
import Derived.Test.YtjdheefginfjgaaFbGat
namespace Go.Proofs.Ytjdheefginfjgaa
open Go Go.Vc
set_option linter.unusedVariables false
set_option maxRecDepth 100000

theorem value_Check_ok {v : Int × Int} {h : Hp} {R : Value → Hp → Prop} (hK : R (ifv (if goodV v then none else some (43, vi 3))) h) : CallOK Try.prog 17 [vag (encV v)] h R := by
  obtain ⟨vk, vn⟩ := v
  refine ok_value_Check ?_
  unfold VC_value_Check
  intro J4
  have j4 : ∀ p : Bool, (p = true ↔ goodV (vk, vn)) → J4 p := by
    intro p hp
    refine ⟨fun e => ?_, fun e => ?_⟩
    · rw [if_pos (hp.1 e)] at hK; exact hK
    · rw [if_neg (fun hg => by rw [hp.2 hg] at e; cases e)] at hK; exact hK
  refine ⟨fun e => j4 _ ?_, fun e => ⟨fun e2 => j4 _ ?_, fun e2 => j4 _ ?_⟩⟩
  all_goals simp [Bool.cond_eq_ite, goodV] at *
  all_goals omega

theorem fold_n {k : Int} : ∀ (l : List (Int × Int)) (s : Int × Int × Int), (l.foldl (gStep k) s).1 = s.1 + ((l.filter fun v => !decide (k ≠ 1 ∧ v.1 = 0)).map fun _ => (1 : Int)).sum ∧
    (l.foldl (gStep k) s).2.1 = s.2.1 + ((l.filter fun v => !decide (k ≠ 1 ∧ v.1 = 0)).map fun v => v.2).sum
  | [], s => by simp
  | v :: l, s => by
    have ih := fold_n (k := k) l (gStep k s v)
    rw [List.foldl_cons, ih.1, ih.2]
    unfold gStep
    by_cases hc : k ≠ 1 ∧ v.1 = 0
    · simp [hc]
    · rw [if_neg hc]
      have : (!decide (k ≠ 1 ∧ v.1 = 0)) = true := by rw [decide_eq_false hc]; rfl
      rw [List.filter_cons_of_pos (by exact this)]
      simp only [List.map_cons, List.sum_cons]
      constructor <;> omega
theorem fold_min : ∀ (l : List (Int × Int)) (s : Int × Int × Int), 0 ≤ s.1 →
    (0 < s.1 → (l.foldl (gStep 4) s).2.2 ≤ s.2.2) ∧ (∀ v ∈ l, v.1 ≠ 0 → (l.foldl (gStep 4) s).2.2 ≤ v.2) ∧
    ((0 < s.1 ∧ (l.foldl (gStep 4) s).2.2 = s.2.2) ∨ (∃ v ∈ l, v.1 ≠ 0 ∧ (l.foldl (gStep 4) s).2.2 = v.2) ∨ (s.1 = 0 ∧ ∀ v ∈ l, v.1 = 0))
  | [], s, h => by simp; omega
  | v :: l, s, h => by
    by_cases hc : v.1 = 0
    · have e : gStep 4 s v = s := by unfold gStep; rw [if_pos ⟨by decide, hc⟩]
      have ih := fold_min l s h
      rw [List.foldl_cons, e]
      refine ⟨ih.1, ?_, ?_⟩
      · intro u hu hn
        rcases List.mem_cons.1 hu with rfl | hu
        · exact absurd hc hn
        · exact ih.2.1 u hu hn
      · rcases ih.2.2 with h1 | ⟨u, h1, h2⟩ | ⟨h1, h2⟩
        · exact .inl h1
        · exact .inr (.inl ⟨u, by simp [h1], h2⟩)
        · exact .inr (.inr ⟨h1, by simpa [hc] using h2⟩)
    · have e : gStep 4 s v = (s.1 + 1, s.2.1 + v.2, if s.1 = 0 ∨ v.2 < s.2.2 then v.2 else s.2.2) := by
        unfold gStep; rw [if_neg (by simp [hc])]; simp
      have ih := fold_min l (gStep 4 s v) (by rw [e]; simp; omega)
      rw [List.foldl_cons]
      generalize List.foldl (gStep 4) (gStep 4 s v) l = r at *
      rw [e] at ih
      simp only at ih
      have a1 := ih.1 (by omega)
      refine ⟨fun h0 => ?_, ?_, ?_⟩
      · split at a1 <;> omega
      · intro u hu hn
        rcases List.mem_cons.1 hu with rfl | hu
        · split at a1 <;> omega
        · exact ih.2.1 u hu hn
      · rcases ih.2.2 with ⟨_, h1⟩ | ⟨u, h1, h2⟩ | ⟨h1, h2⟩
        · split at h1
          · exact .inr (.inl ⟨v, by simp, hc, h1⟩)
          · exact .inl ⟨by omega, h1⟩
        · exact .inr (.inl ⟨u, by simp [h1], h2⟩)
        · omega
theorem fold_max : ∀ (l : List (Int × Int)) (s : Int × Int × Int), 0 ≤ s.1 →
    (0 < s.1 → s.2.2 ≤ (l.foldl (gStep 5) s).2.2) ∧ (∀ v ∈ l, v.1 ≠ 0 → v.2 ≤ (l.foldl (gStep 5) s).2.2) ∧
    ((0 < s.1 ∧ (l.foldl (gStep 5) s).2.2 = s.2.2) ∨ (∃ v ∈ l, v.1 ≠ 0 ∧ (l.foldl (gStep 5) s).2.2 = v.2) ∨ (s.1 = 0 ∧ ∀ v ∈ l, v.1 = 0))
  | [], s, h => by simp; omega
  | v :: l, s, h => by
    by_cases hc : v.1 = 0
    · have e : gStep 5 s v = s := by unfold gStep; rw [if_pos ⟨by decide, hc⟩]
      have ih := fold_max l s h
      rw [List.foldl_cons, e]
      refine ⟨ih.1, ?_, ?_⟩
      · intro u hu hn
        rcases List.mem_cons.1 hu with rfl | hu
        · exact absurd hc hn
        · exact ih.2.1 u hu hn
      · rcases ih.2.2 with h1 | ⟨u, h1, h2⟩ | ⟨h1, h2⟩
        · exact .inl h1
        · exact .inr (.inl ⟨u, by simp [h1], h2⟩)
        · exact .inr (.inr ⟨h1, by simpa [hc] using h2⟩)
    · have e : gStep 5 s v = (s.1 + 1, s.2.1 + v.2, if s.1 = 0 ∨ v.2 > s.2.2 then v.2 else s.2.2) := by
        unfold gStep; rw [if_neg (by simp [hc])]; simp
      have ih := fold_max l (gStep 5 s v) (by rw [e]; simp; omega)
      rw [List.foldl_cons]
      generalize List.foldl (gStep 5) (gStep 5 s v) l = r at *
      rw [e] at ih
      simp only at ih
      have a1 := ih.1 (by omega)
      refine ⟨fun h0 => ?_, ?_, ?_⟩
      · split at a1 <;> omega
      · intro u hu hn
        rcases List.mem_cons.1 hu with rfl | hu
        · split at a1 <;> omega
        · exact ih.2.1 u hu hn
      · rcases ih.2.2 with ⟨_, h1⟩ | ⟨u, h1, h2⟩ | ⟨h1, h2⟩
        · split at h1
          · exact .inr (.inl ⟨v, by simp, hc, h1⟩)
          · exact .inl ⟨by omega, h1⟩
        · exact .inr (.inl ⟨u, by simp [h1], h2⟩)
        · omega
theorem sumI_append (a b : List Int) : (a ++ b).sum = a.sum + b.sum := by
  induction a with
  | nil => simp
  | cons x a ih => simp [ih]; omega
theorem sumI_reverse (a : List Int) : a.reverse.sum = a.sum := by
  induction a with
  | nil => rfl
  | cons x a ih => rw [List.reverse_cons, sumI_append, ih]; simp; omega
/-- IN WHICH ORDER VALUES COME CHANGES NOTHING OF WHAT IS GATHERED (here: there and back). -/
theorem gather_rev {k : Int} (h1 : 1 ≤ k) (h5 : k ≤ 5) (l : List (Int × Int)) : gVal k (l.reverse.foldl (gStep k) (0, 0, 0)) = gVal k (l.foldl (gStep k) (0, 0, 0)) := by
  have a := fold_n (k := k) l (0, 0, 0)
  have b := fold_n (k := k) l.reverse (0, 0, 0)
  rw [List.filter_reverse, List.map_reverse, List.map_reverse, sumI_reverse, sumI_reverse] at b
  have e1 : (l.reverse.foldl (gStep k) (0, 0, 0)).1 = (l.foldl (gStep k) (0, 0, 0)).1 := by rw [a.1, b.1]
  have e2 : (l.reverse.foldl (gStep k) (0, 0, 0)).2.1 = (l.foldl (gStep k) (0, 0, 0)).2.1 := by rw [a.2, b.2]
  unfold gVal
  rw [e1, e2]
  split
  · rfl
  · rename_i n12
    split
    · rfl
    · rename_i n0
      split
      · rfl
      · rename_i n3
        have h45 : k = 4 ∨ k = 5 := by omega
        congr 1
        rcases h45 with rfl | rfl
        · have p := fold_min l (0, 0, 0) (by decide)
          have q := fold_min l.reverse (0, 0, 0) (by decide)
          have hne : ¬ ∀ v ∈ l, v.1 = 0 := by
            intro hall
            apply n0
            rw [a.1]
            have : l.filter (fun v => !decide ((4 : Int) ≠ 1 ∧ v.1 = 0)) = [] := by
              rw [List.filter_eq_nil_iff]
              intro v hv
              simp [hall v hv]
            rw [this]
            rfl
          rcases p.2.2 with ⟨h, _⟩ | ⟨u, hu, hn, he⟩ | ⟨_, h⟩
          · simp at h
          · rcases q.2.2 with ⟨h, _⟩ | ⟨u', hu', hn', he'⟩ | ⟨_, h⟩
            · simp at h
            · have x1 := q.2.1 u (List.mem_reverse.2 hu) hn
              have x2 := p.2.1 u' (List.mem_reverse.1 hu') hn'
              omega
            · exact absurd (fun v hv => h v (List.mem_reverse.2 hv)) hne
          · exact absurd h hne
        · have p := fold_max l (0, 0, 0) (by decide)
          have q := fold_max l.reverse (0, 0, 0) (by decide)
          have hne : ¬ ∀ v ∈ l, v.1 = 0 := by
            intro hall
            apply n0
            rw [a.1]
            have : l.filter (fun v => !decide ((5 : Int) ≠ 1 ∧ v.1 = 0)) = [] := by
              rw [List.filter_eq_nil_iff]
              intro v hv
              simp [hall v hv]
            rw [this]
            rfl
          rcases p.2.2 with ⟨h, _⟩ | ⟨u, hu, hn, he⟩ | ⟨_, h⟩
          · simp at h
          · rcases q.2.2 with ⟨h, _⟩ | ⟨u', hu', hn', he'⟩ | ⟨_, h⟩
            · simp at h
            · have x1 := q.2.1 u (List.mem_reverse.2 hu) hn
              have x2 := p.2.1 u' (List.mem_reverse.1 hu') hn'
              omega
            · exact absurd (fun v hv => h v (List.mem_reverse.2 hv)) hne
          · exact absurd h hne
theorem foldW_eq {k : Int} (l : List (Int × Int)) : ∀ (s : Int × Int × Int), (∀ v ∈ l, smallV v) → 0 ≤ s.1 → s.1 + l.length ≤ 1048576 → l.length * 1000000000 ≤ 1000000000000000 + s.2.1 → s.2.1 + l.length * 1000000000 ≤ 1000000000000000 → l.foldl (gStepW k) s = l.foldl (gStep k) s := by
  induction l with
  | nil => intro s _ _ _ _ _; rfl
  | cons v l ih =>
    intro s hv h0 h1 h2 h3
    have hs := hv v (by simp)
    unfold smallV at hs
    rw [List.length_cons] at h1 h2 h3
    have e : gStepW k s v = gStep k s v := gStepW_eq (by unfold InR; omega) (by unfold InR; omega)
    have b : 0 ≤ (gStep k s v).1 ∧ (gStep k s v).1 ≤ s.1 + 1 ∧ s.2.1 - 1000000000 ≤ (gStep k s v).2.1 ∧ (gStep k s v).2.1 ≤ s.2.1 + 1000000000 := by
      unfold gStep
      split <;> first | omega | (simp; omega) | (simp only; omega)
    rw [List.foldl_cons, List.foldl_cons, e]
    exact ih _ (fun u hu => hv u (by simp [hu])) b.1 (by omega) (by omega) (by omega)

theorem top_TopGather_ok {k : Int} {a : Option Addr} {n c : Nat} {l : List (Int × Int)} {h : Hp} (S : SlP encV h a n l) :
    CallOK Try.prog 6 [vi k, vsl a n c] h fun v h' => v = vb true ∧ h.le h' := by
  refine ok_top_TopGather ?_
  unfold VC_top_TopGather
  refine gather_New_ok ⟨_, _, _, _, rfl, ?_⟩
  refine value_Number_ok ⟨_, _, rfl, ?_⟩
  refine gather_Add_ok (k := 5) (s := (0, 0, 0)) (v := (1, 3)) (by decide) (by decide) ⟨_, _, _, _, rfl, ?_⟩
  refine value_Number_ok ⟨_, _, rfl, ?_⟩
  refine gather_Add_ok (k := 5) (s := (1, 3, 3)) (v := (1, 2)) (by decide) (by decide) ⟨_, _, _, _, rfl, ?_⟩
  refine gather_Value_ok (k := 5) (s := (2, 5, 3)) ⟨_, _, rfl, fun _ => ?_, fun e => absurd (by decide) e⟩
  refine value_Number_ok ⟨_, _, rfl, _, fun _ => rd_neqV (a := (1, 3)) (b := (1, 3)), fun e => absurd e (by decide), fun _ => ⟨fun e => ⟨rfl, Hp.le_refl _⟩, fun e => ?_⟩⟩
  have hb : n ≤ 60 ∧ 1 ≤ k ∧ k ≤ 5 := by simp [Bool.cond_eq_ite] at e; omega
  have hl := S.1
  refine gather_New_ok ⟨_, _, _, _, rfl, ?_⟩
  refine gather_New_ok ⟨_, _, _, _, rfl, ?_⟩
  intro J98
  refine ⟨fun vs hh => hh = h ∧ ∃ i : Nat, i ≤ n ∧ (∀ v ∈ l.take i, goodV v) ∧ vs = vi i :: (encA k ((l.take i).foldl (gStep k) (0, 0, 0)) ++ encA k ((l.reverse.take i).foldl (gStepW k) (0, 0, 0))), fun vs hh => n - (vint vs 0).toNat, ⟨rfl, 0, Nat.zero_le _, by simp, by simp [encA]⟩, ?_⟩
  rintro vs hh ⟨rfl, i, hi, hg, rfl⟩
  refine ⟨_, _, _, _, _, _, _, _, _, rfl, fun e => ?_, fun e => ?_⟩
  · have hlt : i < n := by simpa using e
    have hx : l[i]? = some l[i] := List.getElem?_eq_getElem (by omega)
    have hy : l[n - 1 - i]? = some l[n - 1 - i] := List.getElem?_eq_getElem (by omega)
    obtain ⟨b, o, ea, hr⟩ := S.get encV_len (by decide) hx
    obtain ⟨b', o', ea', hr'⟩ := S.get encV_len (by decide) hy
    have hcell : hh.cell b (o + (i : Int).toNat * 2) = some (vi l[i].1) := by
      have := Hp.row_cell hr (i := 0) (x := vi l[i].1) rfl
      simpa using this
    have hrow : hh.row b (o + (i : Int).toNat * 2) 2 = some [vi l[i].1, vi l[i].2] := by simpa [encV] using hr
    have hidx : (((n : Nat) : Int) - 1 - (i : Int)).toNat = n - 1 - i := by omega
    have hrow' : hh.row b' (o' + (((n : Nat) : Int) - 1 - (i : Int)).toNat * 2) 2 = some [vi l[n - 1 - i].1, vi l[n - 1 - i].2] := by rw [hidx]; simpa [encV] using hr'
    have tk : l.take (i + 1) = l.take i ++ [l[i]] := List.take_succ_eq_append_getElem (by omega)
    have hrl : i < l.reverse.length := by rw [List.length_reverse]; omega
    have tk' : l.reverse.take (i + 1) = l.reverse.take i ++ [l[n - 1 - i]] := by
      rw [List.take_succ_eq_append_getElem hrl, List.getElem_reverse]
      congr 3
      omega
    have B := gfold_bound (k := k) (l.take i) (0, 0, 0) (fun v hm => (hg v hm).small) (by decide)
    have len : (l.take i).length ≤ i := by rw [List.length_take]; exact Nat.min_le_left _ _
    simp only at B
    have A : a = some ⟨b, o, none⟩ ∧ (0 : Int) ≤ i ∧ (i : Int) < ((n : Nat) : Int) := ⟨ea, by omega, by omega⟩
    refine ⟨b, o, A, _, _, hrow, value_Check_ok ⟨_, rfl, b, o, fun _ => A, _, fun _ => hcell, fun e => ⟨rfl, Hp.le_refl _⟩, fun e => ?_⟩⟩
    have hgood : goodV l[i] := by
      by_cases hq : goodV l[i]
      · exact hq
      · simp [hq] at e
    have hs := hgood.small
    unfold smallV at hs
    refine ⟨b, o, A, _, _, hrow, ?_⟩
    refine gather_Add_ok (k := k) (s := (l.take i).foldl (gStep k) (0, 0, 0)) (v := l[i]) (by unfold InR; omega) (by unfold InR; omega) ⟨_, _, _, _, rfl, _, isW (by unfold InR; omega), _, isW (by unfold InR; omega), b', o', ⟨ea', by omega, by omega⟩, _, _, hrow', ?_⟩
    refine gather_AddW_ok (k := k) (s := (l.reverse.take i).foldl (gStepW k) (0, 0, 0)) (v := l[n - 1 - i]) ⟨_, _, _, _, rfl, _, isW (by unfold InR; omega), ⟨rfl, i + 1, by omega, ?_, ?_⟩, by simp [vint]; omega⟩
    · intro v hm
      rw [tk] at hm
      rcases List.mem_append.1 hm with h1 | h1
      · exact hg v h1
      · simp at h1; subst h1; exact hgood
    · rw [tk, tk', List.foldl_append, List.foldl_append]; simp [encA]
  · have hge : i = n := by simp at e; omega
    have ht : l.take i = l := List.take_of_length_le (by omega)
    have ht' : l.reverse.take i = l.reverse := List.take_of_length_le (by rw [List.length_reverse]; omega)
    rw [ht] at hg ⊢
    rw [ht']
    have hw : l.reverse.foldl (gStepW k) (0, 0, 0) = l.reverse.foldl (gStep k) (0, 0, 0) := foldW_eq _ _ (fun v hm => (hg v (List.mem_reverse.1 hm)).small) (by decide) (by rw [List.length_reverse]; simp; omega) (by rw [List.length_reverse]; simp; omega) (by rw [List.length_reverse]; simp; omega)
    rw [hw]
    refine gather_Value_ok ⟨_, _, rfl, ?_⟩
    refine gather_Value_ok ⟨_, _, rfl, _, rd_eqV, ?_⟩
    exact ⟨by rw [gather_rev hb.2.1 hb.2.2]; simp, Hp.le_refl _⟩
end Go.Proofs.Ytjdheefginfjgaa
