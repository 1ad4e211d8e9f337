/-
  Contracts: package source. Conditions: those stated at each.
-/
import Derived.Test.YtdkgmpchcahajaaFSrc
import Derived.Test.YtdkgmpchcahajaaCEvt
namespace Go.Proofs.Ytdkgmpchcahajaa
open Go Go.Vc
set_option linter.unusedVariables false
set_option maxRecDepth 100000

abbrev EvT := TabAt encE 7 67 72
/-- A source at a block: its parts. -/
def SrcAt (g : Nat) (L : List (List EvL)) (h : Hp) (F : Nat → Prop) : Prop := ∃ t G, h g = some (cellsO [vsl (some ⟨t, 0, none⟩) L.length L.length] 159) ∧ EvT h G t L ∧ F = (fun b => b = g ∨ G b) ∧ ¬ G g
theorem fpSrc (g : Nat) (L : List (List EvL)) : Fp (SrcAt g L) where
  al := by
    rintro h F ⟨t, G, hg, D, rfl, hn⟩ b (rfl | hb)
    · rw [hg]; simp
    · exact D.al b hb
  keep := by
    rintro h h' F ⟨t, G, hg, D, rfl, hn⟩ hk
    exact ⟨t, G, hk g (.inl rfl) _ hg, D.keep fun b hb o ho => hk b (.inr hb) o ho, rfl, hn⟩
theorem fpTab (t : Nat) (L : List (List EvL)) : Fp (fun h F => EvT h F t L) where
  al := fun D => D.al
  keep := fun D hk => D.keep hk
theorem source_Check_ok {e : EvL} {h : Hp} {R : Value → Hp → Prop} (hK : ∀ h', h.le h' → R (ifv (errV (chkE e))) h') : CallOK Try.prog 31 [vag (encE e)] h R := by
  refine ok_source_Check ?_
  unfold VC_source_Check
  refine ⟨fun q => ?_, fun q => ?_⟩
  · have : chkE e = 1 := by unfold chkE; rw [if_pos (by simp [Bool.cond_eq_ite] at q; omega)]
    rw [this] at hK; exact hK h (Hp.le_refl h)
  have e1 : chkE e = chkL [e.2.1, e.2.2.1, e.2.2.2] := by unfold chkE; rw [if_neg (by simp [Bool.cond_eq_ite] at q; omega)]
  rw [e1] at hK
  clear e1 q
  intro b2 hb2 h3
  have l3 : h.le h3 := Hp.le_set (Hp.le_refl h) hb2 _
  have S : SlP encV h3 (some ⟨b2, 0, none⟩) 3 [e.2.1, e.2.2.1, e.2.2.2] := ⟨rfl, HasRow.new _ _ [vi e.2.1.1, vi e.2.1.2, vi e.2.2.1.1, vi e.2.2.1.2, vi e.2.2.2.1, vi e.2.2.2.2] _⟩
  clear_value h3
  have hl : [e.2.1, e.2.2.1, e.2.2.2].length = 3 := rfl
  generalize [e.2.1, e.2.2.1, e.2.2.2] = l at *
  refine ⟨fun vs hh => hh = h3 ∧ ∃ i : Nat, vs = [vi i] ∧ i ≤ 3 ∧ chkL l = chkL (l.drop i), fun vs hh => 3 - (vint vs 0).toNat, ⟨rfl, 0, rfl, by decide, rfl⟩, ?_⟩
  rintro vs hh ⟨rfl, i, rfl, hi, hc⟩
  refine ⟨i, rfl, fun q => ?_, fun q => ?_⟩
  · have hlt : i < 3 := by have := of_decide_eq_true q; omega
    have hx : l[i]? = some (l[i]'(by omega)) := List.getElem?_eq_getElem (by omega)
    rw [drop_get (by omega : i < l.length), chkL] at hc
    obtain ⟨b, o, ha, hr⟩ := S.get encV_len (by decide) hx
    generalize l[i]'(by omega) = v at *
    have A : (some ⟨b2, 0, none⟩ : Option Addr) = some ⟨b, o, none⟩ ∧ (0 : Int) ≤ i ∧ (i : Int) < (3 : Nat) := ⟨ha, by omega, by omega⟩
    refine ⟨b, o, A, _, _, hr, value_Check_ok (v := v) ⟨_, rfl, fun q2 => ?_, fun q2 => ⟨fun q3 => ?_, fun q3 => ⟨fun q4 => ?_, fun q4 => ?_⟩⟩⟩⟩
    · rw [errV_some] at q2
      have hg : ¬ goodV v := fun hg => by simp [hg] at q2
      have : chkV v = 3 := by unfold chkV; rw [if_pos (.inl hg)]
      rw [this, if_neg (by decide)] at hc
      rw [if_neg hg]
      rw [hc] at hK; exact hK hh l3
    · have : chkV v = 3 := by unfold chkV; rw [if_pos (.inr (of_decide_eq_true q3))]
      rw [this, if_neg (by decide)] at hc
      rw [hc] at hK; exact hK hh l3
    · rw [errV_some] at q2
      have hg : goodV v := by
        by_cases hg : goodV v
        · exact hg
        · simp [hg] at q2
      have h2 : ¬ v.1 = 2 := of_decide_eq_false q3
      have : chkV v = 1 := by unfold chkV; rw [if_neg (by simp [hg, h2]), if_pos (by simp [Bool.cond_eq_ite] at q4; omega)]
      rw [this, if_neg (by decide)] at hc
      rw [hc] at hK; exact hK hh l3
    · rw [errV_some] at q2
      have hg : goodV v := by
        by_cases hg : goodV v
        · exact hg
        · simp [hg] at q2
      have h2 : ¬ v.1 = 2 := of_decide_eq_false q3
      have : chkV v = 0 := by unfold chkV; rw [if_neg (by simp [hg, h2]), if_neg (by simp [Bool.cond_eq_ite] at q4; omega)]
      rw [this, if_pos rfl] at hc
      exact ⟨_, isW (by unfold InR; omega), ⟨rfl, i + 1, rfl, by omega, hc⟩, by simp [vint]; omega⟩
  · have hge : i = 3 := by have := of_decide_eq_false q; omega
    subst hge
    rw [List.drop_eq_nil_of_le (by omega)] at hc
    rw [hc] at hK; exact hK hh l3
theorem elTab : ElT Try.prog 63 72 1 24 := .of (by kernel_rfl) (by kernel_rfl) (by decide)
theorem source_New_ok {n : Int} {h : Hp} {R : Value → Hp → Prop} (hK1 : ¬ (1 ≤ n ∧ n ≤ 3) → R (vtup [vp none, ifv (errV 1)]) h)
    (hK2 : 1 ≤ n → n ≤ 3 → ∀ g h' F', h.le h' → (∀ b, F' b → h b = none) → SrcAt g (List.replicate n.toNat []) h' F' → R (vtup [vhp g 0, ifv none]) h') : CallOK Try.prog 28 [vi n] h R := by
  refine ok_source_New ?_
  unfold VC_source_New
  refine ⟨fun e => hK1 (by simp [Bool.cond_eq_ite] at e; omega), fun e => ?_⟩
  have hn : 1 ≤ n ∧ n ≤ 3 := by simp [Bool.cond_eq_ite] at e; omega
  have en : n = ((n.toNat : Nat) : Int) := by omega
  rw [en]
  refine sem_make elTab (z := [vsl none 0 0]) (by kernel_rfl) (by omega) (by omega) fun b hb => ⟨_, _, _, rfl, ?_⟩
  intro b5 hb5 h6
  have D := TabAt.new (enc := encE) (sz := 7) (e := 67) (T := 72) hb n.toNat
  have hne : b5 ≠ b := fun e => by rw [e, Hp.set_same] at hb5; cases hb5
  have l1 : h.le (h.set b (cellsO ((List.replicate n.toNat [vsl none 0 0]).flatten) 72)) := Hp.le_set (Hp.le_refl h) hb _
  refine hK2 hn.1 hn.2 b5 h6 _ (Hp.le_set l1 hb5 _) ?_ ⟨b, fun x => x = b, ?_, D.le (Hp.le_set (Hp.le_refl _) hb5 _), rfl, hne⟩
  · rintro x (rfl | rfl)
    · exact Hp.none_of_le l1 hb5
    · exact hb
  · have e2 : (List.replicate n.toNat ([] : List EvL)).length = n.toNat := by simp
    rw [e2]
    exact Hp.set_same _ _ _
section
variable {h : Hp} {F : Nat → Prop} {g : Nat} {L : List (List EvL)}
theorem SrcAt.c (D : SrcAt g L h F) : ∃ t G, h.cell g 0 = some (vsl (some ⟨t, 0, none⟩) L.length L.length) ∧ EvT h G t L ∧ F = (fun b => b = g ∨ G b) ∧ ¬ G g := by
  obtain ⟨t, G, hg, D, e, hn⟩ := D
  exact ⟨t, G, cell_cells hg rfl, D, e, hn⟩
theorem source_Parts_ok (D : SrcAt g L h F) {R : Value → Hp → Prop} (hK : R (vi L.length) h) : CallOK Try.prog 29 [vhp g 0] h R := by
  refine ok_source_Source_Parts ?_
  unfold VC_source_Source_Parts
  obtain ⟨t, G, hc, _⟩ := D.c
  exact ⟨_, _, _, hc, hK⟩
/-- What a put says, and leaves. -/
def putE (L : List (List EvL)) (p : Int) (e : EvL) : List (List EvL) × Int :=
  if p < 0 ∨ p ≥ L.length then (L, 5) else if chkE e ≠ 0 then (L, chkE e) else if (L.getD p.toNat []).length = 40 then (L, 6) else (L.set p.toNat (L.getD p.toNat [] ++ [e]), 0)
theorem getD_of {α : Type} {L : List (List α)} {i : Nat} (h : i < L.length) : L[i]? = some (L.getD i []) := by
  rw [List.getD_eq_getElem?_getD, List.getElem?_eq_getElem h]; rfl
theorem source_Put_ok (D : SrcAt g L h F) {p : Int} {e : EvL} (hs : ∀ l ∈ L, l.length ≤ 40) {R : Value → Hp → Prop} (hK : ∀ h' F', SrcAt g (putE L p e).1 h' F' → Mut F h F' h' → R (ifv (errV (putE L p e).2)) h') :
    CallOK Try.prog 32 [vhp g 0, vi p, vag (encE e)] h R := by
  refine ok_source_Source_Put ?_
  unfold VC_source_Source_Put
  have Dq := D
  obtain ⟨t, G, hc, DT, eF, hn⟩ := D.c
  refine ⟨_, _, _, fun _ => hc, fun q => ?_, fun q => ?_⟩
  · have : putE L p e = (L, 5) := by unfold putE; rw [if_pos (by simp [Bool.cond_eq_ite] at q; omega)]
    rw [this] at hK; exact hK h F Dq (Mut.of_le (Hp.le_refl h))
  have hp : ¬ (p < 0 ∨ p ≥ L.length) := by simp [Bool.cond_eq_ite] at q; omega
  refine source_Check_ok fun h4 l4 => ⟨_, rfl, fun q2 => ?_, fun q2 => ?_⟩
  · rw [errV_some] at q2
    have hne : chkE e ≠ 0 := by simpa using q2
    have : putE L p e = (L, chkE e) := by unfold putE; rw [if_neg hp, if_pos hne]
    rw [this] at hK; exact hK h4 F ((fpSrc g L).keep Dq fun b _ o ho => l4 b o ho) (Mut.of_le l4)
  rw [errV_some] at q2
  have he : ¬ chkE e ≠ 0 := by simpa using q2
  have hp2 : p.toNat < L.length := by omega
  have hL := getD_of hp2
  have hlen : (L.getD p.toNat []).length ≤ 40 := hs _ (List.mem_of_getElem? hL)
  obtain ⟨a, c, hcell, _⟩ := (DT.le l4).cell hL
  have hc4 := Hp.cell_le l4 hc
  have A : (some ⟨t, 0, none⟩ : Option Addr) = some ⟨t, 0, none⟩ ∧ (0 : Int) ≤ p ∧ p < (L.length : Nat) := ⟨rfl, by omega, by omega⟩
  refine ⟨_, _, _, hc4, t, 0, A, _, _, _, hcell, fun q3 => ?_, fun q3 => ?_⟩
  · have : putE L p e = (L, 6) := by unfold putE; rw [if_neg hp, if_neg he, if_pos (by have := of_decide_eq_true q3; omega)]
    rw [this] at hK; exact hK h4 F ((fpSrc g L).keep Dq fun b _ o ho => l4 b o ho) (Mut.of_le l4)
  have h40 : ¬ (L.getD p.toNat []).length = 40 := by have := of_decide_eq_false q3; omega
  have : putE L p e = (L.set p.toNat (L.getD p.toNat [] ++ [e]), 0) := by unfold putE; rw [if_neg hp, if_neg he, if_neg h40]
  rw [this] at hK
  refine ⟨_, _, _, hc4, _, _, _, hc4, t, 0, A, _, _, _, hcell, fun b17 hb17 => ?_⟩
  refine (DT.le l4).app elEv encE_len one_encE hL (by omega) (by omega) hcell hb17 fun a' c' h20 hk hst => ⟨_, _, _, rfl, ?_⟩
  have hg4 : h4 g = some (cellsO [vsl (some ⟨t, 0, none⟩) L.length L.length] 159) := by
    obtain ⟨t', G', hg', _, _, _⟩ := Dq
    have e1 : h.cell g 0 = some (vsl (some ⟨t', 0, none⟩) L.length L.length) := cell_cells hg' rfl
    rw [hc] at e1
    cases e1
    exact l4 _ _ hg'
  have hg20 := hk g _ (.inl hn) hg4
  refine ⟨cell_cells hg20 rfl, t, 0, A, hst _ fun h24 F24 D24 M24 => ?_⟩
  have hg24 : h24 g = some (cellsO [vsl (some ⟨t, 0, none⟩) L.length L.length] 159) := M24.keep g _ hn hg4
  have hn24 : ¬ F24 g := fun hf => by
    rcases M24.new g hf with h1 | h1
    · exact hn h1
    · rw [hg4] at h1; cases h1
  refine hK h24 (fun b => b = g ∨ F24 b) ⟨t, F24, by rw [List.length_set]; exact hg24, D24, rfl, hn24⟩ ?_
  rw [eF]
  refine (Mut.of_le l4).trans ⟨fun b o hb ho => M24.keep b o (fun hG => hb (.inr hG)) ho, ?_⟩
  rintro b (rfl | hb)
  · exact .inl (.inl rfl)
  · rcases M24.new b hb with h1 | h1
    · exact .inl (.inr h1)
    · exact .inr h1
def getE (L : List (List EvL)) (p n : Int) : EvL × Bool :=
  if p < 0 ∨ p ≥ L.length ∨ n < 0 ∨ n ≥ (L.getD p.toNat []).length then ((0, (0, 0), (0, 0), (0, 0)), false) else ((L.getD p.toNat []).getD n.toNat (0, (0, 0), (0, 0), (0, 0)), true)
theorem source_Get_ok (D : SrcAt g L h F) {p n : Int} {R : Value → Hp → Prop} (hK : R (vtup [vag (encE (getE L p n).1), vb (getE L p n).2]) h) : CallOK Try.prog 33 [vhp g 0, vi p, vi n] h R := by
  refine ok_source_Source_Get ?_
  unfold VC_source_Source_Get
  obtain ⟨t, G, hc, DT, eF, hn⟩ := D.c
  by_cases hp : p < 0 ∨ p ≥ L.length
  · have : getE L p n = ((0, (0, 0), (0, 0), (0, 0)), false) := by unfold getE; rw [if_pos (by omega)]
    rw [this] at hK
    have hc1 : (bif (decide (p < 0)) then true else (decide (p ≥ ((L.length : Nat) : Int)))) = true := by simp [Bool.cond_eq_ite]; omega
    refine ⟨_, _, _, fun _ => hc, none, 0, 0, fun q => ?_, 0, 0, fun q => ?_, none, 0, 0, fun q => ?_, fun _ => hK, fun q => ?_⟩ <;> rw [hc1] at q <;> cases q
  have hp2 : p.toNat < L.length := by omega
  have hL := getD_of hp2
  obtain ⟨a, c, hcell, S⟩ := DT.cell hL
  have A : (some ⟨t, 0, none⟩ : Option Addr) = some ⟨t, 0, none⟩ ∧ (0 : Int) ≤ p ∧ p < (L.length : Nat) := ⟨rfl, by omega, by omega⟩
  refine ⟨_, _, _, fun _ => hc, _, _, _, fun _ => hc, t, 0, fun _ => A, _, _, _, fun _ => hcell, fun q => ?_, fun q => ?_⟩
  · have : getE L p n = ((0, (0, 0), (0, 0), (0, 0)), false) := by
      unfold getE; rw [if_pos]
      simp [Bool.cond_eq_ite] at q
      simp only [List.getD_eq_getElem?_getD] at q ⊢
      omega
    rw [this] at hK; exact hK
  have hb : ¬ (n < 0) ∧ ¬ n ≥ (L.getD p.toNat []).length := by
    simp [Bool.cond_eq_ite] at q
    simp only [List.getD_eq_getElem?_getD]
    omega
  have : getE L p n = ((L.getD p.toNat []).getD n.toNat (0, (0, 0), (0, 0), (0, 0)), true) := by unfold getE; rw [if_neg (by omega)]
  rw [this] at hK
  generalize L.getD p.toNat [] = l at *
  have hx : l[n.toNat]? = some (l.getD n.toNat (0, (0, 0), (0, 0), (0, 0))) := by rw [List.getD_eq_getElem?_getD, List.getElem?_eq_getElem (by omega)]; rfl
  obtain ⟨b, o, ha, hr⟩ := S.get encE_len (by decide) hx
  exact ⟨_, _, _, hc, t, 0, A, _, _, _, hcell, b, o, ⟨ha, by omega, by omega⟩, _, _, _, _, _, _, _, hr, hK⟩
theorem cloneE_ok {a : Option Addr} {n c : Nat} {l : List EvL} {h : Hp} {R : Value → Hp → Prop} (S : SlP encE h a n l) (hn : n ≤ 1000000) (hK : ∀ a' c' h', Own h h' 67 7 a' n c' (l.flatMap encE) → R (vsl a' n c') h') :
    CallOK Try.prog 85 [vsl a n c] h R := by
  refine ok_slices_Clone_api_Event_api_Event ?_
  unfold VC_slices_Clone_api_Event_api_Event
  have hl := S.1
  have hfl : (l.flatMap encE).length = n * 7 := by rw [flatMap_length encE_len, ← hl]
  refine ⟨_, rd_eqNilS (e := 67) (by kernel_rfl), fun e => ?_, fun e => ?_⟩
  · have h0 : l.flatMap encE = [] := by
      rcases S.2 with h1 | ⟨b, o, ha, _⟩
      · exact h1
      · rw [ha] at e; cases e
    rw [h0] at hfl
    have hn0 : n = 0 := by simp at hfl; omega
    subst hn0
    have := hK none 0 h (by rw [h0]; exact Own.nil (Hp.le_refl h) _ _)
    exact this
  · intro b3 hb3 h4
    have O0 : Own h h4 67 7 (some ⟨b3, 0, none⟩) 0 0 [] := Own.mk_new (Hp.le_refl h) hb3 _ [] rfl (by simp [maxLen])
    refine Own.append elEv O0 (S.le (Hp.le_set (Hp.le_refl h) hb3 _)).2 hfl (one_evs l) (by omega) (by omega) fun a' c' h' O' _ _ => ⟨_, _, _, rfl, ?_⟩
    rw [Nat.zero_add, List.nil_append] at *
    exact hK a' c' h' O'
theorem source_All_ok (D : SrcAt g L h F) (hs : ∀ l ∈ L, l.length ≤ 1000) (hn : L.length ≤ 1000) {R : Value → Hp → Prop} (hK : ∀ a n c h', h.le h' → TabR encE h' a n L → R (vsl a n c) h') : CallOK Try.prog 35 [vhp g 0] h R := by
  refine ok_source_Source_All ?_
  unfold VC_source_Source_All
  obtain ⟨t, G, hc, DT, eF, _⟩ := D.c
  refine ⟨_, _, _, hc, fun vs hh => ∃ (i : Nat) (a : Option Addr) (c : Nat), vs = [vsl a (L.take i).length c, vi i] ∧ i ≤ L.length ∧ TabB encE 72 h hh a c (L.take i), fun vs hh => L.length - (vint vs 1).toNat,
    ⟨0, none, 0, rfl, Nat.zero_le _, TabB.nil (Hp.le_refl h)⟩, ?_⟩
  rintro vs hh ⟨i, a, c, rfl, hi, B⟩
  refine ⟨_, _, _, _, rfl, fun q => ?_, fun q => ?_⟩
  · have hlt : i < L.length := by have := of_decide_eq_true q; omega
    have hx : L[i]? = some L[i] := List.getElem?_eq_getElem hlt
    obtain ⟨a1, c1, hcell, S⟩ := DT.cell hx
    have hl1 := hs _ (List.getElem_mem hlt)
    have tk : L.take (i + 1) = L.take i ++ [L[i]] := List.take_succ_eq_append_getElem hlt
    have tl : (L.take i).length = i := by rw [List.length_take]; omega
    refine ⟨t, 0, ⟨rfl, by omega, by omega⟩, _, _, _, Hp.cell_le B.le0 hcell, cloneE_ok (S.le B.le0) (by omega) fun a2 c2 h15 O15 => ⟨_, _, _, rfl, ?_⟩⟩
    intro b17 hb17 h18
    refine B.app elTab O15 (by omega) (by omega) hb17 fun a' c' h' B' => ⟨_, _, _, rfl, _, isW (by unfold InR; omega), ⟨i + 1, a', c', ?_, by omega, by rw [tk]; exact B'⟩, by simp [vint]; omega⟩
    rw [tk, List.length_append]
    try rfl
  · have hge : i = L.length := by have := of_decide_eq_false q; omega
    subst hge
    rw [List.take_of_length_le (Nat.le_refl _)] at B ⊢
    exact hK a L.length c hh B.le0 B.r
end
end Go.Proofs.Ytdkgmpchcahajaa
