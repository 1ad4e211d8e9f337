/-
  What the law SourceSays gives, for every argument: true; nothing of what was there has turned. Conditions: none.
-/
import Derived.Test.YtdkgmpchcahajaaCSrc
import Derived.Test.YtdkgmpchcahajaaCSame
import Derived.Test.YtdkgmpchcahajaaFaSrc
namespace Go.Proofs.Ytdkgmpchcahajaa
open Go Go.Vc
set_option linter.unusedVariables false
set_option maxRecDepth 100000

abbrev ev4 : EvL := (4, (0, 0), (0, 0), (0, 0))
theorem putE_4 : putE [[]] 0 ev4 = ([[ev4]], 0) := by
  have : chkE ev4 = 0 := by decide +kernel
  unfold putE
  rw [if_neg (by simp), if_neg (by simp [this]), if_neg (by simp)]
  rfl
theorem law_sources_ok {h : Hp} {R : Value → Hp → Prop} (hK : ∀ h', h.le h' → R (vb true) h') : CallOK Try.prog 27 [] h R := by
  refine ok_law_sources ?_
  unfold VC_law_sources
  refine source_New_ok (n := 1) (fun e => absurd (by decide) e) fun _ _ g h2 F l2 nF D2 => ⟨_, _, rfl, _, fun _ => rd_eqNilP (e := 159) (by kernel_rfl), ?_⟩
  have D2 : SrcAt g [[]] h2 F := D2
  refine ⟨fun x h' => ∃ F, x = .t (.one (.ifc none)) ∧ h.le h' ∧ SrcAt g [[ev4]] h' F, fun _ => source_Put_ok (e := ev4) D2 (by simp) fun h8 F8 D8 M8 => ?_, fun e => absurd rfl e, ?_⟩
  · rw [putE_4] at D8 ⊢
    exact ⟨_, rfl, F8, rfl, (M8.old l2 nF).1, D8⟩
  rintro h10 e11 ⟨F10, e, l10, D10⟩
  cases e
  refine ⟨fun e => (by cases e), fun _ => source_Get_ok D10 ?_⟩
  have e1 : getE [[ev4]] 0 0 = (ev4, true) := by decide +kernel
  rw [e1]
  refine ⟨_, _, _, _, _, _, _, _, rfl, fun x h' => h' = h10 ∧ x = .t (.one (.v (vi 1))), fun _ => source_Parts_ok D10 ⟨_, rfl, rfl, rfl⟩, fun e => absurd rfl e, ?_⟩
  rintro h27 x28 ⟨rfl, e⟩
  cases e
  exact hK _ l10

theorem law_sameEvents_ok {a a' : Option Addr} {n n' c c' : Nat} {L : List (List EvL)} {h : Hp} (T : TabR encE h a n L) (T' : TabR encE h a' n' L) (hL : L.length ≤ 1000000) (hl : ∀ l ∈ L, l.length ≤ 1000000) {R : Value → Hp → Prop} (hK : R (vb true) h) : CallOK Try.prog 34 [vsl a n c, vsl a' n' c'] h R := by
  refine ok_law_sameEvents ?_
  unfold VC_law_sameEvents
  have hn : n = L.length := by obtain ⟨_, _, h1, _⟩ := T; exact h1
  have hn' : n' = L.length := by obtain ⟨_, _, h1, _⟩ := T'; exact h1
  subst hn hn'
  refine ⟨fun e => by simp at e, fun _ => ?_⟩
  refine ⟨fun vs hh => hh = h ∧ ∃ i : Nat, vs = [vi i] ∧ i ≤ L.length, fun vs hh => L.length - (vint vs 0).toNat, ⟨rfl, 0, rfl, Nat.zero_le _⟩, ?_⟩
  rintro vs hh ⟨rfl, i, rfl, hi⟩
  refine ⟨i, rfl, fun e => ?_, fun e => hK⟩
  have hlt : i < L.length := by have := of_decide_eq_true e; omega
  have hx : L[i]? = some L[i] := List.getElem?_eq_getElem hlt
  have hl1 := hl _ (List.getElem_mem hlt)
  generalize L[i] = l at *
  obtain ⟨b, o, a1, c1, ha, hc, S⟩ := T.cell hx
  obtain ⟨b', o', a2, c2, ha', hc', S'⟩ := T'.cell hx
  refine ⟨b, o, ⟨ha, by omega, by omega⟩, _, _, _, hc, b', o', ⟨ha', by omega, by omega⟩, _, _, _, hc', fun e => by simp at e, fun _ => ?_⟩
  refine ⟨fun vs h' => h' = hh ∧ ∃ k : Nat, vs = [vi k] ∧ k ≤ l.length, fun vs hh => l.length - (vint vs 0).toNat, ⟨rfl, 0, rfl, Nat.zero_le _⟩, ?_⟩
  rintro vs h21 ⟨rfl, k, rfl, hk⟩
  refine ⟨k, rfl, b, o, ⟨ha, by omega, by omega⟩, _, _, _, hc, fun e => ?_, fun e => ⟨_, isW (by unfold InR; omega), ⟨rfl, i + 1, rfl, by omega⟩, by simp [vint]; omega⟩⟩
  have hkt : k < l.length := by have := of_decide_eq_true e; omega
  have hy : l[k]? = some l[k] := List.getElem?_eq_getElem hkt
  obtain ⟨q, p, hq, hr⟩ := S.get encE_len (by decide) hy
  obtain ⟨q', p', hq', hr'⟩ := S'.get encE_len (by decide) hy
  generalize l[k] = y at *
  refine ⟨b, o, ⟨ha, by omega, by omega⟩, _, _, _, hc, q, p, ⟨hq, by omega, by omega⟩, _, _, _, _, _, _, _, hr, b', o', ⟨ha', by omega, by omega⟩, _, _, _, hc', q', p', ⟨hq', by omega, by omega⟩, _, _, _, _, _, _, _, hr', _, rd_neqE (a := y) (b := y), fun e => by simp at e, fun _ => ⟨_, isW (by unfold InR; omega), ⟨rfl, k + 1, rfl, by omega⟩, by simp [vint]; omega⟩⟩

/-- What is put: where, an event. -/
def encP (y : Int × EvL) : List Value := vi y.1 :: encE y.2
theorem encP_len (y : Int × EvL) : (encP y).length = 8 := rfl
theorem SlP.ev {h : Hp} {a : Option Addr} {n : Nat} {l : List (Int × EvL)} (S : SlP encP h a n l) {i : Nat} {y : Int × EvL} (hx : l[i]? = some y) : ∃ b o, a = some ⟨b, o, none⟩ ∧ h.cell b (o + i * 8) = some (vi y.1) ∧ h.row b (o + i * 8 + 1) 7 = some (encE y.2) := by
  obtain ⟨b, o, ha, hr⟩ := S.get encP_len (by decide) hx
  exact ⟨b, o, ha, Hp.row_cell hr (i := 0) rfl, Hp.row_sub hr (i := 1) (k := 7) (by decide)⟩
theorem putE_len (L : List (List EvL)) (p : Int) (e : EvL) : (putE L p e).1.length = L.length := by
  unfold putE
  split
  · rfl
  · split
    · rfl
    · split
      · rfl
      · simp
theorem putE_40 {L : List (List EvL)} (hs : ∀ l ∈ L, l.length ≤ 40) (p : Int) (e : EvL) : ∀ l ∈ (putE L p e).1, l.length ≤ 40 := by
  unfold putE
  split
  · exact hs
  · rename_i hp
    split
    · exact hs
    · split
      · exact hs
      · rename_i h40
        intro l hl
        rcases List.mem_or_eq_of_mem_set hl with h1 | h1
        · exact hs l h1
        · rw [h1, List.length_append]
          have := hs _ (List.mem_of_getElem? (getD_of (L := L) (i := p.toNat) (by omega)))
          simp only [List.length_singleton]
          omega
theorem putE_2 (L : List (List EvL)) (p : Int) (e : EvL) : 0 ≤ (putE L p e).2 := by
  unfold putE
  split
  · exact (by decide : (0 : Int) ≤ 5)
  · split
    · exact chkE_2 e
    · split
      · exact (by decide : (0 : Int) ≤ 6)
      · exact Int.le_refl 0

theorem law_SourceSays_ok {parts part n : Int} {a : Option Addr} {m c : Nat} {l : List (Int × EvL)} {h : Hp} (S : SlP encP h a m l) : CallOK Try.prog 5 [vi parts, vsl a m c, vi part, vi n] h fun v h' => v = vb true ∧ h.le h' := by
  refine ok_law_SourceSays ?_
  unfold VC_law_SourceSays
  refine law_sources_ok fun h2 l2 => ⟨true, rfl, fun _ => ⟨rfl, l2⟩, fun q => ?_⟩
  have hm : m ≤ 150 := by simp [Bool.cond_eq_ite] at q; omega
  have hml := S.1
  refine source_New_ok (fun hp => ?_) fun hp1 hp2 g h6 F6 l6 nF6 D6 => ?_
  · refine ⟨_, _, rfl, fun _ => ?_, fun e => ?_⟩
    · exact law_same_ok (f := 1) (by decide) ⟨true, rfl, _, fun _ => rd_eqNilP (e := 159) (by kernel_rfl), rfl, l2⟩
    · exact absurd (by simp [Bool.cond_eq_ite] at e; omega) hp
  refine ⟨_, _, rfl, fun e => ?_, fun _ => ⟨_, fun _ => rd_eqNilP (e := 159) (by kernel_rfl), ?_⟩⟩
  · exfalso; simp [Bool.cond_eq_ite] at e; omega
  have ep : ((List.replicate parts.toNat ([] : List EvL)).length : Int) = parts := by rw [List.length_replicate]; omega
  refine ⟨fun x h' => h' = h6 ∧ x = .t (.one (.v (vi parts))), fun _ => source_Parts_ok D6 ⟨_, rfl, rfl, by rw [ep]⟩, fun e => absurd rfl e, ?_⟩
  rintro h19 x20 ⟨rfl, e⟩
  cases e
  refine ⟨fun e => by simp at e, fun _ => ?_⟩
  have en : parts = ((parts.toNat : Nat) : Int) := by omega
  have hmk : ∀ K, (∀ b, h19 b = none → K (vsl (some ⟨b, 0, none⟩) parts.toNat parts.toNat) (h19.set b (cellsO ((List.replicate parts.toNat [vsl none 0 0]).flatten) 72))) → SemOK Try.prog (Instr.makeSlice 63 (vi parts) (vi parts)) h19 K := by
    intro K hK
    rw [en]
    exact sem_make elTab (z := [vsl none 0 0]) (by kernel_rfl) (by omega) (by omega) hK
  refine hmk _ fun t2 ht2 => ⟨_, _, _, rfl, ?_⟩
  have DM := TabAt.new (enc := encE) (sz := 7) (e := 67) (T := 72) ht2 parts.toNat
  have hle := Hp.le_set (Hp.le_refl h19) ht2 (cellsO ((List.replicate parts.toNat [vsl none 0 0]).flatten) 72)
  have B0 : Both h2 (h19.set t2 (cellsO ((List.replicate parts.toNat [vsl none 0 0]).flatten) 72)) F6 (fun x => x = t2) (SrcAt g (List.replicate parts.toNat [])) (fun h F => EvT h F t2 (List.replicate parts.toNat [])) :=
    ⟨Hp.le_trans l6 hle, nF6, fun b hb => by subst hb; exact Hp.none_of_le l6 ht2, fun b hb hb' => by subst hb'; exact (fpSrc _ _).al D6 _ hb ht2, (fpSrc _ _).keep D6 fun b _ o ho => hle b o ho, DM⟩
  generalize h19.set t2 (cellsO ((List.replicate parts.toNat [vsl none 0 0]).flatten) 72) = h23 at *
  refine ⟨fun vs hh => ∃ (i : Nat) (F1 F2 : Nat → Prop) (L : List (List EvL)), vs = [vi i] ∧ i ≤ m ∧ (L.length : Int) = parts ∧ (∀ l ∈ L, l.length ≤ 40) ∧ Both h2 hh F1 F2 (SrcAt g L) (fun h F => EvT h F t2 L), fun vs hh => m - (vint vs 0).toNat,
    ⟨0, _, _, _, rfl, Nat.zero_le _, ep, by intro l hl; rw [List.eq_of_mem_replicate hl]; simp, B0⟩, ?_⟩
  rintro vs hh ⟨i, F1, F2, L, rfl, hi, hLp, hL4, B⟩
  have T2 : ∀ {p : Int}, 0 ≤ p → p < parts → (some ⟨t2, 0, none⟩ : Option Addr) = some ⟨t2, 0, none⟩ ∧ (0 : Int) ≤ p ∧ p < (parts.toNat : Nat) := fun h1 h2 => ⟨rfl, h1, by omega⟩
  refine ⟨i, rfl, fun q => ?_, fun q => ?_⟩
  · have hlt : i < m := by have := of_decide_eq_true q; omega
    have hx : l[i]? = some (l[i]'(by omega)) := List.getElem?_eq_getElem (by omega)
    generalize l[i]'(by omega) = y at *
    obtain ⟨p, e⟩ := y
    obtain ⟨b, o, ha, hc, hr⟩ := SlP.ev ((S.le l2).le B.le) hx
    have A : a = some ⟨b, o, none⟩ ∧ (0 : Int) ≤ i ∧ (i : Int) < (m : Nat) := ⟨ha, by omega, by omega⟩
    have rd : ∀ {h' : Hp}, h2.le h' → h'.row b (o + i * 8 + 1) 7 = some (encE e) := by
      intro h' hl'
      obtain ⟨b', o', ha', _, hr'⟩ := SlP.ev ((S.le l2).le hl') hx
      rw [ha] at ha'
      cases ha'
      exact hr'
    refine ⟨b, o, A, _, hc, b, o, A, _, _, _, _, _, _, _, hr, R_EventFault_ok (e := e) fun h46 l46 => ⟨_, rfl, b, o, A, _, _, _, _, _, _, _, Hp.row_le l46 hr, source_Check_ok (e := e) fun h58 l58 => ⟨_, rfl, law_same_ok (chkE_2 e) ⟨true, by rw [decide_eq_true rfl], fun e => (by cases e), fun _ => ?_⟩⟩⟩⟩
    have B58 := B.le_ (fpSrc _ _) (fpTab _ _) (Hp.le_trans l46 l58)
    intro J91
    have hJ : ∀ (h' : Hp) (F2 : Nat → Prop), Both h2 h' F1 F2 (SrcAt g L) (fun h F => EvT h F t2 (putE L p e).1) → J91 (putE L p e).2 h' := by
      intro h' G2 B'
      refine ⟨b, o, A, _, _, _, _, _, _, _, rd B'.le, source_Put_ok (e := e) B'.p hL4 fun h117 F117 D117 M117 => ⟨_, rfl, law_same_ok (putE_2 L p e) ⟨true, by rw [decide_eq_true rfl], fun e => (by cases e), fun _ => ?_⟩⟩⟩
      exact ⟨_, isW (by unfold InR; omega), ⟨i + 1, F117, G2, _, rfl, by omega, by rw [putE_len]; exact hLp, putE_40 hL4 p e, B'.left (fpTab _ _) D117 M117⟩, by simp [vint]; omega⟩
    clear_value J91
    have hJ0 : ∀ {f : Int}, putE L p e = (L, f) → J91 f h58 := by
      intro f hf
      have := hJ h58 F2 (by rw [hf]; exact B58)
      rw [hf] at this
      exact this
    refine ⟨fun q2 => hJ0 ?_, fun q2 => ?_⟩
    · unfold putE; rw [if_pos (by simp [Bool.cond_eq_ite] at q2; omega)]
    have hp : ¬ (p < 0 ∨ p ≥ L.length) := by simp [Bool.cond_eq_ite] at q2; omega
    have hpL : p.toNat < L.length := by omega
    have hLx := getD_of hpL
    obtain ⟨a1, c1, hcell, _⟩ := (B58.q : EvT _ _ _ _).cell hLx
    have hlen := hL4 _ (List.mem_of_getElem? hLx)
    refine ⟨t2, 0, fun _ => T2 (by omega) (by omega), _, _, _, fun _ => hcell, fun q3 => hJ0 ?_, fun q3 => ⟨fun q4 => ?_, fun q4 => hJ0 ?_⟩⟩
    · have h0 : chkE e = 0 ∧ (L.getD p.toNat []).length = 40 := by
        simp only [Bool.cond_eq_ite] at q3
        split at q3
        · rename_i h1; exact ⟨of_decide_eq_true h1, by have := of_decide_eq_true q3; omega⟩
        · cases q3
      unfold putE; rw [if_neg hp, if_neg (by simp [h0.1]), if_pos h0.2]
    · have h0 : chkE e = 0 := of_decide_eq_true q4
      have h40 : ¬ (L.getD p.toNat []).length = 40 := by
        rw [q4, cond_true] at q3
        have := of_decide_eq_false q3
        omega
      have eput : putE L p e = (L.set p.toNat (L.getD p.toNat [] ++ [e]), 0) := by unfold putE; rw [if_neg hp, if_neg (by simp [h0]), if_neg h40]
      refine ⟨t2, 0, T2 (by omega) (by omega), _, _, _, hcell, b, o, A, _, _, _, _, _, _, _, rd B58.le, fun b81 hb81 => ?_⟩
      refine (B58.q : EvT _ _ _ _).app elEv encE_len one_encE hLx (by omega) (by omega) hcell hb81 fun a' c' h84 hk hst => ⟨_, _, _, rfl, t2, 0, T2 (by omega) (by omega), hst _ fun h88 F88 D88 M88 => ?_⟩
      rw [h0]
      have := hJ h88 F88 (by rw [eput]; exact B58.right (fpSrc _ _) D88 M88)
      rw [eput] at this
      exact this
    · unfold putE; rw [if_neg hp, if_pos (by have := of_decide_eq_false q4; exact this)]
  · have eLn : parts.toNat = L.length := by omega
    have TR : TabR encE hh (some ⟨t2, 0, none⟩) parts.toNat L := by rw [eLn]; exact TabAt.r B.q
    have hgo : CallOK Try.prog 35 [vhp g 0] hh fun v154 h155 => ∃ (a156 : Option Addr) (n156 c156 : Nat), v154 = (vsl a156 n156 c156) ∧ (CallOK Try.prog 34 [(vsl a156 n156 c156), (vsl (some ⟨t2, 0, none⟩) parts.toNat parts.toNat)] h155 fun v157 h158 => ∃ (p159 : Bool), v157 = (vb p159) ∧ (vb p159 = vb true ∧ h.le h158)) :=
      source_All_ok B.p (fun l hl => Nat.le_trans (hL4 l hl) (by decide)) (by omega) fun a n c h155 l155 T155 => ⟨_, _, _, rfl, law_sameEvents_ok T155 (TR.le l155) (by omega) (fun l hl => Nat.le_trans (hL4 l hl) (by decide)) ⟨true, rfl, rfl, Hp.le_trans (Hp.le_trans l2 B.le) l155⟩⟩
    refine source_Get_ok B.p ?_
    by_cases hp : 0 ≤ part ∧ part < parts
    · have hpL : part.toNat < L.length := by omega
      have hLx := getD_of hpL
      obtain ⟨a1, c1, hcell, SL⟩ := (B.q : EvT _ _ _ _).cell hLx
      by_cases hn : 0 ≤ n ∧ n < (L.getD part.toNat []).length
      · have eg : getE L part n = ((L.getD part.toNat []).getD n.toNat (0, (0, 0), (0, 0), (0, 0)), true) := by unfold getE; rw [if_neg (by omega)]
        rw [eg]
        have hy : (L.getD part.toNat [])[n.toNat]? = some ((L.getD part.toNat []).getD n.toNat (0, (0, 0), (0, 0), (0, 0))) := by
          rw [List.getD_eq_getElem?_getD (l := L.getD part.toNat []), List.getElem?_eq_getElem (by omega)]; rfl
        obtain ⟨b, o, ha, hr⟩ := SL.get encE_len (by decide) hy
        generalize (L.getD part.toNat []).getD n.toNat (0, (0, 0), (0, 0), (0, 0)) = y at *
        refine ⟨_, _, _, _, _, _, _, _, rfl, t2, 0, fun _ => T2 hp.1 hp.2, _, _, _, fun _ => hcell, fun _ => ⟨t2, 0, fun _ => T2 hp.1 hp.2, _, _, _, fun _ => hcell, b, o, fun _ => ⟨ha, by omega, by omega⟩, _, _, _, _, _, _, _, fun _ => hr, _, fun _ => rd_neqE (a := y) (b := y), fun q => ?_, fun _ => hgo⟩, fun q => ?_⟩
        · simp at q
        · exfalso; simp [Bool.cond_eq_ite, hp, hn] at q
          simp only [List.getD_eq_getElem?_getD] at hn
          omega
      · have eg : getE L part n = ((0, (0, 0), (0, 0), (0, 0)), false) := by unfold getE; rw [if_pos (by omega)]
        rw [eg]
        refine ⟨_, _, _, _, _, _, _, _, rfl, t2, 0, fun _ => T2 hp.1 hp.2, _, _, _, fun _ => hcell, fun q => ?_, fun _ => ⟨_, fun _ => rd_neqE (a := (0, (0, 0), (0, 0), (0, 0))) (b := (0, (0, 0), (0, 0), (0, 0))), fun q => ?_, fun _ => hgo⟩⟩
        · exfalso; simp [Bool.cond_eq_ite] at q
          simp only [List.getD_eq_getElem?_getD] at hn
          omega
        · simp at q
    · have eg : getE L part n = ((0, (0, 0), (0, 0), (0, 0)), false) := by unfold getE; rw [if_pos (by omega)]
      rw [eg]
      have hc3 : (bif (bif (decide (part ≥ 0)) then (decide (part < parts)) else false) then (decide (n ≥ 0)) else false) = false := by
        have : (bif (decide (part ≥ 0)) then (decide (part < parts)) else false) = false := by
          simp [Bool.cond_eq_ite]; omega
        rw [this]; rfl
      refine ⟨_, _, _, _, _, _, _, _, rfl, 0, 0, fun q => ?_, none, 0, 0, fun q => ?_, fun q => ?_, fun _ => ⟨_, fun _ => rd_neqE (a := (0, (0, 0), (0, 0), (0, 0))) (b := (0, (0, 0), (0, 0), (0, 0))), fun q => ?_, fun _ => hgo⟩⟩
      · rw [hc3] at q; cases q
      · rw [hc3] at q; cases q
      · rw [hc3] at q; cases q
      · simp at q
end Go.Proofs.Ytdkgmpchcahajaa
