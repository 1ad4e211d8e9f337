/-
  Contracts: expressions, as the document has them. Conditions: those stated at each.
-/
import Derived.Test.YtgonnpleihbklaaFRExp
import Derived.Test.YtgonnpleihbklaaLNod2
import Derived.Test.YtgonnpleihbklaaCRVal
namespace Go.Proofs.Ytgonnpleihbklaa
open Go Go.Vc
set_option linter.unusedVariables false
set_option maxRecDepth 100000

def encN (n : Nd) : List Value := [vi n.op, vi n.x, vi n.y, vi n.n, vi n.v.1, vi n.v.2]
theorem encN_len (n : Nd) : (encN n).length = 6 := rfl
theorem one_encN (n : Nd) : ∀ u ∈ encN n, u.oneCell' = true := by
  intro u hu
  simp [encN] at hu
  rcases hu with rfl | rfl | rfl | rfl | rfl | rfl <;> rfl
theorem one_nds (l : List Nd) : ∀ u ∈ l.flatMap encN, u.oneCell' = true := by
  intro u hu
  obtain ⟨v, _, hv⟩ := List.mem_flatMap.1 hu
  exact one_encN v u hv
theorem elNd : ElT Try.prog 39 106 6 48 := .of (by kernel_rfl) (by kernel_rfl) (by decide)
theorem R_Arity_ok {op : Int} {h : Hp} {R : Value → Hp → Prop} (hK : R (vi (arI op)) h) : CallOK Try.prog 46 [vi op] h R := by
  refine ok_R_Arity ?_
  unfold VC_R_Arity
  unfold arI at hK
  refine ⟨fun e => ?_, fun e => ⟨fun e2 => ?_, fun e2 => ⟨fun e3 => ?_, fun e3 => ?_⟩⟩⟩
  · rw [if_pos (by simp [Bool.cond_eq_ite] at e; omega)] at hK; exact hK
  · rw [if_neg (by simp [Bool.cond_eq_ite] at e; omega), if_pos (by simp [Bool.cond_eq_ite] at e2; omega)] at hK; exact hK
  · rw [if_neg (by simp [Bool.cond_eq_ite] at e; omega), if_neg (by simp [Bool.cond_eq_ite] at e2; omega), if_pos (by simp [Bool.cond_eq_ite] at e3; omega)] at hK; exact hK
  · rw [if_neg (by simp [Bool.cond_eq_ite] at e; omega), if_neg (by simp [Bool.cond_eq_ite] at e2; omega), if_neg (by simp [Bool.cond_eq_ite] at e3; omega)] at hK; exact hK
theorem ne_pair (v : Int × Int) : (v ≠ (0, 0)) = (v.1 ≠ 0 ∨ v.2 ≠ 0) := by
  refine propext ⟨fun h => ?_, fun h e => ?_⟩
  · by_cases h1 : v.1 = 0
    · by_cases h2 : v.2 = 0
      · exact absurd (Prod.ext h1 h2) h
      · exact .inr h2
    · exact .inl h1
  · rw [e] at h; simp at h
/-- A node takes its own: what is left, and what it took. -/
theorem popN_some {n : Nd} {st s : List Int} (ha : 0 ≤ arI n.op) (h : popN n st = some s) : (s.length : Int) = st.length - arI n.op ∧ st.reverse.take s.length = s.reverse := by
  unfold popN at h
  rcases arI_range ha with h1 | h1 | h1
  · rw [if_pos h1] at h
    cases h
    refine ⟨by omega, ?_⟩
    rw [List.take_of_length_le (by simp)]
  · rw [if_neg (by omega), if_pos h1] at h
    match st, h with
    | a :: t, h =>
      simp only at h
      split at h
      · cases h
        refine ⟨by simp; omega, ?_⟩
        rw [List.reverse_cons, List.take_left' (by simp)]
      · cases h
  · rw [if_neg (by omega), if_neg (by omega)] at h
    match st, h with
    | b :: a :: t, h =>
      simp only at h
      split at h
      · cases h
        refine ⟨by simp; omega, ?_⟩
        rw [List.reverse_cons, List.reverse_cons, List.append_assoc, List.take_left' (by simp)]
      · cases h
theorem chk_none {n : Nd} {l : List Nd} {st : List Int} {i : Nat} (h0 : nodeF n = 0) (h : popN n st = none) : chkGo st i (n :: l) = 3 := by
  rw [chkGo, if_neg (fun q => q h0), h]
theorem chk_some {n : Nd} {l : List Nd} {st s : List Int} {i : Nat} (h0 : nodeF n = 0) (h : popN n st = some s) : chkGo st i (n :: l) = chkGo (i :: s) (i + 1) l := by
  rw [chkGo, if_neg (fun q => q h0), h]
theorem chk_fault {n : Nd} {l : List Nd} {st : List Int} {i : Nat} {f : Int} (h0 : nodeF n = f) (hf : f ≠ 0) : chkGo st i (n :: l) = f := by
  rw [chkGo, if_pos (by rw [h0]; exact hf), h0]
theorem R_ExprFault_ok {a : Option Addr} {k c : Nat} {l : List Nd} {h : Hp} {R : Value → Hp → Prop} (S : SlP encN h a k l) (hK : ∀ h', h.le h' → R (vi (exprF l)) h') : CallOK Try.prog 16 [vsl a k c] h R := by
  refine ok_R_ExprFault ?_
  unfold VC_R_ExprFault
  have hk := S.1
  subst hk
  refine ⟨fun e => ?_, fun e => ?_⟩
  · have : exprF l = 2 := by unfold exprF; rw [if_pos (by have := of_decide_eq_true e; omega)]
    rw [this] at hK; exact hK h (Hp.le_refl h)
  have h40 : l.length ≤ 40 := by have := of_decide_eq_false e; omega
  have e1 : exprF l = chkGo [] 0 l := by unfold exprF; rw [if_neg (by omega)]
  rw [e1] at hK
  refine ⟨fun vs hh => ∃ (i : Nat) (a : Option Addr) (c : Nat) (st : List Int), vs = [vsl a st.length c, vi i] ∧ i ≤ l.length ∧ st.length ≤ i ∧ chkGo [] 0 l = chkGo st i (l.drop i) ∧ Own h hh 3 1 a st.length c (st.reverse.map vi), fun vs hh => l.length - (vint vs 1).toNat,
    ⟨0, none, 0, [], rfl, Nat.zero_le _, Nat.le_refl _, rfl, Own.nil (Hp.le_refl h) _ _⟩, ?_⟩
  rintro vs hh ⟨i, a1, c1, st, rfl, hi, hst, hc, O⟩
  refine ⟨_, _, _, _, rfl, fun q => ?_, fun q => ?_⟩
  · have hlt : i < l.length := by have := of_decide_eq_true q; omega
    have hx : l[i]? = some l[i] := List.getElem?_eq_getElem hlt
    rw [drop_get hlt] at hc
    obtain ⟨b, o, ha, hr⟩ := (S.le O.le).get encN_len (by decide) hx
    generalize l[i] = n at *
    refine ⟨b, o, ⟨ha, by omega, by omega⟩, _, _, _, _, _, _, hr, R_Arity_ok ⟨_, rfl, fun q2 => ?_, fun q2 => ⟨fun q3 => ?_, fun q3 => ⟨fun q4 => ?_, fun q4 => R_ValueFault_ok (v := n.v) ⟨_, rfl, fun q5 => ?_, fun q5 => ?_⟩⟩⟩⟩⟩
    · have hf : nodeF n = 3 := by unfold nodeF; rw [if_pos (of_decide_eq_true q2)]
      rw [chk_fault hf (by decide)] at hc
      rw [hc] at hK; exact hK hh O.le
    · have c2 : ¬ arI n.op < 0 := of_decide_eq_false q2
      simp only [cand, cor] at q3
      have c3 := of_decide_eq_true q3
      have hf : nodeF n = 3 := by unfold nodeF; rw [if_neg c2, if_pos (by rw [ne_pair]; omega)]
      rw [chk_fault hf (by decide)] at hc
      rw [hc] at hK; exact hK hh O.le
    · have c2 : ¬ arI n.op < 0 := of_decide_eq_false q2
      simp only [cand, cor] at q3 q4
      have c3 := of_decide_eq_false q3
      have c4 := of_decide_eq_true q4
      have hf : nodeF n = 1 := by unfold nodeF; rw [if_neg c2, if_neg (by rw [ne_pair]; omega), if_pos (by omega)]
      rw [chk_fault hf (by decide)] at hc
      rw [hc] at hK; exact hK hh O.le
    · have c2 : ¬ arI n.op < 0 := of_decide_eq_false q2
      simp only [cand, cor] at q3 q4
      have c3 := of_decide_eq_false q3
      have c4 := of_decide_eq_false q4
      have hf : nodeF n = 3 := by
        unfold nodeF; rw [if_neg c2, if_neg (by rw [ne_pair]; omega), if_neg (by omega), if_pos]
        intro hg
        rw [if_pos hg] at q5
        cases q5
      rw [chk_fault hf (by decide)] at hc
      rw [hc] at hK; exact hK hh O.le
    have c2 : ¬ arI n.op < 0 := of_decide_eq_false q2
    simp only [cand, cor] at q3 q4
    have c3 := of_decide_eq_false q3
    have c4 := of_decide_eq_false q4
    have hf : nodeF n = 0 := by
      unfold nodeF; rw [if_neg c2, if_neg (by rw [ne_pair]; omega), if_neg (by omega), if_neg]
      intro hg
      rw [if_neg hg] at q5
      cases q5
    have har : 0 ≤ arI n.op := by omega
    have SI : SlI hh a1 st.length st.reverse := by have := O.sli; exact this
    refine ⟨_, isW (by unfold InR; rcases arI_range har with h | h | h <;> omega), ?_⟩
    have hbad : popN n st = none → R (vi 3) hh := fun hp => by
      rw [chk_none hf hp] at hc
      rw [hc] at hK; exact hK hh O.le
    have hgood : ∀ s, popN n st = some s → ∀ x : Int, x = (st.length : Nat) - arI n.op → ∀ K : Value → Hp → Prop, (∀ (a46 : Option Addr) (n46 c46 : Nat) (h45 : Hp), Own h h45 3 1 a46 n46 c46 ((((i : Int) :: s).reverse).map vi) → n46 = s.length + 1 → K (vsl a46 n46 c46) h45) →
        ∃ (a38 : Option Addr) (n38 c38 : Nat), (Rd Try.prog (Instr.sliceAt 53 (vsl a1 st.length c1) none (some (vi x)) none) hh (vsl a38 n38 c38)) ∧ (SemOK Try.prog (Builtin.append_ #[53, 53] 53 #[(vsl none 0 0), (vsl a38 n38 c38)]) hh fun v39 h40 => ∃ (a41 : Option Addr) (n41 c41 : Nat), v39 = (vsl a41 n41 c41) ∧ (∀ (b42 : Nat), h40 b42 = none → SemOK Try.prog (Builtin.append_ #[53, 53] 53 #[(vsl a41 n41 c41), (vsl (some (⟨b42, 0, none⟩ : Addr)) 1 1)]) (Hp.set h40 b42 (cellsO [(vi i)] 3)) K)) := by
      intro s hs x hx K hK
      rw [hx]
      obtain ⟨p1, p2⟩ := popN_some har hs
      have hcap := O.own.cap
      rw [← p1]
      refine ⟨_, _, _, rd_slice_h (e := 3) (by kernel_rfl) (by kernel_rfl) (by omega) (by omega), ?_⟩
      rw [Int.toNat_natCast]
      have ST : SlI hh a1 s.length s.reverse := by
        have := SI.take (i := s.length) (by omega)
        rw [p2] at this
        exact this
      refine Own.append elInt (Own.nil O.le _ _) ST.2 (m := s.length) (by simp) (one_ints _) (by omega) (by omega) fun a' c' h' O' _ _ => ⟨_, _, _, rfl, fun b42 hb42 => ?_⟩
      rw [Nat.zero_add, List.nil_append] at *
      refine Own.append elInt (Own.set hb42 _ O') (HasRow.new _ _ [vi i] _) (m := 1) rfl (by simp [Value.oneCell']) (by omega) (by omega) fun a2 c2 h2 O2 _ _ => hK _ _ _ _ ?_ rfl
      rw [List.reverse_cons, List.map_append]
      exact O2
    have hnext : ∀ s, popN n st = some s → ∀ (a46 : Option Addr) (n46 c46 : Nat) (h45 : Hp), Own h h45 3 1 a46 n46 c46 ((((i : Int) :: s).reverse).map vi) → n46 = s.length + 1 → ∃ (x48 : Int), IsW x48 ((i : Int) + 1) ∧ (∃ (i' : Nat) (a : Option Addr) (c : Nat) (st : List Int), [vsl a46 n46 c46, vi x48] = [vsl a st.length c, vi i'] ∧ i' ≤ l.length ∧ st.length ≤ i' ∧ chkGo [] 0 l = chkGo st i' (l.drop i') ∧ Own h h45 3 1 a st.length c (st.reverse.map vi)) ∧ l.length - (vint [vsl a46 n46 c46, vi x48] 1).toNat < l.length - (vint [vsl a1 st.length c1, vi i] 1).toNat := by
      intro s hs a46 n46 c46 h45 O45 hn
      subst hn
      obtain ⟨p1, p2⟩ := popN_some har hs
      refine ⟨_, isW (by unfold InR; omega), ⟨i + 1, a46, c46, (i : Int) :: s, rfl, by omega, by simp; omega, ?_, O45⟩, by simp [vint]; omega⟩
      rw [hc, chk_some hf hs]
    rcases arI_range har with h0 | h0 | h0
    · have hs : popN n st = some st := by unfold popN; rw [if_pos h0]
      rw [h0]
      refine ⟨0, 0, fun g => (by cases g.2), 0, fun g => (by cases g.2), 0, fun g => (by cases g.2), 0, 0, fun g => (by cases g.2), 0, fun g => (by cases g.2), fun g => ?_, fun _ => hgood st hs _ (by rw [h0]) _ fun a46 n46 c46 h45 O e => ⟨_, _, _, rfl, hnext st hs a46 n46 c46 h45 O e⟩⟩
      exfalso
      simp only [cand, cor] at g
      have := of_decide_eq_true g
      omega
    · match st with
      | [] =>
        have hs : popN n [] = none := by unfold popN; rw [if_neg (by omega), if_pos h0]
        have := hbad hs
        rw [h0]
        exact ⟨0, 0, fun g => (by cases g.1), 0, fun g => (by cases g.1), 0, fun g => (by cases g.1), 0, 0, fun g => (by cases g.1), 0, fun g => (by cases g.1), fun _ => this, fun g => (by cases g)⟩
      | z :: s =>
        obtain ⟨q, p, hq, hcell⟩ := SI.get (i := s.length) (by simp)
        have ez : ((z :: s).reverse).getD s.length 0 = z := by
          rw [List.getD_eq_getElem?_getD, List.reverse_cons, List.getElem?_append_right (by simp)]
          simp
        rw [ez] at hcell
        have hx29 : (((z :: s).length : Nat) : Int) - arI n.op = (s.length : Nat) := by rw [h0]; simp
        by_cases hz : z = n.x
        · have hs : popN n (z :: s) = some s := by unfold popN; rw [if_neg (by omega), if_pos h0]; simp [hz]
          have hx30 := hx29
          rw [hx29, h0]
          refine ⟨q, p, fun g => ⟨hq, by omega, by simp; omega⟩, z, fun g => hcell, 0, fun g => (by cases g.2), 0, 0, fun g => (by cases g.2), 0, fun g => (by cases g.2), fun g => ?_, fun _ => hgood s hs _ hx30.symm _ fun a46 n46 c46 h45 O e => ⟨_, _, _, rfl, hnext s hs a46 n46 c46 h45 O e⟩⟩
          exfalso
          simp only [cand, cor] at g
          have := of_decide_eq_true g
          omega
        · have hs : popN n (z :: s) = none := by unfold popN; rw [if_neg (by omega), if_pos h0]; simp [hz]
          have := hbad hs
          rw [hx29, h0]
          refine ⟨q, p, fun g => ⟨hq, by omega, by simp; omega⟩, z, fun g => hcell, 0, fun g => (by cases g.2), 0, 0, fun g => (by cases g.2), 0, fun g => (by cases g.2), fun _ => this, fun g => ?_⟩
          exfalso
          simp only [cand, cor] at g
          have := of_decide_eq_false g
          omega
    · match st with
      | [] =>
        have hs : popN n [] = none := by unfold popN; rw [if_neg (by omega), if_neg (by omega)]
        have := hbad hs
        rw [h0]
        exact ⟨0, 0, fun g => (by cases g.1), 0, fun g => (by cases g.1), 0, fun g => (by cases g.1), 0, 0, fun g => (by cases g.1), 0, fun g => (by cases g.1), fun _ => this, fun g => (by cases g)⟩
      | [z] =>
        have hs : popN n [z] = none := by unfold popN; rw [if_neg (by omega), if_neg (by omega)]
        have := hbad hs
        rw [h0]
        exact ⟨0, 0, fun g => (by cases g.1), 0, fun g => (by cases g.1), 0, fun g => (by cases g.1), 0, 0, fun g => (by cases g.1), 0, fun g => (by cases g.1), fun _ => this, fun g => (by cases g)⟩
      | z :: y :: s =>
        obtain ⟨q, p, hq, hcell⟩ := SI.get (i := s.length) (by simp; omega)
        obtain ⟨q', p', hq', hcell'⟩ := SI.get (i := s.length + 1) (by simp)
        have ey : ((z :: y :: s).reverse).getD s.length 0 = y := by
          rw [List.getD_eq_getElem?_getD, List.reverse_cons, List.reverse_cons, List.append_assoc, List.getElem?_append_right (by simp)]
          simp
        have ez : ((z :: y :: s).reverse).getD (s.length + 1) 0 = z := by
          rw [List.getD_eq_getElem?_getD, List.reverse_cons, List.reverse_cons, List.append_assoc, List.getElem?_append_right (by simp)]
          simp
        rw [ey] at hcell
        rw [ez] at hcell'
        have hx29 : (((z :: y :: s).length : Nat) : Int) - arI n.op = (s.length : Nat) := by rw [h0]; simp; omega
        have hw : IsW (((s.length + 1 : Nat) : Int)) ((s.length : Nat) + 1) := isW (by have hst2 : (z :: y :: s).length ≤ i := hst; simp at hst2; unfold InR; omega)
        by_cases hz : y = n.x ∧ z = n.y
        · have hs : popN n (z :: y :: s) = some s := by unfold popN; rw [if_neg (by omega), if_neg (by omega)]; simp [hz.1, hz.2]
          have hx30 := hx29
          rw [hx29, h0]
          refine ⟨q, p, fun g => ⟨hq, by omega, by simp; omega⟩, y, fun g => hcell, ((s.length + 1 : Nat) : Int), fun g => hw, q', p', fun g => ⟨hq', by omega, by simp; omega⟩, z, fun g => hcell', fun g => ?_, fun _ => hgood s hs _ hx30.symm _ fun a46 n46 c46 h45 O e => ⟨_, _, _, rfl, hnext s hs a46 n46 c46 h45 O e⟩⟩
          exfalso
          simp only [cand, cor] at g
          have := of_decide_eq_true g
          omega
        · have hs : popN n (z :: y :: s) = none := by unfold popN; rw [if_neg (by omega), if_neg (by omega)]; simp; intro h1 h2; exact hz ⟨h1, h2⟩
          have := hbad hs
          rw [hx29, h0]
          refine ⟨q, p, fun g => ⟨hq, by omega, by simp; omega⟩, y, fun g => hcell, ((s.length + 1 : Nat) : Int), fun g => hw, q', p', fun g => ⟨hq', by omega, by simp; omega⟩, z, fun g => hcell', fun _ => this, fun g => ?_⟩
          exfalso
          simp only [cand, cor] at g
          have := of_decide_eq_false g
          omega
  · have hge : i = l.length := by have := of_decide_eq_false q; omega
    subst hge
    rw [List.drop_eq_nil_of_le (Nat.le_refl _), chkGo] at hc
    refine ⟨fun q2 => ?_, fun q2 => ?_⟩
    · rw [if_neg (by have := of_decide_eq_true q2; omega)] at hc
      rw [hc] at hK; exact hK hh O.le
    · rw [if_pos (by have := of_decide_eq_false q2; omega)] at hc
      rw [hc] at hK; exact hK hh O.le
end Go.Proofs.Ytgonnpleihbklaa
