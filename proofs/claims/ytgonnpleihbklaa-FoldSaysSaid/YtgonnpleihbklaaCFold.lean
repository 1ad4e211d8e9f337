/-
  Contracts: package fold. Conditions: those stated at each.
-/
import Derived.Test.YtgonnpleihbklaaFFold
import Derived.Test.YtgonnpleihbklaaCExp3
import Derived.Test.YtgonnpleihbklaaLFold5
import Derived.Test.YtgonnpleihbklaaVcY
namespace Go.Proofs.Ytgonnpleihbklaa
open Go Go.Vc
set_option linter.unusedVariables false
set_option maxRecDepth 100000

/-- A list of nodes, with room for them. -/
structure NS (h : Hp) (a : Option Addr) (n c : Nat) (l : List Nd) : Prop where
  s : SlP encN h a n l
  c : n ≤ c
theorem NS.le {h h' : Hp} {a : Option Addr} {n c : Nat} {l : List Nd} (S : NS h a n c l) (hl : h.le h') : NS h' a n c l := ⟨S.s.le hl, S.c⟩
theorem NS.of {h h' : Hp} {a : Option Addr} {c : Nat} {l : List Nd} (V : NdVec h h' a c l) : NS h' a l.length c l := ⟨V.slp encN_len (by decide), V.own.cap⟩
section
variable {a : Option Addr} {m c : Nat} {l : List Nd} {h : Hp}
theorem fold_constant_ok (S : SlP encN h a m l) {R : Value → Hp → Prop} (hY : ∀ n, l = [n] → n.op = 1 → R (vtup [vag (encV n.v), vb true]) h) (hN : R (vtup [vag (encV (0, 0)), vb false]) h) : CallOK Try.prog 70 [vsl a m c] h R := by
  refine ok_fold_constant ?_
  unfold VC_fold_constant
  obtain rfl := S.1
  by_cases h1 : l.length = 1
  · obtain ⟨n, rfl⟩ : ∃ n, l = [n] := by
      match l, h1 with
      | [n], _ => exact ⟨n, rfl⟩
    obtain ⟨b, o, ha, hr⟩ := S.get encN_len (by decide) (i := 0) rfl
    have A : a = some ⟨b, o, none⟩ ∧ (0 : Int) ≤ 0 ∧ (0 : Int) < (([n] : List Nd).length : Nat) := ⟨ha, by decide, by simp⟩
    refine ⟨b, o, fun _ => A, n.op, fun _ => Hp.row_cell hr (i := 0) rfl, fun g => ?_, fun g => hN⟩
    rw [cand] at g
    have g := of_decide_eq_true g
    refine ⟨b, o, A, _, _, ?_, hY n rfl g.2⟩
    exact Hp.row_sub hr (i := 4) (k := 2) (by decide)
  · have e : decide (((l.length : Nat) : Int) = 1) = false := decide_eq_false (by omega)
    refine ⟨0, 0, fun g => ?_, 0, fun g => ?_, fun g => ?_, fun _ => hN⟩
    · rw [e] at g; cases g
    · rw [e] at g; cases g
    · rw [e] at g; cases g
theorem fold_of_ok {v : Int × Int} {R : Value → Hp → Prop} (hK : ∀ a' c' h', h.le h' → NS h' a' 1 c' (cst v) → R (vsl a' 1 c') h') : CallOK Try.prog 71 [vag (encV v)] h R := by
  refine ok_fold_of ?_
  unfold VC_fold_of
  intro b1 hb1 h2
  exact hK _ _ h2 (Hp.le_set (Hp.le_refl h) hb1 _) ⟨⟨rfl, HasRow.new _ _ ((cst v).flatMap encN) _⟩, Nat.le_refl _⟩
theorem errV_noneF {f : Int} (x : Int) (k : Int) : (bif (errV f).isNone then decide (x ≠ k) else false) = decide (f = 0 ∧ x ≠ k) := by
  rw [errV_none, cand]
theorem fold_truths_ok (S : SlP encN h a m l) (O : OkE l) (hm : l.length ≤ 1000000) {R : Value → Hp → Prop} (hK : ∀ h', h.le h' → R (vb (decide ((typE l).2 = 0 ∧ (typE l).1 ≠ 1))) h') : CallOK Try.prog 74 [vsl a m c] h R := by
  refine ok_fold_truths ?_
  unfold VC_fold_truths
  refine expr_Type_ok S O hm fun h' l' => ⟨_, _, rfl, ?_⟩
  rw [errV_noneF]
  exact hK h' l'
theorem fold_numbers_ok (S : SlP encN h a m l) (O : OkE l) (hm : l.length ≤ 1000000) {R : Value → Hp → Prop} (hK : ∀ h', h.le h' → R (vb (decide ((typE l).2 = 0 ∧ (typE l).1 ≠ 2))) h') : CallOK Try.prog 76 [vsl a m c] h R := by
  refine ok_fold_numbers ?_
  unfold VC_fold_numbers
  refine expr_Type_ok S O hm fun h' l' => ⟨_, _, rfl, ?_⟩
  rw [errV_noneF]
  exact hK h' l'
/-- What a node with one gives. -/
theorem fold_single_ok {op : Int} (ho : arI op = 1) (S : NS h a m c l) {P : EvL → Int × Int} {T : Option Int} {k : Nat} (A : Rep P T k l) (hk : k ≤ 1000000) {R : Value → Hp → Prop}
    (hK : ∀ a' n' c' h' z, h.le h' → NS h' a' n' c' z → Rep (fun e => opV op (P e) (P e)) (tyG op T T) (k + 1) z → R (vsl a' n' c') h') : CallOK Try.prog 49 [vi op, vsl a m c] h R := by
  refine ok_fold_single ?_
  unfold VC_fold_single
  have hm := S.s.1
  subst hm
  have hl := A.len
  have hp := A.pos
  have ar := ar0 (op := op) (by omega)
  have WN : WfL ([] : List Nd) := okE_nil_wf
  have J := A.join1 ho
  have join : ∀ h', h.le h' → CallOK Try.prog 73 [vi op, vsl a l.length c, vsl none 0 0] h' fun v64 h64 => ∃ (a65 : Option Addr) (n65 c65 : Nat), v64 = vsl a65 n65 c65 ∧ R (vsl a65 n65 c65) h64 := fun h' l' =>
    expr_Join_ok (S.s.le l') (⟨rfl, .inl rfl⟩ : SlP encN h' none 0 []) WN (by omega) (by simp) fun a' c' h'' V => ⟨_, _, _, rfl, hK _ _ _ _ _ (Hp.le_trans l' V.le0) (NS.of V) J⟩
  refine fold_constant_ok S.s (fun n hn h1 => ⟨_, _, true, rfl, fun _ => ?_, fun g => by cases g⟩) ⟨_, _, false, rfl, fun g => by (cases g), fun _ => ?_⟩
  · subst hn
    have hn0 := A.ok.n n (List.mem_singleton.2 rfl)
    have hc := cst_of hn0 h1
    rw [hc] at A J
    refine fold_of_ok (v := n.v) fun a8 c8 h7 l7 S8 => ⟨_, _, _, rfl, ?_⟩
    refine expr_Join_ok S8.s (⟨rfl, .inl rfl⟩ : SlP encN h7 none 0 []) WN (by simp) (by simp) fun a11 c11 h10 V => ⟨_, _, _, rfl, ?_⟩
    have hjl : (joinL op (cst n.v) []).length = 2 := joinL_length _ _ _
    refine expr_Eval_ok (e := ev0) (V.slp encN_len (by decide)) J.ok.wf (by omega) (by omega) fun h13 l13 => ⟨_, _, rfl, ?_⟩
    have ev : valE ev0 (joinL op (cst n.v) []) = opV op n.v n.v := by
      rw [J.val ev0 ev0_ok, A.cst_val ev0 ev0_ok]
    rw [ev]
    refine fold_of_ok (v := opV op n.v n.v) fun a18 c18 h17 l17 S18 => ⟨_, _, _, rfl, hK _ _ _ _ _ (Hp.le_trans (Hp.le_trans (Hp.le_trans l7 V.le0) l13) l17) S18 ?_⟩
    have og := opV_good (op := op) (by omega) n.v n.v
    refine Rep.cst og.1 (by omega) (fun e E => ?_) fun t ht => ?_
    · rw [A.cst_val e E]
    · rw [tyG_out ht]; exact og.2
  · have hx : l[l.length - 1]? = some (l[l.length - 1]'(by omega)) := List.getElem?_eq_getElem (by omega)
    obtain ⟨b, o, ha, hr⟩ := S.s.get encN_len (by decide) hx
    generalize l[l.length - 1]'(by omega) = n at *
    refine ⟨_, isW (by unfold InR; omega), b, o, ⟨ha, by omega, by omega⟩, n.op, n.x, n.y, n.n, n.v.1, n.v.2, ?_, ?_⟩
    · rw [show (((l.length : Nat) : Int) - 1).toNat = l.length - 1 by omega]
      exact hr
    have cut : ∀ (h' : Hp), h.le h' → arI n.op = 1 → ∀ (K : Value → Hp → Prop), (∀ a' n' c' h'', h'.le h'' → NS h'' a' n' c' (cutL l 0 (l.length - 1)) → K (vsl a' n' c') h'') → CallOK Try.prog 75 [vsl a l.length c, vi n.x] h' K := by
      intro h' l' h1 K hK
      obtain ⟨hl2, hnx, B, OC, _⟩ := below A.ok hx h1
      have e1 : l.length - 1 = (l.length - 2) + 1 := by omega
      rw [e1] at B hK
      exact expr_Cut_ok (S.s.le l') S.c A.ok.wf (by omega) B (by omega) fun a' c' h'' V => hK _ _ _ _ V.le0 (NS.of V)
    have lc : arI n.op = 1 → OkE (cutL l 0 (l.length - 1)) ∧ (cutL l 0 (l.length - 1)).length ≤ 1000000 := by
      intro h1
      obtain ⟨hl2, hnx, B, OC, _⟩ := below A.ok hx h1
      exact ⟨OC, by rw [cutL_length B]; omega⟩
    -- what is known of the first test
    refine ⟨fun x h' => h.le h' ∧ ∃ a' n' c', x = .t (.one (.v (vsl a' n' c'))) ∧ ((op = 4 ∧ n.op = 4) → NS h' a' n' c' (cutL l 0 (l.length - 1))), fun g => ?_, fun g => ?_, ?_⟩
    · rw [cand] at g
      have g := of_decide_eq_true g
      exact cut h (Hp.le_refl h) (by rw [g.2]; decide) _ fun a' n' c' h'' l'' S' => ⟨_, _, _, rfl, l'', _, _, _, rfl, fun _ => S'⟩
    · rw [cand] at g
      exact ⟨Hp.le_refl h, none, 0, 0, rfl, fun q => absurd (decide_eq_true q) g⟩
    rintro h33 a34 n34 c34 ⟨l33, a', n', c', e, S33⟩
    cases e
    refine ⟨fun x h' => h.le h' ∧ ∃ p, x = .t (.one (.v (vb p))) ∧ ((op = 4 ∧ n.op = 4) → p = decide ((typE (cutL l 0 (l.length - 1))).2 = 0 ∧ (typE (cutL l 0 (l.length - 1))).1 ≠ 1)), fun g => ?_, fun g => ?_, ?_⟩
    · rw [cand] at g
      have g := of_decide_eq_true g
      obtain ⟨OC, hC⟩ := lc (by rw [g.2]; decide)
      exact fold_truths_ok (S33 g).s OC hC fun h' l' => ⟨_, rfl, Hp.le_trans l33 l', _, rfl, fun _ => rfl⟩
    · rw [cand] at g
      exact ⟨l33, false, rfl, fun q => absurd (decide_eq_true q) g⟩
    rintro h39 p40 ⟨l39, p, e, hp40⟩
    cases e
    intro J55
    have yes : ∀ h', h.le h' → ((op = 4 ∧ n.op = 4 ∧ (typE (cutL l 0 (l.length - 1))).2 = 0 ∧ (typE (cutL l 0 (l.length - 1))).1 ≠ 1) ∨ (op = 3 ∧ n.op = 3 ∧ (typE (cutL l 0 (l.length - 1))).2 = 0 ∧ (typE (cutL l 0 (l.length - 1))).1 ≠ 2)) → J55 true h' := by
      intro h' l' hc
      have eop : n.op = op := by omega
      refine ⟨fun _ => ?_, fun g => by cases g⟩
      refine cut h' l' (by rw [eop]; exact ho) _ fun a' n' c' h'' l'' S' => ⟨_, _, _, rfl, hK _ _ _ _ _ (Hp.le_trans l' l'') S' ?_⟩
      have := A.twice hx (by omega) (by omega)
      rw [eop] at this
      exact this
    have no : ∀ h', h.le h' → J55 false h' := fun h' l' => ⟨fun g => by (cases g), fun _ => join h' l'⟩
    clear_value J55
    rw [cand]
    by_cases hc : op = 4 ∧ n.op = 4
    · have hp := hp40 hc
      subst hp
      have e1 : decide (op = 4 ∧ n.op = 4) = true := decide_eq_true hc
      rw [e1]
      by_cases ht : (typE (cutL l 0 (l.length - 1))).2 = 0 ∧ (typE (cutL l 0 (l.length - 1))).1 ≠ 1
      · rw [decide_eq_true ht]
        exact ⟨fun _ => yes _ l39 (by omega), fun g => by cases g⟩
      · rw [decide_eq_false ht]
        refine ⟨fun g => by (cases g), fun _ => ?_⟩
        have n3 : (bif decide (op = 3) then decide (n.op = 3) else false) = false := by rw [cand]; exact decide_eq_false (by omega)
        rw [n3]
        refine ⟨fun x h' => h' = h39 ∧ x = .t (.one (.v (vsl none 0 0))), fun g => by (cases g), fun _ => ⟨rfl, rfl⟩, ?_⟩
        rintro h46 a47 n47 c47 ⟨rfl, e⟩
        cases e
        refine ⟨fun x h' => h' = h46 ∧ x = .t (.one (.v (vb false))), fun g => by (cases g), fun _ => ⟨rfl, rfl⟩, ?_⟩
        rintro h52 p53 ⟨rfl, e⟩
        cases e
        exact no _ l39
    · have e1 : decide (op = 4 ∧ n.op = 4) = false := decide_eq_false hc
      rw [e1]
      refine ⟨fun g => by (cases g), fun _ => ?_⟩
      rw [cand]
      refine ⟨fun x h' => h.le h' ∧ ∃ a' n' c', x = .t (.one (.v (vsl a' n' c'))) ∧ ((op = 3 ∧ n.op = 3) → NS h' a' n' c' (cutL l 0 (l.length - 1))), fun g => ?_, fun g => ?_, ?_⟩
      · have g := of_decide_eq_true g
        exact cut _ l39 (by rw [g.2]; decide) _ fun a' n' c' h'' l'' S' => ⟨_, _, _, rfl, Hp.le_trans l39 l'', _, _, _, rfl, fun _ => S'⟩
      · exact ⟨l39, none, 0, 0, rfl, fun q => absurd (decide_eq_true q) g⟩
      rintro h46 a47 n47 c47 ⟨l46, a', n', c', e, S46⟩
      cases e
      refine ⟨fun x h' => h.le h' ∧ ∃ p, x = .t (.one (.v (vb p))) ∧ ((op = 3 ∧ n.op = 3) → p = decide ((typE (cutL l 0 (l.length - 1))).2 = 0 ∧ (typE (cutL l 0 (l.length - 1))).1 ≠ 2)), fun g => ?_, fun g => ?_, ?_⟩
      · have g := of_decide_eq_true g
        obtain ⟨OC, hC⟩ := lc (by rw [g.2]; decide)
        exact fold_numbers_ok (S46 g).s OC hC fun h' l' => ⟨_, rfl, Hp.le_trans l46 l', _, rfl, fun _ => rfl⟩
      · exact ⟨l46, false, rfl, fun q => absurd (decide_eq_true q) g⟩
      rintro h52 p53 ⟨l52, p, e, hp53⟩
      cases e
      by_cases hc3 : op = 3 ∧ n.op = 3
      · have hp := hp53 hc3
        subst hp
        rw [decide_eq_true hc3]
        by_cases ht : (typE (cutL l 0 (l.length - 1))).2 = 0 ∧ (typE (cutL l 0 (l.length - 1))).1 ≠ 2
        · rw [decide_eq_true ht]
          exact yes _ l52 (by omega)
        · rw [decide_eq_false ht]
          exact no _ l52
      · rw [decide_eq_false hc3]
        exact no _ l52
end
end Go.Proofs.Ytgonnpleihbklaa
