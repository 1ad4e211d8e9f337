/-
  Contracts: package fold: beside, double. Conditions: those stated at each.
-/
import Derived.Test.YtgonnpleihbklaaCFold
namespace Go.Proofs.Ytgonnpleihbklaa
open Go Go.Vc
set_option linter.unusedVariables false
set_option maxRecDepth 100000

/-- A value, as a state holds it. -/
abbrev svV (v : Int × Int) : SV := .t (.ag [.v (vi v.1), .v (vi v.2)])
theorem gd {p : Prop} [Decidable p] {v b c : Int × Int} (h : p → b = c) : (bif decide p then decide (v = b) else false) = decide (p ∧ v = c) := by
  by_cases hp : p
  · rw [h hp]; simp [hp]
  · simp [hp]
theorem num0 : numV 0 = (1, 0) := by decide
theorem num1 : numV 1 = (1, 1) := by decide
section
variable {a : Option Addr} {m c : Nat} {l : List Nd} {h : Hp}
theorem fold_beside_ok {op : Int} (S : NS h a m c l) (O : OkE l) (hm : l.length ≤ 1000000) {v : Int × Int} (hv : goodV v) {right : Bool} {R : Value → Hp → Prop}
    (hY : ∀ a' n' c' h' z, h.le h' → NS h' a' n' c' z → RepO (fun e => besV right op (valE e l) v) op l.length z → R (vtup [vsl a' n' c', vb true]) h') (hN : ∀ h', h.le h' → R (vtup [vsl none 0 0, vb false]) h') :
    CallOK Try.prog 78 [vi op, vsl a m c, vag (encV v), vb right] h R := by
  refine ok_fold_beside ?_
  unfold VC_fold_beside
  have hp := O.pos
  refine ⟨fun x h' => h.le h' ∧ ∃ b, x = svV b ∧ (op = 9 → b = (2, 1)), fun g => value_Truth_ok ⟨_, _, rfl, Hp.le_refl h, _, rfl, fun _ => rfl⟩, fun g => ⟨Hp.le_refl h, (0, 0), rfl, fun q => absurd (decide_eq_true q) g⟩, ?_⟩
  rintro h6 x7 x8 ⟨l6, b, e, hb⟩
  cases e
  refine ⟨_, fun _ => rd_eqV (a := v) (b := b), ?_⟩
  rw [gd hb]
  refine ⟨fun x h' => h.le h' ∧ ∃ b, x = svV b ∧ (op = 10 → b = (2, 0)), fun g => value_Truth_ok ⟨_, _, rfl, l6, _, rfl, fun _ => rfl⟩, fun g => ⟨l6, (0, 0), rfl, fun q => absurd ⟨decide_eq_false (by omega), decide_eq_true q⟩ g⟩, ?_⟩
  rintro h15 x16 x17 ⟨l15, b2, e, hb2⟩
  cases e
  refine ⟨_, fun _ => rd_eqV (a := v) (b := b2), ?_⟩
  rw [gd hb2, cor]
  refine ⟨fun x h' => h.le h' ∧ ∃ p, x = .t (.one (.v (vb p))) ∧ (p = true → (typE l).2 = 0 ∧ (typE l).1 ≠ 1), fun g => fold_truths_ok (S.s.le l15) O hm fun h' l' => ⟨_, rfl, Hp.le_trans l15 l', _, rfl, fun q => of_decide_eq_true q⟩, fun g => ⟨l15, false, rfl, fun q => by cases q⟩, ?_⟩
  rintro h23 p24 ⟨l23, p, e, hp24⟩
  cases e
  have e24 : ∀ (q : Prop) [Decidable q], (bif decide q then p24 else false) = true → q ∧ p24 = true := by
    intro q _ g
    by_cases hq : q
    · rw [decide_eq_true hq] at g; exact ⟨hq, g⟩
    · rw [decide_eq_false hq] at g; cases g
  refine ⟨fun g => ?_, fun _ => ?_⟩
  · obtain ⟨g1, g2⟩ := e24 _ g
    have ht := hp24 g2
    exact hY _ _ _ _ _ l23 (S.le l23) (bes_truths O g1 ht.1 ht.2)
  refine ⟨fun x h' => h.le h' ∧ ∃ b, x = svV b ∧ (op = 9 → b = (2, 0)), fun g => value_Truth_ok ⟨_, _, rfl, l23, _, rfl, fun _ => rfl⟩, fun g => ⟨l23, (0, 0), rfl, fun q => absurd (decide_eq_true q) g⟩, ?_⟩
  rintro h30 x31 x32 ⟨l30, b3, e, hb3⟩
  cases e
  refine ⟨_, fun _ => rd_eqV (a := v) (b := b3), ?_⟩
  rw [gd hb3]
  intro J45
  have yes : ∀ h', h.le h' → (op = 9 ∧ v = (2, 0)) ∨ (op = 10 ∧ v = (2, 1)) → J45 true h' := by
    intro h' l' hc
    refine ⟨fun _ => ?_, fun g => by cases g⟩
    exact fold_of_ok (v := v) fun a' c' h'' l'' S' => ⟨_, _, _, rfl, hY _ _ _ _ _ (Hp.le_trans l' l'') S' ((bes_const (x := l) hc).mono hp)⟩
  have no : ∀ h', h.le h' → J45 false h' := by
    intro h48 l48
    refine ⟨fun g => by (cases g), fun _ => ?_⟩
    refine ⟨fun x h' => h.le h' ∧ ∃ b, x = svV b ∧ (op = 6 → b = (1, 0)), fun g => value_Number_ok ⟨_, _, rfl, l48, _, rfl, fun _ => num0⟩, fun g => ⟨l48, (0, 0), rfl, fun q => absurd (decide_eq_true q) g⟩, ?_⟩
    rintro h57 x58 x59 ⟨l57, b, e, hb⟩
    cases e
    refine ⟨_, fun _ => rd_eqV (a := v) (b := b), ?_⟩
    rw [gd hb]
    refine ⟨fun x h' => h.le h' ∧ ∃ b, x = svV b ∧ (op = 8 → b = (1, 1)), fun g => value_Number_ok ⟨_, _, rfl, l57, _, rfl, fun _ => num1⟩, fun g => ⟨l57, (0, 0), rfl, fun q => absurd ⟨decide_eq_false (by omega), decide_eq_true q⟩ g⟩, ?_⟩
    rintro h66 x67 x68 ⟨l66, b2, e, hb2⟩
    cases e
    refine ⟨_, fun _ => rd_eqV (a := v) (b := b2), ?_⟩
    rw [gd hb2, cor]
    have er : (bif decide (op = 7) then right else false) = decide (op = 7 ∧ right = true) := by
      by_cases h7 : op = 7 <;> cases right <;> simp [h7]
    rw [er]
    refine ⟨fun x h' => h.le h' ∧ ∃ b, x = svV b ∧ (op = 7 ∧ right = true → b = (1, 0)), fun g => value_Number_ok ⟨_, _, rfl, l66, _, rfl, fun _ => num0⟩, fun g => ⟨l66, (0, 0), rfl, fun q => absurd ⟨decide_eq_false (by omega), decide_eq_true q⟩ g⟩, ?_⟩
    rintro h75 x76 x77 ⟨l75, b3, e, hb3⟩
    cases e
    refine ⟨_, fun _ => rd_eqV (a := v) (b := b3), ?_⟩
    rw [gd hb3, cor]
    refine ⟨fun x h' => h.le h' ∧ ∃ p, x = .t (.one (.v (vb p))) ∧ (p = true → (typE l).2 = 0 ∧ (typE l).1 ≠ 2), fun g => fold_numbers_ok (S.s.le l75) O hm fun h' l' => ⟨_, rfl, Hp.le_trans l75 l', _, rfl, fun q => of_decide_eq_true q⟩, fun g => ⟨l75, false, rfl, fun q => by cases q⟩, ?_⟩
    rintro h83 p84 ⟨l83, p, e, hp84⟩
    cases e
    refine ⟨fun g => ?_, fun _ => ⟨fun g => ?_, fun _ => hN _ l83⟩⟩
    · have e84 : ∀ (q : Prop) [Decidable q], (bif decide q then p84 else false) = true → q ∧ p84 = true := by
        intro q _ g
        by_cases hq : q
        · rw [decide_eq_true hq] at g; exact ⟨hq, g⟩
        · rw [decide_eq_false hq] at g; cases g
      obtain ⟨g1, g2⟩ := e84 _ g
      have ht := hp84 g2
      refine hY _ _ _ _ _ l83 (S.le l83) (bes_numbers O ?_ ht.1 ht.2)
      rcases g1 with (g1 | g1) | ⟨⟨g1, g3⟩, g4⟩
      · exact .inl g1
      · exact .inr (.inl g1)
      · exact .inr (.inr ⟨g1, g3, g4⟩)
    · simp only [cand] at g
      have g := of_decide_eq_true g
      exact fold_of_ok (v := v) fun a' c' h'' l'' S' => ⟨_, _, _, rfl, hY _ _ _ _ _ (Hp.le_trans l83 l'') S' ((bes_null (x := l) hv g.1.1 g.1.2 g.2).mono hp)⟩
  clear_value J45
  refine ⟨fun g => ?_, fun _ => ?_⟩
  · rw [g]
    exact yes _ l30 (.inl (of_decide_eq_true g))
  refine ⟨fun x h' => h.le h' ∧ ∃ b, x = svV b ∧ (op = 10 → b = (2, 1)), fun g => value_Truth_ok ⟨_, _, rfl, l30, _, rfl, fun _ => rfl⟩, fun g => ⟨l30, (0, 0), rfl, fun q => absurd (decide_eq_true q) g⟩, ?_⟩
  rintro h40 x41 x42 ⟨l40, b4, e, hb4⟩
  cases e
  refine ⟨_, fun _ => rd_eqV (a := v) (b := b4), ?_⟩
  rw [gd hb4]
  by_cases hc : op = 10 ∧ v = (2, 1)
  · rw [decide_eq_true hc]
    exact yes _ l40 (.inr hc)
  · rw [decide_eq_false hc]
    exact no _ l40
theorem fold_double_ok {op : Int} (ho : arI op = 2) (S : NS h a m c l) {P : EvL → Int × Int} {T : Option Int} {k : Nat} (A : Rep P T k l) (hk : k ≤ 1000000)
    {a2 : Option Addr} {m2 c2 : Nat} {l2 : List Nd} (S2 : NS h a2 m2 c2 l2) {Q : EvL → Int × Int} {U : Option Int} {j : Nat} (B : Rep Q U j l2) (hj : j ≤ 1000000) {R : Value → Hp → Prop}
    (hK : ∀ a' n' c' h' z, h.le h' → NS h' a' n' c' z → Rep (fun e => opV op (P e) (Q e)) (tyG op T U) (k + j + 1) z → R (vsl a' n' c') h') : CallOK Try.prog 50 [vi op, vsl a m c, vsl a2 m2 c2] h R := by
  refine ok_fold_double ?_
  unfold VC_fold_double
  have hA := A.len
  have hB := B.len
  have hpA := A.pos
  have hpB := B.pos
  have ar := ar0 (op := op) (by omega)
  have m1 := S.s.1
  have mm2 := S2.s.1
  subst m1 mm2
  have cnst : ∀ {x : List Nd} {n : Nd}, OkE x → x = [n] → n.op = 1 → x = cst n.v ∧ goodV n.v := by
    intro x n O e h1
    subst e
    have hn := O.n n (List.mem_singleton.2 rfl)
    exact ⟨cst_of hn h1, nodeF_v hn⟩
  have Y : ∀ (p5 p10 : Bool) (v w : Int × Int), (p5 = true → l = cst v ∧ goodV v) → (p10 = true → l2 = cst w ∧ goodV w) →
      (((bif p5 then p10 else false) = true → (CallOK Try.prog 77 [(vi op), (vag [(vi v.1), (vi v.2)]), (vag [(vi w.1), (vi w.2)])] h fun v11 h12 => ∃ (x13 : Int) (x14 : Int), v11 = (vag [(vi x13), (vi x14)]) ∧ (CallOK Try.prog 71 [(vag [(vi x13), (vi x14)])] h12 fun v15 h16 => ∃ (a17 : Option Addr) (n17 c17 : Nat), v15 = (vsl a17 n17 c17) ∧ R (vsl a17 n17 c17) h16))) ∧ ((bif p5 then p10 else false) = false → (let J25 : Hp → Prop := fun (h26 : Hp) => (let J33 : Hp → Prop := fun (h34 : Hp) => (CallOK Try.prog 73 [(vi op), (vsl a l.length c), (vsl a2 l2.length c2)] h34 fun v35 h36 => ∃ (a37 : Option Addr) (n37 c37 : Nat), v35 = (vsl a37 n37 c37) ∧ R (vsl a37 n37 c37) h36); ((p10 = true → (CallOK Try.prog 78 [(vi op), (vsl a l.length c), (vag [(vi w.1), (vi w.2)]), (vb true)] h26 fun v27 h28 => ∃ (a29 : Option Addr) (n29 c29 : Nat) (p30 : Bool), v27 = (vtup [(vsl a29 n29 c29), (vb p30)]) ∧ ((p30 = true → R (vsl a29 n29 c29) h28) ∧ (p30 = false → (J33 h28))))) ∧ (p10 = false → (J33 h26)))); ((p5 = true → (CallOK Try.prog 78 [(vi op), (vsl a2 l2.length c2), (vag [(vi v.1), (vi v.2)]), (vb false)] h fun v19 h20 => ∃ (a21 : Option Addr) (n21 c21 : Nat) (p22 : Bool), v19 = (vtup [(vsl a21 n21 c21), (vb p22)]) ∧ ((p22 = true → R (vsl a21 n21 c21) h20) ∧ (p22 = false → (J25 h20))))) ∧ (p5 = false → (J25 h)))))) := by
    intro p5 p10 v w hp5 hp10
    refine ⟨fun g => ?_, fun _ => ?_⟩
    · have g1 : p5 = true ∧ p10 = true := by revert g; cases p5 <;> cases p10 <;> simp
      obtain ⟨hl, hgv⟩ := hp5 g1.1
      obtain ⟨hl2, hgw⟩ := hp10 g1.2
      rw [hl] at A
      rw [hl2] at B
      refine value_Do_ok (a := v) (b := w) ⟨_, _, rfl, fold_of_ok (v := doV op v w) fun a' c' h' l' S' => ⟨_, _, _, rfl, hK _ _ _ _ _ l' S' ?_⟩⟩
      have og := opV_good (op := op) (by omega) v w
      rw [opV_do (by omega)] at og
      refine Rep.cst og.1 (by omega) (fun e E => ?_) fun t ht => ?_
      · rw [A.cst_val e E, B.cst_val e E, opV_do (by omega)]
      · rw [tyG_out ht]; exact og.2
    intro J25
    have j25 : ∀ h', h.le h' → J25 h' := by
      intro h26 l26
      have j33 : ∀ h', h.le h' → CallOK Try.prog 73 [(vi op), (vsl a l.length c), (vsl a2 l2.length c2)] h' fun v35 h36 => ∃ (a37 : Option Addr) (n37 c37 : Nat), v35 = (vsl a37 n37 c37) ∧ R (vsl a37 n37 c37) h36 := fun h' l' => expr_Join_ok (S.s.le l') (S2.s.le l') B.ok.wf (by omega) (by omega) fun a' c' h'' V => ⟨_, _, _, rfl, hK _ _ _ _ _ (Hp.le_trans l' V.le0) (NS.of V) (A.join2 ho B)⟩
      refine ⟨fun g => ?_, fun _ => j33 _ l26⟩
      obtain ⟨hl2, hgw⟩ := hp10 g
      refine fold_beside_ok (v := w) (S.le l26) A.ok (by omega) hgw (fun a' n' c' h' z l' S' Z => ⟨_, _, _, true, rfl, fun _ => hK _ _ _ _ _ (Hp.le_trans l26 l') S' ?_, fun g => by cases g⟩) fun h' l' => ⟨_, _, _, false, rfl, fun g => by (cases g), fun _ => j33 _ (Hp.le_trans l26 l')⟩
      rw [hl2] at B
      have Z2 := Z.rep (j := k + j + 1) (by omega) T U
      refine ⟨Z2.ok, Z2.len, fun e E => ?_, Z2.ty⟩
      rw [Z2.val e E, B.cst_val e E, opV_do (by omega), A.val e E]
      rfl
    clear_value J25
    refine ⟨fun g => ?_, fun _ => j25 _ (Hp.le_refl h)⟩
    obtain ⟨hl, hgv⟩ := hp5 g
    refine fold_beside_ok (v := v) S2 B.ok (by omega) hgv (fun a' n' c' h' z l' S' Z => ⟨_, _, _, true, rfl, fun _ => hK _ _ _ _ _ l' S' ?_, fun g => by cases g⟩) fun h' l' => ⟨_, _, _, false, rfl, fun g => by (cases g), fun _ => j25 _ l'⟩
    rw [hl] at A
    have Z2 := Z.rep (j := k + j + 1) (by omega) T U
    refine ⟨Z2.ok, Z2.len, fun e E => ?_, Z2.ty⟩
    rw [Z2.val e E, A.cst_val e E, opV_do (by omega), B.val e E]
    rfl
  refine fold_constant_ok S.s (fun n hn h1 => ⟨_, _, true, rfl, ?_⟩) ⟨_, _, false, rfl, ?_⟩
  · refine fold_constant_ok S2.s (fun n2 hn2 h2 => ⟨_, _, true, rfl, ?_⟩) ⟨_, _, false, rfl, ?_⟩
    · exact Y true true n.v n2.v (fun _ => cnst A.ok hn h1) (fun _ => cnst B.ok hn2 h2)
    · exact Y true false n.v (0, 0) (fun _ => cnst A.ok hn h1) (fun g => by cases g)
  · refine fold_constant_ok S2.s (fun n2 hn2 h2 => ⟨_, _, true, rfl, ?_⟩) ⟨_, _, false, rfl, ?_⟩
    · exact Y false true (0, 0) n2.v (fun g => by cases g) (fun _ => cnst B.ok hn2 h2)
    · exact Y false false (0, 0) (0, 0) (fun g => by cases g) (fun g => by cases g)
end
end Go.Proofs.Ytgonnpleihbklaa
