/-
  What the law TopJoin gives, for every argument: true; nothing of what was there has turned. Conditions: none.
-/
import Derived.Test.YtdjacmkolakdeaaCExp3
import Derived.Test.YtdjacmkolakdeaaCSmN
import Derived.Test.YtdjacmkolakdeaaFbJoin
namespace Go.Proofs.Ytdjacmkolakdeaa
open Go Go.Vc
set_option linter.unusedVariables false
set_option maxRecDepth 100000

/-- A value, as a state holds it. -/
abbrev svE (v : Int × Int) : SV := .t (.ag [.v (vi v.1), .v (vi v.2)])
theorem top_may_any {e : EvL} {h : Hp} {R : Value → Hp → Prop} (hK : ∀ h' p, h.le h' → R (vb p) h') : CallOK Try.prog 26 [vag (encE e)] h R := by
  refine ok_top_may ?_
  unfold VC_top_may
  intro b2 hb2 h3
  have l3 : h.le h3 := Hp.le_set (Hp.le_refl h) hb2 _
  have S : SlP encV h3 (some ⟨b2, 0, none⟩) 3 [e.2.1, e.2.2.1, e.2.2.2] := ⟨rfl, HasRow.new _ _ [vi e.2.1.1, vi e.2.1.2, vi e.2.2.1.1, vi e.2.2.1.2, vi e.2.2.2.1, vi e.2.2.2.2] _⟩
  clear_value h3
  have hl : [e.2.1, e.2.2.1, e.2.2.2].length = 3 := rfl
  generalize [e.2.1, e.2.2.1, e.2.2.2] = l at *
  refine ⟨fun vs hh => hh = h3 ∧ ∃ i : Nat, vs = [vi i] ∧ i ≤ 3, fun vs hh => 3 - (vint vs 0).toNat, ⟨rfl, 0, rfl, by decide⟩, ?_⟩
  rintro vs hh ⟨rfl, i, rfl, hi⟩
  refine ⟨i, rfl, fun q => ?_, fun q => hK hh _ l3⟩
  have hlt : i < 3 := by have := of_decide_eq_true q; omega
  have hx : l[i]? = some (l[i]'(by omega)) := List.getElem?_eq_getElem (by omega)
  obtain ⟨b, o, ha, hr⟩ := S.get encV_len (by decide) hx
  generalize l[i]'(by omega) = v at *
  have A : (some ⟨b2, 0, none⟩ : Option Addr) = some ⟨b, o, none⟩ ∧ (0 : Int) ≤ i ∧ (i : Int) < (3 : Nat) := ⟨ha, by omega, by omega⟩
  exact ⟨b, o, A, _, _, hr, value_Check_ok (v := v) ⟨_, rfl, b, o, fun _ => A, _, fun _ => Hp.row_cell hr (i := 0) rfl, b, o, fun _ => A, _, fun _ => Hp.row_cell hr (i := 1) rfl, b, o, fun _ => A, _, fun _ => Hp.row_cell hr (i := 1) rfl, fun _ => hK hh _ l3, fun _ => ⟨_, isW (by unfold InR; omega), ⟨rfl, i + 1, rfl, by omega⟩, by simp [vint]; omega⟩⟩⟩

abbrev nd1 : List Nd := [⟨2, 0, 0, 0, (0, 0)⟩]
theorem nd1_F : exprF nd1 = 0 := by decide +kernel
theorem shN_back (d : Int) (n : Nd) : shN (-d) (shN d n) = n := by
  obtain ⟨op, x, y, k, v⟩ := n
  unfold shN
  simp only [Nd.mk.injEq, true_and, and_true]
  constructor
  · split <;> omega
  · split <;> omega
theorem joinL_take (op : Int) (l m : List Nd) : cutL (joinL op l m) 0 l.length = l := by
  unfold cutL seg joinL
  rw [List.drop_zero, Nat.sub_zero, List.append_assoc, List.take_left' rfl]
  exact map_sh0 l
theorem joinL_mid (op : Int) (l m : List Nd) : cutL (joinL op l m) l.length (l.length + m.length) = m := by
  unfold cutL seg joinL
  rw [List.append_assoc, List.drop_left' rfl, List.take_left' (by simp), List.map_map]
  have : shN (-(l.length : Int)) ∘ shN (l.length : Int) = id := by funext n; exact shN_back _ n
  rw [this, List.map_id]
theorem joinL_blk {op : Int} (ho : arI op = 2) {l m : List Nd} (O : OkE l) (O' : OkE m) : Blk (joinL op l m) 0 l.length ∧ Blk (joinL op l m) l.length (l.length + m.length) := by
  have OJ := chkGo_okE (joinL_chk2 ho O O')
  have B := OJ.b
  rw [joinL_length] at B
  have hj : (joinL op l m)[l.length + m.length]? = some ⟨op, (l.length : Int) - 1, if 1 < arI op then ((l.length + m.length : Nat) : Int) - 1 else 0, 0, (0, 0)⟩ := by
    unfold joinL
    rw [List.getElem?_append_right (by simp)]
    simp
  generalize hjd : joinL op l m = j at *
  have key : ∀ {e : Nat}, Blk j 0 e → e = l.length + m.length + 1 → Blk j 0 l.length ∧ Blk j l.length (l.length + m.length) := by
    intro e B he
    cases B with
    | leaf h ha => have := O.pos; exfalso; omega
    | @one f i n B h ha hx =>
      obtain rfl : i = l.length + m.length := by omega
      rw [hj] at h; cases h; simp only at ha; omega
    | @two f g i n B B' h ha hx hy =>
      obtain rfl : i = l.length + m.length := by omega
      rw [hj] at h
      cases h
      simp only at hx
      have := B.lt
      obtain rfl : g = l.length := by omega
      exact ⟨B, B'⟩
  exact key B rfl

theorem top_TopJoin_ok {a a2 : Option Addr} {n n2 c c2 : Nat} {l m : List Nd} {op : Int} {e : EvL} {h : Hp} (S : SlP encN h a n l) (S2 : SlP encN h a2 n2 m) : CallOK Try.prog 5 [vsl a n c, vsl a2 n2 c2, vi op, vag (encE e)] h fun v h' => v = vb true ∧ h.le h' := by
  refine ok_top_TopJoin ?_
  unfold VC_top_TopJoin
  obtain rfl := S.1
  obtain rfl := S2.1
  intro b1 hb1 h2
  have l2 : h.le h2 := Hp.le_set (Hp.le_refl h) hb1 _
  have S1 : SlP encN h2 (some ⟨b1, 0, none⟩) 1 nd1 := ⟨rfl, HasRow.new _ _ (nd1.flatMap encN) _⟩
  clear_value h2
  have O1 := (exprF_ok nd1_F).1
  refine expr_Join_ok S1 S1 O1.wf (by decide) (by decide) fun aj cj h4 V4 => ⟨_, _, _, rfl, ?_⟩
  have WJ1 : WfL (joinL 6 nd1 nd1) := WfL.join (by decide) O1.wf O1.wf (by decide) (fun _ => by decide) (by decide)
  refine expr_Eval_ok (e := (4, (0, 0), (0, 0), (0, 0))) (V4.slp encN_len (by decide)) WJ1 (by decide) (by decide) fun h7 l7 => ⟨_, _, rfl, ?_⟩
  have ev : valE (4, (0, 0), (0, 0), (0, 0)) (joinL 6 nd1 nd1) = (1, 8) := by decide +kernel
  rw [ev]
  have L7 := Hp.le_trans (Hp.le_trans l2 V4.le0) l7
  refine ⟨fun x h' => h' = h7 ∧ x = svE (1, 8), fun _ => value_Number_ok ⟨_, _, rfl, rfl, rfl⟩, fun g => absurd rfl g, ?_⟩
  rintro h15 x16 x17 ⟨rfl, e1⟩
  cases e1
  refine ⟨_, fun _ => rd_neqV (a := (1, 8)) (b := (1, 8)), fun g => (by simp at g), fun _ => ?_⟩
  refine law_LightNodes_ok ⟨_, rfl, ?_⟩
  refine ⟨fun x h' => h' = h15 ∧ ∃ p, x = .t (.one (.v (vb p))) ∧ (p = true → m.length ≤ 50), fun g => law_LightNodes_ok ⟨_, rfl, rfl, _, rfl, fun q => by have := of_decide_eq_true q; omega⟩, fun g => ⟨rfl, _, rfl, fun q => (by cases q)⟩, ?_⟩
  rintro h27 p28 ⟨rfl, p, e1, hp28⟩
  cases e1
  refine ⟨fun x h' => h27.le h' ∧ ∃ f, x = .t (.one (.ifc (errV f))) ∧ ((bif (!(decide ((l.length : Int) ≤ 50))) then true else (!p28)) = false → f = exprF l), fun g => expr_Check_ok (S.le L7) fun h31 l31 => ⟨_, rfl, l31, _, rfl, fun _ => rfl⟩, fun g => ⟨Hp.le_refl _, 0, rfl, fun q => absurd q g⟩, ?_⟩
  rintro h33 e34 ⟨l33, f1, e1, hf1⟩
  cases e1
  have L33 := Hp.le_trans L7 l33
  refine ⟨fun x h' => h33.le h' ∧ ∃ f, x = .t (.one (.ifc (errV f))) ∧ ((bif (bif (!(decide ((l.length : Int) ≤ 50))) then true else (!p28)) then true else (Option.isSome (errV f1))) = false → f = exprF m), fun g => expr_Check_ok (S2.le L33) fun h37 l37 => ⟨_, rfl, l37, _, rfl, fun _ => rfl⟩, fun g => ⟨Hp.le_refl _, 0, rfl, fun q => absurd q g⟩, ?_⟩
  rintro h39 e40 ⟨l39, f2, e1, hf2⟩
  cases e1
  have L39 := Hp.le_trans L33 l39
  refine ⟨fun x h' => h' = h39 ∧ ∃ k, x = .t (.one (.v (vi k))) ∧ ((bif (bif (bif (!(decide ((l.length : Int) ≤ 50))) then true else (!p28)) then true else (Option.isSome (errV f1))) then true else (Option.isSome (errV f2))) = false → k = arI op), fun g => expr_Arity_ok ⟨_, rfl, rfl, _, rfl, fun _ => rfl⟩, fun g => ⟨rfl, 0, rfl, fun q => absurd q g⟩, ?_⟩
  rintro h45 x46 ⟨rfl, k, e1, hk⟩
  cases e1
  refine ⟨fun x h' => h45.le h' ∧ ∃ p, x = .t (.one (.v (vb p))), fun g => top_may_any fun h49 p l49 => ⟨_, rfl, l49, _, rfl⟩, fun g => ⟨Hp.le_refl _, _, rfl⟩, ?_⟩
  rintro h51 p52 ⟨l51, p, e1⟩
  cases e1
  have L51 := Hp.le_trans L39 l51
  refine ⟨fun _ => ⟨rfl, L51⟩, fun g => ?_⟩
  obtain ⟨g, _⟩ := bor_false g
  obtain ⟨g4, g5⟩ := bor_false g
  have hk' := hk g4
  obtain ⟨g3, gm⟩ := bor_false g4
  have hf2' := hf2 g3
  obtain ⟨g2, gl⟩ := bor_false g3
  have hf1' := hf1 g2
  obtain ⟨g1, gp⟩ := bor_false g2
  clear hk hf1 hf2
  subst hk' hf1' hf2'
  have ho : arI op = 2 := by have := of_decide_eq_false g5; omega
  rw [errV_some] at gl gm
  have F1 : exprF l = 0 := by simpa using gl
  have F2 : exprF m = 0 := by simpa using gm
  have hl50 : l.length ≤ 50 := by rw [cnot] at g1; have := of_decide_eq_false g1; omega
  have hm50 : m.length ≤ 50 := hp28 (by simpa using gp)
  obtain ⟨O, _⟩ := exprF_ok F1
  obtain ⟨O2, _⟩ := exprF_ok F2
  have hpos := O.pos
  have hpos2 := O2.pos
  have ar := ar0 (op := op) (by omega)
  have WJ : WfL (joinL op l m) := WfL.join (by omega) O.wf O2.wf hpos (fun _ => hpos2) (by omega)
  have hjl := joinL_length op l m
  obtain ⟨B1, B2⟩ := joinL_blk ho O O2
  have vj := valE_join2 e ho O.wf O2.wf hpos hpos2
  have hcj := joinL_chk2 ho O O2
  have hlast : (joinL op l m)[l.length + m.length]? = some ⟨op, (l.length : Int) - 1, ((l.length + m.length : Nat) : Int) - 1, 0, (0, 0)⟩ := by
    unfold joinL
    rw [List.getElem?_append_right (by simp), if_pos (by omega)]
    simp
  have c1 := joinL_take op l m
  have c2 := joinL_mid op l m
  refine expr_Join_ok (S.le L51) (S2.le L51) O2.wf (by omega) (by omega) fun a56 c56 h55 V55 => ⟨_, _, _, rfl, ?_⟩
  generalize joinL op l m = j at *
  have L55 := Hp.le_trans L51 V55.le0
  have SJ := V55.slp encN_len (by decide)
  have hcap := V55.own.cap
  refine ⟨_, isW (by unfold InR; omega), fun x h' => h55.le h' ∧ x = .t (.one (.ifc none)), fun g => expr_Check_ok SJ fun h60 l60 => ⟨_, rfl, l60, ?_⟩, fun g => ⟨Hp.le_refl _, rfl⟩, ?_⟩
  · have : exprF j = 0 := by
      unfold exprF
      rw [if_neg (by have := of_decide_eq_true g; omega)]
      exact hcj
    rw [this]
    rfl
  rintro h62 e63 ⟨l62, e1⟩
  cases e1
  have L62 := Hp.le_trans L55 l62
  refine ⟨fun g => ?_, fun _ => ?_⟩
  · exfalso
    cases q : decide ((((j.length : Nat) : Int)) ≤ 40) <;> rw [q] at g <;> cases g
  refine expr_Eval_ok (SJ.le l62) WJ (by omega) (by omega) fun h66 l66 => ⟨_, _, rfl, ?_⟩
  refine expr_Eval_ok (S.le (Hp.le_trans L62 l66)) O.wf hpos (by omega) fun h70 l70 => ⟨_, _, rfl, ?_⟩
  refine expr_Eval_ok (S2.le (Hp.le_trans (Hp.le_trans L62 l66) l70)) O2.wf hpos2 (by omega) fun h74 l74 => ⟨_, _, rfl, ?_⟩
  have l74 := Hp.le_trans (Hp.le_trans l66 l70) l74
  have L74 := Hp.le_trans L62 l74
  refine value_Do_ok (a := valE e l) (b := valE e m) ⟨_, _, rfl, _, rd_eqV (a := valE e j) (b := doV op (valE e l) (valE e m)), ?_⟩
  rw [vj, decide_eq_true rfl]
  have SJ74 := (SJ.le l62).le l74
  obtain ⟨b, o, ha, hr⟩ := SJ74.get encN_len (by decide) hlast
  have hx57 : (((j.length : Nat) : Int) - 1).toNat = l.length + m.length := by omega
  have A : a56 = some ⟨b, o, none⟩ ∧ (0 : Int) ≤ ((j.length : Nat) : Int) - 1 ∧ ((j.length : Nat) : Int) - 1 < (j.length : Nat) := ⟨ha, by omega, by omega⟩
  rw [hx57]
  refine ⟨b, o, fun _ => A, _, fun _ => Hp.row_cell hr (i := 1) rfl, ?_⟩
  obtain ⟨x, hx⟩ : ∃ x : Nat, l.length = x + 1 := ⟨l.length - 1, by omega⟩
  obtain ⟨y, hy⟩ : ∃ y : Nat, l.length + m.length = y + 1 := ⟨l.length + m.length - 1, by omega⟩
  rw [hx] at B1 c1
  rw [hy] at B2 c2
  refine ⟨fun x h' => h74.le h' ∧ ∃ a c, x = .t (.one (.v (vsl a l.length c))) ∧ SlP encN h' a l.length l, fun _ => expr_Cut_ok SJ74 hcap WJ (by omega) B1 (by simp only; omega) fun a' c' h' V' => ⟨_, _, _, rfl, V'.le0, ?_⟩, fun g => absurd rfl g, ?_⟩
  · rw [c1] at V' ⊢
    exact ⟨a', c', rfl, V'.slp encN_len (by decide)⟩
  rintro h89 a90 n90 c90 ⟨l89, a', c', e1, SC⟩
  cases e1
  refine ⟨fun x h' => h' = h89 ∧ x = .t (.one (.v (vb true))), fun _ => R_SameNodes_ok SC (S.le (Hp.le_trans L74 l89)) (by omega) ⟨_, rfl, rfl, rfl⟩, fun g => absurd rfl g, ?_⟩
  rintro h95 p96 ⟨rfl, e1⟩
  cases e1
  refine ⟨b, o, fun _ => A, _, fun _ => Hp.row_cell (Hp.row_le l89 hr) (i := 2) rfl, ?_⟩
  refine ⟨fun x h' => h95.le h' ∧ ∃ a c, x = .t (.one (.v (vsl a m.length c))) ∧ SlP encN h' a m.length m, fun _ => expr_Cut_ok (SJ74.le l89) hcap WJ (by omega) B2 (by simp only; omega) fun a' c' h' V' => ⟨_, _, _, rfl, V'.le0, ?_⟩, fun g => absurd rfl g, ?_⟩
  · rw [c2] at V' ⊢
    exact ⟨a', c', rfl, V'.slp encN_len (by decide)⟩
  rintro h104 a105 n105 c105 ⟨l104, a', c', e1, SC2⟩
  cases e1
  have L104 := Hp.le_trans (Hp.le_trans L74 l89) l104
  refine ⟨fun x h' => h' = h104 ∧ x = .t (.one (.v (vb true))), fun _ => R_SameNodes_ok SC2 (S2.le L104) (by omega) ⟨_, rfl, rfl, rfl⟩, fun g => absurd rfl g, ?_⟩
  rintro h110 p111 ⟨rfl, e1⟩
  cases e1
  exact ⟨rfl, L104⟩
end Go.Proofs.Ytdjacmkolakdeaa
