/-
  Contracts: package expr: Eval, Type. Conditions: that each node's own stand ahead of it.
-/
import Derived.Test.YtgonnpleihbklaaCExp
import Derived.Test.YtgonnpleihbklaaCRExp2
namespace Go.Proofs.Ytgonnpleihbklaa
open Go Go.Vc
set_option linter.unusedVariables false
set_option maxRecDepth 100000

theorem expr_field_ok {e : EvL} {n : Int} (hn : 0 ≤ n ∧ n ≤ 3) {h : Hp} {R : Value → Hp → Prop} (hK : R (vag (encV (fieldV e n))) h) : CallOK Try.prog 93 [vag (encE e), vi n] h R := by
  refine ok_expr_field ?_
  unfold VC_expr_field
  refine value_Number_ok ⟨_, _, rfl, ?_⟩
  have r : n = 0 ∨ n = 1 ∨ n = 2 ∨ n = 3 := by omega
  rcases r with rfl | rfl | rfl | rfl
  · exact ⟨_, _, fun w _ => by kernel_rfl, hK⟩
  · exact ⟨_, _, fun w _ => by kernel_rfl, hK⟩
  · exact ⟨_, _, fun w _ => by kernel_rfl, hK⟩
  · exact ⟨_, _, fun w _ => by kernel_rfl, hK⟩
theorem elVal : ElT Try.prog 59 48 2 16 := .of (by kernel_rfl) (by kernel_rfl) (by decide)
/-- What is known of the nodes up to one. -/
theorem outs_get {β : Type} {d : β} {F : Nd → β → β → β} {l : List Nd} {outs : List β} {i k : Nat} (ho : outs.take i = fwd d F (l.take i)) (hi : i ≤ l.length) (hk : k < i) : outs[k]? = some (fAt d F l k) := by
  have h1 : outs[k]? = (outs.take i)[k]? := by rw [List.getElem?_take, if_pos hk]
  rw [h1, ho]
  have hlen : (fwd d F (l.take i)).length = i := by rw [fwd_length, List.length_take]; omega
  rw [← fAt_take l hk hi, List.getD_eq_getElem?_getD, List.getElem?_eq_getElem (by omega)]
  rfl
theorem outs_set {β : Type} {d : β} {F : Nd → β → β → β} {l : List Nd} {outs : List β} {i : Nat} {n : Nd} (ho : outs.take i = fwd d F (l.take i)) (hn : l[i]? = some n) (hl : outs.length = l.length) : (outs.set i (fAt d F l i)).take (i + 1) = fwd d F (l.take (i + 1)) := by
  have hlt := (List.getElem?_eq_some_iff.1 hn).1
  rw [fwd_take l hn, ← ho, List.take_succ_eq_append_getElem (by rw [List.length_set]; omega), List.take_set_of_le (Nat.le_refl _), List.getElem_set_self]
section
variable {a : Option Addr} {m c : Nat} {l : List Nd} {h : Hp}
theorem expr_Eval_ok (S : SlP encN h a m l) (W : WfL l) (hl : 0 < l.length) (hm : l.length ≤ 1000000) {e : EvL} {R : Value → Hp → Prop} (hK : ∀ h', h.le h' → R (vag (encV (valE e l))) h') : CallOK Try.prog 72 [vsl a m c, vag (encE e)] h R := by
  refine ok_expr_Eval ?_
  unfold VC_expr_Eval
  obtain rfl := S.1
  refine Vec.make (enc := encV) (x := (0, 0)) elVal (z := [vi 0, vi 0]) (by kernel_rfl) rfl rfl hm (by omega) fun a3 h2 V2 => ⟨_, _, _, rfl, ?_⟩
  refine ⟨fun vs hh => ∃ (i : Nat) (outs : List (Int × Int)), vs = [vi i] ∧ i ≤ l.length ∧ outs.length = l.length ∧ outs.take i = fwd (0, 0) (stepF e) (l.take i) ∧ Vec encV 2 48 h hh a3 l.length outs, fun vs hh => l.length - (vint vs 0).toNat,
    ⟨0, _, rfl, Nat.zero_le _, by simp, rfl, V2⟩, ?_⟩
  rintro vs hh ⟨i, outs, rfl, hi, hlo, ho, V⟩
  refine ⟨i, rfl, fun q => ?_, fun q => ?_⟩
  · have hlt : i < l.length := by have := of_decide_eq_true q; omega
    have hx : l[i]? = some l[i] := List.getElem?_eq_getElem hlt
    have Wn := W _ _ hx
    have hv : vAt e l i = _ := fAt_wf (own_stepF e) hx Wn
    have hset := outs_set ho hx hlo
    obtain ⟨b, o, ha, hr⟩ := (S.le V.le0).get encN_len (by decide) hx
    generalize l[i] = n at *
    have hout : outs[i]? = some (outs[i]'(by omega)) := List.getElem?_eq_getElem (by omega)
    obtain ⟨b3, o3, ha3, hput⟩ := V.put encV_len (x' := vAt e l i) (k := 0) (vs := encV (vAt e l i)) hout (by rw [encV_len]; decide) (by rw [encV_len]; decide) rfl
    have A3 : ∀ {x : Int}, 0 ≤ x → x < l.length → a3 = some ⟨b3, o3, none⟩ ∧ (0 : Int) ≤ x ∧ x < (l.length : Nat) := fun h0 h1 => ⟨ha3, h0, h1⟩
    have rdo : ∀ {x : Int}, 0 ≤ x → x < i → hh.row b3 (o3 + x.toNat * 2) 2 = some (encV (vAt e l x.toNat)) := by
      intro x h0 h1
      obtain ⟨b', o', ha', hr'⟩ := (V.slp encV_len (by decide)).get encV_len (by decide) (outs_get ho hi (k := x.toNat) (by omega))
      rw [ha3] at ha'
      cases ha'
      exact hr'
    intro J83
    have hJ : ∀ h', Vec encV 2 48 h h' a3 l.length (outs.set i (vAt e l i)) → J83 h' := by
      intro h' V'
      exact ⟨_, isW (by unfold InR; omega), ⟨i + 1, _, rfl, by omega, by rw [List.length_set]; exact hlo, hset, V'⟩, by simp [vint]; omega⟩
    clear_value J83
    have fin : ∀ {v : Int × Int}, v = vAt e l i → hh.store b3 (o3 + i * 2) (encV v) J83 := by
      rintro v rfl
      exact hput _ hJ
    have ar := ar0 Wn.a
    have hfold : vAt e l = fAt (0, 0) (stepF e) l := rfl
    rw [← hfold] at hv
    unfold stepF at hv
    have Ai : a3 = some ⟨b3, o3, none⟩ ∧ (0 : Int) ≤ i ∧ (i : Int) < (l.length : Nat) := A3 (by omega) (by omega)
    refine ⟨b, o, ⟨ha, by omega, by omega⟩, _, _, _, _, _, _, hr, fun q => ?_, fun q1 => ⟨fun q => ?_, fun q2 => ⟨fun q => ?_, fun q3 => ⟨fun q => ?_, fun q4 => ⟨fun q => ?_, fun q5 => ?_⟩⟩⟩⟩⟩
    · rw [if_pos (of_decide_eq_true q)] at hv
      exact ⟨b3, o3, Ai, fin hv.symm⟩
    · rw [if_neg (of_decide_eq_false q1), if_pos (of_decide_eq_true q)] at hv
      exact expr_field_ok (Wn.f (of_decide_eq_true q)) ⟨_, _, rfl, b3, o3, Ai, fin hv.symm⟩
    · rw [if_neg (of_decide_eq_false q1), if_neg (of_decide_eq_false q2), if_pos (of_decide_eq_true q)] at hv
      have := of_decide_eq_true q
      have hX := Wn.x (by omega)
      exact ⟨b3, o3, A3 (by omega) (by omega), _, _, rdo hX.1 hX.2, value_Neg_ok ⟨_, _, rfl, b3, o3, Ai, fin hv.symm⟩⟩
    · rw [if_neg (of_decide_eq_false q1), if_neg (of_decide_eq_false q2), if_neg (of_decide_eq_false q3), if_pos (of_decide_eq_true q)] at hv
      have := of_decide_eq_true q
      have hX := Wn.x (by omega)
      exact ⟨b3, o3, A3 (by omega) (by omega), _, _, rdo hX.1 hX.2, value_Not_ok ⟨_, _, rfl, b3, o3, Ai, fin hv.symm⟩⟩
    · rw [if_neg (of_decide_eq_false q1), if_neg (of_decide_eq_false q2), if_neg (of_decide_eq_false q3), if_neg (of_decide_eq_false q4), if_pos (of_decide_eq_true q)] at hv
      have := of_decide_eq_true q
      have hX := Wn.x (by omega)
      exact ⟨b3, o3, A3 (by omega) (by omega), _, Hp.row_cell (rdo hX.1 hX.2) (i := 0) rfl, value_Truth_ok ⟨_, _, rfl, b3, o3, Ai, fin hv.symm⟩⟩
    · have p1 := of_decide_eq_false q1
      have p2 := of_decide_eq_false q2
      have p3 := of_decide_eq_false q3
      have p4 := of_decide_eq_false q4
      have p5 := of_decide_eq_false q5
      rw [if_neg p1, if_neg p2, if_neg p3, if_neg p4, if_neg p5] at hv
      have h2 : arI n.op = 2 := by rcases arI_range Wn.a with h | h | h <;> omega
      have hX := Wn.x (by omega)
      have hY := Wn.y (by omega)
      exact ⟨b3, o3, A3 (by omega) (by omega), _, _, rdo hX.1 hX.2, b3, o3, A3 (by omega) (by omega), _, _, rdo hY.1 hY.2, value_Do_ok ⟨_, _, rfl, b3, o3, Ai, fin hv.symm⟩⟩
  · have hge : i = l.length := by have := of_decide_eq_false q; omega
    subst hge
    obtain ⟨b', o', ha', hr'⟩ := (V.slp encV_len (by decide)).get encV_len (by decide) (outs_get ho (Nat.le_refl _) (k := l.length - 1) (by omega))
    refine ⟨_, isW (by unfold InR; omega), b', o', ⟨ha', by omega, by omega⟩, _, _, ?_, hK hh V.le0⟩
    have e1 : (((l.length : Nat) : Int) - 1).toNat = l.length - 1 := by omega
    rw [e1]
    exact hr'
theorem expr_join_ok {x y : Int} {R : Value → Hp → Prop} (hK : R (vtup [vi (if x = 0 then y else if y = 0 ∨ x = y then x else 0), vb (decide (x = 0 ∨ y = 0 ∨ x = y))]) h) : CallOK Try.prog 103 [vi x, vi y] h R := by
  refine ok_expr_join ?_
  unfold VC_expr_join
  refine ⟨fun q => ?_, fun q => ?_⟩
  · have q := of_decide_eq_true q
    rw [if_pos q, decide_eq_true (.inl q)] at hK; exact hK
  have q := of_decide_eq_false q
  rw [if_neg q] at hK
  intro J3
  refine ⟨fun q2 => ⟨fun _ => ?_, fun q3 => ?_⟩, fun q2 => ⟨fun q3 => ?_, fun q3 => ?_⟩⟩
  · have q2 := of_decide_eq_true q2
    rw [if_pos (.inl q2), decide_eq_true (.inr (.inl q2))] at hK; exact hK
  · rw [q2] at q3; cases q3
  · have q3 := of_decide_eq_true q3
    rw [if_pos (.inr q3), decide_eq_true (.inr (.inr q3))] at hK; exact hK
  · have q2 := of_decide_eq_false q2
    have q3 := of_decide_eq_false q3
    rw [if_neg (by omega), decide_eq_false (by omega)] at hK; exact hK
def encI (x : Int) : List Value := [vi x]
theorem encI_len (x : Int) : (encI x).length = 1 := rfl
theorem expr_Type_ok (S : SlP encN h a m l) (O : OkE l) (hm : l.length ≤ 1000000) {R : Value → Hp → Prop} (hK : ∀ h', h.le h' → R (vtup [vi (typE l).1, ifv (errV (typE l).2)]) h') : CallOK Try.prog 98 [vsl a m c] h R := by
  have W := O.wf
  have hl := O.pos
  refine ok_expr_Type ?_
  unfold VC_expr_Type
  obtain rfl := S.1
  refine Vec.make (enc := encI) (x := 0) elInt (z := [vi 0]) (by kernel_rfl) rfl rfl hm (by omega) fun a3 h2 V2 => ⟨_, _, _, rfl, ?_⟩
  refine ⟨fun vs hh => ∃ (i : Nat) (outs : List Int), vs = [vi i] ∧ i ≤ l.length ∧ outs.length = l.length ∧ (outs.map some).take i = fwd none tyF (l.take i) ∧ Vec encI 1 3 h hh a3 l.length outs, fun vs hh => l.length - (vint vs 0).toNat,
    ⟨0, _, rfl, Nat.zero_le _, by simp, rfl, V2⟩, ?_⟩
  rintro vs hh ⟨i, outs, rfl, hi, hlo, ho, V⟩
  have get : ∀ {k : Nat}, k < i → ∃ t, outs[k]? = some t ∧ tAt l k = some t := by
    intro k hk
    have := outs_get ho hi hk
    rw [List.getElem?_map, Option.map_eq_some_iff] at this
    obtain ⟨t, h1, h2⟩ := this
    exact ⟨t, h1, h2.symm⟩
  refine ⟨i, rfl, fun q => ?_, fun q => ?_⟩
  · have hlt : i < l.length := by have := of_decide_eq_true q; omega
    have hx : l[i]? = some l[i] := List.getElem?_eq_getElem hlt
    have Wn := W _ _ hx
    have hv : tAt l i = _ := fAt_wf own_tyF hx Wn
    have hset := fun t (e : tAt l i = some t) => (by
      have := outs_set (outs := outs.map some) ho hx (by simpa using hlo)
      rw [show fAt none tyF l i = some t from e, ← List.map_set] at this
      exact this : ((outs.set i t).map some).take (i + 1) = fwd none tyF (l.take (i + 1)))
    obtain ⟨b, o, ha, hr⟩ := (S.le V.le0).get encN_len (by decide) hx
    generalize l[i] = n at *
    have hout : outs[i]? = some (outs[i]'(by omega)) := List.getElem?_eq_getElem (by omega)
    obtain ⟨b3, o3, ha3, _⟩ := V.put encI_len (x' := 0) (k := 0) (vs := [vi 0]) hout (by decide) (by decide) rfl
    have A3 : ∀ {x : Int}, 0 ≤ x → x < l.length → a3 = some ⟨b3, o3, none⟩ ∧ (0 : Int) ≤ x ∧ x < (l.length : Nat) := fun h0 h1 => ⟨ha3, h0, h1⟩
    have put : ∀ (outs' : List Int) (hh' : Hp), outs'.length = l.length → Vec encI 1 3 h hh' a3 l.length outs' → ∀ (t : Int) (K : Hp → Prop), (∀ h', Vec encI 1 3 h h' a3 l.length (outs'.set i t) → K h') → hh'.store b3 (o3 + i * 1) [vi t] K := by
      intro outs' hh' h1 V' t K hK
      obtain ⟨b', o', ha', hp⟩ := V'.put encI_len (i := i) (x := outs'[i]'(by omega)) (x' := t) (k := 0) (vs := [vi t]) (List.getElem?_eq_getElem (by omega)) (Nat.succ_pos 0) (Nat.le_refl 1) rfl
      rw [ha3] at ha'
      cases ha'
      exact hp K hK
    intro J95
    have hJ : ∀ t, tAt l i = some t → ∀ h', Vec encI 1 3 h h' a3 l.length (outs.set i t) → J95 h' := by
      intro t e h' V'
      exact ⟨_, isW (by unfold InR; omega), ⟨i + 1, _, rfl, by omega, by rw [List.length_set]; exact hlo, hset t e, V'⟩, by simp [vint]; omega⟩
    clear_value J95
    have ar := ar0 Wn.a
    have hfold : tAt l = fAt none tyF l := rfl
    rw [← hfold] at hv
    have Ai : a3 = some ⟨b3, o3, none⟩ ∧ (0 : Int) ≤ i ∧ (i : Int) < (l.length : Nat) := A3 (by omega) (by omega)
    refine ⟨b, o, ⟨ha, by omega, by omega⟩, _, _, _, _, _, _, hr, ?_⟩
    intro J39
    have bad : tAt l i = none → ∀ h', h.le h' → R (vtup [vi 0, ifv (errV 3)]) h' := by
      intro e h' l'
      have : typE l = (0, 3) := by
        unfold typE
        cases ht : tAt l (l.length - 1) with
        | none => rfl
        | some t => exact absurd e (O.b.ty W (by rw [ht]; simp) i (Nat.zero_le _) hlt)
      rw [this] at hK
      exact hK h' l'
    have hJ39 : ¬ n.op = 1 → ¬ n.op = 2 → ¬ n.op = 5 → J39 (wantT n.op) := by
      intro p1 p2 p5
      have har : 1 ≤ arI n.op := by rcases arI_range Wn.a with h | h | h <;> omega
      rw [tyF_op p1 p2] at hv
      have hX := Wn.x har
      obtain ⟨tx, ox, ex⟩ := get (k := n.x.toNat) (by omega)
      have hy : ∃ ty, 2 ≤ arI n.op → outs[n.y.toNat]? = some ty ∧ tAt l n.y.toNat = some ty := by
        by_cases h2 : 2 ≤ arI n.op
        · have hY := Wn.y h2
          obtain ⟨ty, q⟩ := get (k := n.y.toNat) (by omega)
          exact ⟨ty, fun _ => q⟩
        · exact ⟨0, fun h => absurd h h2⟩
      obtain ⟨ty, hy⟩ := hy
      have hv2 : tAt l i = tyG n.op (some tx) (some (if arI n.op = 2 then ty else tx)) := by
        rw [hv, ex]
        by_cases h2 : arI n.op = 2
        · rw [if_pos h2, if_pos h2, (hy (by omega)).2]
        · rw [if_neg h2, if_neg h2]
      rw [tyG_some, if_neg p5] at hv2
      have hw0 : wantT n.op ≠ 0 := by unfold wantT; split <;> decide
      generalize hwd : wantT n.op = want at *
      refine expr_Arity_ok ⟨_, rfl, fun b64 hb64 => ?_⟩
      intro h65
      have S65 : SlI h65 (some ⟨b64, 0, none⟩) 2 [n.x, n.y] := ⟨rfl, HasRow.new _ _ [vi n.x, vi n.y] _⟩
      have V65 : Vec encI 1 3 h h65 a3 l.length outs := V.keep0 (Hp.le_set (Hp.le_refl hh) hb64 _)
      clear_value h65
      refine ⟨_, _, _, rd_slice_h (e := 3) (by kernel_rfl) (by kernel_rfl) (by omega) (by rcases arI_range Wn.a with h | h | h <;> omega), ?_⟩
      have rdo : ∀ {x t : Int}, 0 ≤ x → outs[x.toNat]? = some t → h65.cell b3 (o3 + x.toNat * 1) = some (vi t) := by
        intro x t h0 h1
        obtain ⟨b', o', ha', hr'⟩ := (V65.slp encI_len (by decide)).cell (j := 0) encI_len (by decide) h1 rfl
        rw [ha3] at ha'
        cases ha'
        exact hr'
      refine ⟨fun vs h' => h' = h65 ∧ ∃ j : Nat, vs = [vi j] ∧ (j : Int) ≤ arI n.op ∧ (1 ≤ j → tx = 0 ∨ tx = want) ∧ (2 ≤ j → ty = 0 ∨ ty = want), fun vs hh => (arI n.op).toNat - (vint vs 0).toNat, ⟨rfl, 0, rfl, by omega, by omega, by omega⟩, ?_⟩
      rintro vs h71 ⟨rfl, j, rfl, hj, f1, f2⟩
      refine ⟨j, rfl, fun g => ?_, fun g => ?_⟩
      · have hj2 : (j : Int) < arI n.op := by have := of_decide_eq_true g; omega
        have fact : ∃ x t : Int, [n.x, n.y].getD j 0 = x ∧ 0 ≤ x ∧ x < l.length ∧ outs[x.toNat]? = some t ∧ (¬ (t = 0 ∨ t = want) → tAt l i = none) ∧ (j = 0 → t = tx) ∧ (j = 1 → t = ty) := by
          by_cases hj0 : j = 0
          · subst hj0
            refine ⟨n.x, tx, rfl, hX.1, by omega, ox, fun hb => ?_, fun _ => rfl, fun h => by omega⟩
            rw [hv2, if_pos (by omega)]
          · have hj1 : j = 1 := by rcases arI_range Wn.a with h | h | h <;> omega
            subst hj1
            have hY := Wn.y (by omega)
            refine ⟨n.y, ty, rfl, hY.1, by omega, (hy (by omega)).1, fun hb => ?_, fun h => by omega, fun _ => rfl⟩
            rw [hv2, if_pos]
            rw [if_pos (by rcases arI_range Wn.a with h | h | h <;> omega)]
            omega
        obtain ⟨x, t, e0, h0, h1, e1, hb, u1, u2⟩ := fact
        obtain ⟨q, p, hq, hcell⟩ := S65.get (i := j) (by rcases arI_range Wn.a with h | h | h <;> omega)
        rw [e0] at hcell
        refine ⟨q, p, ⟨hq, by omega, by omega⟩, _, hcell, b3, o3, A3 h0 h1, _, rdo h0 e1, expr_join_ok ⟨_, _, rfl, fun g => ?_, fun g => ?_⟩⟩
        · rw [cnot] at g
          have g := of_decide_eq_true g
          exact bad (hb (by omega)) h71 V65.le0
        · rw [cnot] at g
          have g := of_decide_eq_false g
          refine ⟨_, isW (by unfold InR; rcases arI_range Wn.a with h | h | h <;> omega), ⟨rfl, j + 1, rfl, by omega, fun _ => ?_, fun h => ?_⟩, by simp [vint]; omega⟩
          · by_cases hj0 : j = 0
            · have := u1 hj0; omega
            · exact f1 (by omega)
          · have := u2 (by rcases arI_range Wn.a with h | h | h <;> omega); omega
      · have hje : (j : Int) = arI n.op := by have := of_decide_eq_false g; omega
        have hfine : tAt l i = some (if n.op = 11 ∨ n.op = 12 then 2 else want) := by
          rw [hv2, if_neg]
          · split <;> rfl
          · have := f1 (by omega)
            by_cases h2 : arI n.op = 2
            · rw [if_pos h2]
              have := f2 (by omega)
              omega
            · rw [if_neg h2]
              omega
        refine ⟨b3, o3, Ai, put outs _ hlo V65 want _ fun h89 V89 => ⟨fun g => ?_, fun g => ?_⟩⟩
        · rw [cor] at g
          have g := of_decide_eq_true g
          rw [if_pos g] at hfine
          refine ⟨b3, o3, Ai, put _ h89 (by rw [List.length_set]; exact hlo) V89 2 _ fun h92 V92 => hJ 2 hfine h92 ?_⟩
          rw [List.set_set] at V92
          exact V92
        · rw [cor] at g
          have g := of_decide_eq_false g
          rw [if_neg g] at hfine
          exact hJ want hfine h89 V89
    clear_value J39
    refine ⟨fun q => ?_, fun q1 => ⟨fun q => ?_, fun q2 => ⟨fun q => ?_, fun q5 => ?_⟩⟩⟩
    · have e : tAt l i = some n.v.1 := by rw [hv]; unfold tyF; exact if_pos (of_decide_eq_true q)
      exact ⟨b3, o3, Ai, put outs hh hlo V _ _ (hJ _ e)⟩
    · have e : tAt l i = some 1 := by rw [hv]; unfold tyF; rw [if_neg (of_decide_eq_false q1)]; exact if_pos (of_decide_eq_true q)
      exact ⟨b3, o3, Ai, put outs hh hlo V _ _ (hJ _ e)⟩
    · have h5 := of_decide_eq_true q
      have hX := Wn.x (by omega)
      obtain ⟨tx, ox, ex⟩ := get (k := n.x.toNat) (by omega)
      have e : tAt l i = some 2 := by
        rw [hv, tyF_op (by omega) (by omega), if_neg (by omega), ex, tyG_some, if_pos h5]
      exact ⟨b3, o3, Ai, put outs hh hlo V _ _ (hJ _ e)⟩
    · have p1 := of_decide_eq_false q1
      have p2 := of_decide_eq_false q2
      have p5 := of_decide_eq_false q5
      have hw := hJ39 p1 p2 p5
      unfold wantT at hw
      intro J35
      refine ⟨fun g => ⟨fun _ => ?_, fun g2 => ?_⟩, fun g1 => ⟨fun g => ⟨fun _ => ?_, fun g2 => ?_⟩, fun g2 => ⟨fun g => ?_, fun g => ?_⟩⟩⟩
      · rw [if_pos (.inl (of_decide_eq_true g))] at hw; exact hw
      · rw [g] at g2; cases g2
      · rw [if_pos (.inr (.inl (of_decide_eq_true g)))] at hw; exact hw
      · rw [g] at g2; cases g2
      · rw [if_pos (.inr (.inr (of_decide_eq_true g)))] at hw; exact hw
      · have a1 := of_decide_eq_false g1
        have a2 := of_decide_eq_false g2
        have a3 := of_decide_eq_false g
        rw [if_neg (by omega)] at hw; exact hw
  · have hge : i = l.length := by have := of_decide_eq_false q; omega
    subst hge
    obtain ⟨t, ot, et⟩ := get (k := l.length - 1) (by omega)
    obtain ⟨b', o', ha', hr'⟩ := (V.slp encI_len (by decide)).cell (j := 0) encI_len (by decide) ot rfl
    refine ⟨_, isW (by unfold InR; omega), b', o', ⟨ha', by omega, by omega⟩, t, ?_, ?_⟩
    · have e1 : (((l.length : Nat) : Int) - 1).toNat = l.length - 1 := by omega
      rw [e1]
      exact hr'
    · have : typE l = (t, 0) := by unfold typE; rw [et]
      rw [this] at hK
      exact hK hh V.le0
end
end Go.Proofs.Ytgonnpleihbklaa
