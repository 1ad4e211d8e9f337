/-
  Contracts: package expr: Cut, Join. Conditions: those stated at each.
-/
import Derived.Test.YtgonnpleihbklaaCExp2
namespace Go.Proofs.Ytgonnpleihbklaa
open Go Go.Vc
set_option linter.unusedVariables false
set_option maxRecDepth 100000

abbrev NdVec := Vec encN 6 106
theorem cloneN_ok {a : Option Addr} {n c : Nat} {l : List Nd} {h : Hp} {R : Value → Hp → Prop} (S : SlP encN h a n l) (hn : n ≤ 1000000) (hK : ∀ a' c' h', NdVec h h' a' c' l → R (vsl a' l.length c') h') :
    CallOK Try.prog 97 [vsl a n c] h R := by
  refine ok_slices_Clone_api_Node_api_Node ?_
  unfold VC_slices_Clone_api_Node_api_Node
  have hl := S.1
  subst hl
  have hfl : (l.flatMap encN).length = l.length * 6 := by rw [flatMap_length encN_len]
  refine ⟨_, rd_eqNilS (e := 106) (by kernel_rfl), fun e => ?_, fun e => ?_⟩
  · have h0 : l.flatMap encN = [] := by
      rcases S.2 with h1 | ⟨b, o, ha, _⟩
      · exact h1
      · rw [ha] at e; cases e
    rw [h0] at hfl
    have hn0 : l = [] := List.eq_nil_of_length_eq_zero (by simp at hfl; omega)
    subst hn0
    exact hK none 0 h (Own.nil (Hp.le_refl h) _ _)
  · intro b3 hb3 h4
    have O0 : Own h h4 106 6 (some ⟨b3, 0, none⟩) 0 0 [] := Own.mk_new (Hp.le_refl h) hb3 _ [] rfl (by simp [maxLen])
    refine Own.append elNd O0 (S.le (Hp.le_set (Hp.le_refl h) hb3 _)).2 hfl (one_nds l) (by omega) (by omega) fun a' c' h' O' _ _ => ⟨_, _, _, rfl, ?_⟩
    rw [Nat.zero_add, List.nil_append] at *
    exact hK a' c' h' O'
/-- Expressions that are yet to be passed, on the way down to f. -/
inductive Pend (l : List Nd) (f : Nat) : Nat → Nat → Prop where
  | nil : Pend l f f 0
  | cons {g e k : Nat} : Blk l g e → Pend l f g k → Pend l f e (k + 1)
theorem Pend.open {l : List Nd} {f g i k : Nat} {n : Nd} (B : Blk l g (i + 1)) (Q : Pend l f g k) (hn : l[i]? = some n) : Pend l f i (k + (arI n.op).toNat) := by
  cases B with
  | leaf h ha =>
    rw [hn] at h
    cases h
    rw [ha]
    exact Q
  | one B h ha _ =>
    rw [hn] at h
    cases h
    rw [ha]
    exact .cons B Q
  | two B B' h ha _ _ =>
    rw [hn] at h
    cases h
    rw [ha]
    exact .cons B' (.cons B Q)
section
variable {a : Option Addr} {m c : Nat} {l : List Nd} {h : Hp}
theorem expr_Cut_ok (S : SlP encN h a m l) (hcap : m ≤ c) (W : WfL l) (hm : l.length ≤ 1000000) {f : Nat} {e : Nat} (B : Blk l f (e + 1)) {i0 : Int} (hi0 : i0 = e) {R : Value → Hp → Prop} (hK : ∀ a' c' h', NdVec h h' a' c' (cutL l f (e + 1)) → R (vsl a' (cutL l f (e + 1)).length c') h') :
    CallOK Try.prog 75 [vsl a m c, vi i0] h R := by
  subst hi0
  refine ok_expr_Cut ?_
  unfold VC_expr_Cut
  have hlt := B.lt
  obtain rfl := S.1
  have opAt : ∀ {i : Nat}, i < l.length → ∀ {hh : Hp}, h.le hh → ∃ n b o, l[i]? = some n ∧ a = some ⟨b, o, none⟩ ∧ hh.cell b (o + i * 6) = some (vi n.op) := by
    intro i hi hh hl
    have hx : l[i]? = some l[i] := List.getElem?_eq_getElem hi
    obtain ⟨b, o, ha, hr⟩ := (S.le hl).get encN_len (by decide) hx
    exact ⟨_, b, o, hx, ha, Hp.row_cell hr (i := 0) rfl⟩
  obtain ⟨n, b, o, hn, ha, hc⟩ := opAt (i := e) (by omega) (Hp.le_refl h)
  have wn := W _ _ hn
  refine ⟨b, o, ⟨ha, by omega, by omega⟩, _, hc, expr_Arity_ok ⟨_, rfl, ?_⟩⟩
  have Q0 := Pend.open B .nil hn
  rw [Nat.zero_add] at Q0
  refine ⟨fun vs hh => hh = h ∧ ∃ from' need : Nat, vs = [vi from', vi need] ∧ from' ≤ e ∧ need ≤ 2 * (e + 1 - from') ∧ Pend l f from' need, fun vs hh => (vint vs 0).toNat, ⟨rfl, e, (arI n.op).toNat, by rw [show (((arI n.op).toNat : Nat) : Int) = arI n.op by have := wn.a; omega], Nat.le_refl _, by rcases arI_range wn.a with h | h | h <;> omega, Q0⟩, ?_⟩
  rintro vs hh ⟨rfl, from', need, rfl, hfe, hnd, Q⟩
  refine ⟨from', need, rfl, fun g => ?_, fun g => ?_⟩
  · have g := of_decide_eq_true g
    cases Q with
    | nil => exact absurd g (by decide)
    | @cons g' _ k B' Q' =>
      have hlt' := B'.lt
      obtain ⟨i, rfl⟩ : ∃ i, from' = i + 1 := ⟨from' - 1, by omega⟩
      obtain ⟨n', b', o', hn', ha', hc'⟩ := opAt (i := i) (by omega) (Hp.le_refl hh)
      have wn' := W _ _ hn'
      have Q2 := Pend.open B' Q' hn'
      have hI : IsW ((i : Nat) : Int) (((i + 1 : Nat) : Int) - 1) := by
        have := isW (e := (((i + 1 : Nat) : Int) - 1)) (by unfold InR; omega)
        rw [show (((i + 1 : Nat) : Int) - 1) = (i : Int) by omega] at this ⊢
        exact this
      have r2 := arI_range wn'.a
      refine ⟨i, hI, b', o', ⟨ha', by omega, by omega⟩, _, hc', expr_Arity_ok ⟨_, rfl, _, isW (by unfold InR; omega), _, isW (by unfold InR; omega), ⟨rfl, i, k + (arI n'.op).toNat, ?_, by omega, by omega, Q2⟩, by simp [vint]⟩⟩
      rw [show ((k + (arI n'.op).toNat : Nat) : Int) = ((k + 1 : Nat) : Int) + (arI n'.op - 1) by have := wn'.a; omega]
  have g := of_decide_eq_false g
  have h0 : need = 0 := by omega
  subst h0
  cases Q
  refine ⟨_, isW (by unfold InR; omega), _, _, _, rd_slice_lh (e := 106) (by kernel_rfl) (by kernel_rfl) (by omega) (by omega) (by omega), ?_⟩
  have hsz : szT Try.prog 106 = 6 := by kernel_rfl
  rw [hsz, show ((e : Int) + 1).toNat = e + 1 by omega, Int.toNat_natCast]
  have Sseg : SlP encN hh (cutA a f c 6) (e + 1 - f) (seg l f (e + 1)) := (S.drop encN_len (i := f) (c := c) (by omega) hcap).take encN_len (by omega)
  have hsl : (seg l f (e + 1)).length = e + 1 - f := Sseg.1.symm
  have sget : ∀ {i : Nat} {n : Nd}, (seg l f (e + 1))[i]? = some n → l[f + i]? = some n := by
    intro i n hi
    unfold seg at hi
    rw [List.getElem?_take] at hi
    split at hi
    · rw [List.getElem?_drop] at hi; exact hi
    · cases hi
  have ecut : cutL l f (e + 1) = (seg l f (e + 1)).map (shN (-(f : Int))) := rfl
  rw [ecut] at hK
  generalize seg l f (e + 1) = s at *
  refine cloneN_ok Sseg (by omega) fun a29 c29 h28 V28 => ⟨_, _, _, rfl, ?_⟩
  refine ⟨fun vs h' => ∃ (i : Nat) (outs : List Nd), vs = [vi i] ∧ i ≤ s.length ∧ outs.length = s.length ∧ outs.take i = (s.take i).map (shN (-(f : Int))) ∧ outs.drop i = s.drop i ∧ NdVec hh h' a29 c29 outs, fun vs hh => s.length - (vint vs 0).toNat, ⟨0, s, rfl, Nat.zero_le _, rfl, rfl, rfl, V28⟩, ?_⟩
  rintro vs h34 ⟨i, outs, rfl, hi, hlo, ht, hd, V⟩
  refine ⟨i, rfl, fun g => ?_, fun g => ?_⟩
  · have hlt2 : i < s.length := by have := of_decide_eq_true g; omega
    have hx : s[i]? = some s[i] := List.getElem?_eq_getElem hlt2
    have hox : outs[i]? = some s[i] := by
      have := congrArg List.head? hd
      rw [List.head?_drop, List.head?_drop, hx] at this
      exact this
    have wn2 := W _ _ (sget hx)
    have hset : (outs.set i (shN (-(f : Int)) s[i])).take (i + 1) = (s.take (i + 1)).map (shN (-(f : Int))) := by
      rw [List.take_succ_eq_append_getElem (by rw [List.length_set]; omega), List.take_set_of_le (Nat.le_refl _), List.getElem_set_self, ht, List.take_succ_eq_append_getElem hlt2, List.map_append]
      rfl
    have hset2 : ∀ n', (outs.set i n').drop (i + 1) = s.drop (i + 1) := by
      intro n'
      have : (outs.drop i).drop 1 = (s.drop i).drop 1 := by rw [hd]
      rw [List.drop_drop, List.drop_drop] at this
      rw [List.drop_set_of_lt (Nat.lt_succ_self i)]
      exact this
    generalize s[i] = y at *
    intro J70
    have hJ : ∀ h', NdVec hh h' a29 c29 (outs.set i (shN (-(f : Int)) y)) → J70 h' := by
      intro h' V'
      exact ⟨_, isW (by unfold InR; omega), ⟨i + 1, _, rfl, by omega, by rw [List.length_set]; exact hlo, hset, hset2 _, V'⟩, by simp [vint]; omega⟩
    clear_value J70
    have acc : ∀ {h' : Hp} {outs' : List Nd} {z : Nd}, NdVec hh h' a29 c29 outs' → outs'[i]? = some z → outs'.length = s.length → ∃ b o, (a29 = some ⟨b, o, none⟩ ∧ (0 : Int) ≤ i ∧ (i : Int) < (s.length : Nat)) ∧ h'.row b (o + (i : Int).toNat * 6) 6 = some (encN z) := by
      intro h' outs' z V' hz hl'
      obtain ⟨b, o, ha, hr⟩ := (V'.slp encN_len (by decide)).get encN_len (by decide) hz
      exact ⟨b, o, ⟨ha, by omega, by omega⟩, hr⟩
    obtain ⟨b1, o1, A1, r1⟩ := acc V hox hlo
    refine ⟨b1, o1, A1, _, Hp.row_cell r1 (i := 0) rfl, expr_Arity_ok ⟨_, rfl, ?_⟩⟩
    intro J53
    have hJ53 : ∀ h' (z : Nd), z = { y with x := (shN (-(f : Int)) y).x } → NdVec hh h' a29 c29 (outs.set i z) → J53 h' := by
      rintro h' z hz V'
      have hz1 : (outs.set i z)[i]? = some z := List.getElem?_set_self (by omega)
      obtain ⟨b2, o2, A2, r2⟩ := acc V' hz1 (by rw [List.length_set]; exact hlo)
      have eop : z.op = y.op := by rw [hz]
      have ey : z.y = y.y := by rw [hz]
      refine ⟨b2, o2, A2, _, Hp.row_cell r2 (i := 0) rfl, expr_Arity_ok ⟨_, rfl, fun g => ?_, fun g => ?_⟩⟩
      · have g := of_decide_eq_true g
        rw [eop] at g
        have hy := wn2.y (by omega)
        have hfin : ({ z with y := y.y - f } : Nd) = shN (-(f : Int)) y := by
          rw [hz]
          unfold shN
          simp only
          rw [if_pos (show 1 < arI y.op by omega)]
          rfl
        obtain ⟨b3, o3, ha3, hp⟩ := V'.put encN_len (x' := { z with y := y.y - f }) (k := 2) (vs := [vi (y.y - f)]) hz1 (Nat.succ_pos 0) (show 2 + 1 ≤ 6 by decide) rfl
        refine ⟨b2, o2, A2, _, Hp.row_cell r2 (i := 2) rfl, _, isW (by rw [ey]; unfold InR; omega), b3, o3, ⟨ha3, A2.2⟩, ?_⟩
        rw [ey]
        refine hp _ fun h67 V67 => hJ h67 ?_
        rw [List.set_set, hfin] at V67
        exact V67
      · have g := of_decide_eq_false g
        rw [eop] at g
        have hfin : z = shN (-(f : Int)) y := by
          rw [hz]
          unfold shN
          simp only
          rw [if_neg (show ¬ 1 < arI y.op by omega)]
        rw [hfin] at V'
        exact hJ h' V'
    clear_value J53
    refine ⟨fun g => ?_, fun g => ?_⟩
    · have g := of_decide_eq_true g
      have hX := wn2.x (by omega)
      obtain ⟨b3, o3, ha3, hp⟩ := V.put encN_len (x' := { y with x := y.x - f }) (k := 1) (vs := [vi (y.x - f)]) hox (Nat.succ_pos 0) (show 1 + 1 ≤ 6 by decide) rfl
      refine ⟨b1, o1, A1, _, Hp.row_cell r1 (i := 1) rfl, _, isW (by unfold InR; omega), b3, o3, ⟨ha3, A1.2⟩, ?_⟩
      refine hp _ fun h50 V50 => hJ53 h50 _ ?_ V50
      unfold shN
      simp only
      rw [if_pos (show 0 < arI y.op by omega)]
      rfl
    · have g := of_decide_eq_false g
      refine hJ53 h34 y ?_ ?_
      · unfold shN
        simp only
        rw [if_neg (show ¬ 0 < arI y.op by omega)]
      · have : outs.set i y = outs := by
          refine List.ext_getElem? fun k => ?_
          rw [List.getElem?_set]
          split
          · rename_i h1; subst h1; rw [if_pos (by omega), hox]
          · rfl
        rw [this]
        exact V
  · have hge : i = s.length := by have := of_decide_eq_false g; omega
    subst hge
    rw [List.take_of_length_le (by omega), List.take_of_length_le (Nat.le_refl _)] at ht
    rw [ht] at V
    have := hK a29 c29 h34 V
    rw [List.length_map] at this
    exact this
theorem expr_Join_ok {op : Int} {a2 : Option Addr} {m2 c2 : Nat} {l2 : List Nd} (S : SlP encN h a m l) (S2 : SlP encN h a2 m2 l2) (W2 : WfL l2) (hm : l.length ≤ 1000000) (hm2 : l2.length ≤ 1000000) {R : Value → Hp → Prop}
    (hK : ∀ a' c' h', NdVec h h' a' c' (joinL op l l2) → R (vsl a' (joinL op l l2).length c') h') : CallOK Try.prog 73 [vi op, vsl a m c, vsl a2 m2 c2] h R := by
  refine ok_expr_Join ?_
  unfold VC_expr_Join
  obtain rfl := S.1
  obtain rfl := S2.1
  refine cloneN_ok S hm fun a3 c3 h2 V2 => ⟨_, _, _, rfl, _, isW (by unfold InR; omega), ?_⟩
  refine ⟨fun vs hh => ∃ (i : Nat) (a : Option Addr) (c : Nat), vs = [vsl a (l ++ (l2.take i).map (shN l.length)).length c, vi i] ∧ i ≤ l2.length ∧ NdVec h hh a c (l ++ (l2.take i).map (shN l.length)), fun vs hh => l2.length - (vint vs 1).toNat,
    ⟨0, a3, c3, by simp, Nat.zero_le _, by simpa using V2⟩, ?_⟩
  rintro vs hh ⟨i, a4, c4, rfl, hi, V⟩
  have hlen : (l ++ (l2.take i).map (shN l.length)).length = l.length + i := by simp; omega
  refine ⟨_, _, _, _, rfl, fun g => ?_, fun g => ?_⟩
  · have hlt : i < l2.length := by have := of_decide_eq_true g; omega
    have hx : l2[i]? = some l2[i] := List.getElem?_eq_getElem hlt
    have wn := W2 _ _ hx
    obtain ⟨b, o, ha, hr⟩ := (S2.le V.le0).get encN_len (by decide) hx
    have tk : (l2.take (i + 1)).map (shN l.length) = (l2.take i).map (shN l.length) ++ [shN l.length l2[i]] := by
      rw [List.take_succ_eq_append_getElem hlt, List.map_append]; rfl
    generalize l2[i] = y at *
    refine ⟨b, o, ⟨ha, by omega, by omega⟩, _, _, _, _, _, _, hr, expr_Arity_ok ⟨_, rfl, ?_⟩⟩
    intro J28
    have fin : ∀ (x' y' : Int), x' = (shN (l.length : Int) y).x → y' = (shN (l.length : Int) y).y → ∀ (b49 : Nat), hh b49 = none → SemOK Try.prog (Builtin.append_ #[39, 39] 39 #[(vsl a4 (l ++ (l2.take i).map (shN l.length)).length c4), (vsl (some (⟨b49, 0, none⟩ : Addr)) 1 1)]) (Hp.set hh b49 (cellsO [(vi y.op), (vi x'), (vi y'), (vi y.n), (vi y.v.1), (vi y.v.2)] 106)) fun v51 h52 => ∃ (a53 : Option Addr) (n53 c53 : Nat), v51 = (vsl a53 n53 c53) ∧ (∃ (x55 : Int), (IsW x55 ((i : Int) + 1)) ∧ ((∃ (i' : Nat) (a : Option Addr) (c : Nat), [vsl a53 n53 c53, vi x55] = [vsl a (l ++ (l2.take i').map (shN l.length)).length c, vi i'] ∧ i' ≤ l2.length ∧ NdVec h h52 a c (l ++ (l2.take i').map (shN l.length))) ∧ l2.length - (vint [vsl a53 n53 c53, vi x55] 1).toNat < l2.length - (vint [vsl a4 (l ++ (l2.take i).map (shN l.length)).length c4, vi i] 1).toNat)) := by
      rintro x' y' rfl rfl b49 hb49
      refine V.app (x := shN (l.length : Int) y) elNd encN_len one_encN (by omega) (by omega) hb49 fun a' c' h' V' => ⟨_, _, _, rfl, _, isW (by unfold InR; omega), ⟨i + 1, a', c', ?_, by omega, ?_⟩, by simp [vint]; omega⟩
      · rw [tk, ← List.append_assoc]; rfl
      · rw [tk, ← List.append_assoc]; exact V'
    have hJ : ∀ x', x' = (shN (l.length : Int) y).x → J28 x' := by
      intro x' hx'
      refine expr_Arity_ok ⟨_, rfl, ?_⟩
      intro J45
      refine ⟨fun g => ?_, fun g => ?_⟩
      · have g := of_decide_eq_true g
        have hy := wn.y (by omega)
        refine ⟨_, isW (by unfold InR; omega), fin _ _ hx' ?_⟩
        unfold shN
        simp only
        rw [if_pos (show 1 < arI y.op by omega)]
      · have g := of_decide_eq_false g
        refine fin _ _ hx' ?_
        unfold shN
        simp only
        rw [if_neg (show ¬ 1 < arI y.op by omega)]
    clear_value J28
    refine ⟨fun g => ?_, fun g => ?_⟩
    · have g := of_decide_eq_true g
      have hX := wn.x (by omega)
      refine ⟨_, isW (by unfold InR; omega), hJ _ ?_⟩
      unfold shN
      simp only
      rw [if_pos (show 0 < arI y.op by omega)]
    · have g := of_decide_eq_false g
      refine hJ _ ?_
      unfold shN
      simp only
      rw [if_neg (show ¬ 0 < arI y.op by omega)]
  · have hge : i = l2.length := by have := of_decide_eq_false g; omega
    subst hge
    rw [List.take_of_length_le (Nat.le_refl _)] at V hlen ⊢
    refine expr_Arity_ok ⟨_, rfl, ?_⟩
    intro J62
    have hJ : ∀ y', y' = (if 1 < arI op then ((l.length + l2.length : Nat) : Int) - 1 else 0) → J62 y' := by
      rintro y' rfl b66 hb66
      intro h67
      exact V.app (x := ⟨op, (l.length : Int) - 1, if 1 < arI op then ((l.length + l2.length : Nat) : Int) - 1 else 0, 0, (0, 0)⟩) elNd encN_len one_encN (by omega) (by omega) hb66 fun a' c' h' V' => ⟨_, _, _, rfl, hK a' c' h' V'⟩
    clear_value J62
    refine ⟨fun g => ?_, fun g => ?_⟩
    · have g := of_decide_eq_true g
      refine ⟨_, isW (by unfold InR; omega), hJ _ ?_⟩
      rw [if_pos (show 1 < arI op by omega), hlen]
    · have g := of_decide_eq_false g
      refine hJ _ ?_
      rw [if_neg (show ¬ 1 < arI op by omega)]
end
end Go.Proofs.Ytgonnpleihbklaa
