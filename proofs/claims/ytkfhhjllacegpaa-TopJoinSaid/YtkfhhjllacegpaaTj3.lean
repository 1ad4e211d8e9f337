/-
  The statement that the last part names, proved; and all that it stands on that is not in the parts ahead. Conditions: those stated at each.
-/
import Derived.Test.YtkfhhjllacegpaaRows
import Derived.WalkKit
import Derived.ProofKit
import Derived.OpenShut
import Derived.Test.YtkfhhjllacegpaaTj2
/-
  Contracts: package expr: Cut, Join. Conditions: those stated at each.
-/
namespace Go.Proofs.Ytkfhhjllacegpaa
open Go Go.Vc
set_option linter.unusedVariables false
set_option maxRecDepth 100000

abbrev NdVec := Vec encN 6 28
theorem cloneN_ok {a : Option Addr} {n c : Nat} {l : List Nd} {h : Hp} {R : Value → Hp → Prop} (S : SlP encN h a n l) (hn : n ≤ 1000000) (hK : ∀ a' c' h', NdVec h h' a' c' l → R (vsl a' l.length c') h') :
    CallOK Try.prog 18 [vsl a n c] h R := by
  refine ok_slices_Clone_api_Node_api_Node ?_
  unfold VC_slices_Clone_api_Node_api_Node
  have hl := S.1
  subst hl
  have hfl : (l.flatMap encN).length = l.length * 6 := by rw [flatMap_length encN_len]
  refine ⟨_, rd_eqNilS (e := 28) (by kernel_rfl), fun e => ?_, fun e => ?_⟩
  · have h0 : l.flatMap encN = [] := by
      rcases S.2 with h1 | ⟨b, o, ha, _⟩
      · exact h1
      · rw [ha] at e; cases e
    rw [h0] at hfl
    have hn0 : l = [] := List.eq_nil_of_length_eq_zero (by simp at hfl; omega)
    subst hn0
    exact hK none 0 h (OwnV.nil (Hp.le_refl h) _ _)
  · intro b3 hb3 h4
    have O0 : OwnV h h4 28 6 (some ⟨b3, 0, none⟩) 0 0 [] := OwnV.mk_new (Hp.le_refl h) hb3 _ [] rfl (by simp [maxLen])
    refine OwnV.append elNd O0 (S.le (Hp.le_set (Hp.le_refl h) hb3 _)).2 hfl (one_nds l) (by omega) (by omega) fun a' c' h' O' _ _ => ⟨_, _, _, rfl, ?_⟩
    rw [Nat.zero_add, List.nil_append] at *
    exact hK a' c' h' O'
/-- Expressions that are yet to be passed, on the way down to f. -/
inductive Pend (l : List Nd) (f : Nat) : Nat → Nat → Prop where
  | nil : Pend l f f 0
  | cons {g e k : Nat} : Blk l g e → Pend l f g k → Pend l f e (k + 1)
theorem Pend.open {l : List Nd} {f g i k : Nat} {n : Nd} (B : Blk l g (i + 1)) (Q : Pend l f g k) (hn : l[i]? = some n) : Pend l f i (k + (arI n.op).toNat) := by
  cases B with
  | leaf h ha =>
    rw [hn] at h
    cases h
    rw [ha]
    exact Q
  | one B h ha _ =>
    rw [hn] at h
    cases h
    rw [ha]
    exact .cons B Q
  | two B B' h ha _ _ =>
    rw [hn] at h
    cases h
    rw [ha]
    exact .cons B' (.cons B Q)
section
variable {a : Option Addr} {m c : Nat} {l : List Nd} {h : Hp}
theorem expr_Cut_ok (S : SlP encN h a m l) (hcap : m ≤ c) (W : WfL l) (hm : l.length ≤ 1000000) {f : Nat} {e : Nat} (B : Blk l f (e + 1)) {i0 : Int} (hi0 : i0 = e) {R : Value → Hp → Prop} (hK : ∀ a' c' h', NdVec h h' a' c' (cutL l f (e + 1)) → R (vsl a' (cutL l f (e + 1)).length c') h') :
    CallOK Try.prog 13 [vsl a m c, vi i0] h R := by
  subst hi0
  refine ok_expr_Cut ?_
  unfold VC_expr_Cut
  have hlt := B.lt
  obtain rfl := S.1
  have opAt : ∀ {i : Nat}, i < l.length → ∀ {hh : Hp}, h.le hh → ∃ n b o, l[i]? = some n ∧ a = some ⟨b, o, none⟩ ∧ hh.cell b (o + i * 6) = some (vi n.op) := by
    intro i hi hh hl
    have hx : l[i]? = some l[i] := List.getElem?_eq_getElem hi
    obtain ⟨b, o, ha, hr⟩ := (S.le hl).get encN_len (by decide) hx
    exact ⟨_, b, o, hx, ha, Hp.row_cell hr (i := 0) rfl⟩
  obtain ⟨n, b, o, hn, ha, hc⟩ := opAt (i := e) (by omega) (Hp.le_refl h)
  have wn := W _ _ hn
  refine ⟨b, o, ⟨ha, by omega, by omega⟩, _, hc, expr_Arity_ok ⟨_, rfl, ?_⟩⟩
  have Q0 := Pend.open B .nil hn
  rw [Nat.zero_add] at Q0
  refine ⟨fun vs hh => hh = h ∧ ∃ from' need : Nat, vs = [vi from', vi need] ∧ from' ≤ e ∧ need ≤ 2 * (e + 1 - from') ∧ Pend l f from' need, fun vs hh => (vint vs 0).toNat, ⟨rfl, e, (arI n.op).toNat, by rw [show (((arI n.op).toNat : Nat) : Int) = arI n.op by have := wn.a; omega], Nat.le_refl _, by rcases arI_range wn.a with h | h | h <;> omega, Q0⟩, ?_⟩
  rintro vs hh ⟨rfl, from', need, rfl, hfe, hnd, Q⟩
  refine ⟨from', need, rfl, fun g => ?_, fun g => ?_⟩
  · have g := of_decide_eq_true g
    cases Q with
    | nil => exact absurd g (by decide)
    | @cons g' _ k B' Q' =>
      have hlt' := B'.lt
      obtain ⟨i, rfl⟩ : ∃ i, from' = i + 1 := ⟨from' - 1, by omega⟩
      obtain ⟨n', b', o', hn', ha', hc'⟩ := opAt (i := i) (by omega) (Hp.le_refl hh)
      have wn' := W _ _ hn'
      have Q2 := Pend.open B' Q' hn'
      have hI : IsW ((i : Nat) : Int) (((i + 1 : Nat) : Int) - 1) := by
        have := isW (e := (((i + 1 : Nat) : Int) - 1)) (by unfold InR; omega)
        rw [show (((i + 1 : Nat) : Int) - 1) = (i : Int) by omega] at this ⊢
        exact this
      have r2 := arI_range wn'.a
      refine ⟨i, hI, b', o', ⟨ha', by omega, by omega⟩, _, hc', expr_Arity_ok ⟨_, rfl, _, isW (by unfold InR; omega), _, isW (by unfold InR; omega), ⟨rfl, i, k + (arI n'.op).toNat, ?_, by omega, by omega, Q2⟩, by simp [vint]⟩⟩
      rw [show ((k + (arI n'.op).toNat : Nat) : Int) = ((k + 1 : Nat) : Int) + (arI n'.op - 1) by have := wn'.a; omega]
  have g := of_decide_eq_false g
  have h0 : need = 0 := by omega
  subst h0
  cases Q
  refine ⟨_, isW (by unfold InR; omega), _, _, _, rd_slice_lh (e := 28) (by kernel_rfl) (by kernel_rfl) (by omega) (by omega) (by omega), ?_⟩
  have hsz : szT Try.prog 28 = 6 := by kernel_rfl
  rw [hsz, show ((e : Int) + 1).toNat = e + 1 by omega, Int.toNat_natCast]
  have Sseg : SlP encN hh (cutA a f c 6) (e + 1 - f) (seg l f (e + 1)) := (S.drop encN_len (i := f) (c := c) (by omega) hcap).take encN_len (by omega)
  have hsl : (seg l f (e + 1)).length = e + 1 - f := Sseg.1.symm
  have sget : ∀ {i : Nat} {n : Nd}, (seg l f (e + 1))[i]? = some n → l[f + i]? = some n := by
    intro i n hi
    unfold seg at hi
    rw [List.getElem?_take] at hi
    split at hi
    · rw [List.getElem?_drop] at hi; exact hi
    · cases hi
  have ecut : cutL l f (e + 1) = (seg l f (e + 1)).map (shN (-(f : Int))) := rfl
  rw [ecut] at hK
  generalize seg l f (e + 1) = s at *
  refine cloneN_ok Sseg (by omega) fun a29 c29 h28 V28 => ⟨_, _, _, rfl, ?_⟩
  refine ⟨fun vs h' => ∃ (i : Nat) (outs : List Nd), vs = [vi i] ∧ i ≤ s.length ∧ outs.length = s.length ∧ outs.take i = (s.take i).map (shN (-(f : Int))) ∧ outs.drop i = s.drop i ∧ NdVec hh h' a29 c29 outs, fun vs hh => s.length - (vint vs 0).toNat, ⟨0, s, rfl, Nat.zero_le _, rfl, rfl, rfl, V28⟩, ?_⟩
  rintro vs h34 ⟨i, outs, rfl, hi, hlo, ht, hd, V⟩
  refine ⟨i, rfl, fun g => ?_, fun g => ?_⟩
  · have hlt2 : i < s.length := by have := of_decide_eq_true g; omega
    have hx : s[i]? = some s[i] := List.getElem?_eq_getElem hlt2
    have hox : outs[i]? = some s[i] := by
      have := congrArg List.head? hd
      rw [List.head?_drop, List.head?_drop, hx] at this
      exact this
    have wn2 := W _ _ (sget hx)
    have hset : (outs.set i (shN (-(f : Int)) s[i])).take (i + 1) = (s.take (i + 1)).map (shN (-(f : Int))) := by
      rw [List.take_succ_eq_append_getElem (by rw [List.length_set]; omega), List.take_set_of_le (Nat.le_refl _), List.getElem_set_self, ht, List.take_succ_eq_append_getElem hlt2, List.map_append]
      rfl
    have hset2 : ∀ n', (outs.set i n').drop (i + 1) = s.drop (i + 1) := by
      intro n'
      have : (outs.drop i).drop 1 = (s.drop i).drop 1 := by rw [hd]
      rw [List.drop_drop, List.drop_drop] at this
      rw [List.drop_set_of_lt (Nat.lt_succ_self i)]
      exact this
    generalize s[i] = y at *
    intro J70
    have hJ : ∀ h', NdVec hh h' a29 c29 (outs.set i (shN (-(f : Int)) y)) → J70 h' := by
      intro h' V'
      exact ⟨_, isW (by unfold InR; omega), ⟨i + 1, _, rfl, by omega, by rw [List.length_set]; exact hlo, hset, hset2 _, V'⟩, by simp [vint]; omega⟩
    clear_value J70
    have acc : ∀ {h' : Hp} {outs' : List Nd} {z : Nd}, NdVec hh h' a29 c29 outs' → outs'[i]? = some z → outs'.length = s.length → ∃ b o, (a29 = some ⟨b, o, none⟩ ∧ (0 : Int) ≤ i ∧ (i : Int) < (s.length : Nat)) ∧ h'.row b (o + (i : Int).toNat * 6) 6 = some (encN z) := by
      intro h' outs' z V' hz hl'
      obtain ⟨b, o, ha, hr⟩ := (V'.slp encN_len (by decide)).get encN_len (by decide) hz
      exact ⟨b, o, ⟨ha, by omega, by omega⟩, hr⟩
    obtain ⟨b1, o1, A1, r1⟩ := acc V hox hlo
    refine ⟨b1, o1, A1, _, Hp.row_cell r1 (i := 0) rfl, expr_Arity_ok ⟨_, rfl, ?_⟩⟩
    intro J53
    have hJ53 : ∀ h' (z : Nd), z = { y with x := (shN (-(f : Int)) y).x } → NdVec hh h' a29 c29 (outs.set i z) → J53 h' := by
      rintro h' z hz V'
      have hz1 : (outs.set i z)[i]? = some z := List.getElem?_set_self (by omega)
      obtain ⟨b2, o2, A2, r2⟩ := acc V' hz1 (by rw [List.length_set]; exact hlo)
      have eop : z.op = y.op := by rw [hz]
      have ey : z.y = y.y := by rw [hz]
      refine ⟨b2, o2, A2, _, Hp.row_cell r2 (i := 0) rfl, expr_Arity_ok ⟨_, rfl, fun g => ?_, fun g => ?_⟩⟩
      · have g := of_decide_eq_true g
        rw [eop] at g
        have hy := wn2.y (by omega)
        have hfin : ({ z with y := y.y - f } : Nd) = shN (-(f : Int)) y := by
          rw [hz]
          unfold shN
          simp only
          rw [if_pos (show 1 < arI y.op by omega)]
          rfl
        obtain ⟨b3, o3, ha3, hp⟩ := V'.put encN_len (x' := { z with y := y.y - f }) (k := 2) (vs := [vi (y.y - f)]) hz1 (Nat.succ_pos 0) (show 2 + 1 ≤ 6 by decide) rfl
        refine ⟨b2, o2, A2, _, Hp.row_cell r2 (i := 2) rfl, _, isW (by rw [ey]; unfold InR; omega), b3, o3, ⟨ha3, A2.2⟩, ?_⟩
        rw [ey]
        refine hp _ fun h67 V67 => hJ h67 ?_
        rw [List.set_set, hfin] at V67
        exact V67
      · have g := of_decide_eq_false g
        rw [eop] at g
        have hfin : z = shN (-(f : Int)) y := by
          rw [hz]
          unfold shN
          simp only
          rw [if_neg (show ¬ 1 < arI y.op by omega)]
        rw [hfin] at V'
        exact hJ h' V'
    clear_value J53
    refine ⟨fun g => ?_, fun g => ?_⟩
    · have g := of_decide_eq_true g
      have hX := wn2.x (by omega)
      obtain ⟨b3, o3, ha3, hp⟩ := V.put encN_len (x' := { y with x := y.x - f }) (k := 1) (vs := [vi (y.x - f)]) hox (Nat.succ_pos 0) (show 1 + 1 ≤ 6 by decide) rfl
      refine ⟨b1, o1, A1, _, Hp.row_cell r1 (i := 1) rfl, _, isW (by unfold InR; omega), b3, o3, ⟨ha3, A1.2⟩, ?_⟩
      refine hp _ fun h50 V50 => hJ53 h50 _ ?_ V50
      unfold shN
      simp only
      rw [if_pos (show 0 < arI y.op by omega)]
      rfl
    · have g := of_decide_eq_false g
      refine hJ53 h34 y ?_ ?_
      · unfold shN
        simp only
        rw [if_neg (show ¬ 0 < arI y.op by omega)]
      · have : outs.set i y = outs := by
          refine List.ext_getElem? fun k => ?_
          rw [List.getElem?_set]
          split
          · rename_i h1; subst h1; rw [if_pos (by omega), hox]
          · rfl
        rw [this]
        exact V
  · have hge : i = s.length := by have := of_decide_eq_false g; omega
    subst hge
    rw [List.take_of_length_le (by omega), List.take_of_length_le (Nat.le_refl _)] at ht
    rw [ht] at V
    have := hK a29 c29 h34 V
    rw [List.length_map] at this
    exact this
theorem expr_Join_ok {op : Int} {a2 : Option Addr} {m2 c2 : Nat} {l2 : List Nd} (S : SlP encN h a m l) (S2 : SlP encN h a2 m2 l2) (W2 : WfL l2) (hm : l.length ≤ 1000000) (hm2 : l2.length ≤ 1000000) {R : Value → Hp → Prop}
    (hK : ∀ a' c' h', NdVec h h' a' c' (joinL op l l2) → R (vsl a' (joinL op l l2).length c') h') : CallOK Try.prog 5 [vi op, vsl a m c, vsl a2 m2 c2] h R := by
  refine ok_expr_Join ?_
  unfold VC_expr_Join
  obtain rfl := S.1
  obtain rfl := S2.1
  refine cloneN_ok S hm fun a3 c3 h2 V2 => ⟨_, _, _, rfl, _, isW (by unfold InR; omega), ?_⟩
  refine ⟨fun vs hh => ∃ (i : Nat) (a : Option Addr) (c : Nat), vs = [vsl a (l ++ (l2.take i).map (shN l.length)).length c, vi i] ∧ i ≤ l2.length ∧ NdVec h hh a c (l ++ (l2.take i).map (shN l.length)), fun vs hh => l2.length - (vint vs 1).toNat,
    ⟨0, a3, c3, by simp, Nat.zero_le _, by simpa using V2⟩, ?_⟩
  rintro vs hh ⟨i, a4, c4, rfl, hi, V⟩
  have hlen : (l ++ (l2.take i).map (shN l.length)).length = l.length + i := by simp; omega
  refine ⟨_, _, _, _, rfl, fun g => ?_, fun g => ?_⟩
  · have hlt : i < l2.length := by have := of_decide_eq_true g; omega
    have hx : l2[i]? = some l2[i] := List.getElem?_eq_getElem hlt
    have wn := W2 _ _ hx
    obtain ⟨b, o, ha, hr⟩ := (S2.le V.le0).get encN_len (by decide) hx
    have tk : (l2.take (i + 1)).map (shN l.length) = (l2.take i).map (shN l.length) ++ [shN l.length l2[i]] := by
      rw [List.take_succ_eq_append_getElem hlt, List.map_append]; rfl
    generalize l2[i] = y at *
    refine ⟨b, o, ⟨ha, by omega, by omega⟩, _, _, _, _, _, _, hr, expr_Arity_ok ⟨_, rfl, ?_⟩⟩
    intro J28
    have fin : ∀ (x' y' : Int), x' = (shN (l.length : Int) y).x → y' = (shN (l.length : Int) y).y → ∀ (b49 : Nat), hh b49 = none → SemOK Try.prog (Builtin.append_ #[22, 22] 22 #[(vsl a4 (l ++ (l2.take i).map (shN l.length)).length c4), (vsl (some (⟨b49, 0, none⟩ : Addr)) 1 1)]) (Hp.set hh b49 (cellsO [(vi y.op), (vi x'), (vi y'), (vi y.n), (vi y.v.1), (vi y.v.2)] 28)) fun v51 h52 => ∃ (a53 : Option Addr) (n53 c53 : Nat), v51 = (vsl a53 n53 c53) ∧ (∃ (x55 : Int), (IsW x55 ((i : Int) + 1)) ∧ ((∃ (i' : Nat) (a : Option Addr) (c : Nat), [vsl a53 n53 c53, vi x55] = [vsl a (l ++ (l2.take i').map (shN l.length)).length c, vi i'] ∧ i' ≤ l2.length ∧ NdVec h h52 a c (l ++ (l2.take i').map (shN l.length))) ∧ l2.length - (vint [vsl a53 n53 c53, vi x55] 1).toNat < l2.length - (vint [vsl a4 (l ++ (l2.take i).map (shN l.length)).length c4, vi i] 1).toNat)) := by
      rintro x' y' rfl rfl b49 hb49
      refine V.app (x := shN (l.length : Int) y) elNd encN_len one_encN (by omega) (by omega) hb49 fun a' c' h' V' => ⟨_, _, _, rfl, _, isW (by unfold InR; omega), ⟨i + 1, a', c', ?_, by omega, ?_⟩, by simp [vint]; omega⟩
      · rw [tk, ← List.append_assoc]; rfl
      · rw [tk, ← List.append_assoc]; exact V'
    have hJ : ∀ x', x' = (shN (l.length : Int) y).x → J28 x' := by
      intro x' hx'
      refine expr_Arity_ok ⟨_, rfl, ?_⟩
      intro J45
      refine ⟨fun g => ?_, fun g => ?_⟩
      · have g := of_decide_eq_true g
        have hy := wn.y (by omega)
        refine ⟨_, isW (by unfold InR; omega), fin _ _ hx' ?_⟩
        unfold shN
        simp only
        rw [if_pos (show 1 < arI y.op by omega)]
      · have g := of_decide_eq_false g
        refine fin _ _ hx' ?_
        unfold shN
        simp only
        rw [if_neg (show ¬ 1 < arI y.op by omega)]
    clear_value J28
    refine ⟨fun g => ?_, fun g => ?_⟩
    · have g := of_decide_eq_true g
      have hX := wn.x (by omega)
      refine ⟨_, isW (by unfold InR; omega), hJ _ ?_⟩
      unfold shN
      simp only
      rw [if_pos (show 0 < arI y.op by omega)]
    · have g := of_decide_eq_false g
      refine hJ _ ?_
      unfold shN
      simp only
      rw [if_neg (show ¬ 0 < arI y.op by omega)]
  · have hge : i = l2.length := by have := of_decide_eq_false g; omega
    subst hge
    rw [List.take_of_length_le (Nat.le_refl _)] at V hlen ⊢
    refine expr_Arity_ok ⟨_, rfl, ?_⟩
    intro J62
    have hJ : ∀ y', y' = (if 1 < arI op then ((l.length + l2.length : Nat) : Int) - 1 else 0) → J62 y' := by
      rintro y' rfl b66 hb66
      intro h67
      exact V.app (x := ⟨op, (l.length : Int) - 1, if 1 < arI op then ((l.length + l2.length : Nat) : Int) - 1 else 0, 0, (0, 0)⟩) elNd encN_len one_encN (by omega) (by omega) hb66 fun a' c' h' V' => ⟨_, _, _, rfl, hK a' c' h' V'⟩
    clear_value J62
    refine ⟨fun g => ?_, fun g => ?_⟩
    · have g := of_decide_eq_true g
      refine ⟨_, isW (by unfold InR; omega), hJ _ ?_⟩
      rw [if_pos (show 1 < arI op by omega), hlen]
    · have g := of_decide_eq_false g
      refine hJ _ ?_
      rw [if_neg (show ¬ 1 < arI op by omega)]
end
end Go.Proofs.Ytkfhhjllacegpaa
/-
  What functions of the program ask, in words: each is what the framework reckons from the loaded code (the kernel holds the two together), and gives the function's call. Conditions: none.
-/
namespace Go.Proofs.Ytkfhhjllacegpaa
open Go Go.Vc
set_option maxRecDepth 100000
set_option linter.unusedVariables false
/-- What 'penstock/expr.one' asks. -/
def VC_expr_one (u_nOp : Int) (u_nX : Int) (u_nY : Int) (u_nN : Int) (u_nValKind : Int) (u_nValN : Int) (h : Hp) (R : Value → Hp → Prop) : Prop :=
  (CallOK Try.prog 9 [(vi u_nOp)] h fun v1 h2 => ∃ (x3 : Int), v1 = (vi x3) ∧ (((decide ((x3 : Int) < 0)) = true → R (ifv (some (47, (vi 3)))) h2) ∧ ((decide ((x3 : Int) < 0)) = false → (∃ (p5 : Bool), ((decide ((u_nOp : Int) ≠ 1)) = true → Rd Try.prog ((eqGuard .neq 24 (.tmp 15) (.tmp 16) (vag [(vi u_nValKind), (vi u_nValN)]) (vag [(vi 0), (vi 0)]) >>= fun _ => binOp .neq 24 (vag [(vi u_nValKind), (vi u_nValN)]) (vag [(vi 0), (vi 0)]))) h2 (vb p5)) ∧ (((bif (bif (bif (bif (decide ((u_nOp : Int) ≠ 1)) then p5 else false) then true else (bif (decide ((u_nOp : Int) ≠ 2)) then (decide ((u_nN : Int) ≠ 0)) else false)) then true else (bif (decide ((x3 : Int) < 2)) then (decide ((u_nY : Int) ≠ 0)) else false)) then true else (bif (decide ((x3 : Int) < 1)) then (decide ((u_nX : Int) ≠ 0)) else false)) = true → R (ifv (some (47, (vi 3)))) h2) ∧ ((bif (bif (bif (bif (decide ((u_nOp : Int) ≠ 1)) then p5 else false) then true else (bif (decide ((u_nOp : Int) ≠ 2)) then (decide ((u_nN : Int) ≠ 0)) else false)) then true else (bif (decide ((x3 : Int) < 2)) then (decide ((u_nY : Int) ≠ 0)) else false)) then true else (bif (decide ((x3 : Int) < 1)) then (decide ((u_nX : Int) ≠ 0)) else false)) = false → (((bif (decide ((u_nOp : Int) = 2)) then (bif (decide ((u_nN : Int) < 0)) then true else (decide ((u_nN : Int) > 3))) else false) = true → R (ifv (some (47, (vi 1)))) h2) ∧ ((bif (decide ((u_nOp : Int) = 2)) then (bif (decide ((u_nN : Int) < 0)) then true else (decide ((u_nN : Int) > 3))) else false) = false → (CallOK Try.prog 20 [(vag [(vi u_nValKind), (vi u_nValN)])] h2 fun v8 h9 => ∃ (e10 : Option (TypeId × Value)), v8 = (ifv e10) ∧ R (ifv e10) h9)))))))))
theorem ok_expr_one {u_nOp : Int} {u_nX : Int} {u_nY : Int} {u_nN : Int} {u_nValKind : Int} {u_nValN : Int} {h : Hp} {R : Value → Hp → Prop} (H : VC_expr_one u_nOp u_nX u_nY u_nN u_nValKind u_nValN h R) : CallOK Try.prog 19 [(vag [(vi u_nOp), (vi u_nX), (vi u_nY), (vi u_nN), (vi u_nValKind), (vi u_nValN)])] h R :=
  call_of (cfg := ⟨[], [], []⟩) noNG mixed Try.func19 [.ag [.v (vi u_nOp), .v (vi u_nX), .v (vi u_nY), .v (vi u_nN), .v (vi u_nValKind), .v (vi u_nValN)]] (by kernel_rfl) rfl (by kernel_rfl) H

/-- What 'penstock/expr.Check' asks. -/
def VC_expr_Check (u_la : Option Addr) (u_ln u_lc : Nat) (h : Hp) (R : Value → Hp → Prop) : Prop :=
  (((decide ((((u_ln : Nat) : Int) : Int) > 40)) = true → R (ifv (some (47, (vi 2)))) h) ∧ ((decide ((((u_ln : Nat) : Int) : Int) > 40)) = false → (∃ (I3 : List Value → Hp → Prop) (m4 : List Value → Hp → Nat), I3 [(vsl none 0 0), (vi 0)] h ∧ ∀ (vs5 : List Value) (h6 : Hp), I3 vs5 h6 → ∃ (a7 : Option Addr) (n7 c7 : Nat) (x8 : Int), vs5 = [(vsl a7 n7 c7), (vi x8)] ∧ (((decide ((x8 : Int) < ((u_ln : Nat) : Int))) = true → (∃ (b11 o12 : Nat), (u_la = some ⟨b11, o12, none⟩ ∧ (0 : Int) ≤ x8 ∧ x8 < ((u_ln : Nat) : Int)) ∧ (∃ (x13 : Int) (x14 : Int) (x15 : Int) (x16 : Int) (x17 : Int) (x18 : Int), (Hp.row h6 b11 (o12 + x8.toNat * 6) 6 = some [(vi x13), (vi x14), (vi x15), (vi x16), (vi x17), (vi x18)]) ∧ (CallOK Try.prog 19 [(vag [(vi x13), (vi x14), (vi x15), (vi x16), (vi x17), (vi x18)])] h6 fun v19 h20 => ∃ (e21 : Option (TypeId × Value)), v19 = (ifv e21) ∧ (((Option.isSome e21) = true → R (ifv e21) h20) ∧ ((Option.isSome e21) = false → (CallOK Try.prog 9 [(vi x13)] h20 fun v23 h24 => ∃ (x25 : Int), v23 = (vi x25) ∧ (((decide ((x25 : Int) > ((n7 : Nat) : Int))) = true → R (ifv (some (47, (vi 3)))) h24) ∧ ((decide ((x25 : Int) > ((n7 : Nat) : Int))) = false → (∃ (x27 : Int), (IsW x27 (((n7 : Nat) : Int) - x25)) ∧ (∃ (a28 : Option Addr) (n28 c28 : Nat), (Rd Try.prog (Instr.sliceAt 48 (vsl a7 n7 c7) (some (vi x27)) none none) h24 (vsl a28 n28 c28)) ∧ (∃ (b29 o30 : Nat), ((decide ((x25 : Int) > 0)) = true → (a28 = some ⟨b29, o30, none⟩ ∧ (0 : Int) ≤ 0 ∧ 0 < ((n28 : Nat) : Int))) ∧ (∃ (x31 : Int), ((decide ((x25 : Int) > 0)) = true → Hp.cell h24 b29 (o30 + (0 : Int).toNat * 1) = some (vi x31)) ∧ (∃ (b32 o33 : Nat), (((bif (decide ((x25 : Int) > 0)) then (decide ((x31 : Int) ≠ x14)) else false) = false ∧ (decide ((x25 : Int) > 1)) = true) → (a28 = some ⟨b32, o33, none⟩ ∧ (0 : Int) ≤ 1 ∧ 1 < ((n28 : Nat) : Int))) ∧ (∃ (x34 : Int), (((bif (decide ((x25 : Int) > 0)) then (decide ((x31 : Int) ≠ x14)) else false) = false ∧ (decide ((x25 : Int) > 1)) = true) → Hp.cell h24 b32 (o33 + (1 : Int).toNat * 1) = some (vi x34)) ∧ (((bif (bif (decide ((x25 : Int) > 0)) then (decide ((x31 : Int) ≠ x14)) else false) then true else (bif (decide ((x25 : Int) > 1)) then (decide ((x34 : Int) ≠ x15)) else false)) = true → R (ifv (some (47, (vi 3)))) h24) ∧ ((bif (bif (decide ((x25 : Int) > 0)) then (decide ((x31 : Int) ≠ x14)) else false) then true else (bif (decide ((x25 : Int) > 1)) then (decide ((x34 : Int) ≠ x15)) else false)) = false → (∃ (x36 : Int), (IsW x36 (((n7 : Nat) : Int) - x25)) ∧ (∃ (a37 : Option Addr) (n37 c37 : Nat), (Rd Try.prog (Instr.sliceAt 48 (vsl a7 n7 c7) none (some (vi x36)) none) h24 (vsl a37 n37 c37)) ∧ (∀ (b38 : Nat), h24 b38 = none → let h39 : Hp := Hp.set h24 b38 (cellsO [(vi x8)] 3); (SemOK Try.prog (Builtin.append_ #[48, 48] 48 #[(vsl a37 n37 c37), (vsl (some (⟨b38, 0, none⟩ : Addr)) 1 1)]) h39 fun v40 h41 => ∃ (a42 : Option Addr) (n42 c42 : Nat), v40 = (vsl a42 n42 c42) ∧ (∃ (x44 : Int), (IsW x44 (x8 + 1)) ∧ (I3 [(vsl a42 n42 c42), (vi x44)] h41 ∧ m4 [(vsl a42 n42 c42), (vi x44)] h41 < m4 vs5 h6))))))))))))))))))))))) ∧ ((decide ((x8 : Int) < ((u_ln : Nat) : Int))) = false → (((decide ((((n7 : Nat) : Int) : Int) ≠ 1)) = true → R (ifv (some (47, (vi 3)))) h6) ∧ ((decide ((((n7 : Nat) : Int) : Int) ≠ 1)) = false → R (ifv none) h6)))))))
theorem ok_expr_Check {u_la : Option Addr} {u_ln u_lc : Nat} {h : Hp} {R : Value → Hp → Prop} (H : VC_expr_Check u_la u_ln u_lc h R) : CallOK Try.prog 8 [(vsl u_la u_ln u_lc)] h R :=
  call_of (cfg := ⟨[], [(5, ([3, 15], [.one (.slice), .one (.int .i64)], []))], [(14, [0, 1, 2, 3, 4, 5, 6, 7, 8, 9, 10, 11, 12, 13, 14, 15, 16, 17, 18, 19, 20, 21])]⟩) noNG mixed Try.func8 [.one (.v (vsl u_la u_ln u_lc))] (by kernel_rfl) rfl (by kernel_rfl) H

end Go.Proofs.Ytkfhhjllacegpaa
/-
  What functions of the program ask, in words: each is what the framework reckons from the loaded code (the kernel holds the two together), and gives the function's call. Conditions: none.
-/
namespace Go.Proofs.Ytkfhhjllacegpaa
open Go Go.Vc
set_option maxRecDepth 100000
set_option linter.unusedVariables false
/-- What 'penstock/value.Check' asks. -/
def VC_value_Check (u_vKind : Int) (u_vN : Int) (h : Hp) (R : Value → Hp → Prop) : Prop :=
  (let J4 : Bool → Prop := fun (p5 : Bool) => ((p5 = true → R (ifv none) h) ∧ (p5 = false → R (ifv (some (47, (vi 3)))) h)); (((bif (decide ((u_vKind : Int) = 0)) then (decide ((u_vN : Int) = 0)) else false) = true → (J4 (bif (decide ((u_vKind : Int) = 0)) then (decide ((u_vN : Int) = 0)) else false))) ∧ ((bif (decide ((u_vKind : Int) = 0)) then (decide ((u_vN : Int) = 0)) else false) = false → (((bif (bif (decide ((u_vKind : Int) = 1)) then (decide ((u_vN : Int) ≥ (-1000000000))) else false) then (decide ((u_vN : Int) ≤ 1000000000)) else false) = true → (J4 (bif (bif (decide ((u_vKind : Int) = 1)) then (decide ((u_vN : Int) ≥ (-1000000000))) else false) then (decide ((u_vN : Int) ≤ 1000000000)) else false))) ∧ ((bif (bif (decide ((u_vKind : Int) = 1)) then (decide ((u_vN : Int) ≥ (-1000000000))) else false) then (decide ((u_vN : Int) ≤ 1000000000)) else false) = false → (J4 (bif (decide ((u_vKind : Int) = 2)) then (bif (decide ((u_vN : Int) = 0)) then true else (decide ((u_vN : Int) = 1))) else false)))))))
theorem ok_value_Check {u_vKind : Int} {u_vN : Int} {h : Hp} {R : Value → Hp → Prop} (H : VC_value_Check u_vKind u_vN h R) : CallOK Try.prog 20 [(vag [(vi u_vKind), (vi u_vN)])] h R :=
  call_of (cfg := ⟨[], [], []⟩) noNG mixed Try.func20 [.ag [.v (vi u_vKind), .v (vi u_vN)]] (by kernel_rfl) rfl (by kernel_rfl) H

end Go.Proofs.Ytkfhhjllacegpaa
/-
  Contracts: package value: Check. Conditions: none.
-/
namespace Go.Proofs.Ytkfhhjllacegpaa
open Go Go.Vc
set_option linter.unusedVariables false

theorem value_Check_ok {v : Int × Int} {h : Hp} {R : Value → Hp → Prop} (hK : R (ifv (errV (if goodV v then 0 else 3))) h) : CallOK Try.prog 20 [vag (encV v)] h R := by
  refine ok_value_Check ?_
  unfold VC_value_Check
  intro J4
  have yes : goodV v → J4 true := fun hg => ⟨fun _ => by rw [if_pos hg] at hK; exact hK, fun e => by cases e⟩
  have no : ¬ goodV v → J4 false := fun hg => ⟨fun e => (by cases e), fun _ => by rw [if_neg hg] at hK; exact hK⟩
  refine ⟨fun e => ?_, fun e => ⟨fun e2 => ?_, fun e2 => ?_⟩⟩
  · rw [e]; exact yes (by unfold goodV; simp [Bool.cond_eq_ite] at e; omega)
  · rw [e2]; exact yes (by unfold goodV; simp [Bool.cond_eq_ite] at e2; omega)
  · by_cases hg : goodV v
    · have : (bif (decide (v.1 = 2)) then (bif (decide (v.2 = 0)) then true else (decide (v.2 = 1))) else false) = true := by
        unfold goodV at hg
        simp [Bool.cond_eq_ite] at e e2 ⊢
        omega
      rw [this]; exact yes hg
    · have : (bif (decide (v.1 = 2)) then (bif (decide (v.2 = 0)) then true else (decide (v.2 = 1))) else false) = false := by
        unfold goodV at hg
        simp [Bool.cond_eq_ite]
        omega
      rw [this]; exact no hg
end Go.Proofs.Ytkfhhjllacegpaa
/-
  Contracts: package expr: Check. Conditions: those stated at each.
-/
namespace Go.Proofs.Ytkfhhjllacegpaa
open Go Go.Vc
set_option linter.unusedVariables false
set_option maxRecDepth 100000

theorem eq_pair (v : Int × Int) : (v = (0, 0)) = (v.1 = 0 ∧ v.2 = 0) := propext ⟨fun h => by rw [h]; exact ⟨rfl, rfl⟩, fun h => Prod.ext h.1 h.2⟩
theorem expr_one_ok {n : Nd} {h : Hp} {R : Value → Hp → Prop} (hK : R (ifv (errV (nodeF n))) h) : CallOK Try.prog 19 [vag (encN n)] h R := by
  refine ok_expr_one ?_
  unfold VC_expr_one
  unfold nodeF at hK
  refine expr_Arity_ok ⟨_, rfl, fun q => ?_, fun q => ⟨_, fun _ => rd_neqV (a := n.v) (b := (0, 0)), fun q2 => ?_, fun q2 => ⟨fun q3 => ?_, fun q3 => value_Check_ok (v := n.v) ⟨_, rfl, ?_⟩⟩⟩⟩
  · rw [if_pos (of_decide_eq_true q)] at hK; exact hK
  all_goals
    have c1 := of_decide_eq_false q
    simp only [cand, cor, cnot] at *
  · have c2 := of_decide_eq_true q2
    rw [if_neg c1, if_pos (by simp only [ne_eq, eq_pair] at c2 ⊢; omega)] at hK
    exact hK
  · have c2 := of_decide_eq_false q2
    have c3 := of_decide_eq_true q3
    rw [if_neg c1, if_neg (by simp only [ne_eq, eq_pair] at c2 ⊢; omega), if_pos c3] at hK
    exact hK
  · have c2 := of_decide_eq_false q2
    have c3 := of_decide_eq_false q3
    rw [if_neg c1, if_neg (by simp only [ne_eq, eq_pair] at c2 ⊢; omega), if_neg c3] at hK
    by_cases hg : goodV n.v
    · rw [if_neg (by simp [hg])] at hK
      rw [if_pos hg]; exact hK
    · rw [if_pos hg] at hK
      rw [if_neg hg]; exact hK
theorem expr_Check_ok {a : Option Addr} {k c : Nat} {l : List Nd} {h : Hp} {R : Value → Hp → Prop} (S : SlP encN h a k l) (hK : ∀ h', h.le h' → R (ifv (errV (exprF l))) h') : CallOK Try.prog 8 [vsl a k c] h R := by
  refine ok_expr_Check ?_
  unfold VC_expr_Check
  have hk := S.1
  subst hk
  refine ⟨fun e => ?_, fun e => ?_⟩
  · have : exprF l = 2 := by unfold exprF; rw [if_pos (by have := of_decide_eq_true e; omega)]
    rw [this] at hK; exact hK h (Hp.le_refl h)
  have h40 : l.length ≤ 40 := by have := of_decide_eq_false e; omega
  have e1 : exprF l = chkGo [] 0 l := by unfold exprF; rw [if_neg (by omega)]
  rw [e1] at hK
  refine ⟨fun vs hh => ∃ (i : Nat) (a : Option Addr) (c : Nat) (st : List Int), vs = [vsl a st.length c, vi i] ∧ i ≤ l.length ∧ st.length ≤ i ∧ chkGo [] 0 l = chkGo st i (l.drop i) ∧ OwnV h hh 3 1 a st.length c (st.reverse.map vi), fun vs hh => l.length - (vint vs 1).toNat,
    ⟨0, none, 0, [], rfl, Nat.zero_le _, Nat.le_refl _, rfl, OwnV.nil (Hp.le_refl h) _ _⟩, ?_⟩
  rintro vs hh ⟨i, a1, c1, st, rfl, hi, hst, hc, O⟩
  refine ⟨_, _, _, _, rfl, fun q => ?_, fun q => ?_⟩
  · have hlt : i < l.length := by have := of_decide_eq_true q; omega
    have hx : l[i]? = some l[i] := List.getElem?_eq_getElem hlt
    rw [drop_get hlt] at hc
    obtain ⟨b, o, ha, hr⟩ := (S.le O.le).get encN_len (by decide) hx
    generalize l[i] = n at *
    refine ⟨b, o, ⟨ha, by omega, by omega⟩, _, _, _, _, _, _, hr, expr_one_ok (n := n) ⟨_, rfl, fun q2 => ?_, fun q2 => expr_Arity_ok ⟨_, rfl, ?_⟩⟩⟩
    · rw [errV_some] at q2
      have hf : nodeF n ≠ 0 := by simpa using q2
      rw [chk_fault rfl hf] at hc
      rw [hc] at hK; exact hK hh O.le
    rw [errV_some] at q2
    have hf : nodeF n = 0 := by simpa using q2
    have har : 0 ≤ arI n.op := nodeF_ar hf
    have SI : SlI hh a1 st.length st.reverse := by have := O.sli; exact this
    have hbad : popN n st = none → R (ifv (errV 3)) hh := fun hp => by
      rw [chk_none hf hp] at hc
      rw [hc] at hK; exact hK hh O.le
    have hcap := O.own.cap
    have hgood : ∀ s, popN n st = some s → ∀ x : Int, x = (st.length : Nat) - arI n.op → ∀ K : Value → Hp → Prop, (∀ (a46 : Option Addr) (n46 c46 : Nat) (h45 : Hp), OwnV h h45 3 1 a46 n46 c46 ((((i : Int) :: s).reverse).map vi) → n46 = s.length + 1 → K (vsl a46 n46 c46) h45) →
        ∃ (a38 : Option Addr) (n38 c38 : Nat), (Rd Try.prog (Instr.sliceAt 48 (vsl a1 st.length c1) none (some (vi x)) none) hh (vsl a38 n38 c38)) ∧ (∀ (b42 : Nat), hh b42 = none → SemOK Try.prog (Builtin.append_ #[48, 48] 48 #[(vsl a38 n38 c38), (vsl (some (⟨b42, 0, none⟩ : Addr)) 1 1)]) (Hp.set hh b42 (cellsO [(vi i)] 3)) K) := by
      intro s hs x hx K hK
      rw [hx]
      obtain ⟨p1, p2⟩ := popN_some har hs
      rw [← p1]
      refine ⟨_, _, _, rd_slice_h (e := 3) (by kernel_rfl) (by kernel_rfl) (by omega) (by omega), fun b42 hb42 => ?_⟩
      rw [Int.toNat_natCast]
      have OC : OwnV h hh 3 1 a1 s.length c1 (s.reverse.map vi) := by
        have := O.cut (m := s.length) (by omega)
        rw [Nat.mul_one, ← List.map_take, p2] at this
        exact this
      refine OwnV.append elInt (OwnV.set hb42 _ OC) (HasRow.new _ _ [vi i] _) (m := 1) rfl (by simp [Value.oneCell']) (by omega) (by omega) fun a2 c2 h2 O2 _ _ => hK _ _ _ _ ?_ rfl
      rw [List.reverse_cons, List.map_append]
      exact O2
    have hnext : ∀ s, popN n st = some s → ∀ (a46 : Option Addr) (n46 c46 : Nat) (h45 : Hp), OwnV h h45 3 1 a46 n46 c46 ((((i : Int) :: s).reverse).map vi) → n46 = s.length + 1 → ∃ (x48 : Int), IsW x48 ((i : Int) + 1) ∧ (∃ (i' : Nat) (a : Option Addr) (c : Nat) (st : List Int), [vsl a46 n46 c46, vi x48] = [vsl a st.length c, vi i'] ∧ i' ≤ l.length ∧ st.length ≤ i' ∧ chkGo [] 0 l = chkGo st i' (l.drop i') ∧ OwnV h h45 3 1 a st.length c (st.reverse.map vi)) ∧ l.length - (vint [vsl a46 n46 c46, vi x48] 1).toNat < l.length - (vint [vsl a1 st.length c1, vi i] 1).toNat := by
      intro s hs a46 n46 c46 h45 O45 hn
      subst hn
      obtain ⟨p1, p2⟩ := popN_some har hs
      refine ⟨_, isW (by unfold InR; omega), ⟨i + 1, a46, c46, (i : Int) :: s, rfl, by omega, by simp; omega, ?_, O45⟩, by simp [vint]; omega⟩
      rw [hc, chk_some hf hs]
    refine ⟨fun q3 => ?_, fun q3 => ?_⟩
    · have hlt2 := of_decide_eq_true q3
      have : popN n st = none := by
        cases hp : popN n st with
        | none => rfl
        | some s => have := (popN_some har hp).1; omega
      exact hbad this
    have hge := of_decide_eq_false q3
    have hw : ∀ {K : Int → Prop}, K ((st.length : Nat) - arI n.op) → ∃ x, IsW x (((st.length : Nat) : Int) - arI n.op) ∧ K x := fun hk => ⟨_, isW (by unfold InR; omega), hk⟩
    refine hw ?_
    have hsz : szT Try.prog 3 = 1 := by kernel_rfl
    have rdl := fun (x : Int) (h0 : 0 ≤ x) (h1 : x ≤ st.length) => rd_slice_l (P := Try.prog) (h := hh) (t := 48) (e := 3) (by kernel_rfl) (by kernel_rfl) (a := a1) (n := st.length) (c := c1) h0 h1
    rw [hsz] at rdl
    refine ⟨_, _, _, rdl _ (by omega) (by omega), ?_⟩
    have SD := SI.drop (i := ((st.length : Nat) - arI n.op).toNat) (c := c1) (by omega) hcap
    rcases arI_range har with h0 | h0 | h0
    · have hs : popN n st = some st := by unfold popN; rw [if_pos h0]
      rw [h0]
      refine ⟨0, 0, fun g => (by cases g), 0, fun g => (by cases g), 0, 0, fun g => (by cases g.2), 0, fun g => (by cases g.2), fun g => ?_, fun _ => ⟨_, isW (by unfold InR; omega), hgood st hs _ (by rw [h0]) _ fun a46 n46 c46 h45 O e => ⟨_, _, _, rfl, hnext st hs a46 n46 c46 h45 O e⟩⟩⟩
      exfalso
      simp only [cand, cor] at g
      have := of_decide_eq_true g
      omega
    · match st with
      | [] => exfalso; simp at hge; omega
      | z :: s =>
        have hx29 : (((z :: s).length : Nat) : Int) - arI n.op = (s.length : Nat) := by rw [h0]; simp
        rw [hx29] at SD ⊢
        rw [Int.toNat_natCast] at SD ⊢
        have ed : ((z :: s).reverse).drop s.length = [z] := by rw [List.reverse_cons, List.drop_left' (by simp)]
        rw [ed] at SD
        obtain ⟨q, p, hq, hcell⟩ := SD.get (i := 0) (by simp)
        rw [h0]
        by_cases hz : z = n.x
        · have hs : popN n (z :: s) = some s := by unfold popN; rw [if_neg (by omega), if_pos h0]; simp [hz]
          refine ⟨q, p, fun g => ⟨hq, by omega, by simp⟩, z, fun g => hcell, 0, 0, fun g => (by cases g.2), 0, fun g => (by cases g.2), fun g => ?_, fun _ => ?_⟩
          · exfalso
            simp only [cand, cor] at g
            have := of_decide_eq_true g
            omega
          · exact ⟨_, isW (by have : (z :: s).length ≤ i := hst; unfold InR; omega), hgood s hs _ hx29.symm _ fun a46 n46 c46 h45 O e => ⟨_, _, _, rfl, hnext s hs a46 n46 c46 h45 O e⟩⟩
        · have hs : popN n (z :: s) = none := by unfold popN; rw [if_neg (by omega), if_pos h0]; simp [hz]
          have := hbad hs
          refine ⟨q, p, fun g => ⟨hq, by omega, by simp⟩, z, fun g => hcell, 0, 0, fun g => (by cases g.2), 0, fun g => (by cases g.2), fun _ => this, fun g => ?_⟩
          exfalso
          simp only [cand, cor] at g
          have := of_decide_eq_false g
          omega
    · match st with
      | [] => exfalso; simp at hge; omega
      | [z] => exfalso; simp at hge; omega
      | z :: y :: s =>
        have hx29 : (((z :: y :: s).length : Nat) : Int) - arI n.op = (s.length : Nat) := by rw [h0]; simp; omega
        rw [hx29] at SD ⊢
        rw [Int.toNat_natCast] at SD ⊢
        have ed : ((z :: y :: s).reverse).drop s.length = [y, z] := by rw [List.reverse_cons, List.reverse_cons, List.append_assoc, List.drop_left' (by simp)]; rfl
        rw [ed] at SD
        have en : (z :: y :: s).length - s.length = 2 := by simp; omega
        rw [en] at SD ⊢
        obtain ⟨q, p, hq, hcell⟩ := SD.get (i := 0) (by simp)
        obtain ⟨q', p', hq', hcell'⟩ := SD.get (i := 1) (by simp)
        rw [h0]
        by_cases hz : y = n.x ∧ z = n.y
        · have hs : popN n (z :: y :: s) = some s := by unfold popN; rw [if_neg (by omega), if_neg (by omega)]; simp [hz.1, hz.2]
          refine ⟨q, p, fun g => ⟨hq, by omega, by decide⟩, y, fun g => hcell, q', p', fun g => ⟨hq', by omega, by decide⟩, z, fun g => hcell', fun g => ?_, fun _ => ?_⟩
          · exfalso
            simp only [cand, cor] at g
            have := of_decide_eq_true g
            omega
          · exact ⟨_, isW (by have : (z :: y :: s).length ≤ i := hst; unfold InR; omega), hgood s hs _ hx29.symm _ fun a46 n46 c46 h45 O e => ⟨_, _, _, rfl, hnext s hs a46 n46 c46 h45 O e⟩⟩
        · have hs : popN n (z :: y :: s) = none := by unfold popN; rw [if_neg (by omega), if_neg (by omega)]; simp; intro h1 h2; exact hz ⟨h1, h2⟩
          have := hbad hs
          refine ⟨q, p, fun g => ⟨hq, by omega, by decide⟩, y, fun g => hcell, q', p', fun g => ⟨hq', by omega, by decide⟩, z, fun g => hcell', fun _ => this, fun g => ?_⟩
          exfalso
          simp only [cand, cor] at g
          have := of_decide_eq_false g
          omega
  · have hge : i = l.length := by have := of_decide_eq_false q; omega
    subst hge
    rw [List.drop_eq_nil_of_le (Nat.le_refl _), chkGo] at hc
    refine ⟨fun q2 => ?_, fun q2 => ?_⟩
    · rw [if_neg (by have := of_decide_eq_true q2; omega)] at hc
      rw [hc] at hK; exact hK hh O.le
    · rw [if_pos (by have := of_decide_eq_false q2; omega)] at hc
      rw [hc] at hK; exact hK hh O.le
end Go.Proofs.Ytkfhhjllacegpaa
/-
  What functions of the program ask, in words: each is what the framework reckons from the loaded code (the kernel holds the two together), and gives the function's call. Conditions: none.
-/
namespace Go.Proofs.Ytkfhhjllacegpaa
open Go Go.Vc
set_option maxRecDepth 100000
set_option linter.unusedVariables false
/-- What 'penstock/penstockref.SameNodes' asks. -/
def VC_R_SameNodes (u_aa : Option Addr) (u_an u_ac : Nat) (u_ba : Option Addr) (u_bn u_bc : Nat) (h : Hp) (R : Value → Hp → Prop) : Prop :=
  (((decide ((((u_an : Nat) : Int) : Int) ≠ ((u_bn : Nat) : Int))) = true → R (vb false) h) ∧ ((decide ((((u_an : Nat) : Int) : Int) ≠ ((u_bn : Nat) : Int))) = false → (∃ (I3 : List Value → Hp → Prop) (m4 : List Value → Hp → Nat), I3 [(vi 0)] h ∧ ∀ (vs5 : List Value) (h6 : Hp), I3 vs5 h6 → ∃ (x7 : Int), vs5 = [(vi x7)] ∧ (((decide ((x7 : Int) < ((u_an : Nat) : Int))) = true → (∃ (b10 o11 : Nat), (u_aa = some ⟨b10, o11, none⟩ ∧ (0 : Int) ≤ x7 ∧ x7 < ((u_an : Nat) : Int)) ∧ (∃ (x12 : Int) (x13 : Int) (x14 : Int) (x15 : Int) (x16 : Int) (x17 : Int), (Hp.row h6 b10 (o11 + x7.toNat * 6) 6 = some [(vi x12), (vi x13), (vi x14), (vi x15), (vi x16), (vi x17)]) ∧ (∃ (b18 o19 : Nat), (u_ba = some ⟨b18, o19, none⟩ ∧ (0 : Int) ≤ x7 ∧ x7 < ((u_bn : Nat) : Int)) ∧ (∃ (x20 : Int) (x21 : Int) (x22 : Int) (x23 : Int) (x24 : Int) (x25 : Int), (Hp.row h6 b18 (o19 + x7.toNat * 6) 6 = some [(vi x20), (vi x21), (vi x22), (vi x23), (vi x24), (vi x25)]) ∧ (∃ (p26 : Bool), (Rd Try.prog ((eqGuard .neq 28 (.tmp 20) (.tmp 24) (vag [(vi x12), (vi x13), (vi x14), (vi x15), (vi x16), (vi x17)]) (vag [(vi x20), (vi x21), (vi x22), (vi x23), (vi x24), (vi x25)]) >>= fun _ => binOp .neq 28 (vag [(vi x12), (vi x13), (vi x14), (vi x15), (vi x16), (vi x17)]) (vag [(vi x20), (vi x21), (vi x22), (vi x23), (vi x24), (vi x25)]))) h6 (vb p26)) ∧ ((p26 = true → R (vb false) h6) ∧ (p26 = false → (∃ (x28 : Int), (IsW x28 (x7 + 1)) ∧ (I3 [(vi x28)] h6 ∧ m4 [(vi x28)] h6 < m4 vs5 h6)))))))))) ∧ ((decide ((x7 : Int) < ((u_an : Nat) : Int))) = false → R (vb true) h6)))))
theorem ok_R_SameNodes {u_aa : Option Addr} {u_an u_ac : Nat} {u_ba : Option Addr} {u_bn u_bc : Nat} {h : Hp} {R : Value → Hp → Prop} (H : VC_R_SameNodes u_aa u_an u_ac u_ba u_bn u_bc h R) : CallOK Try.prog 12 [(vsl u_aa u_an u_ac), (vsl u_ba u_bn u_bc)] h R :=
  call_of (cfg := ⟨[], [(4, ([5], [.one (.int .i64)], []))], [(6, [0, 1, 2, 3, 4, 5, 6, 7, 8])]⟩) noNG mixed Try.func12 [.one (.v (vsl u_aa u_an u_ac)), .one (.v (vsl u_ba u_bn u_bc))] (by kernel_rfl) rfl (by kernel_rfl) H

end Go.Proofs.Ytkfhhjllacegpaa
/-
  What functions of the program ask, in words: each is what the framework reckons from the loaded code (the kernel holds the two together), and gives the function's call. Conditions: none.
-/
namespace Go.Proofs.Ytkfhhjllacegpaa
open Go Go.Vc
set_option maxRecDepth 100000
set_option linter.unusedVariables false
/-- What 'penstock/penstocklaw.LightNodes' asks. -/
def VC_law_LightNodes (u_la : Option Addr) (u_ln u_lc : Nat) (h : Hp) (R : Value → Hp → Prop) : Prop :=
  R (vb (decide ((((u_ln : Nat) : Int) : Int) ≤ 50))) h
theorem ok_law_LightNodes {u_la : Option Addr} {u_ln u_lc : Nat} {h : Hp} {R : Value → Hp → Prop} (H : VC_law_LightNodes u_la u_ln u_lc h R) : CallOK Try.prog 7 [(vsl u_la u_ln u_lc)] h R :=
  call_of (cfg := ⟨[], [], []⟩) noNG mixed Try.func7 [.one (.v (vsl u_la u_ln u_lc))] (by kernel_rfl) rfl (by kernel_rfl) H

end Go.Proofs.Ytkfhhjllacegpaa
/-
  Contracts: lists of nodes that are the same; how many are light. Conditions: that they are the same.
-/
namespace Go.Proofs.Ytkfhhjllacegpaa
open Go Go.Vc
set_option linter.unusedVariables false
set_option maxRecDepth 100000

theorem eqFl_N (a b c d e f a' b' c' d' e' f' : Int) : eqFl Try.prog 8 28 [vi a, vi b, vi c, vi d, vi e, vi f] [vi a', vi b', vi c', vi d', vi e', vi f'] =
    some (decide (a = a') && (decide (b = b') && (decide (c = c') && (decide (d = d') && ((decide (e = e') && (decide (f = f') && true)) && true))))) := by kernel_rfl
theorem rd_neqN {h : Hp} {x y : Operand} {a : Nd} : Rd Try.prog (eqGuard .neq 28 x y (vag (encN a)) (vag (encN a)) >>= fun _ => binOp .neq 28 (vag (encN a)) (vag (encN a))) h (vb false) := by
  have := rd_neq (P := Try.prog) (h := h) (t := 28) (x := x) (y := y) (eqFl_N a.op a.x a.y a.n a.v.1 a.v.2 a.op a.x a.y a.n a.v.1 a.v.2) (by kernel_rfl) (by kernel_rfl)
  have e : (!(decide (a.op = a.op) && (decide (a.x = a.x) && (decide (a.y = a.y) && (decide (a.n = a.n) && ((decide (a.v.1 = a.v.1) && (decide (a.v.2 = a.v.2) && true)) && true)))))) = false := by simp
  rw [e] at this
  exact this
theorem R_SameNodes_ok {a a2 : Option Addr} {n n2 c c2 : Nat} {l : List Nd} {h : Hp} {R : Value → Hp → Prop} (S : SlP encN h a n l) (S2 : SlP encN h a2 n2 l) (hl : l.length ≤ 1000000) (hK : R (vb true) h) : CallOK Try.prog 12 [vsl a n c, vsl a2 n2 c2] h R := by
  refine ok_R_SameNodes ?_
  unfold VC_R_SameNodes
  obtain rfl := S.1
  obtain rfl := S2.1
  refine ⟨fun g => by simp at g, fun _ => ⟨fun vs hh => hh = h ∧ ∃ i : Nat, vs = [vi i] ∧ i ≤ l.length, fun vs hh => l.length - (vint vs 0).toNat, ⟨rfl, 0, rfl, Nat.zero_le _⟩, ?_⟩⟩
  rintro vs hh ⟨rfl, i, rfl, hi⟩
  refine ⟨i, rfl, fun q => ?_, fun _ => hK⟩
  have hlt : i < l.length := by have := of_decide_eq_true q; omega
  have hx : l[i]? = some l[i] := List.getElem?_eq_getElem hlt
  obtain ⟨b, o, ha, hr⟩ := S.get encN_len (by decide) hx
  obtain ⟨b', o', ha', hr'⟩ := S2.get encN_len (by decide) hx
  generalize l[i] = y at *
  exact ⟨b, o, ⟨ha, by omega, by omega⟩, _, _, _, _, _, _, hr, b', o', ⟨ha', by omega, by omega⟩, _, _, _, _, _, _, hr', _, rd_neqN (a := y), fun g => (by cases g), fun _ => ⟨_, isW (by unfold InR; omega), ⟨rfl, i + 1, rfl, by omega⟩, by simp [vint]; omega⟩⟩
theorem law_LightNodes_ok {a : Option Addr} {n c : Nat} {h : Hp} {R : Value → Hp → Prop} (hK : R (vb (decide ((n : Int) ≤ 50))) h) : CallOK Try.prog 7 [vsl a n c] h R := ok_law_LightNodes hK
end Go.Proofs.Ytkfhhjllacegpaa
/-
  What functions of the program ask, in words: each is what the framework reckons from the loaded code (the kernel holds the two together), and gives the function's call. Conditions: none.
-/
namespace Go.Proofs.Ytkfhhjllacegpaa
open Go Go.Vc
set_option maxRecDepth 100000
set_option linter.unusedVariables false
/-- What 'penstock/penstocktop.may' asks. -/
def VC_top_may (u_eTime : Int) (u_eKKind : Int) (u_eKN : Int) (u_eAKind : Int) (u_eAN : Int) (u_eBKind : Int) (u_eBN : Int) (h : Hp) (R : Value → Hp → Prop) : Prop :=
  (∀ (b1 : Nat), h b1 = none → let h2 : Hp := Hp.set h b1 (cellsO [(vi u_eKKind), (vi u_eKN), (vi u_eAKind), (vi u_eAN), (vi u_eBKind), (vi u_eBN)] 24); (∃ (I4 : List Value → Hp → Prop) (m5 : List Value → Hp → Nat), I4 [(vi 0)] h2 ∧ ∀ (vs6 : List Value) (h7 : Hp), I4 vs6 h7 → ∃ (x8 : Int), vs6 = [(vi x8)] ∧ (((decide ((x8 : Int) < 3)) = true → (∃ (b11 o12 : Nat), ((some (⟨b1, 0, none⟩ : Addr)) = some ⟨b11, o12, none⟩ ∧ (0 : Int) ≤ x8 ∧ x8 < ((3 : Nat) : Int)) ∧ (∃ (x13 : Int) (x14 : Int), (Hp.row h7 b11 (o12 + x8.toNat * 2) 2 = some [(vi x13), (vi x14)]) ∧ (CallOK Try.prog 20 [(vag [(vi x13), (vi x14)])] h7 fun v15 h16 => ∃ (e17 : Option (TypeId × Value)), v15 = (ifv e17) ∧ (∃ (b18 o19 : Nat), ((Option.isSome e17) = false → ((some (⟨b1, 0, none⟩ : Addr)) = some ⟨b18, o19, none⟩ ∧ (0 : Int) ≤ x8 ∧ x8 < ((3 : Nat) : Int))) ∧ (∃ (x20 : Int), ((Option.isSome e17) = false → Hp.cell h16 b18 (o19 + x8.toNat * 2) = some (vi x20)) ∧ (∃ (b21 o22 : Nat), ((bif (Option.isSome e17) then true else (decide ((x20 : Int) = 2))) = false → ((some (⟨b1, 0, none⟩ : Addr)) = some ⟨b21, o22, none⟩ ∧ (0 : Int) ≤ x8 ∧ x8 < ((3 : Nat) : Int))) ∧ (∃ (x23 : Int), ((bif (Option.isSome e17) then true else (decide ((x20 : Int) = 2))) = false → Hp.cell h16 b21 ((o22 + x8.toNat * 2) + 1) = some (vi x23)) ∧ (∃ (b24 o25 : Nat), ((bif (bif (Option.isSome e17) then true else (decide ((x20 : Int) = 2))) then true else (decide ((x23 : Int) < (-1000)))) = false → ((some (⟨b1, 0, none⟩ : Addr)) = some ⟨b24, o25, none⟩ ∧ (0 : Int) ≤ x8 ∧ x8 < ((3 : Nat) : Int))) ∧ (∃ (x26 : Int), ((bif (bif (Option.isSome e17) then true else (decide ((x20 : Int) = 2))) then true else (decide ((x23 : Int) < (-1000)))) = false → Hp.cell h16 b24 ((o25 + x8.toNat * 2) + 1) = some (vi x26)) ∧ (((bif (bif (bif (Option.isSome e17) then true else (decide ((x20 : Int) = 2))) then true else (decide ((x23 : Int) < (-1000)))) then true else (decide ((x26 : Int) > 1000))) = true → R (vb false) h16) ∧ ((bif (bif (bif (Option.isSome e17) then true else (decide ((x20 : Int) = 2))) then true else (decide ((x23 : Int) < (-1000)))) then true else (decide ((x26 : Int) > 1000))) = false → (∃ (x28 : Int), (IsW x28 (x8 + 1)) ∧ (I4 [(vi x28)] h16 ∧ m5 [(vi x28)] h16 < m5 vs6 h7)))))))))))))) ∧ ((decide ((x8 : Int) < 3)) = false → R (vb (bif (decide ((u_eTime : Int) ≥ 0)) then (decide ((u_eTime : Int) ≤ 9999)) else false)) h7))))
theorem ok_top_may {u_eTime : Int} {u_eKKind : Int} {u_eKN : Int} {u_eAKind : Int} {u_eAN : Int} {u_eBKind : Int} {u_eBN : Int} {h : Hp} {R : Value → Hp → Prop} (H : VC_top_may u_eTime u_eKKind u_eKN u_eAKind u_eAN u_eBKind u_eBN h R) : CallOK Try.prog 10 [(vag [(vi u_eTime), (vi u_eKKind), (vi u_eKN), (vi u_eAKind), (vi u_eAN), (vi u_eBKind), (vi u_eBN)])] h R :=
  call_of (cfg := ⟨[], [(3, ([4], [.one (.int .i64)], []))], []⟩) noNG mixed Try.func10 [.ag [.v (vi u_eTime), .v (vi u_eKKind), .v (vi u_eKN), .v (vi u_eAKind), .v (vi u_eAN), .v (vi u_eBKind), .v (vi u_eBN)]] (by kernel_rfl) rfl (by kernel_rfl) H

/-- What 'penstock/penstocktop.TopJoin' asks. -/
def VC_top_TopJoin (u_la : Option Addr) (u_ln u_lc : Nat) (u_ma : Option Addr) (u_mn u_mc : Nat) (u_op : Int) (u_eTime : Int) (u_eKKind : Int) (u_eKN : Int) (u_eAKind : Int) (u_eAN : Int) (u_eBKind : Int) (u_eBN : Int) (h : Hp) (R : Value → Hp → Prop) : Prop :=
  (∀ (b1 : Nat), h b1 = none → let h2 : Hp := Hp.set h b1 (cellsO [(vi 2), (vi 0), (vi 0), (vi 0), (vi 0), (vi 0)] 28); (CallOK Try.prog 5 [(vi 6), (vsl (some (⟨b1, 0, none⟩ : Addr)) 1 1), (vsl (some (⟨b1, 0, none⟩ : Addr)) 1 1)] h2 fun v3 h4 => ∃ (a5 : Option Addr) (n5 c5 : Nat), v3 = (vsl a5 n5 c5) ∧ (CallOK Try.prog 4 [(vsl a5 n5 c5), (vag [(vi 4), (vi 0), (vi 0), (vi 0), (vi 0), (vi 0), (vi 0)])] h4 fun v6 h7 => ∃ (x8 : Int) (x9 : Int), v6 = (vag [(vi x8), (vi x9)]) ∧ (∃ (J10 : SV → Hp → Prop), ((decide ((x9 : Int) ≠ 8)) = false → (CallOK Try.prog 6 [(vi 8)] h7 fun v11 h12 => ∃ (x13 : Int) (x14 : Int), v11 = (vag [(vi x13), (vi x14)]) ∧ J10 (.t (.ag [.v (vi x13), .v (vi x14)])) h12)) ∧ (¬ ((decide ((x9 : Int) ≠ 8)) = false) → J10 (.t (.ag [.v (vi 0), .v (vi 0)])) h7) ∧ ∀ (h15 : Hp) (x16 : Int) (x17 : Int), J10 (.t (.ag [.v (vi x16), .v (vi x17)])) h15 → (∃ (p18 : Bool), ((decide ((x9 : Int) ≠ 8)) = false → Rd Try.prog ((eqGuard .neq 24 (.tmp 24) (.tmp 25) (vag [(vi x8), (vi x9)]) (vag [(vi x16), (vi x17)]) >>= fun _ => binOp .neq 24 (vag [(vi x8), (vi x9)]) (vag [(vi x16), (vi x17)]))) h15 (vb p18)) ∧ (((bif (decide ((x9 : Int) ≠ 8)) then true else p18) = true → R (vb false) h15) ∧ ((bif (decide ((x9 : Int) ≠ 8)) then true else p18) = false → (CallOK Try.prog 7 [(vsl u_la u_ln u_lc)] h15 fun v20 h21 => ∃ (p22 : Bool), v20 = (vb p22) ∧ (∃ (J23 : SV → Hp → Prop), ((!p22) = false → (CallOK Try.prog 7 [(vsl u_ma u_mn u_mc)] h21 fun v24 h25 => ∃ (p26 : Bool), v24 = (vb p26) ∧ J23 (.t (.one (.v (vb p26)))) h25)) ∧ (¬ ((!p22) = false) → J23 (.t (.one (.v (vb false)))) h21) ∧ ∀ (h27 : Hp) (p28 : Bool), J23 (.t (.one (.v (vb p28)))) h27 → (∃ (J29 : SV → Hp → Prop), ((bif (!p22) then true else (!p28)) = false → (CallOK Try.prog 8 [(vsl u_la u_ln u_lc)] h27 fun v30 h31 => ∃ (e32 : Option (TypeId × Value)), v30 = (ifv e32) ∧ J29 (.t (.one (.ifc e32))) h31)) ∧ (¬ ((bif (!p22) then true else (!p28)) = false) → J29 (.t (.one (.ifc none))) h27) ∧ ∀ (h33 : Hp) (e34 : Option (TypeId × Value)), J29 (.t (.one (.ifc e34))) h33 → (∃ (J35 : SV → Hp → Prop), ((bif (bif (!p22) then true else (!p28)) then true else (Option.isSome e34)) = false → (CallOK Try.prog 8 [(vsl u_ma u_mn u_mc)] h33 fun v36 h37 => ∃ (e38 : Option (TypeId × Value)), v36 = (ifv e38) ∧ J35 (.t (.one (.ifc e38))) h37)) ∧ (¬ ((bif (bif (!p22) then true else (!p28)) then true else (Option.isSome e34)) = false) → J35 (.t (.one (.ifc none))) h33) ∧ ∀ (h39 : Hp) (e40 : Option (TypeId × Value)), J35 (.t (.one (.ifc e40))) h39 → (∃ (J41 : SV → Hp → Prop), ((bif (bif (bif (!p22) then true else (!p28)) then true else (Option.isSome e34)) then true else (Option.isSome e40)) = false → (CallOK Try.prog 9 [(vi u_op)] h39 fun v42 h43 => ∃ (x44 : Int), v42 = (vi x44) ∧ J41 (.t (.one (.v (vi x44)))) h43)) ∧ (¬ ((bif (bif (bif (!p22) then true else (!p28)) then true else (Option.isSome e34)) then true else (Option.isSome e40)) = false) → J41 (.t (.one (.v (vi 0)))) h39) ∧ ∀ (h45 : Hp) (x46 : Int), J41 (.t (.one (.v (vi x46)))) h45 → (∃ (J47 : SV → Hp → Prop), ((bif (bif (bif (bif (!p22) then true else (!p28)) then true else (Option.isSome e34)) then true else (Option.isSome e40)) then true else (decide ((x46 : Int) ≠ 2))) = false → (CallOK Try.prog 10 [(vag [(vi u_eTime), (vi u_eKKind), (vi u_eKN), (vi u_eAKind), (vi u_eAN), (vi u_eBKind), (vi u_eBN)])] h45 fun v48 h49 => ∃ (p50 : Bool), v48 = (vb p50) ∧ J47 (.t (.one (.v (vb p50)))) h49)) ∧ (¬ ((bif (bif (bif (bif (!p22) then true else (!p28)) then true else (Option.isSome e34)) then true else (Option.isSome e40)) then true else (decide ((x46 : Int) ≠ 2))) = false) → J47 (.t (.one (.v (vb false)))) h45) ∧ ∀ (h51 : Hp) (p52 : Bool), J47 (.t (.one (.v (vb p52)))) h51 → (((bif (bif (bif (bif (bif (!p22) then true else (!p28)) then true else (Option.isSome e34)) then true else (Option.isSome e40)) then true else (decide ((x46 : Int) ≠ 2))) then true else (!p52)) = true → R (vb true) h51) ∧ ((bif (bif (bif (bif (bif (!p22) then true else (!p28)) then true else (Option.isSome e34)) then true else (Option.isSome e40)) then true else (decide ((x46 : Int) ≠ 2))) then true else (!p52)) = false → (CallOK Try.prog 5 [(vi u_op), (vsl u_la u_ln u_lc), (vsl u_ma u_mn u_mc)] h51 fun v54 h55 => ∃ (a56 : Option Addr) (n56 c56 : Nat), v54 = (vsl a56 n56 c56) ∧ (∃ (x57 : Int), (IsW x57 (((n56 : Nat) : Int) - 1)) ∧ (∃ (J58 : SV → Hp → Prop), ((decide ((((n56 : Nat) : Int) : Int) ≤ 40)) = true → (CallOK Try.prog 8 [(vsl a56 n56 c56)] h55 fun v59 h60 => ∃ (e61 : Option (TypeId × Value)), v59 = (ifv e61) ∧ J58 (.t (.one (.ifc e61))) h60)) ∧ (¬ ((decide ((((n56 : Nat) : Int) : Int) ≤ 40)) = true) → J58 (.t (.one (.ifc none))) h55) ∧ ∀ (h62 : Hp) (e63 : Option (TypeId × Value)), J58 (.t (.one (.ifc e63))) h62 → (((bif (decide ((((n56 : Nat) : Int) : Int) ≤ 40)) then (Option.isSome e63) else false) = true → R (vb false) h62) ∧ ((bif (decide ((((n56 : Nat) : Int) : Int) ≤ 40)) then (Option.isSome e63) else false) = false → (CallOK Try.prog 4 [(vsl a56 n56 c56), (vag [(vi u_eTime), (vi u_eKKind), (vi u_eKN), (vi u_eAKind), (vi u_eAN), (vi u_eBKind), (vi u_eBN)])] h62 fun v65 h66 => ∃ (x67 : Int) (x68 : Int), v65 = (vag [(vi x67), (vi x68)]) ∧ (CallOK Try.prog 4 [(vsl u_la u_ln u_lc), (vag [(vi u_eTime), (vi u_eKKind), (vi u_eKN), (vi u_eAKind), (vi u_eAN), (vi u_eBKind), (vi u_eBN)])] h66 fun v69 h70 => ∃ (x71 : Int) (x72 : Int), v69 = (vag [(vi x71), (vi x72)]) ∧ (CallOK Try.prog 4 [(vsl u_ma u_mn u_mc), (vag [(vi u_eTime), (vi u_eKKind), (vi u_eKN), (vi u_eAKind), (vi u_eAN), (vi u_eBKind), (vi u_eBN)])] h70 fun v73 h74 => ∃ (x75 : Int) (x76 : Int), v73 = (vag [(vi x75), (vi x76)]) ∧ (CallOK Try.prog 11 [(vi u_op), (vag [(vi x71), (vi x72)]), (vag [(vi x75), (vi x76)])] h74 fun v77 h78 => ∃ (x79 : Int) (x80 : Int), v77 = (vag [(vi x79), (vi x80)]) ∧ (∃ (p81 : Bool), (Rd Try.prog ((eqGuard .eql 24 (.tmp 73) (.tmp 81) (vag [(vi x67), (vi x68)]) (vag [(vi x79), (vi x80)]) >>= fun _ => binOp .eql 24 (vag [(vi x67), (vi x68)]) (vag [(vi x79), (vi x80)]))) h78 (vb p81)) ∧ (∃ (b82 o83 : Nat), (p81 = true → (a56 = some ⟨b82, o83, none⟩ ∧ (0 : Int) ≤ x57 ∧ x57 < ((n56 : Nat) : Int))) ∧ (∃ (x84 : Int), (p81 = true → Hp.cell h78 b82 ((o83 + x57.toNat * 6) + 1) = some (vi x84)) ∧ (∃ (J85 : SV → Hp → Prop), (p81 = true → (CallOK Try.prog 13 [(vsl a56 n56 c56), (vi x84)] h78 fun v86 h87 => ∃ (a88 : Option Addr) (n88 c88 : Nat), v86 = (vsl a88 n88 c88) ∧ J85 (.t (.one (.v (vsl a88 n88 c88)))) h87)) ∧ (¬ (p81 = true) → J85 (.t (.one (.v (vsl none 0 0)))) h78) ∧ ∀ (h89 : Hp) (a90 : Option Addr) (n90 c90 : Nat), J85 (.t (.one (.v (vsl a90 n90 c90)))) h89 → (∃ (J91 : SV → Hp → Prop), (p81 = true → (CallOK Try.prog 12 [(vsl a90 n90 c90), (vsl u_la u_ln u_lc)] h89 fun v92 h93 => ∃ (p94 : Bool), v92 = (vb p94) ∧ J91 (.t (.one (.v (vb p94)))) h93)) ∧ (¬ (p81 = true) → J91 (.t (.one (.v (vb false)))) h89) ∧ ∀ (h95 : Hp) (p96 : Bool), J91 (.t (.one (.v (vb p96)))) h95 → (∃ (b97 o98 : Nat), ((bif p81 then p96 else false) = true → (a56 = some ⟨b97, o98, none⟩ ∧ (0 : Int) ≤ x57 ∧ x57 < ((n56 : Nat) : Int))) ∧ (∃ (x99 : Int), ((bif p81 then p96 else false) = true → Hp.cell h95 b97 ((o98 + x57.toNat * 6) + 2) = some (vi x99)) ∧ (∃ (J100 : SV → Hp → Prop), ((bif p81 then p96 else false) = true → (CallOK Try.prog 13 [(vsl a56 n56 c56), (vi x99)] h95 fun v101 h102 => ∃ (a103 : Option Addr) (n103 c103 : Nat), v101 = (vsl a103 n103 c103) ∧ J100 (.t (.one (.v (vsl a103 n103 c103)))) h102)) ∧ (¬ ((bif p81 then p96 else false) = true) → J100 (.t (.one (.v (vsl none 0 0)))) h95) ∧ ∀ (h104 : Hp) (a105 : Option Addr) (n105 c105 : Nat), J100 (.t (.one (.v (vsl a105 n105 c105)))) h104 → (∃ (J106 : SV → Hp → Prop), ((bif p81 then p96 else false) = true → (CallOK Try.prog 12 [(vsl a105 n105 c105), (vsl u_ma u_mn u_mc)] h104 fun v107 h108 => ∃ (p109 : Bool), v107 = (vb p109) ∧ J106 (.t (.one (.v (vb p109)))) h108)) ∧ (¬ ((bif p81 then p96 else false) = true) → J106 (.t (.one (.v (vb false)))) h104) ∧ ∀ (h110 : Hp) (p111 : Bool), J106 (.t (.one (.v (vb p111)))) h110 → R (vb (bif (bif p81 then p96 else false) then p111 else false)) h110)))))))))))))))))))))))))))))))))
theorem ok_top_TopJoin {u_la : Option Addr} {u_ln u_lc : Nat} {u_ma : Option Addr} {u_mn u_mc : Nat} {u_op : Int} {u_eTime : Int} {u_eKKind : Int} {u_eKN : Int} {u_eAKind : Int} {u_eAN : Int} {u_eBKind : Int} {u_eBN : Int} {h : Hp} {R : Value → Hp → Prop} (H : VC_top_TopJoin u_la u_ln u_lc u_ma u_mn u_mc u_op u_eTime u_eKKind u_eKN u_eAKind u_eAN u_eBKind u_eBN h R) : CallOK Try.prog 3 [(vsl u_la u_ln u_lc), (vsl u_ma u_mn u_mc), (vi u_op), (vag [(vi u_eTime), (vi u_eKKind), (vi u_eKN), (vi u_eAKind), (vi u_eAN), (vi u_eBKind), (vi u_eBN)])] h R :=
  call_of (cfg := ⟨[], [], [(3, [0, 1, 2, 3, 4, 5, 6, 7]), (11, [0, 1, 3, 4, 5, 7, 8, 2, 6, 9, 10, 11, 12, 13, 14, 15, 16, 17, 18, 20, 19, 21, 22, 23, 24, 25, 26, 27, 28, 29, 31, 30, 32, 33, 34])]⟩) noNG mixed Try.func3 [.one (.v (vsl u_la u_ln u_lc)), .one (.v (vsl u_ma u_mn u_mc)), .one (.v (vi u_op)), .ag [.v (vi u_eTime), .v (vi u_eKKind), .v (vi u_eKN), .v (vi u_eAKind), .v (vi u_eAN), .v (vi u_eBKind), .v (vi u_eBN)]] (by kernel_rfl) rfl (by kernel_rfl) H

end Go.Proofs.Ytkfhhjllacegpaa
/-
  What the law TopJoin gives, for every argument: true; nothing of what was there has turned. Conditions: none.
-/
namespace Go.Proofs.Ytkfhhjllacegpaa
open Go Go.Vc
set_option linter.unusedVariables false
set_option maxRecDepth 100000

/-- A value, as a state holds it. -/
abbrev svE (v : Int × Int) : SV := .t (.ag [.v (vi v.1), .v (vi v.2)])
theorem top_may_any {e : EvL} {h : Hp} {R : Value → Hp → Prop} (hK : ∀ h' p, h.le h' → R (vb p) h') : CallOK Try.prog 10 [vag (encE e)] h R := by
  refine ok_top_may ?_
  unfold VC_top_may
  intro b2 hb2 h3
  have l3 : h.le h3 := Hp.le_set (Hp.le_refl h) hb2 _
  have S : SlP encV h3 (some ⟨b2, 0, none⟩) 3 [e.2.1, e.2.2.1, e.2.2.2] := ⟨rfl, HasRow.new _ _ [vi e.2.1.1, vi e.2.1.2, vi e.2.2.1.1, vi e.2.2.1.2, vi e.2.2.2.1, vi e.2.2.2.2] _⟩
  clear_value h3
  have hl : [e.2.1, e.2.2.1, e.2.2.2].length = 3 := rfl
  generalize [e.2.1, e.2.2.1, e.2.2.2] = l at *
  refine ⟨fun vs hh => hh = h3 ∧ ∃ i : Nat, vs = [vi i] ∧ i ≤ 3, fun vs hh => 3 - (vint vs 0).toNat, ⟨rfl, 0, rfl, by decide⟩, ?_⟩
  rintro vs hh ⟨rfl, i, rfl, hi⟩
  refine ⟨i, rfl, fun q => ?_, fun q => hK hh _ l3⟩
  have hlt : i < 3 := by have := of_decide_eq_true q; omega
  have hx : l[i]? = some (l[i]'(by omega)) := List.getElem?_eq_getElem (by omega)
  obtain ⟨b, o, ha, hr⟩ := S.get encV_len (by decide) hx
  generalize l[i]'(by omega) = v at *
  have A : (some ⟨b2, 0, none⟩ : Option Addr) = some ⟨b, o, none⟩ ∧ (0 : Int) ≤ i ∧ (i : Int) < (3 : Nat) := ⟨ha, by omega, by omega⟩
  exact ⟨b, o, A, _, _, hr, value_Check_ok (v := v) ⟨_, rfl, b, o, fun _ => A, _, fun _ => Hp.row_cell hr (i := 0) rfl, b, o, fun _ => A, _, fun _ => Hp.row_cell hr (i := 1) rfl, b, o, fun _ => A, _, fun _ => Hp.row_cell hr (i := 1) rfl, fun _ => hK hh _ l3, fun _ => ⟨_, isW (by unfold InR; omega), ⟨rfl, i + 1, rfl, by omega⟩, by simp [vint]; omega⟩⟩⟩

abbrev nd1 : List Nd := [⟨2, 0, 0, 0, (0, 0)⟩]
theorem nd1_F : exprF nd1 = 0 := by decide +kernel
theorem shN_back (d : Int) (n : Nd) : shN (-d) (shN d n) = n := by
  obtain ⟨op, x, y, k, v⟩ := n
  unfold shN
  simp only [Nd.mk.injEq, true_and, and_true]
  constructor
  · split <;> omega
  · split <;> omega
theorem joinL_take (op : Int) (l m : List Nd) : cutL (joinL op l m) 0 l.length = l := by
  unfold cutL seg joinL
  rw [List.drop_zero, Nat.sub_zero, List.append_assoc, List.take_left' rfl]
  exact map_sh0 l
theorem joinL_mid (op : Int) (l m : List Nd) : cutL (joinL op l m) l.length (l.length + m.length) = m := by
  unfold cutL seg joinL
  rw [List.append_assoc, List.drop_left' rfl, List.take_left' (by simp), List.map_map]
  have : shN (-(l.length : Int)) ∘ shN (l.length : Int) = id := by funext n; exact shN_back _ n
  rw [this, List.map_id]
theorem joinL_blk {op : Int} (ho : arI op = 2) {l m : List Nd} (O : OkE l) (O' : OkE m) : Blk (joinL op l m) 0 l.length ∧ Blk (joinL op l m) l.length (l.length + m.length) := by
  have OJ := chkGo_okE (joinL_chk2 ho O O')
  have B := OJ.b
  rw [joinL_length] at B
  have hj : (joinL op l m)[l.length + m.length]? = some ⟨op, (l.length : Int) - 1, if 1 < arI op then ((l.length + m.length : Nat) : Int) - 1 else 0, 0, (0, 0)⟩ := by
    unfold joinL
    rw [List.getElem?_append_right (by simp)]
    simp
  generalize hjd : joinL op l m = j at *
  have key : ∀ {e : Nat}, Blk j 0 e → e = l.length + m.length + 1 → Blk j 0 l.length ∧ Blk j l.length (l.length + m.length) := by
    intro e B he
    cases B with
    | leaf h ha => have := O.pos; exfalso; omega
    | @one f i n B h ha hx =>
      obtain rfl : i = l.length + m.length := by omega
      rw [hj] at h; cases h; simp only at ha; omega
    | @two f g i n B B' h ha hx hy =>
      obtain rfl : i = l.length + m.length := by omega
      rw [hj] at h
      cases h
      simp only at hx
      have := B.lt
      obtain rfl : g = l.length := by omega
      exact ⟨B, B'⟩
  exact key B rfl

theorem top_TopJoin_ok {a a2 : Option Addr} {n n2 c c2 : Nat} {l m : List Nd} {op : Int} {e : EvL} {h : Hp} (S : SlP encN h a n l) (S2 : SlP encN h a2 n2 m) : CallOK Try.prog 3 [vsl a n c, vsl a2 n2 c2, vi op, vag (encE e)] h fun v h' => v = vb true ∧ h.le h' := by
  refine ok_top_TopJoin ?_
  unfold VC_top_TopJoin
  obtain rfl := S.1
  obtain rfl := S2.1
  intro b1 hb1 h2
  have l2 : h.le h2 := Hp.le_set (Hp.le_refl h) hb1 _
  have S1 : SlP encN h2 (some ⟨b1, 0, none⟩) 1 nd1 := ⟨rfl, HasRow.new _ _ (nd1.flatMap encN) _⟩
  clear_value h2
  have O1 := (exprF_ok nd1_F).1
  refine expr_Join_ok S1 S1 O1.wf (by decide) (by decide) fun aj cj h4 V4 => ⟨_, _, _, rfl, ?_⟩
  have WJ1 : WfL (joinL 6 nd1 nd1) := WfL.join (by decide) O1.wf O1.wf (by decide) (fun _ => by decide) (by decide)
  refine expr_Eval_ok (e := (4, (0, 0), (0, 0), (0, 0))) (V4.slp encN_len (by decide)) WJ1 (by decide) (by decide) fun h7 l7 => ⟨_, _, rfl, ?_⟩
  have ev : valE (4, (0, 0), (0, 0), (0, 0)) (joinL 6 nd1 nd1) = (1, 8) := by decide +kernel
  rw [ev]
  have L7 := Hp.le_trans (Hp.le_trans l2 V4.le0) l7
  refine ⟨fun x h' => h' = h7 ∧ x = svE (1, 8), fun _ => value_Number_ok ⟨_, _, rfl, rfl, rfl⟩, fun g => absurd rfl g, ?_⟩
  rintro h15 x16 x17 ⟨rfl, e1⟩
  cases e1
  refine ⟨_, fun _ => rd_neqV (a := (1, 8)) (b := (1, 8)), fun g => (by simp at g), fun _ => ?_⟩
  refine law_LightNodes_ok ⟨_, rfl, ?_⟩
  refine ⟨fun x h' => h' = h15 ∧ ∃ p, x = .t (.one (.v (vb p))) ∧ (p = true → m.length ≤ 50), fun g => law_LightNodes_ok ⟨_, rfl, rfl, _, rfl, fun q => by have := of_decide_eq_true q; omega⟩, fun g => ⟨rfl, _, rfl, fun q => (by cases q)⟩, ?_⟩
  rintro h27 p28 ⟨rfl, p, e1, hp28⟩
  cases e1
  refine ⟨fun x h' => h27.le h' ∧ ∃ f, x = .t (.one (.ifc (errV f))) ∧ ((bif (!(decide ((l.length : Int) ≤ 50))) then true else (!p28)) = false → f = exprF l), fun g => expr_Check_ok (S.le L7) fun h31 l31 => ⟨_, rfl, l31, _, rfl, fun _ => rfl⟩, fun g => ⟨Hp.le_refl _, 0, rfl, fun q => absurd q g⟩, ?_⟩
  rintro h33 e34 ⟨l33, f1, e1, hf1⟩
  cases e1
  have L33 := Hp.le_trans L7 l33
  refine ⟨fun x h' => h33.le h' ∧ ∃ f, x = .t (.one (.ifc (errV f))) ∧ ((bif (bif (!(decide ((l.length : Int) ≤ 50))) then true else (!p28)) then true else (Option.isSome (errV f1))) = false → f = exprF m), fun g => expr_Check_ok (S2.le L33) fun h37 l37 => ⟨_, rfl, l37, _, rfl, fun _ => rfl⟩, fun g => ⟨Hp.le_refl _, 0, rfl, fun q => absurd q g⟩, ?_⟩
  rintro h39 e40 ⟨l39, f2, e1, hf2⟩
  cases e1
  have L39 := Hp.le_trans L33 l39
  refine ⟨fun x h' => h' = h39 ∧ ∃ k, x = .t (.one (.v (vi k))) ∧ ((bif (bif (bif (!(decide ((l.length : Int) ≤ 50))) then true else (!p28)) then true else (Option.isSome (errV f1))) then true else (Option.isSome (errV f2))) = false → k = arI op), fun g => expr_Arity_ok ⟨_, rfl, rfl, _, rfl, fun _ => rfl⟩, fun g => ⟨rfl, 0, rfl, fun q => absurd q g⟩, ?_⟩
  rintro h45 x46 ⟨rfl, k, e1, hk⟩
  cases e1
  refine ⟨fun x h' => h45.le h' ∧ ∃ p, x = .t (.one (.v (vb p))), fun g => top_may_any fun h49 p l49 => ⟨_, rfl, l49, _, rfl⟩, fun g => ⟨Hp.le_refl _, _, rfl⟩, ?_⟩
  rintro h51 p52 ⟨l51, p, e1⟩
  cases e1
  have L51 := Hp.le_trans L39 l51
  refine ⟨fun _ => ⟨rfl, L51⟩, fun g => ?_⟩
  obtain ⟨g, _⟩ := bor_false g
  obtain ⟨g4, g5⟩ := bor_false g
  have hk' := hk g4
  obtain ⟨g3, gm⟩ := bor_false g4
  have hf2' := hf2 g3
  obtain ⟨g2, gl⟩ := bor_false g3
  have hf1' := hf1 g2
  obtain ⟨g1, gp⟩ := bor_false g2
  clear hk hf1 hf2
  subst hk' hf1' hf2'
  have ho : arI op = 2 := by have := of_decide_eq_false g5; omega
  rw [errV_some] at gl gm
  have F1 : exprF l = 0 := by simpa using gl
  have F2 : exprF m = 0 := by simpa using gm
  have hl50 : l.length ≤ 50 := by rw [cnot] at g1; have := of_decide_eq_false g1; omega
  have hm50 : m.length ≤ 50 := hp28 (by simpa using gp)
  obtain ⟨O, _⟩ := exprF_ok F1
  obtain ⟨O2, _⟩ := exprF_ok F2
  have hpos := O.pos
  have hpos2 := O2.pos
  have ar := ar0 (op := op) (by omega)
  have WJ : WfL (joinL op l m) := WfL.join (by omega) O.wf O2.wf hpos (fun _ => hpos2) (by omega)
  have hjl := joinL_length op l m
  obtain ⟨B1, B2⟩ := joinL_blk ho O O2
  have vj := valE_join2 e ho O.wf O2.wf hpos hpos2
  have hcj := joinL_chk2 ho O O2
  have hlast : (joinL op l m)[l.length + m.length]? = some ⟨op, (l.length : Int) - 1, ((l.length + m.length : Nat) : Int) - 1, 0, (0, 0)⟩ := by
    unfold joinL
    rw [List.getElem?_append_right (by simp), if_pos (by omega)]
    simp
  have c1 := joinL_take op l m
  have c2 := joinL_mid op l m
  refine expr_Join_ok (S.le L51) (S2.le L51) O2.wf (by omega) (by omega) fun a56 c56 h55 V55 => ⟨_, _, _, rfl, ?_⟩
  generalize joinL op l m = j at *
  have L55 := Hp.le_trans L51 V55.le0
  have SJ := V55.slp encN_len (by decide)
  have hcap := V55.own.cap
  refine ⟨_, isW (by unfold InR; omega), fun x h' => h55.le h' ∧ x = .t (.one (.ifc none)), fun g => expr_Check_ok SJ fun h60 l60 => ⟨_, rfl, l60, ?_⟩, fun g => ⟨Hp.le_refl _, rfl⟩, ?_⟩
  · have : exprF j = 0 := by
      unfold exprF
      rw [if_neg (by have := of_decide_eq_true g; omega)]
      exact hcj
    rw [this]
    rfl
  rintro h62 e63 ⟨l62, e1⟩
  cases e1
  have L62 := Hp.le_trans L55 l62
  refine ⟨fun g => ?_, fun _ => ?_⟩
  · exfalso
    cases q : decide ((((j.length : Nat) : Int)) ≤ 40) <;> rw [q] at g <;> cases g
  refine expr_Eval_ok (SJ.le l62) WJ (by omega) (by omega) fun h66 l66 => ⟨_, _, rfl, ?_⟩
  refine expr_Eval_ok (S.le (Hp.le_trans L62 l66)) O.wf hpos (by omega) fun h70 l70 => ⟨_, _, rfl, ?_⟩
  refine expr_Eval_ok (S2.le (Hp.le_trans (Hp.le_trans L62 l66) l70)) O2.wf hpos2 (by omega) fun h74 l74 => ⟨_, _, rfl, ?_⟩
  have l74 := Hp.le_trans (Hp.le_trans l66 l70) l74
  have L74 := Hp.le_trans L62 l74
  refine value_Do_ok (a := valE e l) (b := valE e m) ⟨_, _, rfl, _, rd_eqV (a := valE e j) (b := doV op (valE e l) (valE e m)), ?_⟩
  rw [vj, decide_eq_true rfl]
  have SJ74 := (SJ.le l62).le l74
  obtain ⟨b, o, ha, hr⟩ := SJ74.get encN_len (by decide) hlast
  have hx57 : (((j.length : Nat) : Int) - 1).toNat = l.length + m.length := by omega
  have A : a56 = some ⟨b, o, none⟩ ∧ (0 : Int) ≤ ((j.length : Nat) : Int) - 1 ∧ ((j.length : Nat) : Int) - 1 < (j.length : Nat) := ⟨ha, by omega, by omega⟩
  rw [hx57]
  refine ⟨b, o, fun _ => A, _, fun _ => Hp.row_cell hr (i := 1) rfl, ?_⟩
  obtain ⟨x, hx⟩ : ∃ x : Nat, l.length = x + 1 := ⟨l.length - 1, by omega⟩
  obtain ⟨y, hy⟩ : ∃ y : Nat, l.length + m.length = y + 1 := ⟨l.length + m.length - 1, by omega⟩
  rw [hx] at B1 c1
  rw [hy] at B2 c2
  refine ⟨fun x h' => h74.le h' ∧ ∃ a c, x = .t (.one (.v (vsl a l.length c))) ∧ SlP encN h' a l.length l, fun _ => expr_Cut_ok SJ74 hcap WJ (by omega) B1 (by simp only; omega) fun a' c' h' V' => ⟨_, _, _, rfl, V'.le0, ?_⟩, fun g => absurd rfl g, ?_⟩
  · rw [c1] at V' ⊢
    exact ⟨a', c', rfl, V'.slp encN_len (by decide)⟩
  rintro h89 a90 n90 c90 ⟨l89, a', c', e1, SC⟩
  cases e1
  refine ⟨fun x h' => h' = h89 ∧ x = .t (.one (.v (vb true))), fun _ => R_SameNodes_ok SC (S.le (Hp.le_trans L74 l89)) (by omega) ⟨_, rfl, rfl, rfl⟩, fun g => absurd rfl g, ?_⟩
  rintro h95 p96 ⟨rfl, e1⟩
  cases e1
  refine ⟨b, o, fun _ => A, _, fun _ => Hp.row_cell (Hp.row_le l89 hr) (i := 2) rfl, ?_⟩
  refine ⟨fun x h' => h95.le h' ∧ ∃ a c, x = .t (.one (.v (vsl a m.length c))) ∧ SlP encN h' a m.length m, fun _ => expr_Cut_ok (SJ74.le l89) hcap WJ (by omega) B2 (by simp only; omega) fun a' c' h' V' => ⟨_, _, _, rfl, V'.le0, ?_⟩, fun g => absurd rfl g, ?_⟩
  · rw [c2] at V' ⊢
    exact ⟨a', c', rfl, V'.slp encN_len (by decide)⟩
  rintro h104 a105 n105 c105 ⟨l104, a', c', e1, SC2⟩
  cases e1
  have L104 := Hp.le_trans (Hp.le_trans L74 l89) l104
  refine ⟨fun x h' => h' = h104 ∧ x = .t (.one (.v (vb true))), fun _ => R_SameNodes_ok SC2 (S2.le L104) (by omega) ⟨_, rfl, rfl, rfl⟩, fun g => absurd rfl g, ?_⟩
  rintro h110 p111 ⟨rfl, e1⟩
  cases e1
  exact ⟨rfl, L104⟩
end Go.Proofs.Ytkfhhjllacegpaa
/-
  The framework, part O: what came in, opened: from the reading of an argument to what is known of the heap. No program in sight. Conditions: none.
-/
namespace Go.Vc
open Go
set_option linter.unusedVariables false

/-- What is asked of how much was read: of slices and of texts, and of all parts. -/
structure SmOK {H : Type} (Sm : DataW H → Prop) (N : Nat → Prop) : Prop where
  zero : N 0
  slice : ∀ es sp, Sm (.slice es sp) → N es.length ∧ ∀ x ∈ es, Sm x
  agg : ∀ xs, Sm (.agg xs) → ∀ x ∈ xs, Sm x
  str : ∀ l, Sm (.lit (.string l)) → N l.length
  ptr : ∀ x, Sm (.ptr x) → Sm x

theorem smTrue {H : Type} : SmOK (H := H) (fun _ => True) (fun _ => True) := ⟨trivial, fun _ _ _ => ⟨trivial, fun _ _ => trivial⟩, fun _ _ _ _ => trivial, fun _ _ => trivial, fun _ _ => trivial⟩

section
variable {P : Program} {H : Type} {enc0 : TypeId × Value → H} {w : World} {Sm : DataW H → Prop} {N : Nat → Prop}

/-- A cell that was read. -/
def Leaf (P : Program) (enc0 : TypeId × Value → H) (w : World) (Sm : DataW H → Prop) (t : TypeId) (v : Value) : Prop :=
  ∃ fuel d ps, DataW.trod enc0 P w 0 (fun _ => true) true fuel t [v] = some (d, ps) ∧ Sm d
/-- Cells that were read. -/
def LeafC (P : Program) (enc0 : TypeId × Value → H) (w : World) (Sm : DataW H → Prop) (t : TypeId) (cs : List Value) : Prop :=
  ∃ fuel d ps, DataW.trod enc0 P w 0 (fun _ => true) true fuel t cs = some (d, ps) ∧ Sm d

theorem leaf_int {t : TypeId} {k : IntKind} (hu : P.underlying t = some (.int k)) {cs : List Value} (L : LeafC P enc0 w Sm t cs) : ∃ n, cs = [.int k n] ∧ (Lit.int k n).wf = true := by
  obtain ⟨fuel, d, ps, h, _⟩ := L
  cases fuel with
  | zero => simp [DataW.trod] at h
  | succ fuel =>
    unfold DataW.trod at h
    rw [hu] at h
    split at h <;> first | (cases h; done) | skip
    all_goals simp_all
theorem leaf_i64 {t : TypeId} (hu : P.underlying t = some (.int .i64)) {cs : List Value} (L : LeafC P enc0 w Sm t cs) : ∃ n, cs = [vi n] ∧ InR n := by
  obtain ⟨n, rfl, h⟩ := leaf_int hu L
  exact ⟨n, rfl, by simpa [Lit.wf, IntKind.min, IntKind.max, IntKind.signed, IntKind.bits, InR] using h⟩
theorem leaf_bool {t : TypeId} (hu : P.underlying t = some .bool) {cs : List Value} (L : LeafC P enc0 w Sm t cs) : ∃ b, cs = [vb b] := by
  obtain ⟨fuel, d, ps, h, _⟩ := L
  cases fuel with
  | zero => simp [DataW.trod] at h
  | succ fuel =>
    unfold DataW.trod at h
    rw [hu] at h
    split at h <;> first | (cases h; done) | skip
    all_goals simp_all
theorem leaf_string (hS : SmOK Sm N) {t : TypeId} (hu : P.underlying t = some .string) {cs : List Value} (L : LeafC P enc0 w Sm t cs) : ∃ s, cs = [vs s] ∧ N s.size ∧ s.size ≤ maxLen := by
  obtain ⟨fuel, d, ps, h, hm⟩ := L
  cases fuel with
  | zero => simp [DataW.trod] at h
  | succ fuel =>
    unfold DataW.trod at h
    rw [hu] at h
    split at h <;> first | (rename_i hx; cases hx; done) | (cases h; done) | skip
    split at h
    · rename_i sz hsz
      simp only [Option.some.injEq, Prod.mk.injEq] at h
      obtain ⟨rfl, rfl⟩ := h
      have := hS.str _ hm
      exact ⟨_, rfl, by simpa using this, hsz⟩
    · cases h

theorem wf_u64 {n : Int} (h : (Lit.int .u64 n).wf = true) : 0 ≤ n ∧ n ≤ 18446744073709551615 := by simpa [Lit.wf, IntKind.min, IntKind.max, IntKind.signed, IntKind.bits] using h
theorem row_of_cells {b o : Nat} {xs : List Value} (hne : xs ≠ []) (h : ∀ j x, xs[j]? = some x → w.cell? ⟨b, o + j, none⟩ = some x) : (hpOf w).row b o xs.length = some xs := by
  obtain ⟨x0, l0, rfl⟩ := List.exists_cons_of_ne_nil hne
  have h0 := h 0 x0 rfl
  unfold World.cell? at h0
  simp only at h0
  cases hb : w.heap[b]? with
  | none => rw [hb] at h0; cases h0
  | some ob =>
    cases ob with
    | cells c t f =>
      have hc : ∀ j x, (x0 :: l0)[j]? = some x → c[o + j]? = some x := by
        intro j x hx
        have := h j x hx
        unfold World.cell? at this
        simp only [hb] at this
        simpa using this
      refine Hp.row_spec.2 ⟨c, t, f, hb, ?_, ?_⟩
      · have := hc l0.length ((x0 :: l0)[l0.length]) (by rw [List.getElem?_eq_getElem (by simp)])
        have := (Array.getElem?_eq_some_iff.1 this).1
        simp only [List.length_cons]
        omega
      · apply List.ext_getElem?
        intro j
        rw [List.getElem?_take]
        split
        · rename_i hj
          rw [List.getElem?_drop]
          have := hc j ((x0 :: l0)[j]) (List.getElem?_eq_getElem hj)
          rw [List.getElem?_eq_getElem hj]
          simpa using this.symm
        · rename_i hj
          exact List.getElem?_eq_none (by omega)
    | _ => rw [hb] at h0; simp at h0

theorem mapM_get {α β : Type} {f : α → Option β} : ∀ {l : List α} {ys : List β}, l.mapM f = some ys → ∀ (i : Nat) (x : α), l[i]? = some x → ∃ y, ys[i]? = some y ∧ f x = some y
  | [], ys, h, i, x, hx => by simp at hx
  | a :: l, ys, h, i, x, hx => by
    rw [List.mapM_cons] at h
    simp only [Option.bind_eq_bind, Option.bind_eq_some_iff, Option.pure_def, Option.some.injEq] at h
    obtain ⟨y, hy, zs, hzs, rfl⟩ := h
    cases i with
    | zero => simp at hx; subst hx; exact ⟨y, rfl, hy⟩
    | succ i => simpa using mapM_get hzs i x (by simpa using hx)
theorem cells_get {w : World} {base : Nat} {a : Addr} {n : Nat} {cs : List Value} (h : w.cells? base a n = some cs) : cs.length = n ∧ ∀ j x, cs[j]? = some x → w.cell? (a.add j) = some x := by
  unfold World.cells? at h
  split at h
  · have hl := length_mapM h
    rw [List.length_range] at hl
    refine ⟨hl, fun j x hx => ?_⟩
    have hj : j < n := by rw [← hl]; exact (List.getElem?_eq_some_iff.1 hx).1
    obtain ⟨y, h1, h2⟩ := mapM_get h j j (by simp [hj])
    rw [hx] at h1
    cases h1
    exact h2
  · cases h

/-- A slice that came in, its elements of known cells. -/
theorem leaf_slice {α : Type} {enc : α → List Value} {sz : Nat} {good : α → Prop} (hS : SmOK Sm N) {t e : TypeId} (hu : P.underlying t = some (.slice e)) (hsz : P.cellsOf e = sz) (hz : 0 < sz) (he : ∀ x, (enc x).length = sz)
    (hel : ∀ cs, LeafC P enc0 w Sm e cs → ∃ y, cs = enc y ∧ good y) {cs : List Value} (L : LeafC P enc0 w Sm t cs) :
    ∃ a n c l, cs = [vsl a n c] ∧ SlP enc (hpOf w) a n l ∧ n ≤ c ∧ c ≤ maxLen ∧ N n ∧ ∀ y ∈ l, good y := by
  obtain ⟨fuel, d, ps, h, hm⟩ := L
  cases fuel with
  | zero => simp [DataW.trod] at h
  | succ fuel =>
    unfold DataW.trod at h
    rw [hu] at h
    split at h <;> first | (rename_i hx; cases hx; done) | (cases h; done) | skip
    · exact ⟨none, 0, 0, [], rfl, ⟨rfl, .inl rfl⟩, Nat.le_refl _, Nat.zero_le _, hS.zero, by simp⟩
    · rename_i e' a len cap hx
      cases hx
      split at h
      · rename_i hc
        simp only [Option.bind_eq_some_iff, Option.map_eq_some_iff] at h
        obtain ⟨elems, he1, rest, hr, hx⟩ := h
        simp only [Prod.mk.injEq] at hx
        obtain ⟨rfl, rfl⟩ := hx
        have hel1 : elems.length = len := by have := length_mapM he1; simpa using this
        have hm1 := hS.slice _ _ hm
        rw [List.length_map, hel1] at hm1
        have each : ∀ i : Nat, i < len → ∃ y, good y ∧ w.cells? 0 (a.add (i * sz)) sz = some (enc y) := by
          intro i hi
          obtain ⟨x, h1, h2⟩ := mapM_get he1 i i (by simp [hi])
          simp only [Option.bind_eq_some_iff] at h2
          obtain ⟨cs, h3, h4⟩ := h2
          rw [hsz] at h3
          obtain ⟨y, rfl, hg⟩ := hel cs ⟨fuel, x.1, x.2, h4, hm1.2 x.1 (List.mem_map.2 ⟨x, List.mem_of_getElem? h1, rfl⟩)⟩
          exact ⟨y, hg, h3⟩
        have all : ∃ l : List α, l.length = len ∧ (∀ y ∈ l, good y) ∧ ∀ i y, l[i]? = some y → w.cells? 0 (a.add (i * sz)) sz = some (enc y) := by
          clear hm hm1 he1 hr hel1 hc
          induction len with
          | zero => exact ⟨[], rfl, by simp, by simp⟩
          | succ n ih =>
            obtain ⟨l, h1, h2, h3⟩ := ih (fun i hi => each i (by omega))
            obtain ⟨y, h4, h5⟩ := each n (by omega)
            refine ⟨l ++ [y], by simp [h1], ?_, ?_⟩
            · intro z hz'
              rcases List.mem_append.1 hz' with h6 | h6
              · exact h2 z h6
              · simp at h6; subst h6; exact h4
            · intro i z hz'
              rcases Nat.lt_or_ge i n with h6 | h6
              · rw [List.getElem?_append_left (by omega)] at hz'
                exact h3 i z hz'
              · rw [List.getElem?_append_right (by omega)] at hz'
                have : i = n := by
                  have := (List.getElem?_eq_some_iff.1 hz').1
                  simp at this
                  omega
                subst this
                rw [h1, Nat.sub_self] at hz'
                simp at hz'
                subst hz'
                exact h5
        obtain ⟨l, hl, hg, hcs⟩ := all
        refine ⟨some a, len, cap, l, rfl, ⟨hl.symm, ?_⟩, hc.2.1, hc.2.2, hm1.1, hg⟩
        cases l with
        | nil => exact .inl rfl
        | cons y l =>
          refine .inr ?_
          have c0 := (cells_get (hcs 0 y rfl)).2
          have hx0 : ∃ x, (enc y)[0]? = some x := ⟨_, List.getElem?_eq_getElem (by rw [he]; exact hz)⟩
          obtain ⟨x0, hx0⟩ := hx0
          have a0 := c0 0 x0 hx0
          obtain ⟨b, o, spot⟩ := a
          have hs : spot = none := by
            cases spot with
            | none => rfl
            | some s =>
              simp only [Nat.zero_mul, Addr.add] at a0
              unfold World.cell? at a0
              simp at a0
              split at a0 <;> simp at a0
          subst hs
          refine ⟨b, o, rfl, row_of_cells (by
            intro hn
            have := congrArg List.length hn
            rw [List.flatMap_cons, List.length_append, he] at this
            simp at this
            omega) ?_⟩
          intro j x hx
          have ad : ∀ o k, (⟨b, o, none⟩ : Addr).add k = ⟨b, o + k, none⟩ := by intro o k; unfold Addr.add; split <;> simp_all
          have hlen := flatMap_length he (y :: l)
          have hj : j < (y :: l).length * sz := by rw [← hlen]; exact (List.getElem?_eq_some_iff.1 hx).1
          have hq : j / sz < (y :: l).length := (Nat.div_lt_iff_lt_mul hz).2 hj
          have hd : sz * (j / sz) + j % sz = j := Nat.div_add_mod j sz
          have hr' : j % sz < sz := Nat.mod_lt _ hz
          have key : ((y :: l).flatMap enc)[j]? = (enc ((y :: l)[j / sz]))[j % sz]? := by
            have h1 := flatMap_drop he (j / sz) (y :: l)
            have h2 : ((y :: l).flatMap enc)[j]? = (((y :: l).flatMap enc).drop ((j / sz) * sz))[j % sz]? := by
              rw [List.getElem?_drop]
              congr 1
              rw [Nat.mul_comm]
              exact hd.symm
            rw [h2, h1, List.drop_eq_getElem_cons hq, List.flatMap_cons, List.getElem?_append_left (by rw [he]; exact hr')]
          rw [key] at hx
          have := (cells_get (hcs (j / sz) _ (List.getElem?_eq_getElem hq))).2 _ _ hx
          rw [ad, ad] at this
          have e3 : o + j / sz * sz + j % sz = o + j := by
            rw [Nat.mul_comm (j / sz) sz]; omega
          rw [e3] at this
          exact this
      · cases h

def flatIds (P : Program) : Nat → TypeId → List TypeId
  | 0, t => [t]
  | n + 1, t => match P.underlying t with
    | some (.struct fs) => fs.toList.flatMap fun f => flatIds P n f.type
    | _ => [t]
/-- The fields lie one behind the other. -/
def contig (P : Program) (N : Nat) : Nat → List Field → Bool
  | o, [] => Nat.beq o N
  | o, f :: l => Nat.beq f.offset o && contig P N (o + P.cellsOf f.type) l
def flatOK (P : Program) : Nat → TypeId → Bool
  | 0, _ => false
  | n + 1, t => match P.underlying t with
    | some (.struct fs) => contig P (P.cellsOf t) 0 fs.toList && fs.toList.all fun f => flatOK P n f.type
    | some (.array _ _) => false
    | some _ => Nat.beq (P.cellsOf t) 1
    | none => false
def LeafL (P : Program) (enc0 : TypeId × Value → H) (w : World) (Sm : DataW H → Prop) : List TypeId → List Value → Prop
  | [], [] => True
  | t :: ts, v :: vs => LeafC P enc0 w Sm t [v] ∧ LeafL P enc0 w Sm ts vs
  | _, _ => False
theorem leafL_append : ∀ {ts ts' : List TypeId} {vs vs' : List Value}, LeafL P enc0 w Sm ts vs → LeafL P enc0 w Sm ts' vs' → LeafL P enc0 w Sm (ts ++ ts') (vs ++ vs')
  | [], _, [], _, _, h => h
  | _ :: _, _, _ :: _, _, h1, h2 => ⟨h1.1, leafL_append h1.2 h2⟩
  | [], _, _ :: _, _, h, _ => h.elim
  | _ :: _, _, [], _, h, _ => h.elim
theorem trod_len {fuel : Nat} {t : TypeId} {cs : List Value} {x : DataW H × List MemPlace} (h : DataW.trod enc0 P w 0 (fun _ => true) true fuel t cs = some x) : (∃ v, cs = [v]) ∨ cs.length = P.cellsOf t := by
  cases fuel with
  | zero => simp [DataW.trod] at h
  | succ fuel =>
    unfold DataW.trod at h
    split at h <;> first | exact .inl ⟨_, rfl⟩ | skip
    · split at h
      · exact .inr (by assumption)
      · cases h
    · split at h
      · exact .inr (by assumption)
      · cases h
    · cases h
theorem leaf_flat (hS : SmOK Sm N) : ∀ (n : Nat) {t : TypeId} {cs : List Value}, flatOK P n t = true → LeafC P enc0 w Sm t cs → LeafL P enc0 w Sm (flatIds P n t) cs
  | 0, t, cs, h, _ => by simp [flatOK] at h
  | n + 1, t, cs, h, L => by
    unfold flatOK at h
    unfold flatIds
    split at h
    · rename_i fs hu
      simp only [hu]
      obtain ⟨fuel, d, ps, ht, hm⟩ := L
      cases fuel with
      | zero => simp [DataW.trod] at ht
      | succ fuel =>
        unfold DataW.trod at ht
        rw [hu] at ht
        simp only at ht
        split at ht
        · rename_i hlen
          simp only [Option.map_eq_some_iff] at ht
          obtain ⟨xs, hx, he⟩ := ht
          simp only [Prod.mk.injEq] at he
          obtain ⟨rfl, rfl⟩ := he
          have hm' := hS.agg _ hm
          simp only [Bool.and_eq_true] at h
          have go : ∀ (l : List Field) (o : Nat) (xs : List (DataW H × List MemPlace)), contig P (P.cellsOf t) o l = true → (∀ f ∈ l, flatOK P n f.type = true) →
              (l.mapM fun f => DataW.trod enc0 P w 0 (fun _ => true) true fuel f.type ((cs.drop f.offset).take (P.cellsOf f.type))) = some xs → (∀ x ∈ xs, Sm x.1) → o ≤ cs.length → LeafL P enc0 w Sm (l.flatMap fun f => flatIds P n f.type) (cs.drop o) := by
            intro l
            induction l with
            | nil =>
              intro o xs hc _ _ _ _
              simp only [contig, Nat.beq_eq] at hc
              rw [List.flatMap_nil, List.drop_of_length_le (by rw [hlen, hc]; exact Nat.le_refl _)]
              trivial
            | cons f l ih =>
              intro o xs hc hk hmm hsm ho
              simp only [contig, Bool.and_eq_true, Nat.beq_eq] at hc
              rw [List.mapM_cons] at hmm
              simp only [Option.bind_eq_bind, Option.bind_eq_some_iff, Option.pure_def, Option.some.injEq] at hmm
              obtain ⟨y, hy, zs, hzs, rfl⟩ := hmm
              rw [hc.1] at hy
              have h1 := leaf_flat hS n (hk f (by simp)) ⟨fuel, y.1, y.2, hy, hsm y (by simp)⟩
              have hle : o + P.cellsOf f.type ≤ cs.length := by
                have : ∀ (l : List Field) (o : Nat), contig P (P.cellsOf t) o l = true → o ≤ P.cellsOf t := by
                  intro l
                  induction l with
                  | nil => intro o hc; simp only [contig, Nat.beq_eq] at hc; omega
                  | cons g l ih => intro o hc; simp only [contig, Bool.and_eq_true] at hc; have := ih _ hc.2; omega
                rw [hlen]
                exact this l _ hc.2
              have h2 := ih (o + P.cellsOf f.type) zs hc.2 (fun g hg => hk g (by simp [hg])) hzs (fun x hx => hsm x (by simp [hx])) hle
              have := leafL_append h1 h2
              rw [List.flatMap_cons]
              rw [← List.drop_drop, List.take_append_drop] at this
              exact this
          have := go fs.toList 0 xs h.1 (fun f hf => List.all_eq_true.1 h.2 f hf) hx (fun x hx => hm' x.1 (List.mem_map.2 ⟨x, hx, rfl⟩)) (Nat.zero_le _)
          simpa using this
        · cases ht
    · cases h
    · rename_i u hu hns hna
      have hl : ∃ v, cs = [v] := by
        obtain ⟨fuel, d, ps, ht, hm⟩ := L
        rcases trod_len ht with h1 | h1
        · exact h1
        · rw [Nat.beq_eq] at h
          rw [h] at h1
          exact List.length_eq_one_iff.1 h1
      obtain ⟨v, rfl⟩ := hl
      split
      · rename_i fs' e9
        exfalso
        simp_all
        rename_i e10
        first | exact hu _ e10.symm | exact hu _ hna.symm | exact hu _ e9.symm
      · exact ⟨L, trivial⟩
    · cases h

/-- An argument that was read. -/
theorem leafC_of {t : TypeId} {v : Value} {d : DataW H} {ps : List MemPlace} (h : DataW.Trod enc0 P w 0 (fun _ => true) true t v d ps) (hm : Sm d) : LeafC P enc0 w Sm t v.cells.toList := by
  obtain ⟨fuel, h⟩ := h
  exact ⟨fuel, d, ps, h, hm⟩
end
end Go.Vc
/-
  THE STATEMENT Rows.TopJoinSaid, proved: for every input the law returns true, and the input reads as it did. Conditions: none.
-/
namespace Go.Proofs.Ytkfhhjllacegpaa.topJoin
open Go.ChangeShapes Go.WideShapes Go.ChangeAt Go.RowKit Go.Vc
set_option linter.unusedVariables false
set_option maxRecDepth 100000

theorem own : ownKnob Try.prog.godebug = none := by kernel_rfl
/-- The cells of what was read. -/
theorem open0 {H : Type} {enc : TypeId × Value → H} {W : World} {cs : List Value} (L : LeafL Try.prog enc W (fun _ => True) (flatIds Try.prog 4 28) cs) : ∃ (x0 : Int) (x1 : Int) (x2 : Int) (x3 : Int) (x4 : Int) (x5 : Int), cs = encN ⟨x0, x1, x2, x3, (x4, x5)⟩ ∧ InR x0 ∧ InR x1 ∧ InR x2 ∧ InR x3 ∧ InR x4 ∧ InR x5 := by
  have e : flatIds Try.prog 4 28 = [3, 3, 3, 3, 3, 3] := by kernel_rfl
  rw [e] at L
  match cs, L with
  | [v0, v1, v2, v3, v4, v5], L =>
    obtain ⟨x0, h0, g0⟩ := leaf_i64 Try.underlying3 (L.1)
    cases h0
    obtain ⟨x1, h1, g1⟩ := leaf_i64 Try.underlying3 (L.2.1)
    cases h1
    obtain ⟨x2, h2, g2⟩ := leaf_i64 Try.underlying3 (L.2.2.1)
    cases h2
    obtain ⟨x3, h3, g3⟩ := leaf_i64 Try.underlying3 (L.2.2.2.1)
    cases h3
    obtain ⟨x4, h4, g4⟩ := leaf_i64 Try.underlying3 (L.2.2.2.2.1)
    cases h4
    obtain ⟨x5, h5, g5⟩ := leaf_i64 Try.underlying3 (L.2.2.2.2.2.1)
    cases h5
    exact ⟨x0, x1, x2, x3, x4, x5, rfl, g0, g1, g2, g3, g4, g5⟩
/-- The cells of what was read. -/
theorem open1 {H : Type} {enc : TypeId × Value → H} {W : World} {cs : List Value} (L : LeafL Try.prog enc W (fun _ => True) (flatIds Try.prog 4 26) cs) : ∃ (x0 : Int) (x1 : Int) (x2 : Int) (x3 : Int) (x4 : Int) (x5 : Int) (x6 : Int), cs = encE (x0, (x1, x2), (x3, x4), (x5, x6)) ∧ InR x0 ∧ InR x1 ∧ InR x2 ∧ InR x3 ∧ InR x4 ∧ InR x5 ∧ InR x6 := by
  have e : flatIds Try.prog 4 26 = [3, 3, 3, 3, 3, 3, 3] := by kernel_rfl
  rw [e] at L
  match cs, L with
  | [v0, v1, v2, v3, v4, v5, v6], L =>
    obtain ⟨x0, h0, g0⟩ := leaf_i64 Try.underlying3 (L.1)
    cases h0
    obtain ⟨x1, h1, g1⟩ := leaf_i64 Try.underlying3 (L.2.1)
    cases h1
    obtain ⟨x2, h2, g2⟩ := leaf_i64 Try.underlying3 (L.2.2.1)
    cases h2
    obtain ⟨x3, h3, g3⟩ := leaf_i64 Try.underlying3 (L.2.2.2.1)
    cases h3
    obtain ⟨x4, h4, g4⟩ := leaf_i64 Try.underlying3 (L.2.2.2.2.1)
    cases h4
    obtain ⟨x5, h5, g5⟩ := leaf_i64 Try.underlying3 (L.2.2.2.2.2.1)
    cases h5
    obtain ⟨x6, h6, g6⟩ := leaf_i64 Try.underlying3 (L.2.2.2.2.2.2.1)
    cases h6
    exact ⟨x0, x1, x2, x3, x4, x5, x6, rfl, g0, g1, g2, g3, g4, g5, g6⟩

set_option maxRecDepth 100000 in
theorem lifted (os : Os) (started : os.Started) (H : Type) (enc : TypeId × Value → H) :
    ReturnsInHanded {} Try.checked os 3 .any (Rows.topJoinSpec.pre6 enc Try.prog Try.f3 Rows.topJoinRow.domain false) (Rows.topJoinSpec.post enc Try.prog Try.f3 false true false false) := by
  refine returnsInHanded_of_change (C := Try.checked) own started (by kernel_rfl) Try.func3
    (ChangeSpec.witness6 (enc := enc) (C := Try.checked) false ⟨#[], #[.slice none 0 0, .slice none 0 0, .int .i64 0, .agg #[.int .i64 0, .int .i64 0, .int .i64 0, .int .i64 0, .int .i64 0, .int .i64 0, .int .i64 0]], []⟩ 8 (by kernel_rfl) (by kernel_rfl) (by kernel_rfl) (by kernel_rfl)) ?_
  intro W base args ds gs before hval0 hW hcnd _
  have hval : ∀ (j : Nat) t v, Try.f3.params[j]? = some t → args[j]? = some v → Value.okWide Try.prog W .any base t v := hval0
  have hW' := hW
  obtain ⟨p, q, hA0, hV, rfl, hfz, hnd⟩ := hW
  have hA : DataW.TrodAll enc Try.prog W 0 (fun _ => true) true Try.f3.params.toList args.toList ds p := hA0
  rw [Try.params3] at hA hval
  obtain ⟨v0, vs0, d0, ds0, p0, q0, hargs, rfl, rfl, h0, r0⟩ := trodAll_cons hA
  obtain ⟨v1, vs1, d1, ds1, p1, q1, rfl, rfl, rfl, h1, r1⟩ := trodAll_cons r0
  obtain ⟨v2, vs2, d2, ds2, p2, q2, rfl, rfl, rfl, h2, r2⟩ := trodAll_cons r1
  obtain ⟨v3, vs3, d3, ds3, p3, q3, rfl, rfl, rfl, h3, r3⟩ := trodAll_cons r2
  obtain ⟨rfl, rfl, rfl⟩ := trodAll_nil r3
  obtain rfl : args = #[v0, v1, v2, v3] := by cases args; simp_all
  obtain ⟨rfl, rfl⟩ := trodVars_none hV
  obtain ⟨w1, w2, w3, rfl⟩ := okWide_slice (e := 28) (by kernel_rfl) (hval 0 22 v0 rfl rfl)
  obtain ⟨p0, n0, c0, l0, e0, S0, hc0, hm0, _, g0⟩ := leaf_slice (enc := encN) (sz := 6) (good := fun y => True) smTrue (e := 28) (by kernel_rfl) (by kernel_rfl) (by decide) (fun _ => rfl)
    (fun cs L => by
      have hf := leaf_flat smTrue 4 (by kernel_rfl) L
      obtain ⟨x0, x1, x2, x3, x4, x5, hy, hg⟩ := open0 hf
      exact ⟨⟨x0, x1, x2, x3, (x4, x5)⟩, hy, trivial⟩) (leafC_of (Sm := fun _ => True) h0 trivial)
  cases e0
  obtain ⟨w1, w2, w3, rfl⟩ := okWide_slice (e := 28) (by kernel_rfl) (hval 1 22 v1 rfl rfl)
  obtain ⟨p1, n1, c1, l1, e1, S1, hc1, hm1, _, g1⟩ := leaf_slice (enc := encN) (sz := 6) (good := fun y => True) smTrue (e := 28) (by kernel_rfl) (by kernel_rfl) (by decide) (fun _ => rfl)
    (fun cs L => by
      have hf := leaf_flat smTrue 4 (by kernel_rfl) L
      obtain ⟨x0, x1, x2, x3, x4, x5, hy, hg⟩ := open0 hf
      exact ⟨⟨x0, x1, x2, x3, (x4, x5)⟩, hy, trivial⟩) (leafC_of (Sm := fun _ => True) h1 trivial)
  cases e1
  obtain ⟨a2, rfl⟩ := okWide_int Try.underlying3 (hval 2 3 v2 rfl rfl)
  obtain ⟨b2, e2, ga2⟩ := leaf_i64 Try.underlying3 (leafC_of (Sm := fun _ => True) h2 trivial)
  cases e2
  obtain ⟨cs3, rfl, _⟩ := okWide_struct Try.underlying26 (hval 3 26 v3 rfl rfl)
  obtain ⟨x3_0, x3_1, x3_2, x3_3, x3_4, x3_5, x3_6, e3, g3⟩ := open1 (leaf_flat smTrue 4 (by kernel_rfl) (leafC_of (Sm := fun _ => True) h3 trivial))
  obtain rfl : cs3 = (encE (x3_0, (x3_1, x3_2), (x3_3, x3_4), (x3_5, x3_6))).toArray := by have q : cs3.toList = _ := e3; rw [← q]
  refine (calls_law (top_TopJoin_ok (e := (x3_0, (x3_1, x3_2), (x3_3, x3_4), (x3_5, x3_6))) S0 S1)).mono fun e W' ⟨he, hg⟩ => ?_
  subst he
  exact ⟨_, rfl, law_post big hW' hg (by kernel_rfl) (tb := 4) (by kernel_rfl) (by kernel_rfl) rfl⟩

theorem over : Rows.topJoinRow.holds Try.pinned (OpenSpec.ofChange Rows.topJoinSpec) :=
  OpenClaim.holds_of_wide 3 Try.f3 rfl rfl rfl rfl rfl rfl rfl ⟨rfl, rfl, rfl, rfl, rfl⟩ rfl rfl rfl rfl rfl (by kernel_rfl) Try.func3 (by kernel_rfl)
    (of_decide_eq_true (by kernel_rfl)) (by unfold Func.isWrapper; first | (rw [if_pos (by decide +kernel)]; kernel_rfl) | (rw [if_neg (by decide +kernel)]; exact ⟨rfl, rfl⟩))
    (fun os started H enc _ => lifted os started H enc)

theorem proved : Rows.TopJoinSaid :=
  over
end Go.Proofs.Ytkfhhjllacegpaa.topJoin
