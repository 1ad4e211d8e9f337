/-
  Contracts: values and kinds of expressions, as the document has them. Conditions: that each node's own stand ahead of it.
-/
import Derived.Test.YtgonnpleihbklaaCRExp
namespace Go.Proofs.Ytgonnpleihbklaa
open Go Go.Vc
set_option linter.unusedVariables false
set_option maxRecDepth 100000

section
variable {a : Option Addr} {m c : Nat} {l : List Nd} {h : Hp}
theorem R_valueAt_ok (S : SlP encN h a m l) (W : WfL l) {e : EvL} : ∀ (k : Nat) (i : Int), i.toNat = k → 0 ≤ i → i < l.length → ∀ (R : Value → Hp → Prop), R (vag (encV (vAt e l i.toNat))) h → CallOK Try.prog 52 [vsl a m c, vi i, vag (encE e)] h R := by
  intro k
  induction k using Nat.strongRecOn with
  | _ k ih =>
    intro i hik h0 h1 R hK
    refine ok_R_valueAt ?_
    unfold VC_R_valueAt
    have hm := S.1
    have hx : l[i.toNat]? = some (l[i.toNat]'(by omega)) := List.getElem?_eq_getElem (by omega)
    have Wn := W _ _ hx
    have hv : vAt e l i.toNat = _ := fAt_wf (own_stepF e) hx Wn
    rw [hv] at hK
    clear hv
    obtain ⟨b, o, ha, hr⟩ := S.get encN_len (by decide) hx
    generalize l[i.toNat]'(by omega) = n at *
    have hX : 1 ≤ arI n.op → ∀ (R : Value → Hp → Prop), R (vag (encV (vAt e l n.x.toNat))) h → CallOK Try.prog 52 [vsl a m c, vi n.x, vag (encE e)] h R := fun h2 R hR => by
      have := Wn.x h2
      exact ih n.x.toNat (by omega) n.x rfl (by omega) (by omega) R hR
    have hY : 2 ≤ arI n.op → ∀ (R : Value → Hp → Prop), R (vag (encV (vAt e l n.y.toNat))) h → CallOK Try.prog 52 [vsl a m c, vi n.y, vag (encE e)] h R := fun h2 R hR => by
      have := Wn.y h2
      exact ih n.y.toNat (by omega) n.y rfl (by omega) (by omega) R hR
    have ar := ar0 Wn.a
    have hfold : vAt e l = fAt (0, 0) (stepF e) l := rfl
    rw [← hfold] at hK
    generalize vAt e l n.x.toNat = vx at *
    generalize vAt e l n.y.toNat = vy at *
    unfold stepF at hK
    refine ⟨b, o, ⟨ha, h0, by omega⟩, _, _, _, _, _, _, hr, fun q => ?_, fun q1 => ⟨fun q => ?_, fun q2 => ⟨fun q => ?_, fun q3 => ⟨fun q => ?_, fun q4 => ⟨fun q => ?_, fun q5 => ?_⟩⟩⟩⟩⟩
    · rw [if_pos (of_decide_eq_true q)] at hK; exact hK
    · rw [if_neg (of_decide_eq_false q1), if_pos (of_decide_eq_true q)] at hK
      unfold fieldV at hK
      refine ⟨fun p => ?_, fun p => ⟨fun p2 => ?_, fun p2 => ⟨fun p3 => ?_, fun p3 => ?_⟩⟩⟩
      · rw [if_pos (of_decide_eq_true p)] at hK; exact R_Num_ok ⟨_, _, rfl, hK⟩
      · rw [if_neg (of_decide_eq_false p), if_pos (of_decide_eq_true p2)] at hK; exact hK
      · rw [if_neg (of_decide_eq_false p), if_neg (of_decide_eq_false p2), if_pos (of_decide_eq_true p3)] at hK; exact hK
      · rw [if_neg (of_decide_eq_false p), if_neg (of_decide_eq_false p2), if_neg (of_decide_eq_false p3)] at hK; exact hK
    · rw [if_neg (of_decide_eq_false q1), if_neg (of_decide_eq_false q2), if_pos (of_decide_eq_true q)] at hK
      have := of_decide_eq_true q
      refine hX (by omega) _ ⟨_, _, rfl, fun p => ?_, fun p => ?_⟩
      · unfold negV at hK
        rw [if_pos (of_decide_eq_true p)] at hK
        exact ⟨_, w64_isW _, R_Num_ok ⟨_, _, rfl, hK⟩⟩
      · unfold negV at hK
        rw [if_neg (of_decide_eq_false p)] at hK
        exact hK
    · rw [if_neg (of_decide_eq_false q1), if_neg (of_decide_eq_false q2), if_neg (of_decide_eq_false q3), if_pos (of_decide_eq_true q)] at hK
      have := of_decide_eq_true q
      refine hX (by omega) _ ⟨_, _, rfl, fun p => ?_, fun p => ?_⟩
      · unfold notV at hK
        rw [if_pos (of_decide_eq_true p)] at hK
        exact R_Truth_ok ⟨_, _, rfl, hK⟩
      · unfold notV at hK
        rw [if_neg (of_decide_eq_false p)] at hK
        exact hK
    · rw [if_neg (of_decide_eq_false q1), if_neg (of_decide_eq_false q2), if_neg (of_decide_eq_false q3), if_neg (of_decide_eq_false q4), if_pos (of_decide_eq_true q)] at hK
      have := of_decide_eq_true q
      exact hX (by omega) _ ⟨_, _, rfl, R_Truth_ok ⟨_, _, rfl, hK⟩⟩
    · have p1 := of_decide_eq_false q1
      have p2 := of_decide_eq_false q2
      have p3 := of_decide_eq_false q3
      have p4 := of_decide_eq_false q4
      have p5 := of_decide_eq_false q5
      rw [if_neg p1, if_neg p2, if_neg p3, if_neg p4, if_neg p5] at hK
      have h2 : arI n.op = 2 := by rcases arI_range Wn.a with h | h | h <;> omega
      exact hX (by omega) _ ⟨_, _, rfl, hY (by omega) _ ⟨_, _, rfl, R_Do_ok ⟨_, _, rfl, hK⟩⟩⟩
theorem R_Eval_ok (S : SlP encN h a m l) (W : WfL l) (hl : 0 < l.length) (hm : l.length ≤ 1000000) {e : EvL} {R : Value → Hp → Prop} (hK : R (vag (encV (valE e l))) h) : CallOK Try.prog 20 [vsl a m c, vag (encE e)] h R := by
  refine ok_R_Eval ?_
  unfold VC_R_Eval
  have hm := S.1
  refine ⟨_, isW (by unfold InR; omega), R_valueAt_ok S W _ ((m : Int) - 1) rfl (by omega) (by omega) _ ⟨_, _, rfl, ?_⟩⟩
  have e1 : ((m : Int) - 1).toNat = l.length - 1 := by omega
  rw [e1]
  exact hK
theorem tyG_some (op a b : Int) : tyG op (some a) (some b) = if op = 5 then some 2 else if (a ≠ 0 ∧ a ≠ wantT op) ∨ (b ≠ 0 ∧ b ≠ wantT op) then none else if op = 11 ∨ op = 12 then some 2 else some (wantT op) := rfl
/-- A kind, as it is told. -/
def tyOut : Option Int → Value
  | some t => vtup [vi t, vb true]
  | none => vtup [vi 0, vb false]
theorem R_typeAt_ok (S : SlP encN h a m l) (W : WfL l) : ∀ (k : Nat) (i : Int), i.toNat = k → 0 ≤ i → i < l.length → ∀ (R : Value → Hp → Prop), R (tyOut (tAt l i.toNat)) h → CallOK Try.prog 51 [vsl a m c, vi i] h R := by
  intro k
  induction k using Nat.strongRecOn with
  | _ k ih =>
    intro i hik h0 h1 R hK
    refine ok_R_typeAt ?_
    unfold VC_R_typeAt
    have hm := S.1
    have hx : l[i.toNat]? = some (l[i.toNat]'(by omega)) := List.getElem?_eq_getElem (by omega)
    have Wn := W _ _ hx
    have hv : tAt l i.toNat = _ := fAt_wf own_tyF hx Wn
    rw [hv] at hK
    clear hv
    obtain ⟨b, o, ha, hr⟩ := S.get encN_len (by decide) hx
    generalize l[i.toNat]'(by omega) = n at *
    have hX : 1 ≤ arI n.op → ∀ (R : Value → Hp → Prop), R (tyOut (tAt l n.x.toNat)) h → CallOK Try.prog 51 [vsl a m c, vi n.x] h R := fun h2 R hR => by
      have := Wn.x h2
      exact ih n.x.toNat (by omega) n.x rfl (by omega) (by omega) R hR
    have hY : 2 ≤ arI n.op → ∀ (R : Value → Hp → Prop), R (tyOut (tAt l n.y.toNat)) h → CallOK Try.prog 51 [vsl a m c, vi n.y] h R := fun h2 R hR => by
      have := Wn.y h2
      exact ih n.y.toNat (by omega) n.y rfl (by omega) (by omega) R hR
    have ar := ar0 Wn.a
    have hfold : tAt l = fAt none tyF l := rfl
    rw [← hfold] at hK
    generalize tAt l n.x.toNat = vx at *
    generalize tAt l n.y.toNat = vy at *
    refine ⟨b, o, ⟨ha, h0, by omega⟩, _, _, _, _, _, _, hr, fun q => ?_, fun q1 => ⟨fun q => ?_, fun q2 => ?_⟩⟩
    · unfold tyF at hK
      rw [if_pos (of_decide_eq_true q)] at hK; exact hK
    · unfold tyF at hK
      rw [if_neg (of_decide_eq_false q1), if_pos (of_decide_eq_true q)] at hK; exact hK
    have p1 := of_decide_eq_false q1
    have p2 := of_decide_eq_false q2
    rw [tyF_op p1 p2] at hK
    have h1 : 1 ≤ arI n.op := by rcases arI_range Wn.a with h | h | h <;> omega
    -- what is done once both kinds are there
    have hJ : ∀ (x : Option Int) (p14 p35 : Bool) (x13 x34 : Int), tyOut vx = vtup [vi x13, vb p14] → tyOut x = vtup [vi x34, vb p35] → R (tyOut (tyG n.op vx x)) h →
        (((bif (!p14) then true else (!p35)) = true → R (vtup [(vi 0), (vb false)]) h) ∧ ((bif (!p14) then true else (!p35)) = false → (((decide ((n.op : Int) = 5)) = true → R (vtup [(vi 2), (vb true)]) h) ∧ ((decide ((n.op : Int) = 5)) = false → (let J41 : Int → Prop := fun (x42 : Int) => (((bif (bif (decide ((x13 : Int) ≠ 0)) then (decide ((x13 : Int) ≠ x42)) else false) then true else (bif (decide ((x34 : Int) ≠ 0)) then (decide ((x34 : Int) ≠ x42)) else false)) = true → R (vtup [(vi 0), (vb false)]) h) ∧ ((bif (bif (decide ((x13 : Int) ≠ 0)) then (decide ((x13 : Int) ≠ x42)) else false) then true else (bif (decide ((x34 : Int) ≠ 0)) then (decide ((x34 : Int) ≠ x42)) else false)) = false → (let J46 : Int → Prop := fun (x47 : Int) => R (vtup [(vi x47), (vb true)]) h; (((bif (decide ((n.op : Int) = 11)) then true else (decide ((n.op : Int) = 12))) = true → (J46 2)) ∧ ((bif (decide ((n.op : Int) = 11)) then true else (decide ((n.op : Int) = 12))) = false → (J46 x42)))))); (((bif (bif (decide ((n.op : Int) = 4)) then true else (decide ((n.op : Int) = 9))) then true else (decide ((n.op : Int) = 10))) = true → (J41 2)) ∧ ((bif (bif (decide ((n.op : Int) = 4)) then true else (decide ((n.op : Int) = 9))) then true else (decide ((n.op : Int) = 10))) = false → (J41 1)))))))) := by
      intro x p14 p35 x13 x34 e1 e2 hR
      match vx, x, e1, e2, hR with
      | none, x, e1, e2, hR =>
        cases e1
        rw [(tyG_none n.op x).1] at hR
        exact ⟨fun _ => hR, fun g => (by cases g)⟩
      | some t, none, e1, e2, hR =>
        cases e1
        cases e2
        rw [(tyG_none n.op _).2] at hR
        exact ⟨fun _ => hR, fun g => (by cases g)⟩
      | some t, some u, e1, e2, hR =>
        cases e1
        cases e2
        rw [tyG_some] at hR
        refine ⟨fun g => (by cases g), fun _ => ⟨fun g => ?_, fun g => ?_⟩⟩
        · rw [if_pos (of_decide_eq_true g)] at hR; exact hR
        rw [if_neg (of_decide_eq_false g)] at hR
        intro J41
        have hw : J41 (wantT n.op) := by
          refine ⟨fun g => ?_, fun g => ?_⟩
          · simp only [cand, cor] at g
            rw [if_pos (of_decide_eq_true g)] at hR; exact hR
          · simp only [cand, cor] at g
            rw [if_neg (of_decide_eq_false g)] at hR
            intro J46
            refine ⟨fun g => ?_, fun g => ?_⟩
            · simp only [cand, cor] at g
              rw [if_pos (of_decide_eq_true g)] at hR; exact hR
            · simp only [cand, cor] at g
              rw [if_neg (of_decide_eq_false g)] at hR; exact hR
        clear_value J41
        unfold wantT at hw
        refine ⟨fun g => ?_, fun g => ?_⟩
        · simp only [cand, cor] at g
          have := of_decide_eq_true g
          rw [if_pos (by omega)] at hw; exact hw
        · simp only [cand, cor] at g
          have := of_decide_eq_false g
          rw [if_neg (by omega)] at hw; exact hw
    have out : ∀ x : Option Int, ∃ (t : Int) (p : Bool), tyOut x = vtup [vi t, vb p] := by
      intro x
      cases x with
      | none => exact ⟨_, _, rfl⟩
      | some t => exact ⟨_, _, rfl⟩
    obtain ⟨t1, p1', o1⟩ := out vx
    refine hX h1 _ ⟨t1, p1', o1, R_Arity_ok ⟨_, rfl, ?_⟩⟩
    intro J24
    refine ⟨fun g => ?_, fun g => ?_⟩
    · have h2 := of_decide_eq_true g
      obtain ⟨t2, p2', o2⟩ := out vy
      rw [if_pos h2] at hK
      exact hY (by omega) _ ⟨t2, p2', o2, hJ _ _ _ _ _ o1 o2 hK⟩
    · rw [if_neg (of_decide_eq_false g)] at hK
      exact hJ _ _ _ _ _ o1 o1 hK
theorem R_Type_ok (S : SlP encN h a m l) (W : WfL l) (hl : 0 < l.length) (hm : l.length ≤ 1000000) {R : Value → Hp → Prop} (hK : R (vtup [vi (typE l).1, vi (typE l).2]) h) : CallOK Try.prog 18 [vsl a m c] h R := by
  refine ok_R_Type ?_
  unfold VC_R_Type
  have hm := S.1
  refine ⟨_, isW (by unfold InR; omega), R_typeAt_ok S W _ ((m : Int) - 1) rfl (by omega) (by omega) _ ?_⟩
  have e1 : ((m : Int) - 1).toNat = l.length - 1 := by omega
  rw [e1]
  unfold typE at hK
  cases ht : tAt l (l.length - 1) with
  | none =>
    rw [ht] at hK
    exact ⟨_, _, rfl, fun _ => hK, fun g => (by cases g)⟩
  | some t =>
    rw [ht] at hK
    exact ⟨_, _, rfl, fun g => (by cases g), fun _ => hK⟩
end
end Go.Proofs.Ytgonnpleihbklaa
