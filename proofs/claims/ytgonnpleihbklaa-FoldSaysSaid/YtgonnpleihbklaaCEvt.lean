/-
  Contracts: events: how they lie, how they are compared; what an event may be, as the document has it. Conditions: none.
-/
import Derived.Test.YtgonnpleihbklaaCVal
import Derived.Test.YtgonnpleihbklaaFREvt
import Derived.Test.YtgonnpleihbklaaVcV
namespace Go.Proofs.Ytgonnpleihbklaa
open Go Go.Vc
set_option linter.unusedVariables false
set_option maxRecDepth 100000

/-- An event: its time, K, A, B. -/
abbrev EvL := Int × (Int × Int) × (Int × Int) × (Int × Int)
def encE (e : EvL) : List Value := [vi e.1, vi e.2.1.1, vi e.2.1.2, vi e.2.2.1.1, vi e.2.2.1.2, vi e.2.2.2.1, vi e.2.2.2.2]
theorem encE_len (e : EvL) : (encE e).length = 7 := rfl
theorem one_encE (e : EvL) : ∀ u ∈ encE e, u.oneCell' = true := by
  intro u hu
  simp [encE] at hu
  rcases hu with rfl | rfl | rfl | rfl | rfl | rfl | rfl <;> rfl
theorem one_evs (l : List EvL) : ∀ u ∈ l.flatMap encE, u.oneCell' = true := by
  intro u hu
  obtain ⟨v, _, hv⟩ := List.mem_flatMap.1 hu
  exact one_encE v u hv
theorem elEv : ElT Try.prog 40 50 7 56 := .of (by kernel_rfl) (by kernel_rfl) (by decide)
theorem eqFl_E (a b c d e f g a' b' c' d' e' f' g' : Int) : eqFl Try.prog 8 50 [vi a, vi b, vi c, vi d, vi e, vi f, vi g] [vi a', vi b', vi c', vi d', vi e', vi f', vi g'] =
    some (decide (a = a') && ((decide (b = b') && (decide (c = c') && true)) && ((decide (d = d') && (decide (e = e') && true)) && ((decide (f = f') && (decide (g = g') && true)) && true)))) := by kernel_rfl
theorem dec_E (x y : EvL) : (decide (x.1 = y.1) && ((decide (x.2.1.1 = y.2.1.1) && (decide (x.2.1.2 = y.2.1.2) && true)) && ((decide (x.2.2.1.1 = y.2.2.1.1) && (decide (x.2.2.1.2 = y.2.2.1.2) && true)) && ((decide (x.2.2.2.1 = y.2.2.2.1) && (decide (x.2.2.2.2 = y.2.2.2.2) && true)) && true)))) = decide (x = y) := by
  obtain ⟨x1, ⟨x2, x3⟩, ⟨x4, x5⟩, ⟨x6, x7⟩⟩ := x
  obtain ⟨y1, ⟨y2, y3⟩, ⟨y4, y5⟩, ⟨y6, y7⟩⟩ := y
  rw [Bool.eq_iff_iff]
  simp [and_assoc]
theorem rd_neqE {h : Hp} {x y : Operand} {a b : EvL} : Rd Try.prog (eqGuard .neq 50 x y (vag (encE a)) (vag (encE b)) >>= fun _ => binOp .neq 50 (vag (encE a)) (vag (encE b))) h (vb (!decide (a = b))) := by
  rw [← dec_E]
  exact rd_neq (eqFl_E _ _ _ _ _ _ _ _ _ _ _ _ _ _) (by kernel_rfl) (by kernel_rfl)

def chkV (v : Int × Int) : Int := if ¬ goodV v ∨ v.1 = 2 then 3 else if v.2 < -1000 ∨ v.2 > 1000 then 1 else 0
def chkL : List (Int × Int) → Int
  | [] => 0
  | v :: l => if chkV v = 0 then chkL l else chkV v
/-- What is wrong with an event; 0: nothing. -/
def chkE (e : EvL) : Int := if e.1 < 0 ∨ e.1 > 9999 then 1 else chkL [e.2.1, e.2.2.1, e.2.2.2]
theorem chkV_2 (v : Int × Int) : 0 ≤ chkV v := by unfold chkV; split <;> (try split) <;> decide
theorem chkL_2 : ∀ l : List (Int × Int), 0 ≤ chkL l
  | [] => Int.le_refl 0
  | v :: l => by
    rw [chkL]
    split
    · exact chkL_2 l
    · exact chkV_2 v
theorem chkE_2 (e : EvL) : 0 ≤ chkE e := by
  unfold chkE
  split
  · decide
  · exact chkL_2 _
theorem R_ValueFault_ok {v : Int × Int} {h : Hp} {R : Value → Hp → Prop} (hK : R (vi (if goodV v then 0 else 3)) h) : CallOK Try.prog 47 [vag (encV v)] h R := by
  refine ok_R_ValueFault ?_
  unfold VC_R_ValueFault
  refine ⟨fun e => ?_, fun e => ?_⟩
  · rw [if_pos (by unfold goodV; simp [Bool.cond_eq_ite] at e; omega)] at hK; exact hK
  · rw [if_neg (by unfold goodV; simp [Bool.cond_eq_ite] at e; omega)] at hK; exact hK
theorem drop_get {α : Type} {l : List α} {i : Nat} (h : i < l.length) : l.drop i = l[i] :: l.drop (i + 1) := List.drop_eq_getElem_cons h
theorem R_EventFault_ok {e : EvL} {h : Hp} {R : Value → Hp → Prop} (hK : ∀ h', h.le h' → R (vi (chkE e)) h') : CallOK Try.prog 19 [vag (encE e)] h R := by
  refine ok_R_EventFault ?_
  unfold VC_R_EventFault
  refine ⟨fun q => ?_, fun q => ?_⟩
  · have : chkE e = 1 := by unfold chkE; rw [if_pos (by simp [Bool.cond_eq_ite] at q; omega)]
    rw [this] at hK; exact hK h (Hp.le_refl h)
  have e1 : chkE e = chkL [e.2.1, e.2.2.1, e.2.2.2] := by unfold chkE; rw [if_neg (by simp [Bool.cond_eq_ite] at q; omega)]
  rw [e1] at hK
  clear e1 q
  intro b2 hb2 h3
  have l3 : h.le h3 := Hp.le_set (Hp.le_refl h) hb2 _
  have S : SlP encV h3 (some ⟨b2, 0, none⟩) 3 [e.2.1, e.2.2.1, e.2.2.2] := ⟨rfl, HasRow.new _ _ [vi e.2.1.1, vi e.2.1.2, vi e.2.2.1.1, vi e.2.2.1.2, vi e.2.2.2.1, vi e.2.2.2.2] _⟩
  clear_value h3
  have hl : [e.2.1, e.2.2.1, e.2.2.2].length = 3 := rfl
  generalize [e.2.1, e.2.2.1, e.2.2.2] = l at *
  refine ⟨fun vs hh => hh = h3 ∧ ∃ i : Nat, vs = [vi i] ∧ i ≤ 3 ∧ chkL l = chkL (l.drop i), fun vs hh => 3 - (vint vs 0).toNat, ⟨rfl, 0, rfl, by decide, rfl⟩, ?_⟩
  rintro vs hh ⟨rfl, i, rfl, hi, hc⟩
  refine ⟨i, rfl, fun q => ?_, fun q => ?_⟩
  · have hlt : i < 3 := by have := of_decide_eq_true q; omega
    have hx : l[i]? = some (l[i]'(by omega)) := List.getElem?_eq_getElem (by omega)
    rw [drop_get (by omega : i < l.length), chkL] at hc
    obtain ⟨b, o, ha, hr⟩ := S.get encV_len (by decide) hx
    generalize l[i]'(by omega) = v at *
    have A : (some ⟨b2, 0, none⟩ : Option Addr) = some ⟨b, o, none⟩ ∧ (0 : Int) ≤ i ∧ (i : Int) < (3 : Nat) := ⟨ha, by omega, by omega⟩
    refine ⟨b, o, A, _, _, hr, R_ValueFault_ok (v := v) ⟨_, rfl, b, o, fun _ => A, _, fun _ => Hp.row_cell hr (i := 0) rfl, fun q2 => ?_, fun q2 => ⟨b, o, A, _, Hp.row_cell hr (i := 1) rfl, b, o, fun _ => A, _, fun _ => Hp.row_cell hr (i := 1) rfl, fun q3 => ?_, fun q3 => ?_⟩⟩⟩
    · have : chkV v = 3 := by
        unfold chkV; rw [if_pos]
        by_cases hg : goodV v
        · right; simp [hg] at q2; exact q2
        · exact .inl hg
      rw [this, if_neg (by decide)] at hc
      rw [hc] at hK; exact hK hh l3
    · have : chkV v = 1 := by
        unfold chkV; rw [if_neg, if_pos]
        · simp [Bool.cond_eq_ite] at q3; omega
        · by_cases hg : goodV v
          · simp [hg] at q2 ⊢; exact q2
          · simp [hg] at q2
      rw [this, if_neg (by decide)] at hc
      rw [hc] at hK; exact hK hh l3
    · have : chkV v = 0 := by
        unfold chkV; rw [if_neg, if_neg]
        · simp [Bool.cond_eq_ite] at q3; omega
        · by_cases hg : goodV v
          · simp [hg] at q2 ⊢; exact q2
          · simp [hg] at q2
      rw [this, if_pos rfl] at hc
      exact ⟨_, isW (by unfold InR; omega), ⟨rfl, i + 1, rfl, by omega, hc⟩, by simp [vint]; omega⟩
  · have hge : i = 3 := by have := of_decide_eq_false q; omega
    subst hge
    rw [List.drop_eq_nil_of_le (by omega)] at hc
    rw [hc] at hK; exact hK hh l3
end Go.Proofs.Ytgonnpleihbklaa
