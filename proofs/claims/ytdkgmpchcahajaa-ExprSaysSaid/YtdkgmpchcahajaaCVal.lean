/-
  Contracts: package value. Conditions: none.
-/
import Derived.Test.YtdkgmpchcahajaaFVal
import Derived.Test.YtdkgmpchcahajaaCVal0
import Derived.Test.YtdkgmpchcahajaaCErr
import Derived.Test.YtdkgmpchcahajaaVcP
namespace Go.Proofs.Ytdkgmpchcahajaa
open Go Go.Vc
set_option linter.unusedVariables false

def w64 (x : Int) : Int := IntKind.i64.wrap x
theorem w64_isW (x : Int) : IsW (w64 x) x := rfl
theorem w64_in {x : Int} (h : InR x) : w64 x = x := (isW h).symm
def truthV (b : Bool) : Int × Int := (2, if b then 1 else 0)
def andV (a b : Int × Int) : Int × Int := if a = (2, 0) ∨ b = (2, 0) then (2, 0) else if a.1 = 2 ∧ b.1 = 2 then (2, 1) else (0, 0)
def notV (a : Int × Int) : Int × Int := if a.1 = 2 then truthV (decide (a.2 = 0)) else (0, 0)
def negV (a : Int × Int) : Int × Int := if a.1 = 1 then numV (w64 (-a.2)) else (0, 0)
def doV (op : Int) (a b : Int × Int) : Int × Int :=
  if op = 9 then andV a b else if op = 10 then notV (andV (notV a) (notV b)) else if a.1 = 1 ∧ b.1 = 1 then
    (if op = 6 then numV (w64 (a.2 + b.2)) else if op = 7 then numV (w64 (a.2 - b.2)) else if op = 8 then numV (w64 (a.2 * b.2)) else if op = 11 then truthV (decide (a.2 < b.2)) else if op = 12 then truthV (decide (a.2 = b.2)) else (0, 0))
  else (0, 0)
def cmpI (x y : Int) : Int := if x < y then -1 else if x > y then 1 else 0
def cmpV (a b : Int × Int) : Int := if cmpI a.1 b.1 ≠ 0 then cmpI a.1 b.1 else cmpI a.2 b.2

theorem value_Truth_ok {b : Bool} {h : Hp} {R : Value → Hp → Prop} (hK : R (vag (encV (truthV b))) h) : CallOK Try.prog 79 [vb b] h R := by
  refine ok_value_Truth ?_
  unfold VC_value_Truth
  cases b with
  | true => exact ⟨fun _ => hK, fun e => by cases e⟩
  | false => exact ⟨fun e => by (cases e), fun _ => hK⟩
theorem value_numbers_ok {a b : Int × Int} {h : Hp} {R : Value → Hp → Prop} (hK : R (vb (decide (a.1 = 1 ∧ b.1 = 1))) h) : CallOK Try.prog 114 [vag (encV a), vag (encV b)] h R := by
  refine ok_value_numbers ?_
  unfold VC_value_numbers
  have : (bif (decide (a.1 = 1)) then (decide (b.1 = 1)) else false) = decide (a.1 = 1 ∧ b.1 = 1) := by
    by_cases h1 : a.1 = 1 <;> by_cases h2 : b.1 = 1 <;> simp [h1, h2]
  rw [this]
  exact hK
theorem value_Check_ok {v : Int × Int} {h : Hp} {R : Value → Hp → Prop} (hK : R (ifv (errV (if goodV v then 0 else 3))) h) : CallOK Try.prog 78 [vag (encV v)] h R := by
  refine ok_value_Check ?_
  unfold VC_value_Check
  intro J4
  have yes : goodV v → J4 true := fun hg => ⟨fun _ => by rw [if_pos hg] at hK; exact hK, fun e => by cases e⟩
  have no : ¬ goodV v → J4 false := fun hg => ⟨fun e => (by cases e), fun _ => by rw [if_neg hg] at hK; exact hK⟩
  refine ⟨fun e => ?_, fun e => ⟨fun e2 => ?_, fun e2 => ?_⟩⟩
  · rw [e]; exact yes (by unfold goodV; simp [Bool.cond_eq_ite] at e; omega)
  · rw [e2]; exact yes (by unfold goodV; simp [Bool.cond_eq_ite] at e2; omega)
  · by_cases hg : goodV v
    · have : (bif (decide (v.1 = 2)) then (bif (decide (v.2 = 0)) then true else (decide (v.2 = 1))) else false) = true := by
        unfold goodV at hg
        simp [Bool.cond_eq_ite] at e e2 ⊢
        omega
      rw [this]; exact yes hg
    · have : (bif (decide (v.1 = 2)) then (bif (decide (v.2 = 0)) then true else (decide (v.2 = 1))) else false) = false := by
        unfold goodV at hg
        simp [Bool.cond_eq_ite]
        omega
      rw [this]; exact no hg
theorem value_And_ok {a b : Int × Int} {h : Hp} {R : Value → Hp → Prop} (hK : R (vag (encV (andV a b))) h) : CallOK Try.prog 113 [vag (encV a), vag (encV b)] h R := by
  refine ok_value_And ?_
  unfold VC_value_And
  refine value_Truth_ok ⟨_, _, rfl, _, rd_eqV (a := a) (b := (2, 0)), _, fun _ => rd_eqV (a := b) (b := (2, 0)), fun e => ?_, fun e => ⟨fun e2 => ?_, fun e2 => ?_⟩⟩
  · have : a = (2, 0) ∨ b = (2, 0) := by simpa [Bool.cond_eq_ite] using e
    unfold andV at hK
    rw [if_pos this] at hK
    exact hK
  all_goals have h1 : ¬ (a = (2, 0) ∨ b = (2, 0)) := by simpa [Bool.cond_eq_ite] using e
  all_goals unfold andV at hK
  all_goals rw [if_neg h1] at hK
  · rw [if_pos (by simpa [Bool.cond_eq_ite] using e2)] at hK
    exact value_Truth_ok ⟨_, _, rfl, hK⟩
  · rw [if_neg (by simpa [Bool.cond_eq_ite] using e2)] at hK
    exact value_Null_ok ⟨_, _, rfl, hK⟩
theorem value_Not_ok {a : Int × Int} {h : Hp} {R : Value → Hp → Prop} (hK : R (vag (encV (notV a))) h) : CallOK Try.prog 81 [vag (encV a)] h R := by
  refine ok_value_Not ?_
  unfold VC_value_Not
  unfold notV at hK
  refine ⟨fun e => ?_, fun e => ?_⟩
  · rw [if_neg (by simpa using e)] at hK
    exact value_Null_ok ⟨_, _, rfl, hK⟩
  · rw [if_pos (by simpa using e)] at hK
    exact value_Truth_ok ⟨_, _, rfl, hK⟩
theorem value_Neg_ok {a : Int × Int} {h : Hp} {R : Value → Hp → Prop} (hK : R (vag (encV (negV a))) h) : CallOK Try.prog 96 [vag (encV a)] h R := by
  refine ok_value_Neg ?_
  unfold VC_value_Neg
  unfold negV at hK
  refine ⟨fun e => ?_, fun e => ?_⟩
  · rw [if_neg (by simpa using e)] at hK
    exact value_Null_ok ⟨_, _, rfl, hK⟩
  · rw [if_pos (by simpa using e)] at hK
    exact ⟨_, w64_isW _, value_Number_ok ⟨_, _, rfl, hK⟩⟩
theorem value_Do_ok {op : Int} {a b : Int × Int} {h : Hp} {R : Value → Hp → Prop} (hK : R (vag (encV (doV op a b))) h) : CallOK Try.prog 80 [vi op, vag (encV a), vag (encV b)] h R := by
  refine ok_value_Do ?_
  unfold VC_value_Do
  unfold doV at hK
  refine ⟨fun e => ?_, fun e => ?_⟩
  · rw [if_pos (of_decide_eq_true e)] at hK
    exact value_And_ok ⟨_, _, rfl, hK⟩
  rw [if_neg (of_decide_eq_false e)] at hK
  refine ⟨fun e => ?_, fun e => ?_⟩
  · rw [if_pos (of_decide_eq_true e)] at hK
    exact value_Not_ok ⟨_, _, rfl, value_Not_ok ⟨_, _, rfl, value_And_ok ⟨_, _, rfl, value_Not_ok ⟨_, _, rfl, hK⟩⟩⟩⟩
  rw [if_neg (of_decide_eq_false e)] at hK
  refine value_numbers_ok ⟨_, rfl, fun e => ?_, fun e => ?_⟩
  · rw [if_neg (by simp at e; omega)] at hK
    exact value_Null_ok ⟨_, _, rfl, hK⟩
  rw [if_pos (by simpa using e)] at hK
  refine ⟨fun e => ?_, fun e => ?_⟩
  · rw [if_pos (of_decide_eq_true e)] at hK
    exact ⟨_, w64_isW _, value_Number_ok ⟨_, _, rfl, hK⟩⟩
  rw [if_neg (of_decide_eq_false e)] at hK
  refine ⟨fun e => ?_, fun e => ?_⟩
  · rw [if_pos (of_decide_eq_true e)] at hK
    exact ⟨_, w64_isW _, value_Number_ok ⟨_, _, rfl, hK⟩⟩
  rw [if_neg (of_decide_eq_false e)] at hK
  refine ⟨fun e => ?_, fun e => ?_⟩
  · rw [if_pos (of_decide_eq_true e)] at hK
    exact ⟨_, w64_isW _, value_Number_ok ⟨_, _, rfl, hK⟩⟩
  rw [if_neg (of_decide_eq_false e)] at hK
  refine ⟨fun e => ?_, fun e => ?_⟩
  · rw [if_pos (of_decide_eq_true e)] at hK
    exact value_Truth_ok ⟨_, _, rfl, hK⟩
  rw [if_neg (of_decide_eq_false e)] at hK
  refine ⟨fun e => ?_, fun e => ?_⟩
  · rw [if_pos (of_decide_eq_true e)] at hK
    exact value_Truth_ok ⟨_, _, rfl, hK⟩
  rw [if_neg (of_decide_eq_false e)] at hK
  exact value_Null_ok ⟨_, _, rfl, hK⟩
theorem cmp_Compare_ok {x y : Int} {h : Hp} {R : Value → Hp → Prop} (hK : R (vi (cmpI x y)) h) : CallOK Try.prog 112 [vi x, vi y] h R := by
  have nan : ∀ {z : Int} {K : Value → Hp → Prop}, K (vb false) h → CallOK Try.prog 122 [vi z] h K := by
    intro z K hk
    refine ok_cmp_isNaN_int ?_
    unfold VC_cmp_isNaN_int
    simpa using hk
  refine ok_cmp_Compare_int ?_
  unfold VC_cmp_Compare_int
  unfold cmpI at hK
  refine nan ⟨_, rfl, nan ⟨_, rfl, fun e => by (cases e), fun _ => ⟨fun e => by (cases e), fun _ => ⟨fun e => ?_, fun e => ⟨fun e2 => ?_, fun e2 => ?_⟩⟩⟩⟩⟩
  · rw [if_pos (of_decide_eq_true e)] at hK; exact hK
  · rw [if_neg (of_decide_eq_false e), if_pos (of_decide_eq_true e2)] at hK; exact hK
  · rw [if_neg (of_decide_eq_false e), if_neg (of_decide_eq_false e2)] at hK; exact hK
theorem cmp_Or2_ok {x y : Int} {a : Option Addr} {c : Nat} {h : Hp} {R : Value → Hp → Prop} (S : SlI h a 2 [x, y]) (hK : R (vi (if x ≠ 0 then x else y)) h) : CallOK Try.prog 111 [vsl a 2 c] h R := by
  refine ok_cmp_Or_int ?_
  unfold VC_cmp_Or_int
  refine ⟨fun vs hh => hh = h ∧ ∃ i : Nat, vs = [vi i] ∧ i ≤ 2 ∧ (0 < i → x = 0) ∧ (1 < i → y = 0), fun vs hh => 2 - (vint vs 0).toNat, ⟨rfl, 0, rfl, by decide, by simp, by simp⟩, ?_⟩
  rintro vs hh ⟨rfl, i, rfl, hi, h1, h2⟩
  refine ⟨i, rfl, fun e => ?_, fun e => ?_⟩
  · have hlt : i < 2 := by have := of_decide_eq_true e; omega
    obtain ⟨b, o, ea, hc⟩ := S.get hlt
    refine ⟨b, o, ⟨ea, by omega, by omega⟩, _, hc, fun e => ?_, fun e => ⟨_, isW (by unfold InR; omega), ⟨rfl, i + 1, rfl, by omega, ?_, ?_⟩, by simp [vint]; omega⟩⟩
    · match i, hlt with
      | 0, _ =>
        have hx : x ≠ 0 := of_decide_eq_true e
        rw [if_pos hx] at hK; exact hK
      | 1, _ =>
        have hx := h1 (by decide)
        rw [if_neg (by simp [hx])] at hK; exact hK
    · intro _
      match i, hlt with
      | 0, _ => have := of_decide_eq_false e; simpa using this
      | 1, _ => exact h1 (by decide)
    · intro hi1
      match i, hlt with
      | 0, _ => omega
      | 1, _ => have := of_decide_eq_false e; simpa using this
  · have hge : i = 2 := by have := of_decide_eq_false e; omega
    subst hge
    have hx := h1 (by decide)
    have hy := h2 (by decide)
    rw [if_neg (by simp [hx]), hy] at hK
    exact hK
theorem value_Compare_ok {a b : Int × Int} {h : Hp} {R : Value → Hp → Prop} (hK : ∀ h', h.le h' → R (vi (cmpV a b)) h') : CallOK Try.prog 75 [vag (encV a), vag (encV b)] h R := by
  refine ok_value_Compare ?_
  unfold VC_value_Compare
  refine cmp_Compare_ok ⟨_, rfl, cmp_Compare_ok ⟨_, rfl, ?_⟩⟩
  intro b7 hb7 h8
  refine cmp_Or2_ok (x := cmpI a.1 b.1) (y := cmpI a.2 b.2) ⟨rfl, HasRow.new _ _ [vi (cmpI a.1 b.1), vi (cmpI a.2 b.2)] _⟩ ⟨_, rfl, hK _ (Hp.le_set (Hp.le_refl h) hb7 _)⟩
end Go.Proofs.Ytdkgmpchcahajaa
