/-
  Contracts: package gather. Conditions: those stated at each (that the sums fit).
-/
import Derived.Test.YtjdheefginfjgaaFGat
import Derived.Test.YtjdheefginfjgaaVcN
namespace Go.Proofs.Ytjdheefginfjgaa
open Go Go.Vc
set_option linter.unusedVariables false

/-- A value's cells: its kind, its number. -/
def encV (v : Int × Int) : List Value := [vi v.1, vi v.2]
theorem encV_len (v : Int × Int) : (encV v).length = 2 := rfl
theorem one_vals (l : List (Int × Int)) : ∀ u ∈ l.flatMap encV, u.oneCell' = true := by
  intro u hu
  obtain ⟨v, _, hv⟩ := List.mem_flatMap.1 hu
  simp [encV] at hv
  rcases hv with rfl | rfl <;> rfl
def numV (n : Int) : Int × Int := if n < -1000000000 ∨ n > 1000000000 then (0, 0) else (1, n)
def gStep (k : Int) (s : Int × Int × Int) (v : Int × Int) : Int × Int × Int :=
  if k ≠ 1 ∧ v.1 = 0 then s else (s.1 + 1, s.2.1 + v.2, if s.1 = 0 ∨ (k = 4 ∧ v.2 < s.2.2) ∨ (k = 5 ∧ v.2 > s.2.2) then v.2 else s.2.2)
def gVal (k : Int) (s : Int × Int × Int) : Int × Int :=
  if k = 1 ∨ k = 2 then numV s.1 else if s.1 = 0 then (0, 0) else if k = 3 then numV s.2.1 else numV s.2.2
def encA (k : Int) (s : Int × Int × Int) : List Value := [vi k, vi s.1, vi s.2.1, vi s.2.2]

theorem value_Number_ok {n : Int} {h : Hp} {R : Value → Hp → Prop} (hK : R (vag (encV (numV n))) h) : CallOK Try.prog 16 [vi n] h R := by
  refine ok_value_Number ?_
  unfold VC_value_Number
  refine ⟨fun e => ?_, fun e => ?_⟩
  · simp [Bool.cond_eq_ite] at e
    have : numV n = (0, 0) := by unfold numV; rw [if_pos (by omega)]
    rw [this] at hK
    exact hK
  · simp [Bool.cond_eq_ite] at e
    have : numV n = (1, n) := by unfold numV; rw [if_neg (by omega)]
    rw [this] at hK
    exact hK
theorem value_Null_ok {h : Hp} {R : Value → Hp → Prop} (hK : R (vag (encV (0, 0))) h) : CallOK Try.prog 19 [] h R := ok_value_Null hK
theorem gather_New_ok {k : Int} {h : Hp} {R : Value → Hp → Prop} (hK : R (vag (encA k (0, 0, 0))) h) : CallOK Try.prog 11 [vi k] h R := ok_gather_New hK
/-- The same, the sums taken to 64 bits. -/
def gStepW (k : Int) (s : Int × Int × Int) (v : Int × Int) : Int × Int × Int :=
  if k ≠ 1 ∧ v.1 = 0 then s else (IntKind.i64.wrap (s.1 + 1), IntKind.i64.wrap (s.2.1 + v.2), if s.1 = 0 ∨ (k = 4 ∧ v.2 < s.2.2) ∨ (k = 5 ∧ v.2 > s.2.2) then v.2 else s.2.2)
theorem gStepW_eq {k : Int} {s : Int × Int × Int} {v : Int × Int} (h1 : InR (s.1 + 1)) (h2 : InR (s.2.1 + v.2)) : gStepW k s v = gStep k s v := by
  unfold gStepW gStep
  rw [← (isW h1 : _ = _), ← (isW h2 : _ = _)]
theorem gather_AddW_ok {k : Int} {s : Int × Int × Int} {v : Int × Int} {h : Hp} {R : Value → Hp → Prop} (hK : R (vag (encA k (gStepW k s v))) h) :
    CallOK Try.prog 15 [vag (encA k s), vag (encV v)] h R := by
  obtain ⟨n, sum, best⟩ := s
  obtain ⟨vk, vn⟩ := v
  refine ok_gather_Acc_Add ?_
  unfold VC_gather_Acc_Add
  simp only [gStepW] at hK
  refine ⟨fun e => ?_, fun e => ?_⟩
  · simp [Bool.cond_eq_ite] at e
    rw [if_pos e] at hK
    exact hK
  · have e' : ¬ (k ≠ 1 ∧ vk = 0) := by simpa [Bool.cond_eq_ite] using e
    rw [if_neg e'] at hK
    refine ⟨fun e => ?_, fun e => ?_⟩
    · have e2 : n = 0 ∨ (k = 4 ∧ vn < best) ∨ (k = 5 ∧ vn > best) := by simp [Bool.cond_eq_ite] at e; omega
      rw [if_pos e2] at hK
      exact ⟨_, rfl, _, rfl, hK⟩
    · have e2 : ¬ (n = 0 ∨ (k = 4 ∧ vn < best) ∨ (k = 5 ∧ vn > best)) := by simp [Bool.cond_eq_ite] at e; omega
      rw [if_neg e2] at hK
      exact ⟨_, rfl, _, rfl, hK⟩
theorem gather_Add_ok {k : Int} {s : Int × Int × Int} {v : Int × Int} {h : Hp} {R : Value → Hp → Prop} (h1 : InR (s.1 + 1)) (h2 : InR (s.2.1 + v.2)) (hK : R (vag (encA k (gStep k s v))) h) :
    CallOK Try.prog 15 [vag (encA k s), vag (encV v)] h R := gather_AddW_ok (by rw [gStepW_eq h1 h2]; exact hK)
theorem gather_Value_ok {k : Int} {s : Int × Int × Int} {h : Hp} {R : Value → Hp → Prop} (hK : R (vag (encV (gVal k s))) h) : CallOK Try.prog 13 [vag (encA k s)] h R := by
  obtain ⟨n, sum, best⟩ := s
  refine ok_gather_Acc_Value ?_
  unfold VC_gather_Acc_Value
  simp only [gVal] at hK
  refine ⟨fun e => ?_, fun e => ⟨fun e2 => ?_, fun e2 => ⟨fun e3 => ?_, fun e3 => ?_⟩⟩⟩
  · have e : k = 1 ∨ k = 2 := by simp [Bool.cond_eq_ite] at e; omega
    rw [if_pos e] at hK
    exact value_Number_ok ⟨_, _, rfl, hK⟩
  all_goals have e : ¬ (k = 1 ∨ k = 2) := by simp [Bool.cond_eq_ite] at e; omega
  all_goals rw [if_neg e] at hK
  · have e2 : n = 0 := by simpa using e2
    rw [if_pos e2] at hK
    exact value_Null_ok ⟨_, _, rfl, hK⟩
  all_goals have e2 : ¬ n = 0 := by simpa using e2
  all_goals rw [if_neg e2] at hK
  · have e3 : k = 3 := by simpa using e3
    rw [if_pos e3] at hK
    exact value_Number_ok ⟨_, _, rfl, hK⟩
  · have e3 : ¬ k = 3 := by simpa using e3
    rw [if_neg e3] at hK
    exact value_Number_ok ⟨_, _, rfl, hK⟩

theorem eqFl_V (a b c d : Int) : eqFl Try.prog 8 33 [vi a, vi b] [vi c, vi d] = some (decide (a = c) && (decide (b = d) && true)) := by kernel_rfl
theorem dec_V (a b : Int × Int) : (decide (a.1 = b.1) && (decide (a.2 = b.2) && true)) = decide (a = b) := by
  obtain ⟨a1, a2⟩ := a
  obtain ⟨b1, b2⟩ := b
  rw [Bool.eq_iff_iff]
  simp [Prod.ext_iff]
/-- '==' and '!=' of two values. -/
theorem rd_eqV {h : Hp} {x y : Operand} {a b : Int × Int} : Rd Try.prog (eqGuard .eql 33 x y (vag (encV a)) (vag (encV b)) >>= fun _ => binOp .eql 33 (vag (encV a)) (vag (encV b))) h (vb (decide (a = b))) := by
  rw [← dec_V]
  exact rd_eql (eqFl_V _ _ _ _) (by kernel_rfl) (by kernel_rfl)
theorem rd_neqV {h : Hp} {x y : Operand} {a b : Int × Int} : Rd Try.prog (eqGuard .neq 33 x y (vag (encV a)) (vag (encV b)) >>= fun _ => binOp .neq 33 (vag (encV a)) (vag (encV b))) h (vb (!decide (a = b))) := by
  rw [← dec_V]
  exact rd_neq (eqFl_V _ _ _ _) (by kernel_rfl) (by kernel_rfl)

def smallV (v : Int × Int) : Prop := -1000000000 ≤ v.2 ∧ v.2 ≤ 1000000000
theorem gfold_bound {k : Int} : ∀ (l : List (Int × Int)) (s : Int × Int × Int), (∀ v ∈ l, smallV v) → 0 ≤ s.1 →
    s.1 ≤ (l.foldl (gStep k) s).1 ∧ (l.foldl (gStep k) s).1 ≤ s.1 + l.length ∧ s.2.1 - l.length * 1000000000 ≤ (l.foldl (gStep k) s).2.1 ∧ (l.foldl (gStep k) s).2.1 ≤ s.2.1 + l.length * 1000000000
  | [], s, _, h0 => by simp
  | v :: l, s, hv, h0 => by
    have h1 := hv v (by simp)
    unfold smallV at h1
    have h2 : s.1 ≤ (gStep k s v).1 ∧ (gStep k s v).1 ≤ s.1 + 1 ∧ s.2.1 - 1000000000 ≤ (gStep k s v).2.1 ∧ (gStep k s v).2.1 ≤ s.2.1 + 1000000000 := by
      unfold gStep
      split <;> simp <;> omega
    have h3 := gfold_bound (k := k) l (gStep k s v) (fun u hu => hv u (by simp [hu])) (by omega)
    rw [List.foldl_cons, List.length_cons]
    push_cast
    omega
def goodV (v : Int × Int) : Prop := (v.1 = 0 ∧ v.2 = 0) ∨ (v.1 = 1 ∧ -1000000000 ≤ v.2 ∧ v.2 ≤ 1000000000) ∨ (v.1 = 2 ∧ (v.2 = 0 ∨ v.2 = 1))
instance (v : Int × Int) : Decidable (goodV v) := by unfold goodV; infer_instance
theorem goodV.small {v : Int × Int} (h : goodV v) : smallV v := by
  unfold goodV at h
  unfold smallV
  omega
end Go.Proofs.Ytjdheefginfjgaa
