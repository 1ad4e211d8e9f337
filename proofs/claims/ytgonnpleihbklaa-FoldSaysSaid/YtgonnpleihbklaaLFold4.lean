/-
  The plain law of folding, part 4: what is left beside a constant. No program in sight. Conditions: none.
-/
import Derived.Test.YtgonnpleihbklaaLFold3
namespace Go.Proofs.Ytgonnpleihbklaa
open Go Go.Vc
set_option linter.unusedVariables false

/-- A list that stands for what a node gives. -/
structure RepO (P : EvL → Int × Int) (op : Int) (k : Nat) (z : List Nd) : Prop where
  ok : OkE z
  len : z.length ≤ k
  val : ∀ e, EvOK e → valE e z = P e
  ty : ∃ t', tAt z (z.length - 1) = some t' ∧ (t' = 0 ∨ t' = outT op)
theorem RepO.rep {P : EvL → Int × Int} {op : Int} {k j : Nat} {z : List Nd} (A : RepO P op k z) (hj : k ≤ j) (T U : Option Int) : Rep P (tyG op T U) j z :=
  ⟨A.ok, Nat.le_trans A.len hj, A.val, fun t ht => by rw [tyG_out ht]; exact A.ty⟩
theorem RepO.cst {P : EvL → Int × Int} {op : Int} {k : Nat} {v : Int × Int} (h : goodV v) (hk : 1 ≤ k) (hP : ∀ e, EvOK e → v = P e) (hT : v.1 = 0 ∨ v.1 = outT op) : RepO P op k (cst v) :=
  ⟨cst_ok h, hk, hP, v.1, rfl, hT⟩
/-- What stands beside a constant v, and says the same: on the right, and on the left. -/
def besV (right : Bool) (op : Int) (a v : Int × Int) : Int × Int := if right then doV op a v else doV op v a
theorem typE_some {x : List Nd} (h : (typE x).2 = 0) : tAt x (x.length - 1) = some (typE x).1 := by
  unfold typE at h ⊢
  cases hq : tAt x (x.length - 1) with
  | none => rw [hq] at h; cases h
  | some t => rfl
theorem bes_truths {x : List Nd} (O : OkE x) {op : Int} {v : Int × Int} {right : Bool} (h : (op = 9 ∧ v = (2, 1)) ∨ (op = 10 ∧ v = (2, 0))) (h0 : (typE x).2 = 0) (h1 : (typE x).1 ≠ 1) : RepO (fun e => besV right op (valE e x) v) op x.length x := by
  have hp := O.pos
  have e1 := typE_some h0
  have tr := ty_range O (by omega) e1
  refine ⟨O, Nat.le_refl _, fun e E => ?_, _, e1, ?_⟩
  · have g := val_good O E (i := x.length - 1) (by omega)
    have g2 := g.2 _ e1
    have n1 : (vAt e x (x.length - 1)).1 ≠ 1 := fun q => by rcases g2 with g2 | g2 <;> rw [g2] at q <;> omega
    unfold besV
    rcases h with ⟨rfl, rfl⟩ | ⟨rfl, rfl⟩
    · cases right
      · exact (and_yes g.1 n1).2.symm
      · exact (and_yes g.1 n1).1.symm
    · cases right
      · exact (or_no g.1 n1).2.symm
      · exact (or_no g.1 n1).1.symm
  · have : outT op = 2 := by rcases h with ⟨rfl, _⟩ | ⟨rfl, _⟩ <;> decide
    omega
theorem bes_const {x : List Nd} {op : Int} {v : Int × Int} {right : Bool} (h : (op = 9 ∧ v = (2, 0)) ∨ (op = 10 ∧ v = (2, 1))) : RepO (fun e => besV right op (valE e x) v) op 1 (cst v) := by
  refine RepO.cst (by rcases h with ⟨_, rfl⟩ | ⟨_, rfl⟩ <;> (unfold goodV; simp)) (Nat.le_refl 1) (fun e E => ?_) (by rcases h with ⟨rfl, rfl⟩ | ⟨rfl, rfl⟩ <;> decide)
  unfold besV
  rcases h with ⟨rfl, rfl⟩ | ⟨rfl, rfl⟩
  · cases right
    · exact (and_no (valE e x)).2.symm
    · exact (and_no (valE e x)).1.symm
  · cases right
    · exact (or_yes (valE e x)).2.symm
    · exact (or_yes (valE e x)).1.symm
theorem bes_numbers {x : List Nd} (O : OkE x) {op : Int} {v : Int × Int} {right : Bool} (h : (op = 6 ∧ v = (1, 0)) ∨ (op = 8 ∧ v = (1, 1)) ∨ (op = 7 ∧ right = true ∧ v = (1, 0))) (h0 : (typE x).2 = 0) (h1 : (typE x).1 ≠ 2) : RepO (fun e => besV right op (valE e x) v) op x.length x := by
  have hp := O.pos
  have e1 := typE_some h0
  have tr := ty_range O (by omega) e1
  refine ⟨O, Nat.le_refl _, fun e E => ?_, _, e1, ?_⟩
  · have g := val_good O E (i := x.length - 1) (by omega)
    have g2 := g.2 _ e1
    have n1 : (vAt e x (x.length - 1)).1 ≠ 2 := fun q => by rcases g2 with g2 | g2 <;> rw [g2] at q <;> omega
    unfold besV
    rcases h with ⟨rfl, rfl⟩ | ⟨rfl, rfl⟩ | ⟨rfl, rfl, rfl⟩
    · cases right
      · exact (add_0 g.1 n1).2.symm
      · exact (add_0 g.1 n1).1.symm
    · cases right
      · exact (mul_1 g.1 n1).2.symm
      · exact (mul_1 g.1 n1).1.symm
    · exact (sub_0 g.1 n1).symm
  · have : outT op = 1 := by rcases h with ⟨rfl, _⟩ | ⟨rfl, _⟩ | ⟨rfl, _⟩ <;> decide
    omega
theorem bes_null {x : List Nd} {op : Int} {v : Int × Int} (hv : goodV v) {right : Bool} (h9 : op ≠ 9) (h10 : op ≠ 10) (h0 : v.1 = 0) : RepO (fun e => besV right op (valE e x) v) op 1 (cst v) := by
  have ev : v = (0, 0) := by
    obtain ⟨a, b⟩ := v
    unfold goodV at hv
    simp only [Prod.mk.injEq] at *
    omega
  subst ev
  refine RepO.cst good_null (Nat.le_refl 1) (fun e E => ?_) (.inl rfl)
  unfold besV
  cases right
  · exact (doV_num h9 h10 (.inl rfl)).symm
  · exact (doV_num h9 h10 (.inr rfl)).symm
end Go.Proofs.Ytgonnpleihbklaa
