/-
  The plain law of folding: what says the same with less. No program in sight. Conditions: none.
-/
import Derived.Test.YtgonnpleihbklaaLNod2
namespace Go.Proofs.Ytgonnpleihbklaa
open Go Go.Vc
set_option linter.unusedVariables false

/-- An event that may be: what its fields are. -/
structure EvOK (e : EvL) : Prop where
  t : 0 ≤ e.1 ∧ e.1 ≤ 9999
  k : goodV e.2.1 ∧ e.2.1.1 ≠ 2
  a : goodV e.2.2.1 ∧ e.2.2.1.1 ≠ 2
  b : goodV e.2.2.2 ∧ e.2.2.2.1 ≠ 2
theorem chkV_ok {v : Int × Int} (h : chkV v = 0) : goodV v ∧ v.1 ≠ 2 := by
  unfold chkV at h
  split at h
  · cases h
  · rename_i h1
    constructor
    · exact Classical.byContradiction fun q => h1 (.inl q)
    · exact fun q => h1 (.inr q)
theorem chkE_ok {e : EvL} (h : chkE e = 0) : EvOK e := by
  unfold chkE at h
  split at h
  · cases h
  · rename_i h0
    simp only [chkL] at h
    split at h
    · rename_i h1
      split at h
      · rename_i h2
        split at h
        · rename_i h3
          exact ⟨by omega, chkV_ok h1, chkV_ok h2, chkV_ok h3⟩
        · rename_i h3; exact absurd h h3
      · rename_i h2; exact absurd h h2
    · rename_i h1; exact absurd h h1
abbrev ev0 : EvL := (0, (0, 0), (0, 0), (0, 0))
theorem ev0_ok : EvOK ev0 := chkE_ok (by decide +kernel)
theorem good_num (n : Int) : goodV (numV n) ∧ (numV n).1 ≠ 2 := by
  unfold numV goodV
  split
  · simp
  · simp; omega
theorem good_truth (b : Bool) : goodV (truthV b) := by
  unfold truthV goodV
  cases b <;> simp
theorem good_null : goodV (0, 0) := by unfold goodV; simp
theorem good_and (a b : Int × Int) : goodV (andV a b) ∧ (andV a b).1 ≠ 1 := by
  unfold andV goodV
  split
  · simp
  · split <;> simp
theorem good_not (a : Int × Int) : goodV (notV a) ∧ (notV a).1 ≠ 1 := by
  unfold notV
  split
  · exact ⟨good_truth _, by unfold truthV; simp⟩
  · exact ⟨good_null, by simp⟩
theorem good_neg (a : Int × Int) : goodV (negV a) ∧ (negV a).1 ≠ 2 := by
  unfold negV
  split
  · exact good_num _
  · exact ⟨good_null, by simp⟩
/-- What a node with its own does. -/
def opV (op : Int) (a b : Int × Int) : Int × Int := if op = 3 then negV a else if op = 4 then notV a else if op = 5 then truthV (decide (a.1 = 0)) else doV op a b
/-- The kind that it gives, if it has one. -/
def outT (op : Int) : Int := if op = 5 ∨ op = 11 ∨ op = 12 then 2 else wantT op
theorem tyG_out {op : Int} {a b : Option Int} {t : Int} (h : tyG op a b = some t) : t = outT op := by
  unfold outT
  cases a with
  | none => cases b <;> cases h
  | some a =>
    cases b with
    | none => cases h
    | some b =>
      unfold tyG at h
      simp only at h
      split at h
      · rename_i h1; rw [if_pos (.inl h1)]; simpa using h.symm
      · split at h
        · cases h
        · split at h
          · rename_i h1 _ h2; rw [if_pos (.inr h2)]; simpa using h.symm
          · rename_i h1 _ h2; rw [if_neg (by omega)]; simpa using h.symm
theorem opV_good {op : Int} (ho : 3 ≤ op ∧ op ≤ 12) (a b : Int × Int) : goodV (opV op a b) ∧ ((opV op a b).1 = 0 ∨ (opV op a b).1 = outT op) := by
  have key : ∀ v : Int × Int, goodV v → v.1 = 0 ∨ v.1 = 1 ∨ v.1 = 2 := by
    intro v h
    unfold goodV at h
    omega
  unfold opV outT wantT
  split
  · rename_i h; have := good_neg a; have := key _ this.1; exact ⟨(good_neg a).1, by subst h; simp; omega⟩
  · split
    · rename_i _ h; have := good_not a; have := key _ this.1; exact ⟨(good_not a).1, by subst h; simp; omega⟩
    · split
      · rename_i _ _ h; exact ⟨good_truth _, by subst h; simp [truthV]⟩
      · unfold doV
        split
        · rename_i h; have := good_and a b; have := key _ this.1; exact ⟨(good_and a b).1, by subst h; simp; omega⟩
        · split
          · rename_i h; have := good_not (andV (notV a) (notV b)); have := key _ this.1; exact ⟨(good_not _).1, by subst h; simp; omega⟩
          · split
            · split
              · rename_i h; have := good_num (w64 (a.2 + b.2)); have := key _ this.1; exact ⟨(good_num _).1, by subst h; simp; omega⟩
              · split
                · rename_i h; have := good_num (w64 (a.2 - b.2)); have := key _ this.1; exact ⟨(good_num _).1, by subst h; simp; omega⟩
                · split
                  · rename_i h; have := good_num (w64 (a.2 * b.2)); have := key _ this.1; exact ⟨(good_num _).1, by subst h; simp; omega⟩
                  · split
                    · rename_i h; exact ⟨good_truth _, by subst h; simp [truthV]⟩
                    · split
                      · rename_i h; exact ⟨good_truth _, by subst h; simp [truthV]⟩
                      · exact ⟨good_null, .inl rfl⟩
            · exact ⟨good_null, .inl rfl⟩
theorem stepF_op (e : EvL) {n : Nd} (h1 : ¬ n.op = 1) (h2 : ¬ n.op = 2) (a b : Int × Int) : stepF e n a b = opV n.op a b := by
  unfold stepF opV
  rw [if_neg h1, if_neg h2]
theorem field_good {e : EvL} (E : EvOK e) (n : Int) : goodV (fieldV e n) ∧ (fieldV e n).1 ≠ 2 := by
  unfold fieldV
  split
  · exact good_num _
  · split
    · exact E.k
    · split
      · exact E.a
      · exact E.b
theorem nodeF_v {n : Nd} (h : nodeF n = 0) : goodV n.v := by
  unfold nodeF at h
  split at h
  · cases h
  · split at h
    · cases h
    · split at h
      · cases h
      · split at h
        · cases h
        · rename_i hg; exact Classical.byContradiction fun q => hg q
/-- Values of nodes are values; and of the kind that the node has. -/
theorem val_good {l : List Nd} (O : OkE l) {e : EvL} (E : EvOK e) {i : Nat} (hi : i < l.length) : goodV (vAt e l i) ∧ ∀ t, tAt l i = some t → (vAt e l i).1 = 0 ∨ (vAt e l i).1 = t := by
  have hx : l[i]? = some l[i] := List.getElem?_eq_getElem hi
  have W := O.wf i _ hx
  have h0 := O.n _ (List.getElem_mem hi)
  have hv : vAt e l i = _ := fAt_wf (own_stepF e) hx W
  have ht : tAt l i = _ := fAt_wf own_tyF hx W
  rw [hv, ht]
  generalize l[i] = n at *
  have ar := ar0 W.a
  by_cases h1 : n.op = 1
  · have e1 : ∀ a b, stepF e n a b = n.v := fun a b => if_pos h1
    have e2 : ∀ a b, tyF n a b = some n.v.1 := fun a b => if_pos h1
    rw [e1, e2]
    exact ⟨nodeF_v h0, fun t ht => by cases ht; exact .inr rfl⟩
  · by_cases h2 : n.op = 2
    · have e1 : ∀ a b, stepF e n a b = fieldV e n.n := fun a b => by unfold stepF; rw [if_neg h1, if_pos h2]
      have e2 : ∀ a b, tyF n a b = some 1 := fun a b => by unfold tyF; rw [if_neg h1, if_pos h2]
      rw [e1, e2]
      have := field_good E n.n
      refine ⟨this.1, fun t ht => ?_⟩
      cases ht
      have h := this.1
      unfold goodV at h
      omega
    · rw [stepF_op e h1 h2, tyF_op h1 h2]
      have ho : 3 ≤ n.op ∧ n.op ≤ 12 := by rcases arI_range W.a with q | q | q <;> omega
      have := opV_good ho
      exact ⟨(this _ _).1, fun t ht => by rw [tyG_out ht]; exact (this _ _).2⟩
theorem ty_range {l : List Nd} (O : OkE l) {i : Nat} (hi : i < l.length) {t : Int} (h : tAt l i = some t) : t = 0 ∨ t = 1 ∨ t = 2 := by
  have hx : l[i]? = some l[i] := List.getElem?_eq_getElem hi
  have W := O.wf i _ hx
  have h0 := O.n _ (List.getElem_mem hi)
  have ht : tAt l i = _ := fAt_wf own_tyF hx W
  rw [ht] at h
  generalize l[i] = n at *
  by_cases h1 : n.op = 1
  · have e2 : ∀ a b, tyF n a b = some n.v.1 := fun a b => if_pos h1
    rw [e2] at h
    cases h
    have := nodeF_v h0
    unfold goodV at this
    omega
  · by_cases h2 : n.op = 2
    · have e2 : ∀ a b, tyF n a b = some 1 := fun a b => by unfold tyF; rw [if_neg h1, if_pos h2]
      rw [e2] at h
      cases h
      omega
    · rw [tyF_op h1 h2] at h
      rw [tyG_out h]
      unfold outT wantT
      split
      · omega
      · split <;> omega

/-- A list that stands for an expression: it is one, no longer, of its value at each event that may be, of its kind or of none. -/
structure Rep (P : EvL → Int × Int) (T : Option Int) (k : Nat) (z : List Nd) : Prop where
  ok : OkE z
  len : z.length ≤ k
  val : ∀ e, EvOK e → valE e z = P e
  ty : ∀ t, T = some t → ∃ t', tAt z (z.length - 1) = some t' ∧ (t' = 0 ∨ t' = t)
abbrev cst (v : Int × Int) : List Nd := [⟨1, 0, 0, 0, v⟩]
theorem cst_ok {v : Int × Int} (h : goodV v) : OkE (cst v) := by
  refine chkGo_okE ?_
  have hF : nodeF ⟨1, 0, 0, 0, v⟩ = 0 := by
    unfold nodeF
    rw [if_neg (show ¬ arI 1 < 0 by decide), if_neg (by simp), if_neg (by simp), if_neg (by simp [h])]
  rw [chkGo, if_neg (fun q => q hF)]
  rfl
theorem Rep.cst {P : EvL → Int × Int} {T : Option Int} {k : Nat} {v : Int × Int} (h : goodV v) (hk : 1 ≤ k) (hP : ∀ e, EvOK e → v = P e) (hT : ∀ t, T = some t → v.1 = 0 ∨ v.1 = t) : Rep P T k (cst v) :=
  ⟨cst_ok h, hk, fun e E => hP e E, fun t ht => ⟨v.1, rfl, hT t ht⟩⟩
theorem Rep.leaf {n : Nd} (h : nodeF n = 0) (ha : arI n.op = 0) : OkE [n] := by
  refine chkGo_okE ?_
  rw [chkGo, if_neg (fun q => q h)]
  unfold popN
  rw [if_pos ha]
  rfl
end Go.Proofs.Ytgonnpleihbklaa
