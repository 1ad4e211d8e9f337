/-
  The plain law of folding, part 5: the stack of what was folded, node by node. No program in sight. Conditions: none.
-/
import Derived.Test.YtgonnpleihbklaaLFold4
namespace Go.Proofs.Ytgonnpleihbklaa
open Go Go.Vc
set_option linter.unusedVariables false

theorem Blk.uniq {l : List Nd} {f e : Nat} (B : Blk l f e) : ∀ {f' : Nat}, Blk l f' e → f = f' := by
  induction B with
  | @leaf i n h h0 =>
    intro f' B'
    cases B' with
    | leaf h' h0' => rfl
    | one B1 h' h0' _ => rw [h] at h'; cases h'; omega
    | two B1 B2 h' h0' _ _ => rw [h] at h'; cases h'; omega
  | @one f i n B h h0 hx ih =>
    intro f' B'
    cases B' with
    | leaf h' h0' => rw [h] at h'; cases h'; omega
    | one B1 h' h0' _ => exact ih B1
    | two B1 B2 h' h0' _ _ => rw [h] at h'; cases h'; omega
  | @two f g i n B B' h h0 hx hy ih1 ih2 =>
    intro f' C
    cases C with
    | leaf h' h0' => rw [h] at h'; cases h'; omega
    | one B1 h' h0' _ => rw [h] at h'; cases h'; omega
    | @two _ g' _ n' B1 B2 h' h0' hx' hy' =>
      rw [h] at h'
      cases h'
      obtain rfl : g = g' := by omega
      exact ih1 B1
/-- What stands folded: the last one ahead. -/
inductive FStk (l : List Nd) : List (List Nd) → Nat → Prop where
  | nil : FStk l [] 0
  | push {s : List (List Nd)} {f e : Nat} {z : List Nd} : FStk l s f → Blk l f e → Rep (fun ev => vAt ev l (e - 1)) (tAt l (e - 1)) (e - f) z → FStk l (z :: s) e
theorem FStk.len {l : List Nd} {s : List (List Nd)} {e : Nat} (S : FStk l s e) : s.length ≤ e := by
  induction S with
  | nil => exact Nat.le_refl _
  | push S B R ih => have := B.lt; simp; omega
theorem FStk.all {l : List Nd} {s : List (List Nd)} {e : Nat} (S : FStk l s e) : e ≤ l.length := by
  cases S with
  | nil => exact Nat.zero_le _
  | push S B R => exact B.lt.2
/-- The next node, by how many it takes: what then stands. -/
theorem FStk.step {l : List Nd} (O : OkE l) {s : List (List Nd)} {i : Nat} {n : Nd} (S : FStk l s i) (hn : l[i]? = some n) :
    (arI n.op = 0 ∧ FStk l ([n] :: s) (i + 1)) ∨
    (arI n.op = 1 ∧ ∃ z s' P T k, s = z :: s' ∧ k ≤ i ∧ Rep P T k z ∧ ∀ y, Rep (fun e => opV n.op (P e) (P e)) (tyG n.op T T) (k + 1) y → FStk l (y :: s') (i + 1)) ∨
    (arI n.op = 2 ∧ ∃ z z' s' P T k Q U j, s = z' :: z :: s' ∧ k + j ≤ i ∧ Rep P T k z ∧ Rep Q U j z' ∧ ∀ y, Rep (fun e => opV n.op (P e) (Q e)) (tyG n.op T U) (k + j + 1) y → FStk l (y :: s') (i + 1)) := by
  have hlt := (List.getElem?_eq_some_iff.1 hn).1
  have W := O.wf _ _ hn
  have ar := ar0 W.a
  have h0 := O.n n (List.mem_of_getElem? hn)
  obtain ⟨g, _, B⟩ := O.b.sub i (Nat.zero_le _) hlt
  have hv : ∀ e, vAt e l i = _ := fun e => fAt_wf (own_stepF e) hn W
  have ht : tAt l i = _ := fAt_wf own_tyF hn W
  have inv : ∀ {s : List (List Nd)} {j f : Nat}, FStk l s j → Blk l f j → ∃ z s', s = z :: s' ∧ FStk l s' f ∧ Rep (fun ev => vAt ev l (j - 1)) (tAt l (j - 1)) (j - f) z := by
    intro s j f S B
    cases S with
    | nil => have := B.lt; omega
    | push S B' R =>
      obtain rfl := B'.uniq B
      exact ⟨_, _, rfl, S, R⟩
  have hB := B
  cases B with
  | leaf h ha =>
    rw [hn] at h
    cases h
    refine .inl ⟨ha, .push S hB ?_⟩
    have O1 := Rep.leaf h0 ha
    have W1 := O1.wf 0 n rfl
    refine ⟨O1, by simp, fun e E => ?_, fun t e => ⟨t, ?_, .inr rfl⟩⟩
    · show valE e [n] = vAt e l (i + 1 - 1)
      rw [Nat.add_sub_cancel, hv e]
      have : valE e [n] = _ := fAt_wf (own_stepF e) (l := [n]) (i := 0) rfl W1
      rw [this]
      exact own_stepF e n _ _ _ _ W.a (fun h => by omega) (fun h => by omega)
    · rw [Nat.add_sub_cancel, ht] at e
      rw [← e]
      have : tAt [n] 0 = _ := fAt_wf own_tyF (l := [n]) (i := 0) rfl W1
      show tAt [n] 0 = _
      rw [this]
      exact own_tyF n _ _ _ _ W.a (fun h => by omega) (fun h => by omega)
  | @one f _ n' B1 h ha hx =>
    rw [hn] at h
    cases h
    have hlt1 := B1.lt
    obtain ⟨z, s', rfl, S', R⟩ := inv S B1
    refine .inr (.inl ⟨ha, z, s', _, _, _, rfl, Nat.sub_le _ _, R, fun y Y => .push S' hB ?_⟩)
    rw [show i + 1 - g = i - g + 1 by omega, Nat.add_sub_cancel]
    have ex : n.x.toNat = i - 1 := by omega
    have : tAt l i = tyG n.op (tAt l (i - 1)) (tAt l (i - 1)) := by
      rw [ht, tyF_op (by omega) (by omega), if_neg (by omega), ex]
    rw [this]
    refine ⟨Y.ok, Y.len, fun e E => ?_, Y.ty⟩
    rw [Y.val e E, hv e, stepF_op e (by omega) (by omega), ex]
    have : ∀ a b b', opV n.op a b = opV n.op a b' := by
      intro a b b'
      unfold opV
      split
      · rfl
      · split
        · rfl
        · split
          · rfl
          · omega
    exact this _ _ _
  | @two f g' _ n' B1 B2 h ha hx hy =>
    rw [hn] at h
    cases h
    have hlt1 := B1.lt
    have hlt2 := B2.lt
    obtain ⟨z', s1, rfl, S1, R'⟩ := inv S B2
    obtain ⟨z, s', rfl, S', R⟩ := inv S1 B1
    refine .inr (.inr ⟨ha, z, z', s', _, _, _, _, _, _, rfl, ?_, R, R', fun y Y => .push S' hB ?_⟩)
    · omega
    rw [show i + 1 - g = g' - g + (i - g') + 1 by omega, Nat.add_sub_cancel]
    have ex : n.x.toNat = g' - 1 := by omega
    have ey : n.y.toNat = i - 1 := by omega
    have : tAt l i = tyG n.op (tAt l (g' - 1)) (tAt l (i - 1)) := by
      rw [ht, tyF_op (by omega) (by omega), if_pos ha, ex, ey]
    rw [this]
    refine ⟨Y.ok, Y.len, fun e E => ?_, Y.ty⟩
    rw [Y.val e E, hv e, stepF_op e (by omega) (by omega), ex, ey]
/-- At the end: one stands, for all. -/
theorem FStk.done {l : List Nd} (O : OkE l) {s : List (List Nd)} (S : FStk l s l.length) : ∃ z, s = [z] ∧ Rep (fun ev => valE ev l) (tAt l (l.length - 1)) l.length z := by
  have hB := O.b
  have hp := O.pos
  have key : ∀ {e : Nat}, FStk l s e → e = l.length → ∃ z, s = [z] ∧ Rep (fun ev => vAt ev l (e - 1)) (tAt l (e - 1)) e z := by
    intro e S he
    cases S with
    | nil => omega
    | @push s f e z S' B R =>
      subst he
      obtain rfl := B.uniq hB
      rw [Nat.sub_zero] at R
      have k2 : ∀ {f : Nat}, FStk l s f → f = 0 → s = [] := by
        intro f S2 hf
        cases S2 with
        | nil => rfl
        | push _ B' _ => have := B'.lt; omega
      rw [k2 S' rfl]
      exact ⟨z, rfl, R⟩
  exact key S rfl
theorem RepO.mono {P : EvL → Int × Int} {op : Int} {k j : Nat} {z : List Nd} (A : RepO P op k z) (h : k ≤ j) : RepO P op j z := ⟨A.ok, Nat.le_trans A.len h, A.val, A.ty⟩
/-- A list that is a constant. -/
theorem cst_of {n : Nd} (h : nodeF n = 0) (h1 : n.op = 1) : [n] = cst n.v := by
  obtain ⟨op, x, y, k, v⟩ := n
  simp only at h1
  subst h1
  unfold nodeF at h
  split at h
  · cases h
  · split at h
    · cases h
    · rename_i h2
      have e : arI 1 = 0 := by decide
      simp only [e] at h2
      have hx : x = 0 := by omega
      have hy : y = 0 := by omega
      have hk : k = 0 := by omega
      subst hx hy hk
      rfl
theorem valE_cst (e : EvL) (v : Int × Int) : valE e (cst v) = v := rfl
theorem Rep.cst_val {P : EvL → Int × Int} {T : Option Int} {k : Nat} {v : Int × Int} (A : Rep P T k (Go.Proofs.Ytgonnpleihbklaa.cst v)) : ∀ e, EvOK e → P e = v := fun e E => (A.val e E).symm
theorem opV_do {op : Int} (h : 6 ≤ op) (a b : Int × Int) : opV op a b = doV op a b := by
  unfold opV
  rw [if_neg (by omega), if_neg (by omega), if_neg (by omega)]
end Go.Proofs.Ytgonnpleihbklaa
