/-
  The plain law of folding, part 3: not of not, less of less, beside a constant. No program in sight. Conditions: none.
-/
import Derived.Test.YtgonnpleihbklaaLFold2
namespace Go.Proofs.Ytgonnpleihbklaa
open Go Go.Vc
set_option linter.unusedVariables false

theorem kind3 {v : Int × Int} (h : goodV v) : v.1 = 0 ∨ v.1 = 1 ∨ v.1 = 2 := by
  unfold goodV at h
  omega
theorem not_not {v : Int × Int} (h : goodV v) (h1 : v.1 ≠ 1) : notV (notV v) = v := by
  obtain ⟨a, b⟩ := v
  have : (a = 0 ∧ b = 0) ∨ (a = 2 ∧ b = 0) ∨ (a = 2 ∧ b = 1) := by
    unfold goodV at h
    simp only at h h1
    omega
  rcases this with ⟨rfl, rfl⟩ | ⟨rfl, rfl⟩ | ⟨rfl, rfl⟩ <;> decide
theorem num_in {n : Int} (h : -1000000000 ≤ n ∧ n ≤ 1000000000) : numV (w64 n) = (1, n) := by
  rw [w64_in (by unfold InR; omega)]
  unfold numV
  rw [if_neg (by omega)]
theorem neg_neg {v : Int × Int} (h : goodV v) (h1 : v.1 ≠ 2) : negV (negV v) = v := by
  obtain ⟨a, b⟩ := v
  have : (a = 0 ∧ b = 0) ∨ (a = 1 ∧ -1000000000 ≤ b ∧ b ≤ 1000000000) := by
    unfold goodV at h
    simp only at h h1
    omega
  rcases this with ⟨rfl, rfl⟩ | ⟨rfl, hb⟩
  · decide
  · have e1 : negV (1, b) = (1, -b) := by
      unfold negV
      rw [if_pos rfl]
      exact num_in (by simp only; omega)
    rw [e1]
    unfold negV
    rw [if_pos rfl]
    have := num_in (n := - -b) (by omega)
    simp only
    rw [this]
    simp
theorem tri3 {v : Int × Int} (h : goodV v) (h1 : v.1 ≠ 1) : v = (0, 0) ∨ v = (2, 0) ∨ v = (2, 1) := by
  obtain ⟨a, b⟩ := v
  unfold goodV at h
  simp only [Prod.mk.injEq] at *
  omega
theorem and_yes {v : Int × Int} (h : goodV v) (h1 : v.1 ≠ 1) : doV 9 v (2, 1) = v ∧ doV 9 (2, 1) v = v := by
  rcases tri3 h h1 with rfl | rfl | rfl <;> decide
theorem or_no {v : Int × Int} (h : goodV v) (h1 : v.1 ≠ 1) : doV 10 v (2, 0) = v ∧ doV 10 (2, 0) v = v := by
  rcases tri3 h h1 with rfl | rfl | rfl <;> decide
theorem and_no (v : Int × Int) : doV 9 v (2, 0) = (2, 0) ∧ doV 9 (2, 0) v = (2, 0) := by
  unfold doV andV
  simp
theorem or_yes10 (a b : Int × Int) : doV 10 a b = notV (andV (notV a) (notV b)) := by
  unfold doV
  rw [if_neg (by decide), if_pos rfl]
theorem or_yes (v : Int × Int) : doV 10 v (2, 1) = (2, 1) ∧ doV 10 (2, 1) v = (2, 1) := by
  rw [or_yes10, or_yes10]
  have e : notV (2, 1) = (2, 0) := by decide
  rw [e]
  unfold andV
  constructor
  · rw [if_pos (.inr rfl)]; decide
  · rw [if_pos (.inl rfl)]; decide
theorem doV_num {op : Int} (h9 : op ≠ 9) (h10 : op ≠ 10) {a b : Int × Int} (h : a.1 = 0 ∨ b.1 = 0) : doV op a b = (0, 0) := by
  unfold doV
  rw [if_neg h9, if_neg h10, if_neg (by omega)]
theorem num_cases {v : Int × Int} (h : goodV v) (h1 : v.1 ≠ 2) : v = (0, 0) ∨ ∃ n, v = (1, n) ∧ -1000000000 ≤ n ∧ n ≤ 1000000000 := by
  obtain ⟨a, b⟩ := v
  unfold goodV at h
  simp only at h h1
  rcases h with ⟨rfl, rfl⟩ | ⟨rfl, hb⟩ | ⟨h2, _⟩
  · exact .inl rfl
  · exact .inr ⟨b, rfl, hb⟩
  · exact absurd h2 h1
theorem add_0 {v : Int × Int} (h : goodV v) (h1 : v.1 ≠ 2) : doV 6 v (1, 0) = v ∧ doV 6 (1, 0) v = v := by
  rcases num_cases h h1 with rfl | ⟨n, rfl, hn⟩
  · decide
  · unfold doV
    simp only [show ¬ (6 : Int) = 9 by decide, show ¬ (6 : Int) = 10 by decide, if_false, and_self, if_true, Int.add_zero, Int.zero_add]
    exact num_in hn
theorem mul_1 {v : Int × Int} (h : goodV v) (h1 : v.1 ≠ 2) : doV 8 v (1, 1) = v ∧ doV 8 (1, 1) v = v := by
  rcases num_cases h h1 with rfl | ⟨n, rfl, hn⟩
  · decide
  · unfold doV
    simp only [show ¬ (8 : Int) = 9 by decide, show ¬ (8 : Int) = 10 by decide, show ¬ (8 : Int) = 6 by decide, show ¬ (8 : Int) = 7 by decide, if_false, and_self, if_true, Int.mul_one, Int.one_mul]
    exact num_in hn
theorem sub_0 {v : Int × Int} (h : goodV v) (h1 : v.1 ≠ 2) : doV 7 v (1, 0) = v := by
  rcases num_cases h h1 with rfl | ⟨n, rfl, hn⟩
  · decide
  · unfold doV
    simp only [show ¬ (7 : Int) = 9 by decide, show ¬ (7 : Int) = 10 by decide, show ¬ (7 : Int) = 6 by decide, if_false, and_self, if_true, Int.sub_zero]
    exact num_in hn
/-- Below a root with one: the list without its last. -/
theorem below {x : List Nd} (O : OkE x) {n : Nd} (hx : x[x.length - 1]? = some n) (ha : arI n.op = 1) :
    2 ≤ x.length ∧ n.x = (x.length : Int) - 2 ∧ Blk x 0 (x.length - 1) ∧ OkE (cutL x 0 (x.length - 1)) ∧ (∀ e, valE e x = opV n.op (valE e (cutL x 0 (x.length - 1))) (valE e (cutL x 0 (x.length - 1)))) ∧ tAt x (x.length - 1) = tyG n.op (tAt x (x.length - 2)) (tAt x (x.length - 2)) ∧ tAt (cutL x 0 (x.length - 1)) ((cutL x 0 (x.length - 1)).length - 1) = tAt x (x.length - 2) := by
  have hp := O.pos
  have W := O.wf _ _ hx
  have ar := ar0 W.a
  have key : ∀ {e : Nat}, Blk x 0 e → e = x.length → Blk x 0 (x.length - 1) ∧ n.x = (x.length : Int) - 2 := by
    intro e B he
    cases B with
    | @leaf i m h h0 =>
      rw [show x.length - 1 = 0 by omega, h] at hx
      cases hx
      omega
    | @one f i m B h h0 hxx =>
      obtain rfl : i = x.length - 1 := by omega
      rw [h] at hx
      cases hx
      exact ⟨B, by omega⟩
    | @two f g i m B B' h h0 hxx hyy =>
      obtain rfl : i = x.length - 1 := by omega
      rw [h] at hx
      cases hx
      omega
  obtain ⟨B, hnx⟩ := key O.b rfl
  have hB := B.lt
  have ec : cutL x 0 (x.length - 1) = x.take (x.length - 1) := by
    unfold cutL seg
    rw [List.drop_zero, Nat.sub_zero]
    exact map_sh0 _
  have OC := chkGo_okE (cutL_chk O.n B)
  have lc : (cutL x 0 (x.length - 1)).length - 1 = x.length - 2 := by rw [cutL_length B]; omega
  have pre : ∀ {β : Type} (d : β) (F : Nd → β → β → β), fAt d F (cutL x 0 (x.length - 1)) (x.length - 2) = fAt d F x (x.length - 2) := by
    intro β d F
    rw [ec]
    exact fAt_take x (by omega) (by omega)
  refine ⟨by omega, hnx, B, OC, fun e => ?_, ?_, ?_⟩
  · have h1 : vAt e x (x.length - 1) = _ := fAt_wf (own_stepF e) hx W
    unfold valE
    rw [h1, lc, stepF_op e (by omega) (by omega), vAt, pre, show n.x.toNat = x.length - 2 by omega]
    have : ∀ a b b', opV n.op a b = opV n.op a b' := by
      intro a b b'
      unfold opV
      split
      · rfl
      · split
        · rfl
        · split
          · rfl
          · omega
    exact this _ _ _
  · have h1 : tAt x (x.length - 1) = _ := fAt_wf own_tyF hx W
    rw [h1, tyF_op (by omega) (by omega), if_neg (by omega), show n.x.toNat = x.length - 2 by omega]
  · rw [lc]
    exact pre _ _
/-- Not of not, less of less: what is below both. -/
theorem Rep.twice {P : EvL → Int × Int} {T : Option Int} {k : Nat} {x : List Nd} {n : Nd} (A : Rep P T k x) (hx : x[x.length - 1]? = some n) (h : (n.op = 4 ∧ (typE (cutL x 0 (x.length - 1))).1 ≠ 1) ∨ (n.op = 3 ∧ (typE (cutL x 0 (x.length - 1))).1 ≠ 2)) (h0 : (typE (cutL x 0 (x.length - 1))).2 = 0) :
    Rep (fun e => opV n.op (P e) (P e)) (tyG n.op T T) (k + 1) (cutL x 0 (x.length - 1)) := by
  have ha : arI n.op = 1 := by rcases h with ⟨h, _⟩ | ⟨h, _⟩ <;> rw [h] <;> decide
  obtain ⟨hl, hnx, B, OC, hv, ht, hc⟩ := below A.ok hx ha
  have hp := OC.pos
  have hty : ∃ t, tAt (cutL x 0 (x.length - 1)) ((cutL x 0 (x.length - 1)).length - 1) = some t ∧ (typE (cutL x 0 (x.length - 1))).1 = t := by
    unfold typE at h0 ⊢
    cases hq : tAt (cutL x 0 (x.length - 1)) ((cutL x 0 (x.length - 1)).length - 1) with
    | none => rw [hq] at h0; cases h0
    | some t => exact ⟨t, rfl, rfl⟩
  obtain ⟨t, e1, e2⟩ := hty
  rw [e2] at h
  have tr := ty_range OC (by omega) e1
  refine ⟨OC, by rw [cutL_length B]; have := A.len; omega, fun e E => ?_, fun u hu => ⟨t, e1, ?_⟩⟩
  · have g := val_good OC E (i := (cutL x 0 (x.length - 1)).length - 1) (by omega)
    have g2 := g.2 t e1
    have n1 : t ≠ 1 → (vAt e (cutL x 0 (x.length - 1)) ((cutL x 0 (x.length - 1)).length - 1)).1 ≠ 1 := fun h q => by rcases g2 with g2 | g2 <;> rw [g2] at q <;> omega
    have n2 : t ≠ 2 → (vAt e (cutL x 0 (x.length - 1)) ((cutL x 0 (x.length - 1)).length - 1)).1 ≠ 2 := fun h q => by rcases g2 with g2 | g2 <;> rw [g2] at q <;> omega
    rw [← A.val e E, hv e]
    show _ = opV n.op _ _
    rcases h with ⟨h, h1⟩ | ⟨h, h1⟩
    · rw [h]
      exact (not_not g.1 (n1 h1)).symm
    · rw [h]
      exact (neg_neg g.1 (n2 h1)).symm
  · have := tyG_out hu
    unfold outT wantT at this
    rcases h with ⟨h, h1⟩ | ⟨h, h1⟩
    · rw [h] at this; simp at this; omega
    · rw [h] at this; simp at this; omega
end Go.Proofs.Ytgonnpleihbklaa
