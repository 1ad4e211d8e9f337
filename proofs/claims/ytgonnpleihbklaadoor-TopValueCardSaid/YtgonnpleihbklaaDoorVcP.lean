/-
  The framework, part P: what some operations that only read give (greatest, bits, '=='); stores into slices of the call's own; a heap without one block. No program in sight. Conditions: none.
-/
import Derived.Test.YtgonnpleihbklaaDoorVcN
namespace Go.Vc
open Go
set_option linter.unusedVariables false
set_option linter.unusedSimpArgs false

section
variable {P : Program} {h : Hp}
theorem rd_max {ts : Array TypeId} {t : TypeId} {a b : Int} : Rd P (Builtin.max_ ts t #[vi a, vi b]) h (vi (max a b)) := by
  intro w _
  simp [Builtin.max_, Builtin.max2]
  by_cases h : a < b <;> simp [h] <;> omega
theorem rd_eqB {t : TypeId} {x y : Operand} {a b : Bool} (ht : P.underlying t = some .bool) : Rd P (eqGuard .eql t x y (vb a) (vb b) >>= fun _ => binOp .eql t (vb a) (vb b)) h (vb (a == b)) := by
  intro w _
  rw [eqGuard_at_bool]
  simp only [binOp, Sem.run_bind, Sem.run_pure, Result.andThen_ok]
  show ((Op.equalIn 10000 t (vb a) (vb b)).run P w).andThen _ = _
  rw [run_equalIn_bool' w 9999 t _ _ ht]
  rfl
theorem rd_neB {t : TypeId} {x y : Operand} {a b : Bool} (ht : P.underlying t = some .bool) : Rd P (eqGuard .neq t x y (vb a) (vb b) >>= fun _ => binOp .neq t (vb a) (vb b)) h (vb (a != b)) := by
  intro w _
  rw [eqGuard_at_bool]
  simp only [binOp, Sem.run_bind, Sem.run_pure, Result.andThen_ok]
  show ((Op.equalIn 10000 t (vb a) (vb b)).run P w).andThen _ = _
  rw [run_equalIn_bool' w 9999 t _ _ ht]
  rfl
theorem bytes_ext {a b : ByteArray} (h : a.toList = b.toList) : a = b := by
  rw [ByteArray.toList_eq, ByteArray.toList_eq] at h
  exact ByteArray.ext (Array.ext' h)
theorem beq_bytes (a b : ByteArray) : (a.toList == b.toList) = decide (a = b) := by
  by_cases h : a = b
  · subst h; simp
  · have : ¬ a.toList = b.toList := fun e => h (bytes_ext e)
    simp [h, this]
theorem rd_eqS {t : TypeId} {x y : Operand} {a b : ByteArray}  : Rd P (eqGuard .eql t x y (vs a) (vs b) >>= fun _ => binOp .eql t (vs a) (vs b)) h (vb (decide (a = b))) := by
  intro w _
  simp [binOp, eqGuard, Op.stringOp, beq_bytes]
theorem rd_neS {t : TypeId} {x y : Operand} {a b : ByteArray}  : Rd P (eqGuard .neq t x y (vs a) (vs b) >>= fun _ => binOp .neq t (vs a) (vs b)) h (vb (!decide (a = b))) := by
  intro w _
  simp [binOp, eqGuard, Op.stringOp, beq_bytes]
theorem rd_and1023 {t : TypeId} {a : Int} : Rd P (binOp .and t (vi a) (vi 1023)) h (vi (a % 1024)) := by
  intro w _
  have h127 : (BitVec.ofInt 64 1023).toNat = 2 ^ 10 - 1 := by decide
  have key : (BitVec.ofInt 64 a &&& BitVec.ofInt 64 1023).toNat = (a % ((2 ^ 64 : Nat) : Int)).toNat % 2 ^ 10 := by
    rw [BitVec.toNat_and, BitVec.toNat_ofInt, h127, Nat.and_two_pow_sub_one_eq_mod]
  have e : bits .and .i64 a 1023 = a % 1024 := by
    show IntKind.i64.wrap ((BitVec.ofInt 64 a &&& BitVec.ofInt 64 1023).toNat : Nat) = a % 1024
    rw [key, IntKind.wrap_i64]
    omega
  simp [binOp, intBits_and, e]
/-- An index into parts, out of any number. -/
theorem tmod_part {a p : Int} (hp : 1 ≤ p) : 0 ≤ Int.tmod (a % 1024) p ∧ Int.tmod (a % 1024) p < p := by
  have h0 : 0 ≤ a % 1024 := Int.emod_nonneg _ (by decide)
  exact ⟨Int.tmod_nonneg _ h0, Int.tmod_lt_of_pos _ (by omega)⟩
end

/-- A heap without one block. -/
def Hp.del (h : Hp) (g : Nat) : Hp := fun i => if i = g then none else h i
theorem Hp.del_le (h : Hp) (g : Nat) : (h.del g).le h := fun b o e => by
  unfold Hp.del at e
  split at e
  · cases e
  · exact e
theorem Hp.del_mono {h h' : Hp} (l : h.le h') (g : Nat) : (h.del g).le (h'.del g) := fun b o e => by
  unfold Hp.del at e ⊢
  split at e
  · cases e
  · rename_i hb; rw [if_neg hb]; exact l b o e
theorem Hp.del_set (h : Hp) (g : Nat) (o : Obj) : (h.set g o).del g = h.del g := by
  funext i
  unfold Hp.del Hp.set
  split <;> simp_all
theorem Hp.del_le_set (h : Hp) (g : Nat) (o : Obj) : (h.del g).le (h.set g o) := by
  have := Hp.del_le (h.set g o) g
  rwa [Hp.del_set] at this
theorem HasRow.del {h : Hp} {a : Option Addr} {xs : List Value} (H : HasRow h a xs) {g : Nat} (hg : ∀ b o, a = some ⟨b, o, none⟩ → b ≠ g) : HasRow (h.del g) a xs := by
  rcases H with rfl | ⟨b, o, rfl, e⟩
  · exact .inl rfl
  · refine .inr ⟨b, o, rfl, ?_⟩
    unfold Hp.row Hp.del at *
    rw [if_neg (hg b o rfl)]
    exact e
theorem OwnS.at0 {h : Hp} {e : TypeId} {sz n c : Nat} {a : Option Addr} {xs : List Value} (H : OwnS h e sz a n c xs) : ∀ b o, a = some ⟨b, o, none⟩ → o = 0 := by
  rintro b o rfl
  rcases H.2 with ⟨h1, _⟩ | ⟨g, cur, h1, _⟩
  · cases h1
  · cases h1; rfl
theorem Own.ne {h0 h : Hp} {e : TypeId} {sz n c : Nat} {a : Option Addr} {xs : List Value} (O : Own h0 h e sz a n c xs) {g : Nat} (hg : h0 g ≠ none) : ∀ b o, a = some ⟨b, o, none⟩ → b ≠ g := by
  intro b o ha hb
  subst hb
  have := O.own.at0 b o ha
  subst this
  exact hg (O.new b ha)
theorem Own.del_sli {h0 h : Hp} {e : TypeId} {n c : Nat} {a : Option Addr} {l : List Int} (O : Own h0 h e 1 a n c (l.map vi)) {g : Nat} (hg : h0 g ≠ none) : SlI (h.del g) a n l :=
  ⟨O.sli.1, O.row.del (O.ne hg)⟩
/-- What is known behind a change of h, of what was there ahead of the call. -/
theorem Own.trans {h0 h1 h : Hp} (l : h0.le h1) {e : TypeId} {sz n c : Nat} {a : Option Addr} {xs : List Value} (O : Own h1 h e sz a n c xs) : Own h0 h e sz a n c xs :=
  ⟨Hp.le_trans l O.le, O.own, fun g hg => Hp.none_of_le l (O.new g hg)⟩

theorem setL_length {α : Type} (l : List α) (o : Nat) (vs : List α) (h : o + vs.length ≤ l.length) : (setL l o vs).length = l.length := by
  unfold setL
  simp
  omega
theorem setL_take {α : Type} (l : List α) (o : Nat) (vs : List α) (m : Nat) (h : o + vs.length ≤ m) (hm : m ≤ l.length) : (setL l o vs).take m = setL (l.take m) o vs := by
  unfold setL
  have h1 : (l.take m).take o = l.take o := by rw [List.take_take]; congr 1; omega
  have h2 : (l.take m).drop (o + vs.length) = (l.drop (o + vs.length)).take (m - (o + vs.length)) := List.drop_take ..
  have h3 : (l.take o ++ vs).length = o + vs.length := by simp; omega
  rw [h1, h2, List.take_append, h3, List.take_of_length_le (by rw [h3]; exact h)]
theorem setL_one {α : Type} (l : List α) (o : Nat) (v : α) (h : o < l.length) : setL l o [v] = l.set o v := by
  unfold setL
  rw [List.set_eq_take_append_cons_drop, if_pos h]
  simp
/-- A store into a slice of the call's own. -/
theorem Own.store {h0 h : Hp} {e : TypeId} {sz n c : Nat} {a : Option Addr} {xs : List Value} (O : Own h0 h e sz a n c xs) {j : Nat} {vs : List Value} (hv : 0 < vs.length) (hj : j + vs.length ≤ n * sz) {K : Hp → Prop} {b o : Nat} (ha : a = some ⟨b, o, none⟩)
    (hK : ∀ ob, Own h0 (h.set b ob) e sz a n c (setL xs j vs) → K (h.set b ob)) : h.store b (o + j) vs K := by
  obtain rfl := O.own.at0 b o ha
  obtain ⟨hl, h1⟩ := O.own
  rcases h1 with ⟨h1, h2, h3⟩ | ⟨g, cur, h1, hg, hn, hc, hs, ht⟩
  · rw [h1] at ha; cases ha
  · rw [h1] at ha
    cases ha
    have hcur : n * sz ≤ cur.size := by rw [hs]; exact Nat.mul_le_mul_right _ hn
    refine ⟨cur, e, hg, by omega, ?_⟩
    rw [Nat.zero_add]
    refine hK _ ⟨?_, ⟨?_, .inr ⟨b, _, h1, by simp [Hp.set]; rfl, hn, hc, ?_, ?_⟩⟩, O.new⟩
    · intro i p hp
      have hne : i ≠ b := fun hib => by rw [hib, O.new b h1] at hp; cases hp
      simp [Hp.set, hne, O.le i p hp]
    · rw [setL_length _ _ _ (by omega)]; exact hl
    · show (setL cur.toList j vs).length = _
      have h9 : cur.toList.length = cur.size := Array.length_toList
      rw [setL_length _ _ _ (by omega), h9]; exact hs
    · show (setL cur.toList j vs).take (n * sz) = _
      rw [setL_take _ _ _ _ hj (by rw [Array.length_toList]; exact hcur), ht]
theorem Own.store_i {h0 h : Hp} {e : TypeId} {n c : Nat} {a : Option Addr} {l : List Int} (O : Own h0 h e 1 a n c (l.map vi)) {i : Nat} {x : Int} (hi : i < n) {K : Hp → Prop} {b o : Nat} (ha : a = some ⟨b, o, none⟩)
    (hK : ∀ ob, Own h0 (h.set b ob) e 1 a n c ((l.set i x).map vi) → K (h.set b ob)) : h.store b (o + i * 1) [vi x] K := by
  rw [Nat.mul_one]
  refine O.store (by simp) (by simp; omega) ha fun ob O' => hK ob ?_
  have hl : i < l.length := by have := O.sli.1; omega
  rw [setL_one _ _ _ (by simpa using hl), ← List.map_set] at O'
  exact O'
/-- A block whose cells are known. -/
theorem cell_cells {h : Hp} {b : Nat} {l : List Value} {t : TypeId} (hb : h b = some (cellsO l t)) {o : Nat} {v : Value} (hv : l[o]? = some v) : h.cell b o = some v := by
  unfold Hp.cell
  rw [hb]
  simpa using hv
theorem row_cells' {h : Hp} {b : Nat} {l : List Value} {t : TypeId} (hb : h b = some (cellsO l t)) {o n : Nat} (hn : o + n ≤ l.length) : h.row b o n = some ((l.drop o).take n) := by
  unfold Hp.row
  rw [hb]
  simp [hn]
theorem store_cells {h : Hp} {b : Nat} {l : List Value} {t : TypeId} (hb : h b = some (cellsO l t)) {o : Nat} {vs : List Value} (ho : o + vs.length ≤ l.length) {K : Hp → Prop} (hK : K (h.set b (cellsO (setL l o vs) t))) : h.store b o vs K := by
  refine ⟨_, _, hb, by simpa using ho, ?_⟩
  simpa using hK
theorem OwnS.set {h : Hp} {e : TypeId} {sz n c : Nat} {a : Option Addr} {xs : List Value} (O : OwnS h e sz a n c xs) {g : Nat} (hg : a ≠ some ⟨g, 0, none⟩) (ob : Obj) : OwnS (h.set g ob) e sz a n c xs :=
  O.keep fun b o ha hb => by
    have : b ≠ g := fun e => hg (by rw [← e]; exact ha)
    simp [Hp.set, this, hb]
theorem OwnS.not_at {h : Hp} {e : TypeId} {sz n c : Nat} {a : Option Addr} {xs : List Value} (O : OwnS h e sz a n c xs) {g : Nat} (hg : h g = none) : a ≠ some ⟨g, 0, none⟩ := by
  intro ha
  rcases O.2 with ⟨h1, _⟩ | ⟨g', cur, h1, h2, _⟩
  · rw [h1] at ha; cases ha
  · rw [h1] at ha; cases ha; rw [hg] at h2; cases h2
theorem Hp.ne_of {h : Hp} {b g : Nat} {o : Obj} (hb : h b = some o) (hg : h g = none) : b ≠ g := fun e => by subst e; rw [hb] at hg; cases hg
theorem HasRow.of_del {h : Hp} {g : Nat} {a : Option Addr} {xs : List Value} (H : HasRow (h.del g) a xs) : HasRow h a xs := H.le (Hp.del_le h g)
section
variable {P : Program}
/-- append([]T(nil), l...): a slice of the call's own, with the same elements. -/
theorem sem_clone {h : Hp} {t ty e : TypeId} {sz bytes : Nat} (T : ElT P t e sz bytes) {a2 : Option Addr} {m c2 : Nat} {news : List Value} (H : HasRow h a2 news) (hl : news.length = m * sz) (h1 : ∀ u ∈ news, u.oneCell' = true)
    (hb : m * bytes ≤ 140737488355328) (hm : m ≤ 140737488355328) {K : Value → Hp → Prop} (hK : ∀ a' c' h', Own h h' e sz a' m c' news → K (vsl a' m c') h') :
    SemOK P (Builtin.append_ #[t, t] ty #[vsl none 0 0, vsl a2 m c2]) h K := by
  refine Own.append T (Own.nil (Hp.le_refl h) e sz) H hl h1 (by simpa using hb) (by simpa using hm) fun a' c' h' O _ _ => ?_
  rw [Nat.zero_add, List.nil_append] at *
  exact hK a' c' h' O
end
end Go.Vc
