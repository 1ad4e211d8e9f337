/-
  The framework, part V: tables: a block of slices, each its own; and two holdings side by side. No program in sight. Conditions: none.
-/
import Derived.Test.YtgonnpleihbklaaDoorVcU
import Derived.Test.YtgonnpleihbklaaDoorVcR
import Derived.Test.YtgonnpleihbklaaDoorVcT
namespace Go.Vc
open Go
set_option linter.unusedVariables false

/-- A row of a table: where it lies, its room, what it has. -/
abbrev TRow (α : Type) := (Option Addr × Nat) × List α
section
variable {α : Type} (enc : α → List Value) (sz : Nat) (e T : TypeId)
def rowF (r : TRow α) : Fld := .s e sz r.1.1 r.2.length r.1.2 (r.2.flatMap enc)
def rowV (r : TRow α) : Value := vsl r.1.1 r.2.length r.1.2
def tabF (R : List (TRow α)) : List Fld := R.map (rowF enc sz e)
theorem tabF_val (R : List (TRow α)) : (tabF enc sz e R).map Fld.val = R.map rowV := by
  unfold tabF
  rw [List.map_map]
  rfl
/-- A table at a block: its rows. -/
def TabAt (h : Hp) (F : Nat → Prop) (t : Nat) (L : List (List α)) : Prop := ∃ R : List (TRow α), R.map Prod.snd = L ∧ F = ftR t (tabF enc sz e R) ∧ Rec h t T (tabF enc sz e R)
/-- A table that is only read. -/
def TabR (h : Hp) (a : Option Addr) (n : Nat) (L : List (List α)) : Prop := ∃ R : List (TRow α), R.map Prod.snd = L ∧ n = L.length ∧ HasRow h a (R.map rowV) ∧ ∀ (j : Nat) (r : TRow α), R[j]? = some r → HasRow h r.1.1 (r.2.flatMap enc)
end
section
variable {α : Type} {enc : α → List Value} {sz : Nat} {e T : TypeId} {h : Hp} {F : Nat → Prop} {t : Nat} {L : List (List α)}
theorem TabAt.al (D : TabAt enc sz e T h F t L) : ∀ b, F b → h b ≠ none := by
  obtain ⟨R, rfl, rfl, D⟩ := D
  exact D.al
theorem TabAt.keep {h' : Hp} (D : TabAt enc sz e T h F t L) (hk : ∀ b, F b → ∀ o, h b = some o → h' b = some o) : TabAt enc sz e T h' F t L := by
  obtain ⟨R, rfl, rfl, D⟩ := D
  exact ⟨R, rfl, rfl, D.keep hk⟩
theorem TabAt.le {h' : Hp} (D : TabAt enc sz e T h F t L) (hl : h.le h') : TabAt enc sz e T h' F t L := D.keep fun b _ o ho => hl b o ho
theorem TabAt.top (D : TabAt enc sz e T h F t L) : F t := by
  obtain ⟨R, rfl, rfl, D⟩ := D
  exact .inl rfl
theorem TabAt.cell (D : TabAt enc sz e T h F t L) {j : Nat} {l : List α} (hl : L[j]? = some l) : ∃ a c, h.cell t (0 + j * 1) = some (vsl a l.length c) ∧ SlP enc h a l.length l := by
  obtain ⟨R, rfl, rfl, D⟩ := D
  rw [List.getElem?_map, Option.map_eq_some_iff] at hl
  obtain ⟨r, hr, rfl⟩ := hl
  have hf : (tabF enc sz e R)[j]? = some (rowF enc sz e r) := by rw [tabF, List.getElem?_map, hr]; rfl
  rw [Nat.zero_add, Nat.mul_one]
  have O : OwnS h e sz r.1.1 r.2.length r.1.2 (r.2.flatMap enc) := D.own j _ hf
  exact ⟨r.1.1, r.1.2, D.cell hf, rfl, O.row⟩
theorem HasRow.get1 {h : Hp} {a : Option Addr} {xs : List Value} (H : HasRow h a xs) {j : Nat} {v : Value} (hv : xs[j]? = some v) : ∃ b o, a = some ⟨b, o, none⟩ ∧ h.cell b (o + j * 1) = some v := by
  rcases H with rfl | ⟨b, o, ha, hr⟩
  · cases hv
  · refine ⟨b, o, ha, ?_⟩
    rw [Nat.mul_one]
    exact Hp.row_cell hr hv
theorem TabR.cell {a : Option Addr} {n : Nat} (D : TabR enc h a n L) {j : Nat} {l : List α} (hl : L[j]? = some l) : ∃ b o a' c', a = some ⟨b, o, none⟩ ∧ h.cell b (o + j * 1) = some (vsl a' l.length c') ∧ SlP enc h a' l.length l := by
  obtain ⟨R, rfl, hn, D, D2⟩ := D
  rw [List.getElem?_map, Option.map_eq_some_iff] at hl
  obtain ⟨r, hr, rfl⟩ := hl
  obtain ⟨b, o, ha, hc⟩ := D.get1 (j := j) (v := rowV r) (by rw [List.getElem?_map, hr]; rfl)
  exact ⟨b, o, r.1.1, r.1.2, ha, hc, rfl, D2 j r hr⟩
theorem TabR.le {h' : Hp} {a : Option Addr} {n : Nat} (D : TabR enc h a n L) (hl : h.le h') : TabR enc h' a n L := by
  obtain ⟨R, rfl, hn, D, D2⟩ := D
  exact ⟨R, rfl, hn, D.le hl, fun j r hr => (D2 j r hr).le hl⟩
theorem TabAt.r (D : TabAt enc sz e T h F t L) : TabR enc h (some ⟨t, 0, none⟩) L.length L := by
  obtain ⟨R, rfl, rfl, D⟩ := D
  refine ⟨R, rfl, rfl, ?_, fun j r hr => ?_⟩
  · refine .inr ⟨t, 0, rfl, ?_⟩
    have := D.blk
    rw [tabF_val] at this
    rw [row_cells' this (by omega), List.drop_zero, List.take_of_length_le (Nat.le_refl _)]
  · have hf : (tabF enc sz e R)[j]? = some (rowF enc sz e r) := by rw [tabF, List.getElem?_map, hr]; rfl
    exact (D.own j _ hf : OwnS h e sz r.1.1 r.2.length r.1.2 (r.2.flatMap enc)).row
variable {P : Program}
/-- One more in a row: append, and the place in the table. -/
theorem TabAt.app {tS : TypeId} {bytes : Nat} (E : ElT P tS e sz bytes) (he : ∀ x, (enc x).length = sz) (h1 : ∀ x, ∀ u ∈ enc x, u.oneCell' = true) (D : TabAt enc sz e T h F t L) {j : Nat} {l : List α} (hl : L[j]? = some l) (hb : (l.length + 1) * bytes ≤ 140737488355328) (hb2 : l.length + 1 ≤ 140737488355328) {x : α} {a : Option Addr} {c : Nat} (hc : h.cell t (0 + j * 1) = some (vsl a l.length c)) {b : Nat} (hbn : h b = none) {ty : TypeId} {K : Value → Hp → Prop}
    (hK : ∀ a' c' h', (∀ b' o, (¬ F b' ∨ b' = t) → h b' = some o → h' b' = some o) → (∀ K2 : Hp → Prop, (∀ h'' F', TabAt enc sz e T h'' F' t (L.set j (l ++ [x])) → Mut F h F' h'' → K2 h'') → h'.store t (0 + j * 1) [vsl a' (l.length + 1) c'] K2) → K (vsl a' (l.length + 1) c') h') :
    SemOK P (Builtin.append_ #[tS, tS] ty #[vsl a l.length c, vsl (some ⟨b, 0, none⟩) 1 1]) (h.set b (cellsO (enc x) e)) K := by
  obtain ⟨R, rfl, rfl, D⟩ := D
  rw [List.getElem?_map, Option.map_eq_some_iff] at hl
  obtain ⟨r, hr, rfl⟩ := hl
  have hf : (tabF enc sz e R)[j]? = some (rowF enc sz e r) := by rw [tabF, List.getElem?_map, hr]; rfl
  rw [Nat.zero_add, Nat.mul_one, D.cell hf] at hc
  simp only [rowF, Fld.val, Option.some.injEq, Value.slice.injEq] at hc
  obtain ⟨rfl, _, rfl⟩ := hc
  have hle : h.le (h.set b (cellsO (enc x) e)) := Hp.le_set (Hp.le_refl h) hbn _
  have O : OwnS (h.set b (cellsO (enc x) e)) e sz r.1.1 r.2.length r.1.2 (r.2.flatMap enc) := (D.own j _ hf : OwnS h e sz r.1.1 r.2.length r.1.2 (r.2.flatMap enc)).le hle
  have hj : j < R.length := (List.getElem?_eq_some_iff.1 hr).1
  refine sem_append E O (HasRow.new _ _ (enc x) _) (m := 1) (by rw [he, Nat.one_mul]) (h1 x) hb hb2 fun a' c' h' O' k1 k2 _ _ => hK a' c' h' (fun b' o hb' ho => k1 b' o (hle b' o ho) fun hat => ?_) fun K2 hK2 => ?_
  · rcases hb' with h2 | rfl
    · exact h2 (.inr ⟨j, _, hf, hat⟩)
    · exact D.ne j _ hf hat
  · have e1 : tabF enc sz e (R.set j ((a', c'), r.2 ++ [x])) = (tabF enc sz e R).set j (.s e sz a' (r.2.length + 1) c' (r.2.flatMap enc ++ enc x)) := by
      unfold tabF
      rw [List.map_set]
      congr 1
      unfold rowF
      simp
    have e2 : (R.set j ((a', c'), r.2 ++ [x])).map Prod.snd = (R.map Prod.snd).set j (r.2 ++ [x]) := by rw [List.map_set]
    rw [Nat.zero_add, Nat.mul_one]
    refine D.put (h' := h') (j := j) (f' := .s e sz a' (r.2.length + 1) c' (r.2.flatMap enc ++ enc x)) hf (fun b' o ho hat => k1 b' o (hle b' o ho) hat) O' (fun b' hb' => ?_) (fun h'' _ R' M => by rw [← e1] at R' M; exact hK2 h'' _ ⟨_, e2, rfl, R'⟩ M) rfl
    rcases k2 b' hb' with e | e
    · exact .inl (e.trans hb')
    · exact .inr (Hp.none_of_le hle e)
/-- A table of rows that are empty. -/
theorem TabAt.new {b : Nat} (hb : h b = none) (n : Nat) : TabAt enc sz e T (h.set b (cellsO ((List.replicate n [vsl none 0 0]).flatten) T)) (fun x => x = b) b (List.replicate n []) := by
  refine ⟨List.replicate n ((none, 0), []), by rw [List.map_replicate], ?_, ?_⟩
  · funext x
    refine propext ⟨fun hx => .inl hx, ?_⟩
    rintro (hx | ⟨j, f, hf, hat⟩)
    · exact hx
    · rw [tabF, List.map_replicate, List.getElem?_replicate] at hf
      split at hf
      · cases hf; cases hat
      · cases hf
  · have e1 : (tabF enc sz e (List.replicate n (((none, 0), []) : TRow α))).map Fld.val = (List.replicate n [vsl none 0 0]).flatten := by
      rw [tabF_val, List.map_replicate]
      induction n with
      | zero => rfl
      | succ n ih => rw [List.replicate_succ, List.replicate_succ, List.flatten_cons, ← ih]; rfl
    have hno : ∀ (j : Nat) (f : Fld), (tabF enc sz e (List.replicate n (((none, 0), []) : TRow α)))[j]? = some f → f = .s e sz none 0 0 [] := by
      intro j f hf
      rw [tabF, List.map_replicate, List.getElem?_replicate] at hf
      split at hf
      · cases hf; rfl
      · cases hf
    rw [← e1]
    refine Rec.new hb (fun j f hf => ?_) fun j k f f' b' hf hf' hat _ => ?_
    · rw [hno j f hf]; exact OwnS.nil h e sz
    · rw [hno j f hf] at hat; cases hat
end

section
variable {α : Type} (enc : α → List Value) (T : TypeId)
/-- A table that is being put together: all of it is new. -/
def TabB (h0 h : Hp) (a : Option Addr) (c : Nat) (L : List (List α)) : Prop :=
  ∃ (R : List (TRow α)) (hd : Hp), R.map Prod.snd = L ∧ Own h0 h T 1 a L.length c (R.map rowV) ∧ hd.le h ∧ (∀ g, a = some ⟨g, 0, none⟩ → hd g = none) ∧ ∀ (j : Nat) (r : TRow α), R[j]? = some r → HasRow hd r.1.1 (r.2.flatMap enc)
end
section
variable {α : Type} {enc : α → List Value} {T : TypeId} {h0 h : Hp} {a : Option Addr} {c : Nat} {L : List (List α)}
theorem TabB.nil (hl : h0.le h) : TabB enc T h0 h none 0 [] :=
  ⟨[], h, rfl, Own.nil hl _ _, Hp.le_refl h, (fun g hg => by cases hg), (fun j r hr => by cases hr)⟩
theorem TabB.le0 (B : TabB enc T h0 h a c L) : h0.le h := by
  obtain ⟨R, hd, _, O, _⟩ := B
  exact O.le
theorem TabB.r (B : TabB enc T h0 h a c L) : TabR enc h a L.length L := by
  obtain ⟨R, hd, e, O, hl, _, hr⟩ := B
  exact ⟨R, e, rfl, O.own.row, fun j r h1 => (hr j r h1).le hl⟩
variable {P : Program}
theorem TabB.app {tS : TypeId} {bytes : Nat} (E : ElT P tS T 1 bytes) (B : TabB enc T h0 h a c L) {e : TypeId} {sz : Nat} {h1 : Hp} {a2 : Option Addr} {c2 : Nat} {l : List α} (O : Own h h1 e sz a2 l.length c2 (l.flatMap enc)) (hb : (L.length + 1) * bytes ≤ 140737488355328) (hb2 : L.length + 1 ≤ 140737488355328)
    {b : Nat} (hbn : h1 b = none) {ty : TypeId} {K : Value → Hp → Prop} (hK : ∀ a' c' h', TabB enc T h0 h' a' c' (L ++ [l]) → K (vsl a' (L.length + 1) c') h') :
    SemOK P (Builtin.append_ #[tS, tS] ty #[vsl a L.length c, vsl (some ⟨b, 0, none⟩) 1 1]) (h1.set b (cellsO [vsl a2 l.length c2] T)) K := by
  obtain ⟨R, hd, eR, OT, hl, hn, hr⟩ := B
  have l2 : h1.le (h1.set b (cellsO [vsl a2 l.length c2] T)) := Hp.le_set (Hp.le_refl h1) hbn _
  have OT2 : Own h0 (h1.set b (cellsO [vsl a2 l.length c2] T)) T 1 a L.length c (R.map rowV) := ⟨Hp.le_trans (Hp.le_trans OT.le O.le) l2, (OT.own.le O.le).le l2, OT.new⟩
  refine Own.append E OT2 (HasRow.new _ _ [vsl a2 l.length c2] _) (m := 1) rfl (by simp [Value.oneCell']) hb hb2 fun a' c' h' O' k1 k2 => hK a' c' h' ?_
  refine ⟨R ++ [((a2, c2), l)], fun x => if a = some ⟨x, 0, none⟩ then none else h1 x, by rw [List.map_append, eR]; rfl, ?_, ?_, ?_, ?_⟩
  · rw [List.map_append, List.length_append]; exact O'
  · intro x o ho
    simp only at ho
    split at ho
    · cases ho
    · rename_i hne
      exact k1 x o (l2 x o ho) hne
  · intro g hg
    simp only
    split
    · rfl
    · rename_i hne
      rcases k2 g hg with e1 | e1
      · exact absurd (e1.trans hg) hne
      · exact Hp.none_of_le l2 e1
  · intro j r hj
    rcases Nat.lt_or_ge j R.length with h3 | h3
    · rw [List.getElem?_append_left h3] at hj
      refine (hr j r hj).le fun x o ho => ?_
      split
      · rename_i he
        rw [hn x he] at ho; cases ho
      · exact O.le x o (hl x o ho)
    · rw [List.getElem?_append_right h3, List.getElem?_singleton] at hj
      split at hj
      · cases hj
        refine (O.own.keep fun g o hg ho => ?_ : OwnS _ e sz a2 l.length c2 (l.flatMap enc)).row
        split
        · rename_i he
          have q := O.new g hg
          rcases OT.own.2 with ⟨q1, _⟩ | ⟨g', cur, q1, q2, _⟩
          · rw [q1] at he; cases he
          · rw [q1] at he; cases he; rw [q2] at q; cases q
        · exact ho
      · cases hj
end

theorem setL_app_l {β : Type} (a b : List β) (k : Nat) (vs : List β) (h : k + vs.length ≤ a.length) : setL (a ++ b) k vs = setL a k vs ++ b := by
  unfold setL
  rw [List.take_append_of_le_length (by omega), List.drop_append_of_le_length (by omega)]
  simp
theorem setL_app_r {β : Type} (a b : List β) (k : Nat) (vs : List β) : setL (a ++ b) (a.length + k) vs = a ++ setL b k vs := by
  unfold setL
  rw [show a.length + k + vs.length = a.length + (k + vs.length) by omega, List.take_length_add_append, List.drop_length_add_append]
  simp
/-- Cells of one of many are put. -/
theorem setL_flat {α : Type} {enc : α → List Value} {sz : Nat} (he : ∀ x, (enc x).length = sz) {k : Nat} {vs : List Value} (hk : k + vs.length ≤ sz) : ∀ (l : List α) (i : Nat) (x x' : α), l[i]? = some x → enc x' = setL (enc x) k vs → setL (l.flatMap enc) (i * sz + k) vs = (l.set i x').flatMap enc
  | [], i, x, x', h, _ => by cases h
  | y :: l, 0, x, x', h, hx => by
    cases h
    rw [List.flatMap_cons, List.set_cons_zero, List.flatMap_cons, Nat.zero_mul, Nat.zero_add, setL_app_l _ _ _ _ (by rw [he]; exact hk), hx]
  | y :: l, i + 1, x, x', h, hx => by
    rw [List.flatMap_cons, List.set_cons_succ, List.flatMap_cons, show (i + 1) * sz + k = (enc y).length + (i * sz + k) by rw [he, Nat.succ_mul]; omega, setL_app_r, setL_flat he hk l i x x' h hx]
/-- A slice of one's own, element by element. -/
def Vec {α : Type} (enc : α → List Value) (sz : Nat) (T : TypeId) (h0 h : Hp) (a : Option Addr) (c : Nat) (l : List α) : Prop := Own h0 h T sz a l.length c (l.flatMap enc)
section
variable {α : Type} {enc : α → List Value} {sz : Nat} {T : TypeId} {h0 h : Hp} {a : Option Addr} {c : Nat} {l : List α}
theorem Vec.le0 (V : Vec enc sz T h0 h a c l) : h0.le h := Own.le V
theorem Vec.slp (he : ∀ x, (enc x).length = sz) (hz : 0 < sz) (V : Vec enc sz T h0 h a c l) : SlP enc h a l.length l := Own.slp he hz V
/-- Cells of an element are put. -/
theorem Vec.put (he : ∀ x, (enc x).length = sz) (V : Vec enc sz T h0 h a c l) {i : Nat} {x x' : α} (hx : l[i]? = some x) {k : Nat} {vs : List Value} (hv : 0 < vs.length) (hk : k + vs.length ≤ sz) (hx' : enc x' = setL (enc x) k vs) :
    ∃ b o, a = some ⟨b, o, none⟩ ∧ ∀ K : Hp → Prop, (∀ h', Vec enc sz T h0 h' a c (l.set i x') → K h') → h.store b (o + i * sz + k) vs K := by
  have hi : i < l.length := (List.getElem?_eq_some_iff.1 hx).1
  have hb : (i + 1) * sz ≤ l.length * sz := Nat.mul_le_mul_right _ hi
  rw [Nat.succ_mul] at hb
  rcases V.own.2 with ⟨ha, hn, _⟩ | ⟨g, cur, ha, _⟩
  · omega
  · refine ⟨g, 0, ha, fun K hK => ?_⟩
    rw [Nat.add_assoc]
    refine Own.store V (j := i * sz + k) hv (by omega) ha fun ob V' => hK _ ?_
    unfold Vec
    rw [← setL_flat he hk l i x x' hx hx', List.length_set]
    exact V'
theorem Vec.keep0 {h1 : Hp} (V : Vec enc sz T h0 h a c l) (hl : h.le h1) : Vec enc sz T h0 h1 a c l := ⟨Hp.le_trans V.le0 hl, (Own.own V).le hl, Own.new V⟩
variable {P : Program}
/-- One more: append. -/
theorem Vec.app {t ty : TypeId} {bytes : Nat} (E : ElT P t T sz bytes) (he : ∀ x, (enc x).length = sz) (h1 : ∀ x, ∀ u ∈ enc x, u.oneCell' = true) (V : Vec enc sz T h0 h a c l) (hb : (l.length + 1) * bytes ≤ 140737488355328) (hb2 : l.length + 1 ≤ 140737488355328) {x : α} {b : Nat} (hbn : h b = none) {K : Value → Hp → Prop}
    (hK : ∀ a' c' h', Vec enc sz T h0 h' a' c' (l ++ [x]) → K (vsl a' (l ++ [x]).length c') h') : SemOK P (Builtin.append_ #[t, t] ty #[vsl a l.length c, vsl (some ⟨b, 0, none⟩) 1 1]) (h.set b (cellsO (enc x) T)) K := by
  refine Own.append E (Own.set hbn _ V) (HasRow.new _ _ (enc x) _) (m := 1) (by rw [he, Nat.one_mul]) (h1 x) hb hb2 fun a' c' h' O' _ _ => ?_
  have := hK a' c' h' (by
    unfold Vec
    rw [List.length_append, List.flatMap_append, List.flatMap_singleton]
    exact O')
  rw [List.length_append] at this
  exact this
theorem Vec.make {t : TypeId} {bytes : Nat} (E : ElT P t T sz bytes) {z : List Value} (hz : (zeroL P T).map tvals = some z) {x : α} (hx : enc x = z) (hzl : z.length = sz) {n : Nat} (hn : n ≤ 1000000) (hb : n * bytes ≤ 140737488355328) {K : Value → Hp → Prop}
    (hK : ∀ a h', Vec enc sz T h h' a n (List.replicate n x) → K (vsl a n n) h') : SemOK P (Instr.makeSlice t (vi n) (vi n)) h K := by
  refine sem_make E hz hn hb fun b hb => hK _ _ ?_
  unfold Vec
  have e : (List.replicate n x).flatMap enc = (List.replicate n z).flatten := by rw [List.flatMap_replicate, hx]
  rw [e, List.length_replicate]
  exact Own.mk_new (Hp.le_refl h) hb _ _ (by rw [List.length_flatten]; simp [hzl]) (by simp only [maxLen]; omega)
end

/-- What has blocks of its own, and is kept where they are. -/
structure Fp (P : Hp → (Nat → Prop) → Prop) : Prop where
  al : ∀ {h F}, P h F → ∀ b, F b → h b ≠ none
  keep : ∀ {h h' F}, P h F → (∀ b, F b → ∀ o, h b = some o → h' b = some o) → P h' F
/-- Both that have, each its own, all new. -/
structure Both (h0 h : Hp) (F1 F2 : Nat → Prop) (P Q : Hp → (Nat → Prop) → Prop) : Prop where
  le : h0.le h
  n1 : ∀ b, F1 b → h0 b = none
  n2 : ∀ b, F2 b → h0 b = none
  d : ∀ b, F1 b → ¬ F2 b
  p : P h F1
  q : Q h F2
theorem Both.left {h0 h h' : Hp} {F1 F2 F' : Nat → Prop} {P P' Q : Hp → (Nat → Prop) → Prop} (fq : Fp Q) (T : Both h0 h F1 F2 P Q) (D : P' h' F') (M : Mut F1 h F' h') : Both h0 h' F' F2 P' Q := by
  obtain ⟨l, nn⟩ := M.old T.le T.n1
  obtain ⟨k, d⟩ := M.apart (fq.al T.q) T.d
  exact ⟨l, nn, T.n2, d, D, fq.keep T.q k⟩
theorem Both.right {h0 h h' : Hp} {F1 F2 F' : Nat → Prop} {P Q Q' : Hp → (Nat → Prop) → Prop} (fp : Fp P) (T : Both h0 h F1 F2 P Q) (D : Q' h' F') (M : Mut F2 h F' h') : Both h0 h' F1 F' P Q' := by
  obtain ⟨l, nn⟩ := M.old T.le T.n2
  obtain ⟨k, d⟩ := M.apart (fp.al T.p) (fun b hb hb' => T.d b hb' hb)
  exact ⟨l, T.n1, nn, fun b hb hb' => d b hb' hb, fp.keep T.p k, D⟩
theorem Both.le_ {h0 h h' : Hp} {F1 F2 : Nat → Prop} {P Q : Hp → (Nat → Prop) → Prop} (fp : Fp P) (fq : Fp Q) (T : Both h0 h F1 F2 P Q) (l : h.le h') : Both h0 h' F1 F2 P Q :=
  ⟨Hp.le_trans T.le l, T.n1, T.n2, T.d, fp.keep T.p fun b _ o ho => l b o ho, fq.keep T.q fun b _ o ho => l b o ho⟩
end Go.Vc
