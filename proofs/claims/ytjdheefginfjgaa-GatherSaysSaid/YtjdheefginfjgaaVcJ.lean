/-
  The framework, part J: rows and slices in what is known of a heap; what 'append' asks and gives; from a call's condition to a law's walk. No program in sight. Conditions: none.
-/
import Derived.Test.YtjdheefginfjgaaVcI
import Derived.Laws.OwnMore
import Derived.RowKit3
namespace Go.Vc
open Go
set_option linter.unusedVariables false

theorem Hp.le_refl (h : Hp) : h.le h := fun _ _ e => e
theorem Hp.le_trans {a b c : Hp} (x : a.le b) (y : b.le c) : a.le c := fun i o e => y i o (x i o e)
theorem Hp.le_set {a b : Hp} (x : a.le b) {i : Nat} (hi : b i = none) (o : Obj) : a.le (b.set i o) := fun j p e => by
  have := x j p e
  unfold Hp.set
  split
  · rename_i he; subst he; rw [hi] at this; cases this
  · exact this
theorem Hp.none_of_le {a b : Hp} (x : a.le b) {i : Nat} (hi : b i = none) : a i = none := by
  cases e : a i with
  | none => rfl
  | some o => rw [x i o e] at hi; cases hi

/-- A row of cells behind an address (no cell: any address). -/
def HasRow (h : Hp) (a : Option Addr) (xs : List Value) : Prop := xs = [] ∨ ∃ b o, a = some ⟨b, o, none⟩ ∧ h.row b o xs.length = some xs

theorem Hp.row_le {h h' : Hp} (hl : h.le h') {b o n : Nat} {xs : List Value} (e : h.row b o n = some xs) : h'.row b o n = some xs := by
  unfold Hp.row at e ⊢
  cases hb : h b with
  | none => rw [hb] at e; cases e
  | some ob => rw [hb] at e; rw [hl b ob hb]; exact e
theorem Hp.cell_le {h h' : Hp} (hl : h.le h') {b o : Nat} {x : Value} (e : h.cell b o = some x) : h'.cell b o = some x := by
  unfold Hp.cell at e ⊢
  cases hb : h b with
  | none => rw [hb] at e; cases e
  | some ob => rw [hb] at e; rw [hl b ob hb]; exact e
theorem HasRow.le {h h' : Hp} (hl : h.le h') {a : Option Addr} {xs : List Value} (H : HasRow h a xs) : HasRow h' a xs := by
  rcases H with rfl | ⟨b, o, rfl, e⟩
  · exact .inl rfl
  · exact .inr ⟨b, o, rfl, Hp.row_le hl e⟩
theorem Hp.row_spec {h : Hp} {b o n : Nat} {xs : List Value} : h.row b o n = some xs ↔ ∃ c t f, h b = some (.cells c t f) ∧ o + n ≤ c.size ∧ xs = (c.toList.drop o).take n := by
  unfold Hp.row
  cases hb : h b with
  | none => simp
  | some ob =>
    cases ob with
    | cells c t f =>
      by_cases hle : o + n ≤ c.size
      · simp [hle]; exact ⟨fun e => e.symm, fun e => e.symm⟩
      · simp [hle]
    | _ => simp
/-- A cell of a row. -/
theorem Hp.row_cell {h : Hp} {b o n : Nat} {xs : List Value} (e : h.row b o n = some xs) {i : Nat} {x : Value} (hx : xs[i]? = some x) : h.cell b (o + i) = some x := by
  obtain ⟨c, t, f, hb, hle, rfl⟩ := Hp.row_spec.1 e
  unfold Hp.cell
  rw [hb]
  rw [List.getElem?_take] at hx
  split at hx
  · simpa using hx
  · cases hx
/-- A row of a row. -/
theorem Hp.row_sub {h : Hp} {b o n : Nat} {xs : List Value} (e : h.row b o n = some xs) {i k : Nat} (hi : i + k ≤ n) : h.row b (o + i) k = some ((xs.drop i).take k) := by
  obtain ⟨c, t, f, hb, hle, rfl⟩ := Hp.row_spec.1 e
  refine Hp.row_spec.2 ⟨c, t, f, hb, by omega, ?_⟩
  rw [List.drop_take, List.take_take, List.drop_drop]
  congr 1
  omega
theorem Hp.row_length {h : Hp} {b o n : Nat} {xs : List Value} (e : h.row b o n = some xs) : xs.length = n := by
  obtain ⟨c, t, f, hb, hle, rfl⟩ := Hp.row_spec.1 e
  rw [List.length_take, List.length_drop, Array.length_toList]
  omega
/-- A new block is a row. -/
theorem row_new (h : Hp) (b : Nat) (xs : List Value) (t : TypeId) : (h.set b (cellsO xs t)).row b 0 xs.length = some xs :=
  Hp.row_spec.2 ⟨xs.toArray, t, (0, 0), by simp [Hp.set], by simp, by simp⟩
theorem HasRow.new (h : Hp) (b : Nat) (xs : List Value) (t : TypeId) : HasRow (h.set b (cellsO xs t)) (some ⟨b, 0, none⟩) xs := .inr ⟨b, 0, rfl, row_new h b xs t⟩

/-- A slice that can be appended to: its block is known whole. -/
def OwnS (h : Hp) (e : TypeId) (sz : Nat) (a : Option Addr) (n c : Nat) (xs : List Value) : Prop :=
  xs.length = n * sz ∧ ((a = none ∧ n = 0 ∧ c = 0) ∨ ∃ g cur, a = some ⟨g, 0, none⟩ ∧ h g = some (.cells cur e (0, 0)) ∧ n ≤ c ∧ c ≤ maxLen ∧ cur.size = c * sz ∧ cur.toList.take (n * sz) = xs)
theorem OwnS.nil (h : Hp) (e : TypeId) (sz : Nat) : OwnS h e sz none 0 0 [] := ⟨by simp, .inl ⟨rfl, rfl, rfl⟩⟩
theorem OwnS.new (h : Hp) (b : Nat) (e : TypeId) {sz n : Nat} (xs : List Value) (hl : xs.length = n * sz) (hn : n ≤ maxLen) : OwnS (h.set b (cellsO xs e)) e sz (some ⟨b, 0, none⟩) n n xs :=
  ⟨hl, .inr ⟨b, xs.toArray, rfl, by simp [Hp.set], Nat.le_refl _, hn, by simpa using hl, by rw [← hl]; simp⟩⟩
theorem OwnS.row {h : Hp} {e : TypeId} {sz n c : Nat} {a : Option Addr} {xs : List Value} (H : OwnS h e sz a n c xs) : HasRow h a xs := by
  rcases H with ⟨hl, ⟨rfl, rfl, rfl⟩ | ⟨g, cur, rfl, hg, hn, hc, hs, ht⟩⟩
  · exact .inl (List.eq_nil_of_length_eq_zero (by simpa using hl))
  · refine .inr ⟨g, 0, rfl, Hp.row_spec.2 ⟨cur, e, (0, 0), hg, ?_, ?_⟩⟩
    · rw [hl, hs, Nat.zero_add]; exact Nat.mul_le_mul_right _ hn
    · rw [hl]; simpa using ht.symm
theorem OwnS.keep {h h' : Hp} {e : TypeId} {sz n c : Nat} {a : Option Addr} {xs : List Value} (H : OwnS h e sz a n c xs) (hk : ∀ g o, a = some ⟨g, 0, none⟩ → h g = some o → h' g = some o) : OwnS h' e sz a n c xs := by
  refine ⟨H.1, ?_⟩
  rcases H.2 with h1 | ⟨g, cur, rfl, hg, h2⟩
  · exact .inl h1
  · exact .inr ⟨g, cur, rfl, hk g _ rfl hg, h2⟩
theorem OwnS.le {h h' : Hp} (hl : h.le h') {e : TypeId} {sz n c : Nat} {a : Option Addr} {xs : List Value} (H : OwnS h e sz a n c xs) : OwnS h' e sz a n c xs := H.keep fun g o _ hg => hl g o hg

/-- What the type table says of a slice type. -/
structure ElT (P : Program) (t e : TypeId) (sz bytes : Nat) : Prop where
  sl : P.underlying t = some (.slice e)
  el : ∃ i z, P.info? e = some i ∧ i.zero = some z ∧ i.size = sz ∧ i.bytes = bytes ∧ z.cells.size = sz
  pos : 0 < sz
def elChk (P : Program) (e : TypeId) (sz bytes : Nat) : Bool :=
  match P.info? e with
  | some i => (match i.zero with | some z => Nat.beq i.size sz && (Nat.beq i.bytes bytes && Nat.beq z.cells.size sz) | none => false)
  | none => false
theorem ElT.of {P : Program} {t e : TypeId} {sz bytes : Nat} (h1 : P.underlying t = some (.slice e)) (h2 : elChk P e sz bytes = true) (h3 : 0 < sz) : ElT P t e sz bytes := by
  refine ⟨h1, ?_, h3⟩
  unfold elChk at h2
  split at h2
  · rename_i i hi
    split at h2
    · rename_i z hz
      simp only [Bool.and_eq_true, Nat.beq_eq] at h2
      exact ⟨i, z, hi, hz, h2.1, h2.2.1, h2.2.2⟩
    · cases h2
  · cases h2
section
variable {P : Program}
theorem HasRow.cells {h : Hp} {w : World} (hs : Sub h w) {a : Addr} {xs : List Value} (H : HasRow h (some a) xs) : ∀ j u, xs[j]? = some u → w.cell? (a.add j) = some u := by
  intro j u hu
  rcases H with rfl | ⟨b, o, e, hr⟩
  · simp at hu
  · cases e
    have := Hp.row_cell hr hu
    have hadd : (⟨b, o, none⟩ : Addr).add j = ⟨b, o + j, none⟩ := by unfold Addr.add; split <;> simp_all
    rw [hadd]
    exact cell_cell this hs
theorem setRow_Sub {h : Hp} {w : World} (hs : Sub h w) {g : Nat} {cs old : Array Value} {t : TypeId} {fz : Nat × Nat} (hg : h g = some (.cells old t fz)) : Sub (h.set g (.cells cs t fz)) (w.setRow g cs) := by
  intro b o hb
  have hw := hs g _ hg
  unfold Hp.set at hb
  split at hb
  · rename_i he; subst he
    simp only [Option.some.injEq] at hb; subst hb
    exact setRow_heap w b old cs t fz hw
  · rename_i hne
    rw [setRow_other w g b cs hne]
    exact hs b o hb
theorem setRow_Fr {h : Hp} {w : World} {g : Nat} {cs old : Array Value} {t : TypeId} {fz : Nat × Nat} (hg : h g = some (.cells old t fz)) : Fr h (h.set g (.cells cs t fz)) w (w.setRow g cs) := by
  refine ⟨rfl, rfl, rfl, by simp, fun b hb hn => ?_⟩
  have hne : b ≠ g := fun e => by subst e; rw [hg] at hn; cases hn
  exact ⟨setRow_other w g b cs hne, by simp [Hp.set, hne, hn]⟩
theorem drew_alloc_Sub {h : Hp} {w : World} (hs : Sub h w) (o : Obj) : Sub (h.set w.heap.size o) (w.drew.alloc o) := Sub.pushSet (w := w.drew) hs o
theorem drew_alloc_Fr (h : Hp) (w : World) (o : Obj) : Fr h (h.set w.heap.size o) w (w.drew.alloc o) :=
  let f := Fr.pushSet h w.drew o; ⟨f.os, f.tape, f.output, f.size, f.keep⟩

/-- 'append(s, x...)', s known whole: what comes of it is known whole; all else is as it was. -/
theorem sem_append {h : Hp} {t ty e : TypeId} {sz bytes : Nat} (T : ElT P t e sz bytes) {a : Option Addr} {n c : Nat} {xs : List Value} (H : OwnS h e sz a n c xs)
    {a2 : Option Addr} {m c2 : Nat} {news : List Value} (H2 : HasRow h a2 news) (hl : news.length = m * sz) (h1 : ∀ u ∈ news, u.oneCell' = true)
    (hb : (n + m) * bytes ≤ 140737488355328) (hm : n + m ≤ 140737488355328) {K : Value → Hp → Prop}
    (hK : ∀ a' c' h', OwnS h' e sz a' (n + m) c' (xs ++ news) → (∀ b o, h b = some o → a ≠ some ⟨b, 0, none⟩ → h' b = some o) → (∀ g, a' = some ⟨g, 0, none⟩ → a = a' ∨ h g = none) → (a' = none → a = none) → (∀ b, h b = none → a' ≠ some ⟨b, 0, none⟩ → h' b = none) → K (vsl a' (n + m) c') h') :
    SemOK P (Builtin.append_ #[t, t] ty #[vsl a n c, vsl a2 m c2]) h K := by
  intro w hs
  obtain ⟨i, z, hi, hz, rfl, rfl, hzs⟩ := T.el
  have hlen : (xs ++ news).length = (n + m) * i.size := by rw [List.length_append, H.1, hl, Nat.add_mul]
  have h63 : n + m ≤ maxLen := by simp only [maxLen]; omega
  by_cases hm0 : m = 0
  · subst hm0
    have hn : news = [] := List.eq_nil_of_length_eq_zero (by simpa using hl)
    subst hn
    refine ⟨vsl a n c, w, h, ?_, hs, Fr.refl h w, ?_⟩
    · have hf : (Builtin.firstCells i.size 0 (.slice a2 0 c2)).run P w = .ok #[] w := by
        cases a2 with
        | none => exact run_firstCells_none w i.size 0 0 c2
        | some ad => exact run_firstCells_some w i.size 0 ad 0 c2 [] (by simp) (by simp)
      rcases H.2 with ⟨rfl, rfl, rfl⟩ | ⟨g, cur, rfl, hg, hnc, hcm, hcs, ht⟩
      · simp [Builtin.append_, run_underlying T.sl, sizeOf, typeInfo, hi, Builtin.lenOf, hf]
      · simp [Builtin.append_, run_underlying T.sl, sizeOf, typeInfo, hi, Builtin.lenOf, hf, hnc, storeCells]
    · have := hK a c h (by simpa using H) (fun b o hb _ => hb) (fun g _ => .inl rfl) (fun e => e) (fun b hb _ => hb)
      simpa using this
  · have hnn : news ≠ [] := fun e => by
      subst e
      have h0 : m * i.size = 0 := by simpa using hl.symm
      rcases Nat.mul_eq_zero.1 h0 with h2 | h2
      · exact hm0 h2
      · have := T.pos; omega
    obtain ⟨b2, o2, rfl, hr2⟩ := (show ∃ b o, a2 = some ⟨b, o, none⟩ ∧ h.row b o news.length = some news from H2.resolve_left hnn)
    have hnews := HasRow.cells hs (a := ⟨b2, o2, none⟩) H2
    have grown : ∀ old, old < n + m → OwnS (h.set w.heap.size (.cells (xs.toArray ++ news.toArray ++ Builtin.zeroCells z.cells (grownCap w (n + m) old e - (n + m))) e (0, 0))) e i.size (some ⟨w.heap.size, 0, none⟩) (n + m) (grownCap w (n + m) old e) (xs ++ news) := by
      intro old ho
      have hge := grownCap_ge w (n + m) old e
      have hcm : grownCap w (n + m) old e ≤ maxLen := grownCap_le_maxLen w (n + m) old e h63
      refine ⟨hlen, .inr ⟨w.heap.size, _, rfl, Hp.set_same _ _ _, hge, hcm, ?_, ?_⟩⟩
      · simp only [Array.size_append, List.size_toArray, size_zeroCells, hzs, H.1, hl, ← Nat.add_mul]
        congr 1
        omega
      · simp only [Array.toList_append, List.append_assoc]
        rw [← List.append_assoc, ← hlen]
        exact List.take_left
    have hno : h w.heap.size = none := Sub.none hs
    have oldk : ∀ (O : Obj) (b : Nat) (o : Obj), h b = some o → (h.set w.heap.size O) b = some o := by
      intro O b o hb
      have : b ≠ w.heap.size := fun e => by subst e; rw [hno] at hb; cases hb
      simp [Hp.set, this, hb]
    have newk : ∀ (O : Obj) (b : Nat), h b = none → some ⟨w.heap.size, 0, none⟩ ≠ some (⟨b, 0, none⟩ : Addr) → (h.set w.heap.size O) b = none := by
      intro O b hb hne
      have : b ≠ w.heap.size := fun e => hne (by rw [e])
      simp [Hp.set, this, hb]
    rcases H.2 with ⟨rfl, rfl, rfl⟩ | ⟨g, cur, rfl, hg, hnc, hcm, hcs, htake⟩
    · have hx : xs = [] := List.eq_nil_of_length_eq_zero (by simpa using H.1)
      subst hx
      have hr := run_append_nil (P := P) w t ty e i z T.sl hi hz ⟨b2, o2, none⟩ m c2 news hl hnews (by omega) (by omega) (by simp only [Nat.zero_add] at hb; omega)
      have hgr := grown 0 (by omega)
      simp only [Nat.zero_add, List.nil_append, Array.empty_append] at hgr hK ⊢
      exact ⟨_, _, _, hr, drew_alloc_Sub hs _, drew_alloc_Fr h w _, hK _ _ _ hgr (fun b o hb _ => oldk _ b o hb) (fun g e => .inr (by simp only [Option.some.injEq, Addr.mk.injEq, and_true] at e; rw [← e]; exact hno)) (by simp) (fun b hb hne => newk _ b hb hne)⟩
    · have hw := hs g _ hg
      by_cases hroom : n + m ≤ c
      · have hfit : n * i.size + news.length ≤ cur.size := by rw [hl, hcs, ← Nat.add_mul]; exact Nat.mul_le_mul_right _ hroom
        have hr := run_append_room (P := P) w t ty e i T.sl hi g n c cur hw ⟨b2, o2, none⟩ m c2 news hl hnews h1 hroom hfit
        refine ⟨_, _, _, hr, setRow_Sub hs hg, setRow_Fr hg, hK _ _ _ ⟨hlen, .inr ⟨g, _, rfl, Hp.set_same _ _ _, hroom, hcm, ?_, ?_⟩⟩ ?_ (fun g' e => .inl rfl) (fun e => e) ?_⟩
        · simp only [List.size_toArray, List.length_append, List.length_take, List.length_drop, Array.length_toList]
          omega
        · simp only
          rw [htake, ← hlen]
          exact List.take_left
        · intro b o hb hne
          have : b ≠ g := fun e => hne (by rw [e])
          simp [Hp.set, this, hb]
        · intro b hb hne
          have : b ≠ g := fun e => hne (by rw [e])
          simp [Hp.set, this, hb]
      · have holds : ∀ j u, xs[j]? = some u → w.cell? ((⟨g, 0, none⟩ : Addr).add j) = some u := HasRow.cells hs (a := ⟨g, 0, none⟩) H.row
        have hr := run_append_grow (P := P) w t ty e i z T.sl hi hz ⟨g, 0, none⟩ n c xs H.1 holds ⟨b2, o2, none⟩ m c2 news hl hnews (by omega) (by omega) (growslice_fits (by omega) hb)
        have hgr := grown c (by omega)
        exact ⟨_, _, _, hr, drew_alloc_Sub hs _, drew_alloc_Fr h w _, hK _ _ _ hgr (fun b o hb _ => oldk _ b o hb) (fun g e => .inr (by simp only [Option.some.injEq, Addr.mk.injEq, and_true] at e; rw [← e]; exact hno)) (fun e => by cases e) (fun b hb hne => newk _ b hb hne)⟩
end
end Go.Vc
