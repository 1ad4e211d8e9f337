/-
  The framework, part O: what came in, opened: from the reading of an argument to what is known of the heap. No program in sight. Conditions: none.
-/
import Derived.Test.YtjdheefginfjgaaVcN
namespace Go.Vc
open Go
set_option linter.unusedVariables false

/-- What is asked of how much was read: of slices and of texts, and of all parts. -/
structure SmOK {H : Type} (Sm : DataW H → Prop) (N : Nat → Prop) : Prop where
  zero : N 0
  slice : ∀ es sp, Sm (.slice es sp) → N es.length ∧ ∀ x ∈ es, Sm x
  agg : ∀ xs, Sm (.agg xs) → ∀ x ∈ xs, Sm x
  str : ∀ l, Sm (.lit (.string l)) → N l.length
  ptr : ∀ x, Sm (.ptr x) → Sm x

theorem smTrue {H : Type} : SmOK (H := H) (fun _ => True) (fun _ => True) := ⟨trivial, fun _ _ _ => ⟨trivial, fun _ _ => trivial⟩, fun _ _ _ _ => trivial, fun _ _ => trivial, fun _ _ => trivial⟩

section
variable {P : Program} {H : Type} {enc0 : TypeId × Value → H} {w : World} {Sm : DataW H → Prop} {N : Nat → Prop}

/-- A cell that was read. -/
def Leaf (P : Program) (enc0 : TypeId × Value → H) (w : World) (Sm : DataW H → Prop) (t : TypeId) (v : Value) : Prop :=
  ∃ fuel d ps, DataW.trod enc0 P w 0 (fun _ => true) true fuel t [v] = some (d, ps) ∧ Sm d
/-- Cells that were read. -/
def LeafC (P : Program) (enc0 : TypeId × Value → H) (w : World) (Sm : DataW H → Prop) (t : TypeId) (cs : List Value) : Prop :=
  ∃ fuel d ps, DataW.trod enc0 P w 0 (fun _ => true) true fuel t cs = some (d, ps) ∧ Sm d

theorem leaf_int {t : TypeId} {k : IntKind} (hu : P.underlying t = some (.int k)) {cs : List Value} (L : LeafC P enc0 w Sm t cs) : ∃ n, cs = [.int k n] ∧ (Lit.int k n).wf = true := by
  obtain ⟨fuel, d, ps, h, _⟩ := L
  cases fuel with
  | zero => simp [DataW.trod] at h
  | succ fuel =>
    unfold DataW.trod at h
    rw [hu] at h
    split at h <;> first | (cases h; done) | skip
    all_goals simp_all
theorem leaf_i64 {t : TypeId} (hu : P.underlying t = some (.int .i64)) {cs : List Value} (L : LeafC P enc0 w Sm t cs) : ∃ n, cs = [vi n] ∧ InR n := by
  obtain ⟨n, rfl, h⟩ := leaf_int hu L
  exact ⟨n, rfl, by simpa [Lit.wf, IntKind.min, IntKind.max, IntKind.signed, IntKind.bits, InR] using h⟩
theorem leaf_bool {t : TypeId} (hu : P.underlying t = some .bool) {cs : List Value} (L : LeafC P enc0 w Sm t cs) : ∃ b, cs = [vb b] := by
  obtain ⟨fuel, d, ps, h, _⟩ := L
  cases fuel with
  | zero => simp [DataW.trod] at h
  | succ fuel =>
    unfold DataW.trod at h
    rw [hu] at h
    split at h <;> first | (cases h; done) | skip
    all_goals simp_all
theorem leaf_string (hS : SmOK Sm N) {t : TypeId} (hu : P.underlying t = some .string) {cs : List Value} (L : LeafC P enc0 w Sm t cs) : ∃ s, cs = [vs s] ∧ N s.size ∧ s.size ≤ maxLen := by
  obtain ⟨fuel, d, ps, h, hm⟩ := L
  cases fuel with
  | zero => simp [DataW.trod] at h
  | succ fuel =>
    unfold DataW.trod at h
    rw [hu] at h
    split at h <;> first | (rename_i hx; cases hx; done) | (cases h; done) | skip
    split at h
    · rename_i sz hsz
      simp only [Option.some.injEq, Prod.mk.injEq] at h
      obtain ⟨rfl, rfl⟩ := h
      have := hS.str _ hm
      exact ⟨_, rfl, by simpa using this, hsz⟩
    · cases h

theorem row_of_cells {b o : Nat} {xs : List Value} (hne : xs ≠ []) (h : ∀ j x, xs[j]? = some x → w.cell? ⟨b, o + j, none⟩ = some x) : (hpOf w).row b o xs.length = some xs := by
  obtain ⟨x0, l0, rfl⟩ := List.exists_cons_of_ne_nil hne
  have h0 := h 0 x0 rfl
  unfold World.cell? at h0
  simp only at h0
  cases hb : w.heap[b]? with
  | none => rw [hb] at h0; cases h0
  | some ob =>
    cases ob with
    | cells c t f =>
      have hc : ∀ j x, (x0 :: l0)[j]? = some x → c[o + j]? = some x := by
        intro j x hx
        have := h j x hx
        unfold World.cell? at this
        simp only [hb] at this
        simpa using this
      refine Hp.row_spec.2 ⟨c, t, f, hb, ?_, ?_⟩
      · have := hc l0.length ((x0 :: l0)[l0.length]) (by rw [List.getElem?_eq_getElem (by simp)])
        have := (Array.getElem?_eq_some_iff.1 this).1
        simp only [List.length_cons]
        omega
      · apply List.ext_getElem?
        intro j
        rw [List.getElem?_take]
        split
        · rename_i hj
          rw [List.getElem?_drop]
          have := hc j ((x0 :: l0)[j]) (List.getElem?_eq_getElem hj)
          rw [List.getElem?_eq_getElem hj]
          simpa using this.symm
        · rename_i hj
          exact List.getElem?_eq_none (by omega)
    | _ => rw [hb] at h0; simp at h0

theorem mapM_get {α β : Type} {f : α → Option β} : ∀ {l : List α} {ys : List β}, l.mapM f = some ys → ∀ (i : Nat) (x : α), l[i]? = some x → ∃ y, ys[i]? = some y ∧ f x = some y
  | [], ys, h, i, x, hx => by simp at hx
  | a :: l, ys, h, i, x, hx => by
    rw [List.mapM_cons] at h
    simp only [Option.bind_eq_bind, Option.bind_eq_some_iff, Option.pure_def, Option.some.injEq] at h
    obtain ⟨y, hy, zs, hzs, rfl⟩ := h
    cases i with
    | zero => simp at hx; subst hx; exact ⟨y, rfl, hy⟩
    | succ i => simpa using mapM_get hzs i x (by simpa using hx)
theorem cells_get {w : World} {base : Nat} {a : Addr} {n : Nat} {cs : List Value} (h : w.cells? base a n = some cs) : cs.length = n ∧ ∀ j x, cs[j]? = some x → w.cell? (a.add j) = some x := by
  unfold World.cells? at h
  split at h
  · have hl := length_mapM h
    rw [List.length_range] at hl
    refine ⟨hl, fun j x hx => ?_⟩
    have hj : j < n := by rw [← hl]; exact (List.getElem?_eq_some_iff.1 hx).1
    obtain ⟨y, h1, h2⟩ := mapM_get h j j (by simp [hj])
    rw [hx] at h1
    cases h1
    exact h2
  · cases h

/-- A slice that came in, its elements of known cells. -/
theorem leaf_slice {α : Type} {enc : α → List Value} {sz : Nat} {good : α → Prop} (hS : SmOK Sm N) {t e : TypeId} (hu : P.underlying t = some (.slice e)) (hsz : P.cellsOf e = sz) (hz : 0 < sz) (he : ∀ x, (enc x).length = sz)
    (hel : ∀ cs, LeafC P enc0 w Sm e cs → ∃ y, cs = enc y ∧ good y) {cs : List Value} (L : LeafC P enc0 w Sm t cs) :
    ∃ a n c l, cs = [vsl a n c] ∧ SlP enc (hpOf w) a n l ∧ n ≤ c ∧ c ≤ maxLen ∧ N n ∧ ∀ y ∈ l, good y := by
  obtain ⟨fuel, d, ps, h, hm⟩ := L
  cases fuel with
  | zero => simp [DataW.trod] at h
  | succ fuel =>
    unfold DataW.trod at h
    rw [hu] at h
    split at h <;> first | (rename_i hx; cases hx; done) | (cases h; done) | skip
    · exact ⟨none, 0, 0, [], rfl, ⟨rfl, .inl rfl⟩, Nat.le_refl _, Nat.zero_le _, hS.zero, by simp⟩
    · rename_i e' a len cap hx
      cases hx
      split at h
      · rename_i hc
        simp only [Option.bind_eq_some_iff, Option.map_eq_some_iff] at h
        obtain ⟨elems, he1, rest, hr, hx⟩ := h
        simp only [Prod.mk.injEq] at hx
        obtain ⟨rfl, rfl⟩ := hx
        have hel1 : elems.length = len := by have := length_mapM he1; simpa using this
        have hm1 := hS.slice _ _ hm
        rw [List.length_map, hel1] at hm1
        have each : ∀ i : Nat, i < len → ∃ y, good y ∧ w.cells? 0 (a.add (i * sz)) sz = some (enc y) := by
          intro i hi
          obtain ⟨x, h1, h2⟩ := mapM_get he1 i i (by simp [hi])
          simp only [Option.bind_eq_some_iff] at h2
          obtain ⟨cs, h3, h4⟩ := h2
          rw [hsz] at h3
          obtain ⟨y, rfl, hg⟩ := hel cs ⟨fuel, x.1, x.2, h4, hm1.2 x.1 (List.mem_map.2 ⟨x, List.mem_of_getElem? h1, rfl⟩)⟩
          exact ⟨y, hg, h3⟩
        have all : ∃ l : List α, l.length = len ∧ (∀ y ∈ l, good y) ∧ ∀ i y, l[i]? = some y → w.cells? 0 (a.add (i * sz)) sz = some (enc y) := by
          clear hm hm1 he1 hr hel1 hc
          induction len with
          | zero => exact ⟨[], rfl, by simp, by simp⟩
          | succ n ih =>
            obtain ⟨l, h1, h2, h3⟩ := ih (fun i hi => each i (by omega))
            obtain ⟨y, h4, h5⟩ := each n (by omega)
            refine ⟨l ++ [y], by simp [h1], ?_, ?_⟩
            · intro z hz'
              rcases List.mem_append.1 hz' with h6 | h6
              · exact h2 z h6
              · simp at h6; subst h6; exact h4
            · intro i z hz'
              rcases Nat.lt_or_ge i n with h6 | h6
              · rw [List.getElem?_append_left (by omega)] at hz'
                exact h3 i z hz'
              · rw [List.getElem?_append_right (by omega)] at hz'
                have : i = n := by
                  have := (List.getElem?_eq_some_iff.1 hz').1
                  simp at this
                  omega
                subst this
                rw [h1, Nat.sub_self] at hz'
                simp at hz'
                subst hz'
                exact h5
        obtain ⟨l, hl, hg, hcs⟩ := all
        refine ⟨some a, len, cap, l, rfl, ⟨hl.symm, ?_⟩, hc.2.1, hc.2.2, hm1.1, hg⟩
        cases l with
        | nil => exact .inl rfl
        | cons y l =>
          refine .inr ?_
          have c0 := (cells_get (hcs 0 y rfl)).2
          have hx0 : ∃ x, (enc y)[0]? = some x := ⟨_, List.getElem?_eq_getElem (by rw [he]; exact hz)⟩
          obtain ⟨x0, hx0⟩ := hx0
          have a0 := c0 0 x0 hx0
          obtain ⟨b, o, spot⟩ := a
          have hs : spot = none := by
            cases spot with
            | none => rfl
            | some s =>
              simp only [Nat.zero_mul, Addr.add] at a0
              unfold World.cell? at a0
              simp at a0
              split at a0 <;> simp at a0
          subst hs
          refine ⟨b, o, rfl, row_of_cells (by
            intro hn
            have := congrArg List.length hn
            rw [List.flatMap_cons, List.length_append, he] at this
            simp at this
            omega) ?_⟩
          intro j x hx
          have ad : ∀ o k, (⟨b, o, none⟩ : Addr).add k = ⟨b, o + k, none⟩ := by intro o k; unfold Addr.add; split <;> simp_all
          have hlen := flatMap_length he (y :: l)
          have hj : j < (y :: l).length * sz := by rw [← hlen]; exact (List.getElem?_eq_some_iff.1 hx).1
          have hq : j / sz < (y :: l).length := (Nat.div_lt_iff_lt_mul hz).2 hj
          have hd : sz * (j / sz) + j % sz = j := Nat.div_add_mod j sz
          have hr' : j % sz < sz := Nat.mod_lt _ hz
          have key : ((y :: l).flatMap enc)[j]? = (enc ((y :: l)[j / sz]))[j % sz]? := by
            have h1 := flatMap_drop he (j / sz) (y :: l)
            have h2 : ((y :: l).flatMap enc)[j]? = (((y :: l).flatMap enc).drop ((j / sz) * sz))[j % sz]? := by
              rw [List.getElem?_drop]
              congr 1
              rw [Nat.mul_comm]
              exact hd.symm
            rw [h2, h1, List.drop_eq_getElem_cons hq, List.flatMap_cons, List.getElem?_append_left (by rw [he]; exact hr')]
          rw [key] at hx
          have := (cells_get (hcs (j / sz) _ (List.getElem?_eq_getElem hq))).2 _ _ hx
          rw [ad, ad] at this
          have e3 : o + j / sz * sz + j % sz = o + j := by
            rw [Nat.mul_comm (j / sz) sz]; omega
          rw [e3] at this
          exact this
      · cases h

def flatIds (P : Program) : Nat → TypeId → List TypeId
  | 0, t => [t]
  | n + 1, t => match P.underlying t with
    | some (.struct fs) => fs.toList.flatMap fun f => flatIds P n f.type
    | _ => [t]
/-- The fields lie one behind the other. -/
def contig (P : Program) (N : Nat) : Nat → List Field → Bool
  | o, [] => Nat.beq o N
  | o, f :: l => Nat.beq f.offset o && contig P N (o + P.cellsOf f.type) l
def flatOK (P : Program) : Nat → TypeId → Bool
  | 0, _ => false
  | n + 1, t => match P.underlying t with
    | some (.struct fs) => contig P (P.cellsOf t) 0 fs.toList && fs.toList.all fun f => flatOK P n f.type
    | some (.array _ _) => false
    | some _ => Nat.beq (P.cellsOf t) 1
    | none => false
def LeafL (P : Program) (enc0 : TypeId × Value → H) (w : World) (Sm : DataW H → Prop) : List TypeId → List Value → Prop
  | [], [] => True
  | t :: ts, v :: vs => LeafC P enc0 w Sm t [v] ∧ LeafL P enc0 w Sm ts vs
  | _, _ => False
theorem leafL_append : ∀ {ts ts' : List TypeId} {vs vs' : List Value}, LeafL P enc0 w Sm ts vs → LeafL P enc0 w Sm ts' vs' → LeafL P enc0 w Sm (ts ++ ts') (vs ++ vs')
  | [], _, [], _, _, h => h
  | _ :: _, _, _ :: _, _, h1, h2 => ⟨h1.1, leafL_append h1.2 h2⟩
  | [], _, _ :: _, _, h, _ => h.elim
  | _ :: _, _, [], _, h, _ => h.elim
theorem trod_len {fuel : Nat} {t : TypeId} {cs : List Value} {x : DataW H × List MemPlace} (h : DataW.trod enc0 P w 0 (fun _ => true) true fuel t cs = some x) : (∃ v, cs = [v]) ∨ cs.length = P.cellsOf t := by
  cases fuel with
  | zero => simp [DataW.trod] at h
  | succ fuel =>
    unfold DataW.trod at h
    split at h <;> first | exact .inl ⟨_, rfl⟩ | skip
    · split at h
      · exact .inr (by assumption)
      · cases h
    · split at h
      · exact .inr (by assumption)
      · cases h
    · cases h
theorem leaf_flat (hS : SmOK Sm N) : ∀ (n : Nat) {t : TypeId} {cs : List Value}, flatOK P n t = true → LeafC P enc0 w Sm t cs → LeafL P enc0 w Sm (flatIds P n t) cs
  | 0, t, cs, h, _ => by simp [flatOK] at h
  | n + 1, t, cs, h, L => by
    unfold flatOK at h
    unfold flatIds
    split at h
    · rename_i fs hu
      simp only [hu]
      obtain ⟨fuel, d, ps, ht, hm⟩ := L
      cases fuel with
      | zero => simp [DataW.trod] at ht
      | succ fuel =>
        unfold DataW.trod at ht
        rw [hu] at ht
        simp only at ht
        split at ht
        · rename_i hlen
          simp only [Option.map_eq_some_iff] at ht
          obtain ⟨xs, hx, he⟩ := ht
          simp only [Prod.mk.injEq] at he
          obtain ⟨rfl, rfl⟩ := he
          have hm' := hS.agg _ hm
          simp only [Bool.and_eq_true] at h
          have go : ∀ (l : List Field) (o : Nat) (xs : List (DataW H × List MemPlace)), contig P (P.cellsOf t) o l = true → (∀ f ∈ l, flatOK P n f.type = true) →
              (l.mapM fun f => DataW.trod enc0 P w 0 (fun _ => true) true fuel f.type ((cs.drop f.offset).take (P.cellsOf f.type))) = some xs → (∀ x ∈ xs, Sm x.1) → o ≤ cs.length → LeafL P enc0 w Sm (l.flatMap fun f => flatIds P n f.type) (cs.drop o) := by
            intro l
            induction l with
            | nil =>
              intro o xs hc _ _ _ _
              simp only [contig, Nat.beq_eq] at hc
              rw [List.flatMap_nil, List.drop_of_length_le (by rw [hlen, hc]; exact Nat.le_refl _)]
              trivial
            | cons f l ih =>
              intro o xs hc hk hmm hsm ho
              simp only [contig, Bool.and_eq_true, Nat.beq_eq] at hc
              rw [List.mapM_cons] at hmm
              simp only [Option.bind_eq_bind, Option.bind_eq_some_iff, Option.pure_def, Option.some.injEq] at hmm
              obtain ⟨y, hy, zs, hzs, rfl⟩ := hmm
              rw [hc.1] at hy
              have h1 := leaf_flat hS n (hk f (by simp)) ⟨fuel, y.1, y.2, hy, hsm y (by simp)⟩
              have hle : o + P.cellsOf f.type ≤ cs.length := by
                have : ∀ (l : List Field) (o : Nat), contig P (P.cellsOf t) o l = true → o ≤ P.cellsOf t := by
                  intro l
                  induction l with
                  | nil => intro o hc; simp only [contig, Nat.beq_eq] at hc; omega
                  | cons g l ih => intro o hc; simp only [contig, Bool.and_eq_true] at hc; have := ih _ hc.2; omega
                rw [hlen]
                exact this l _ hc.2
              have h2 := ih (o + P.cellsOf f.type) zs hc.2 (fun g hg => hk g (by simp [hg])) hzs (fun x hx => hsm x (by simp [hx])) hle
              have := leafL_append h1 h2
              rw [List.flatMap_cons]
              rw [← List.drop_drop, List.take_append_drop] at this
              exact this
          have := go fs.toList 0 xs h.1 (fun f hf => List.all_eq_true.1 h.2 f hf) hx (fun x hx => hm' x.1 (List.mem_map.2 ⟨x, hx, rfl⟩)) (Nat.zero_le _)
          simpa using this
        · cases ht
    · cases h
    · rename_i u hu hns hna
      have hl : ∃ v, cs = [v] := by
        obtain ⟨fuel, d, ps, ht, hm⟩ := L
        rcases trod_len ht with h1 | h1
        · exact h1
        · rw [Nat.beq_eq] at h
          rw [h] at h1
          exact List.length_eq_one_iff.1 h1
      obtain ⟨v, rfl⟩ := hl
      split
      · rename_i fs' e9
        exfalso
        simp_all
        rename_i e10
        first | exact hu _ e10.symm | exact hu _ hna.symm | exact hu _ e9.symm
      · exact ⟨L, trivial⟩
    · cases h

/-- An argument that was read. -/
theorem leafC_of {t : TypeId} {v : Value} {d : DataW H} {ps : List MemPlace} (h : DataW.Trod enc0 P w 0 (fun _ => true) true t v d ps) (hm : Sm d) : LeafC P enc0 w Sm t v.cells.toList := by
  obtain ⟨fuel, h⟩ := h
  exact ⟨fuel, d, ps, h, hm⟩
end
end Go.Vc
