/-
  The framework of this prover's proofs, part B: operations that do not change the heap run as part A says. Conditions: none.
-/
import Derived.Test.YtjdheefginfjgaaVcA
set_option linter.unusedVariables false
namespace Go.Vc
open Go

def SV.ok (ρ : Nat → Option Nat) : SV → Value → Prop
  | .t x, y => y = x.val
  | .tup l, y => y = .tuple (twals l).toArray
  | .bp i o, y => ∃ b, ρ i = some b ∧ y = .pointer (some ⟨b, o, none⟩)
  | .any, _ => True
def Sl.ok (ρ : Nat → Option Nat) (tm : Array Value) : Sl → Value → Prop
  | .s x, y => x.ok ρ y
  | .gd k p x, y => (tm.getD k undef = .bool p → x.ok ρ y) ∧ (tm.getD k undef ≠ .bool p → y = undef)

structure RelR (ρ : Nat → Option Nat) (w0 : World) (h0 : Hp) (st : St) (h : Hp) (a : Act) (w : World) : Prop where
  n : a.tmps.size = st.n
  d : a.defers = []
  fr : ∀ i, (st.t i).ok ρ a.tmps (a.tmps.getD i undef)
  gd : ∀ i s p x, st.t i = .gd s p x → st.g s = true
  sub : Sub h w
  F : Fr h0 h w0 w
  box : ∀ i bx, st.b[i]? = some bx → ∃ b, ρ i = some b ∧ w.heap[b]? = some (.cells (tvals bx.c).toArray bx.ty (0, 0)) ∧ h b = none ∧ w0.heap.size ≤ b
  dom : ∀ i b, ρ i = some b → i < st.b.length
  inj : ∀ i j b, ρ i = some b → ρ j = some b → i = j
def Rel (w0 : World) (h0 : Hp) (st : St) (h : Hp) (a : Act) (w : World) : Prop := ∃ ρ, RelR ρ w0 h0 st h a w

theorem tvOf_val (v : Value) : (tvOf v).val = v := by cases v <;> rfl
theorem SV.val?_ok {ρ : Nat → Option Nat} {x : SV} {v y : Value} (h : x.val? = some v) (hy : x.ok ρ y) : y = v := by
  cases x <;> simp only [SV.val?, SV.ok, Option.some.injEq, reduceCtorEq] at h hy
  · rw [hy, h]
  · rw [hy, h]
theorem tvals_length (l : List TV) : (tvals l).length = l.length := by induction l <;> simp_all [tvals]
theorem tvals_append (l m : List TV) : tvals (l ++ m) = tvals l ++ tvals m := by induction l <;> simp_all [tvals]
theorem tvals_drop (l : List TV) (n : Nat) : tvals (l.drop n) = (tvals l).drop n := by induction l generalizing n <;> cases n <;> simp_all [tvals]
theorem tvals_take (l : List TV) (n : Nat) : tvals (l.take n) = (tvals l).take n := by induction l generalizing n <;> cases n <;> simp_all [tvals]
theorem tvals_tvsOf (l : List Value) : tvals (tvsOf l) = l := by induction l <;> simp_all [tvals, tvsOf, tvOf_val]
theorem TW.cells_val (x : TW) : tvals x.cells = x.val.cells.toList ∨ ∃ v, x = .one v ∧ ∃ l, v.val = .agg l := by
  cases x with
  | one v =>
    cases hv : v.val <;> simp [TW.cells, TW.val, tvals, hv, Value.cells]
  | ag l => left; simp [TW.cells, TW.val, Value.cells]

theorem memC_spec {s : Nat} {p : Bool} {ch : List (Nat × Bool)} (h : memC s p ch = true) : (s, p) ∈ ch := by
  induction ch with
  | nil => simp [memC] at h
  | cons x l ih =>
    obtain ⟨y, q⟩ := x
    simp only [memC] at h
    cases hc : (Nat.beq s y && (p == q)) with
    | true =>
      simp only [Bool.and_eq_true, beq_iff_eq] at hc
      have := Nat.eq_of_beq_eq_true hc.1
      simp [this, hc.2]
    | false => rw [hc] at h; simp only [cond_false] at h; exact List.mem_cons_of_mem _ (ih h)
theorem memN_iff {s : Nat} {l : List Nat} : memN s l = true ↔ s ∈ l := by
  induction l with
  | nil => simp [memN]
  | cons y l ih =>
    simp only [memN, List.mem_cons]
    cases hc : Nat.beq s y with
    | true => simp [Nat.eq_of_beq_eq_true hc]
    | false => have := Nat.ne_of_beq_eq_false hc; simp [ih, this]

section
variable {ρ : Nat → Option Nat} {w0 : World} {h0 : Hp} {st : St} {h : Hp} {a : Act} {w : World}

theorem ev_ok (R : RelR ρ w0 h0 st h a w) {ch : List (Nat × Bool)} (hch : ∀ s p, (s, p) ∈ ch → a.tmps.getD s undef = .bool p) (x : Operand) : (st.ev ch x).ok ρ (a.eval x) := by
  cases x with
  | tmp i =>
    have := R.fr i
    simp only [St.ev, Act.eval]
    cases hi : st.t i with
    | s x => simpa [hi, Sl.ok] using this
    | gd s p x =>
      simp only [hi, Sl.ok] at this ⊢
      cases hm : memC s p ch with
      | true => exact this.1 (hch s p (memC_spec hm))
      | false => trivial
  | const v => simp [St.ev, Act.eval, SV.ok, TW.val, tvOf_val]
  | global g => simp [St.ev, Act.eval, SV.ok, TW.val, TV.val]
  | func f => simp [St.ev, Act.eval, SV.ok, TW.val, TV.val]

theorem val_ok (R : RelR ρ w0 h0 st h a w) {ch : List (Nat × Bool)} (hch : ∀ s p, (s, p) ∈ ch → a.tmps.getD s undef = .bool p) {x : Operand} {v : Value} (hv : (st.ev ch x).val? = some v) : a.eval x = v :=
  SV.val?_ok hv (ev_ok R hch x)

theorem evs_ok (R : RelR ρ w0 h0 st h a w) {ch : List (Nat × Bool)} (hch : ∀ s p, (s, p) ∈ ch → a.tmps.getD s undef = .bool p) : ∀ {l : List Operand} {vs : List Value}, st.evs ch l = some vs → l.map a.eval = vs
  | [], vs, hv => by simp [St.evs] at hv; simp [hv]
  | x :: l, vs, hv => by
    simp only [St.evs] at hv
    split at hv
    · rename_i v vs' hx hl
      simp only [Option.some.injEq] at hv
      subst hv
      simp [val_ok R hch hx, evs_ok R hch hl]
    · simp at hv

theorem one1_val {v : TV} (h : one1 v = true) : one? v.val = true := by
  cases v with
  | v x => exact h
  | hp b o => rfl
  | ifc e => rcases e with _ | ⟨t, v⟩ <;> rfl
theorem one?_cell {v : Value} (h : one? v = true) : v.oneCell' = true := by cases v <;> simp_all [one?, Value.oneCell']
theorem allOneT_cells : ∀ {l : List TV}, allOneT l = true → ∀ v ∈ tvals l, v.oneCell' = true
  | [], _, v, hv => by simp [tvals] at hv
  | x :: l, h, v, hv => by
    simp only [allOneT, Bool.and_eq_true] at h
    simp only [tvals, List.mem_cons] at hv
    rcases hv with rfl | hv
    · exact one?_cell (one1_val h.1)
    · exact allOneT_cells h.2 v hv
theorem plainW_cells {x : TW} (h : plainW x = true) : tvals x.cells = x.val.cells.toList := by
  cases x with
  | one v =>
    have := one1_val (show one1 v = true from h)
    cases hv : v.val <;> simp_all [TW.cells, TW.val, tvals, Value.cells, one?]
  | ag l => simp [TW.cells, TW.val, Value.cells]
theorem partsL_plain {st : St} {ch : List (Nat × Bool)} : ∀ {l : List (Nat × Operand)} {vs : List (Nat × TW)}, partsL st ch l = some vs → ∀ q ∈ vs, plainW q.2 = true
  | [], vs, hv, q, hq => by simp [partsL] at hv; subst hv; simp at hq
  | (i, x) :: l, vs, hv, q, hq => by
    simp only [partsL] at hv
    split at hv
    · rename_i v vs' hx hl
      cases hp : plainW v with
      | false => simp [hp] at hv
      | true =>
      simp only [hp, cond_true, Option.some.injEq] at hv
      subst hv
      simp only [List.mem_cons] at hq
      rcases hq with rfl | hq
      · exact hp
      · exact partsL_plain hl q hq
    · simp at hv

theorem optV_ok (R : RelR ρ w0 h0 st h a w) {ch : List (Nat × Bool)} (hch : ∀ s p, (s, p) ∈ ch → a.tmps.getD s undef = .bool p) {x : Option Operand} {v : Option Value} (hv : optV st ch x = some v) : x.map a.eval = v := by
  cases x with
  | none => simp [optV] at hv; simp [hv]
  | some x =>
    simp only [optV] at hv
    split at hv
    · rename_i v' hx; simp only [Option.some.injEq] at hv; subst hv; simp [val_ok R hch hx]
    · simp at hv

theorem partsL_ok (R : RelR ρ w0 h0 st h a w) {ch : List (Nat × Bool)} (hch : ∀ s p, (s, p) ∈ ch → a.tmps.getD s undef = .bool p) : ∀ {l : List (Nat × Operand)} {vs : List (Nat × TW)}, partsL st ch l = some vs → l.map (fun q => (q.1, a.eval q.2)) = vs.map (fun q => (q.1, q.2.val))
  | [], vs, hv => by simp [partsL] at hv; simp [← hv]
  | (i, x) :: l, vs, hv => by
    simp only [partsL] at hv
    split at hv
    · rename_i v vs' hx hl
      cases hp : plainW v with
      | false => simp [hp] at hv
      | true =>
      simp only [hp, cond_true, Option.some.injEq] at hv
      subst hv
      have e := ev_ok R hch x
      have : a.eval x = v.val := by
        cases hs : st.ev ch x with
        | t y => rw [hs] at hx e; simp only [SV.tw?, Option.some.injEq] at hx; subst hx; exact e
        | _ => rw [hs] at hx; simp [SV.tw?] at hx
      simp [this, partsL_ok R hch hl]
    · simp at hv
end

theorem ex1_elim {s : Sh1} {K : TV → Prop} (H : ex1 s K) : ∃ x, K x := by
  cases s <;> simp only [ex1] at H
  case slice => obtain ⟨a, n, c, H⟩ := H; exact ⟨_, H⟩
  all_goals (obtain ⟨x, H⟩ := H; exact ⟨_, H⟩)
theorem exL_elim : ∀ {l : List Sh1} {K : List TV → Prop}, exL l K → ∃ x, K x ∧ x.length = l.length
  | [], K, H => ⟨[], H, rfl⟩
  | s :: l, K, H => by
    obtain ⟨x, H⟩ := ex1_elim (show ex1 s _ from H)
    obtain ⟨xs, H, e⟩ := exL_elim H
    exact ⟨x :: xs, H, by simp [e]⟩
theorem ex0_elim {s : Sh0} {K : TW → Prop} (H : ex0 s K) : ∃ x, K x := by
  cases s with
  | one s => obtain ⟨x, H⟩ := ex1_elim (show ex1 s _ from H); exact ⟨_, H⟩
  | agg l => obtain ⟨x, H, _⟩ := exL_elim (show exL l _ from H); exact ⟨_, H⟩
theorem ex0L_elim : ∀ {l : List Sh0} {K : List TW → Prop}, ex0L l K → ∃ x, K x
  | [], K, H => ⟨[], H⟩
  | s :: l, K, H => by
    obtain ⟨x, H⟩ := ex0_elim (show ex0 s _ from H)
    obtain ⟨xs, H⟩ := ex0L_elim H
    exact ⟨x :: xs, H⟩
/-- What 'exS' hands on is a value, not a box. -/
def SV.isVal : SV → Prop
  | .t _ | .tup _ => True
  | _ => False
theorem exS_elim {s : Sh} {K : SV → Prop} (H : exS s K) : ∃ x, K x ∧ x.isVal := by
  cases s with
  | s s => obtain ⟨x, H⟩ := ex0_elim (show ex0 s _ from H); exact ⟨_, H, trivial⟩
  | tup l => obtain ⟨x, H⟩ := ex0L_elim (show ex0L l _ from H); exact ⟨_, H, trivial⟩
theorem SV.ok_val {ρ : Nat → Option Nat} {x : SV} (h : x.isVal) : x.ok ρ x.val := by
  cases x <;> first | rfl | exact h.elim

theorem ex1_mono {s : Sh1} {K K' : TV → Prop} (hk : ∀ x, K x → K' x) (H : ex1 s K) : ex1 s K' := by
  cases s <;> simp only [ex1] at H ⊢
  case slice => obtain ⟨a, n, c, H⟩ := H; exact ⟨a, n, c, hk _ H⟩
  all_goals (obtain ⟨x, H⟩ := H; exact ⟨x, hk _ H⟩)
theorem exL_mono : ∀ {l : List Sh1} {K K' : List TV → Prop}, (∀ x, K x → K' x) → exL l K → exL l K'
  | [], K, K', hk, H => hk _ H
  | s :: l, K, K', hk, H => ex1_mono (fun x hx => exL_mono (fun xs hxs => hk _ hxs) hx) (show ex1 s _ from H)
theorem ex0_mono {s : Sh0} {K K' : TW → Prop} (hk : ∀ x, K x → K' x) (H : ex0 s K) : ex0 s K' := by
  cases s with
  | one s => exact ex1_mono (fun x hx => hk _ hx) (show ex1 s _ from H)
  | agg l => exact exL_mono (fun x hx => hk _ hx) (show exL l _ from H)
theorem ex0L_mono : ∀ {l : List Sh0} {K K' : List TW → Prop}, (∀ x, K x → K' x) → ex0L l K → ex0L l K'
  | [], K, K', hk, H => hk _ H
  | s :: l, K, K', hk, H => ex0_mono (fun x hx => ex0L_mono (fun xs hxs => hk _ hxs) hx) (show ex0 s _ from H)
theorem exS_mono {s : Sh} {K K' : SV → Prop} (hk : ∀ x, K x → K' x) (H : exS s K) : exS s K' := by
  cases s with
  | s s => exact ex0_mono (fun x hx => hk _ hx) (show ex0 s _ from H)
  | tup l => exact ex0L_mono (fun x hx => hk _ hx) (show ex0L l _ from H)
theorem ex1_pick' {s : Sh1} {K : TV → Prop} (H : ex1 s K) : ∃ x, ex1 s (fun y => y = x) ∧ K x := by
  cases s <;> simp only [ex1] at H ⊢
  case slice => obtain ⟨a, n, c, h2⟩ := H; exact ⟨_, ⟨a, n, c, rfl⟩, h2⟩
  all_goals (obtain ⟨x, h2⟩ := H; exact ⟨_, ⟨x, rfl⟩, h2⟩)
theorem exL_pick' : ∀ {l : List Sh1} {K : List TV → Prop}, exL l K → ∃ x, exL l (fun y => y = x) ∧ K x
  | [], K, H => ⟨[], rfl, H⟩
  | s :: l, K, H => by
    obtain ⟨x, h1, h2⟩ := ex1_pick' (show ex1 s _ from H)
    obtain ⟨xs, h3, h4⟩ := exL_pick' h2
    exact ⟨x :: xs, ex1_mono (fun y hy => exL_mono (fun ys hys => by rw [hy, hys]) h3) h1, h4⟩
theorem ex0_pick' {s : Sh0} {K : TW → Prop} (H : ex0 s K) : ∃ x, ex0 s (fun y => y = x) ∧ K x := by
  cases s with
  | one s => obtain ⟨x, h1, h2⟩ := ex1_pick' (show ex1 s _ from H); exact ⟨_, ex1_mono (fun y hy => by rw [hy]) h1, h2⟩
  | agg l => obtain ⟨x, h1, h2⟩ := exL_pick' (show exL l _ from H); exact ⟨_, exL_mono (fun y hy => by rw [hy]) h1, h2⟩
theorem ex0L_pick' : ∀ {l : List Sh0} {K : List TW → Prop}, ex0L l K → ∃ x, ex0L l (fun y => y = x) ∧ K x
  | [], K, H => ⟨[], rfl, H⟩
  | s :: l, K, H => by
    obtain ⟨x, h1, h2⟩ := ex0_pick' (show ex0 s _ from H)
    obtain ⟨xs, h3, h4⟩ := ex0L_pick' h2
    exact ⟨x :: xs, ex0_mono (fun y hy => ex0L_mono (fun ys hys => by rw [hy, hys]) h3) h1, h4⟩
theorem exS_pick' {s : Sh} {K : SV → Prop} (H : exS s K) : ∃ x, exS s (fun y => y = x) ∧ K x := by
  cases s with
  | s s => obtain ⟨x, h1, h2⟩ := ex0_pick' (show ex0 s _ from H); exact ⟨_, ex0_mono (fun y hy => by rw [hy]) h1, h2⟩
  | tup l => obtain ⟨x, h1, h2⟩ := ex0L_pick' (show ex0L l _ from H); exact ⟨_, ex0L_mono (fun y hy => by rw [hy]) h1, h2⟩
theorem ex1_pick {s : Sh1} {p K : TV → Prop} (H : ex1 s fun x => p x ∧ K x) : ∃ x, ex1 s (fun y => p y ∧ y = x) ∧ K x := by
  obtain ⟨x, h1, h2, h3⟩ := ex1_pick' H
  exact ⟨x, ex1_mono (fun y hy => ⟨by rw [hy]; exact h2, hy⟩) h1, h3⟩
theorem exL_pick {s : List Sh1} {p K : List TV → Prop} (H : exL s fun x => p x ∧ K x) : ∃ x, exL s (fun y => p y ∧ y = x) ∧ K x := by
  obtain ⟨x, h1, h2, h3⟩ := exL_pick' H
  exact ⟨x, exL_mono (fun y hy => ⟨by rw [hy]; exact h2, hy⟩) h1, h3⟩
theorem exS_pick {s : Sh} {p K : SV → Prop} (H : exS s fun x => p x ∧ K x) : ∃ x, exS s (fun y => p y ∧ y = x) ∧ K x := by
  obtain ⟨x, h1, h2, h3⟩ := exS_pick' H
  exact ⟨x, exS_mono (fun y hy => ⟨by rw [hy]; exact h2, hy⟩) h1, h3⟩

theorem szT_info {P : Program} {t : TypeId} (h : 1 ≤ szT P t) : ∃ i, P.info? t = some i ∧ i.size = szT P t := by
  unfold szT Program.cellsOf at *
  cases hi : P.info? t with
  | none => simp [hi] at h
  | some i => exact ⟨i, rfl, by simp⟩
theorem run_sizeOf_szT {P : Program} {t : TypeId} (h : 1 ≤ szT P t) (w : World) : (sizeOf t).run P w = .ok (szT P t) w := by
  obtain ⟨i, hi, hs⟩ := szT_info h
  simp [sizeOf, typeInfo, hi, hs]
theorem und_info {P : Program} {t : TypeId} {d : TypeDesc} (h : P.underlying t = some d) : ∃ i, P.info? t = some i ∧ i.size = szT P t := by
  unfold Program.underlying at h
  unfold szT Program.cellsOf
  cases hi : P.info? t with
  | none => simp [hi] at h
  | some i => exact ⟨i, rfl, by simp⟩
theorem run_sizeOf_und {P : Program} {t : TypeId} {d : TypeDesc} (h : P.underlying t = some d) (w : World) : (sizeOf t).run P w = .ok (szT P t) w := by
  obtain ⟨i, hi, hs⟩ := und_info h
  simp [sizeOf, typeInfo, hi, hs]
theorem run_isAgg_T {P : Program} {t : TypeId} (h : 1 ≤ szT P t) (hi : (P.underlying t).isSome = true) (w : World) : (isAgg t).run P w = .ok (isAggT P t) w := by
  obtain ⟨d, hd⟩ := Option.isSome_iff_exists.1 hi
  unfold isAgg isAggT
  rw [Sem.run_bind, run_underlying hd w, hd]
  cases d <;> simp
theorem isAggT_und {P : Program} {t : TypeId} (h : isAggT P t = true) : ∃ d, P.underlying t = some d ∧ (match d with | .struct _ | .array _ _ => true | _ => false) = true := by
  unfold isAggT at h
  split at h
  · rename_i f hf; exact ⟨_, hf, rfl⟩
  · rename_i f hf; exact ⟨_, hf, rfl⟩
  · simp at h
theorem run_isAgg_true {P : Program} {t : TypeId} (h : isAggT P t = true) (w : World) : (isAgg t).run P w = .ok true w := by
  obtain ⟨d, hd, hm⟩ := isAggT_und h
  unfold isAgg
  rw [Sem.run_bind, run_underlying hd w]
  cases d <;> simp_all
theorem run_isAgg_false {P : Program} {t : TypeId} {d : TypeDesc} (hd : P.underlying t = some d) (h : isAggT P t = false) (w : World) : (isAgg t).run P w = .ok false w := by
  unfold isAggT at h
  rw [hd] at h
  unfold isAgg
  rw [Sem.run_bind, run_underlying hd w]
  cases d <;> simp_all
theorem addr_add (b o j : Nat) : (⟨b, o, none⟩ : Addr).add j = ⟨b, o + j, none⟩ := by unfold Addr.add; split <;> simp_all
end Go.Vc
