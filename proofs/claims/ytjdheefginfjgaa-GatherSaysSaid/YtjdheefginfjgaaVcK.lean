/-
  The framework, part K: from a call's condition to a law's row: what came in reads behind the call as ahead of it, if no block that was there has turned. No program in sight. Conditions: none.
-/
import Derived.Test.YtjdheefginfjgaaVcJ
import Derived.OpenShut
import Derived.ChangeSame
import Derived.ProofKit
import Derived.JoinedCond
namespace Go.Vc
open Go Go.RowKit Go.ChangeShapes Go.WideShapes Go.ChangeAt
set_option linter.unusedVariables false

def hpOf (w : World) : Hp := fun b => w.heap[b]?
structure Kept (w w' : World) : Prop where
  os : w'.os = w.os
  output : w'.output = w.output
  size : w.heap.size ≤ w'.heap.size
  heap : ∀ (b : Nat) (o : Obj), w.heap[b]? = some o → w'.heap[b]? = some o

section
variable {P : Program}
theorem calls_law {f : FuncId} {args : List Value} {W : World} (H : CallOK P f args (hpOf W) fun v h' => v = vb true ∧ (hpOf W).le h') :
    Calls P f args.toArray W fun e W' => e = .returned (.bool true) ∧ Kept W W' := by
  refine (H W fun b o hb => hb).mono ?_
  rintro e W' ⟨v, h', rfl, hs, hF, rfl, hle⟩
  exact ⟨rfl, hF.os, hF.output, hF.size, fun b o hb => hs b o (hle b o hb)⟩

theorem mapM_kept {α β : Type} {f g : α → Option β} : ∀ {l : List α} {ys : List β}, l.mapM f = some ys → (∀ x ∈ l, ∀ y ∈ ys, f x = some y → g x = some y) → l.mapM g = some ys
  | [], ys, h, hg => by simpa using h
  | x :: l, ys, h, hg => by
    rw [List.mapM_cons] at h ⊢
    simp only [Option.bind_eq_bind, Option.bind_eq_some_iff, Option.pure_def, Option.some.injEq] at h ⊢
    obtain ⟨y, hy, zs, hzs, rfl⟩ := h
    exact ⟨y, hg x (by simp) y (by simp) hy, zs, mapM_kept hzs (fun x' hx y' hy' => hg x' (by simp [hx]) y' (by simp [hy'])), rfl⟩

theorem length_mapM {α β : Type} {f : α → Option β} : ∀ {l : List α} {ys : List β}, l.mapM f = some ys → ys.length = l.length
  | [], ys, h => by simp at h; subst h; rfl
  | x :: l, ys, h => by
    rw [List.mapM_cons] at h
    simp only [Option.bind_eq_bind, Option.bind_eq_some_iff, Option.pure_def, Option.some.injEq] at h
    obtain ⟨y, hy, zs, hzs, rfl⟩ := h
    simp [length_mapM hzs]

theorem Kept.cell {w w' : World} (K : Kept w w') {a : Addr} {v : Value} (h : w.cell? a = some v) : w'.cell? a = some v := by
  unfold World.cell? at h ⊢
  cases hb : w.heap[a.block]? with
  | none => rw [hb] at h; cases h
  | some o => rw [K.heap _ _ hb]; rw [hb] at h; exact h
theorem Kept.cells {w w' : World} (K : Kept w w') {base : Nat} {a : Addr} {n : Nat} {cs : List Value} (h : w.cells? base a n = some cs) : w'.cells? base a n = some cs := by
  unfold World.cells? at h ⊢
  split at h
  · rename_i hb
    rw [if_pos hb]
    exact mapM_kept h fun _ _ _ _ e => K.cell e
  · cases h

/-- Elements of slices take room; the table's types are closed. -/
def tyOK (P : Program) (N : Nat) (t : TypeId) : Bool :=
  match P.underlying t with
  | some (.slice e) => Nat.blt 0 (P.cellsOf e) && Nat.blt e N
  | some (.pointer e) => Nat.blt e N
  | some (.array _ e) => Nat.blt e N
  | some (.map _ e) => Nat.blt e N
  | some (.struct fs) => fs.toList.all fun f => Nat.blt f.type N
  | _ => true
structure slicesBig (P : Program) : Prop where
  ty : ∀ t, t < P.types.size → tyOK P P.types.size t = true
  gl : ∀ (g : Nat) (t : TypeId), (P.globals[g]?).map (·.type) = some t → t < P.types.size
theorem slicesBig_of {P : Program} (h1 : ((List.range P.types.size).all (tyOK P P.types.size)) = true) (h2 : (P.globals.toList.all fun g => Nat.blt g.type P.types.size) = true) : slicesBig P where
  ty t ht := List.all_eq_true.1 h1 t (List.mem_range.2 ht)
  gl g t hg := by
    cases hb : P.globals[g]? with
    | none => rw [hb] at hg; cases hg
    | some x =>
      rw [hb] at hg
      simp only [Option.map_some, Option.some.injEq] at hg
      subst hg
      have := List.all_eq_true.1 h2 x (by have := Array.mem_of_getElem? hb; simpa using this)
      exact Nat.le_of_ble_eq_true this

theorem mem_row_mk {a : Addr} {n i : Nat} (hi : i < n) : MemPlace.cell a.block (a.off + i) ∈ MemPlace.row a n := by
  unfold MemPlace.row
  exact List.mem_map.2 ⟨i, List.mem_range.2 hi, rfl⟩

/-- WHAT WAS READ READS SO BEHIND THE CALL. -/
theorem trod_kept {H : Type} {enc : TypeId × Value → H} (hS : slicesBig P) {w w' : World} (K : Kept w w') {base : Nat} {sp : Nat → Bool} :
    ∀ {fuel : Nat} {t : TypeId} {cs : List Value} {d : DataW H} {ps : List MemPlace}, t < P.types.size → DataW.trod enc P w base (fun _ => true) true fuel t cs = some (d, ps) →
      (∀ p ∈ ps, sp p.block = true) → DataW.trod enc P w' base sp true fuel t cs = some (d, ps) := by
  intro fuel
  induction fuel with
  | zero => intro t cs d ps ht h; simp [DataW.trod] at h
  | succ fuel ih =>
    intro t cs d ps ht h hp
    have htk := hS.ty t ht
    unfold tyOK at htk
    unfold DataW.trod at h ⊢
    split at h
    case h_6 => -- pointer
      rename_i e a hu
      rw [hu] at htk
      dsimp only at htk
      simp only [Option.map_eq_some_iff, Option.bind_eq_some_iff] at h ⊢
      obtain ⟨x, ⟨cs', hc, hx⟩, he⟩ := h
      have he2 := he
      simp only [Prod.mk.injEq] at he2
      obtain ⟨rfl, rfl⟩ := he2
      exact ⟨x, ⟨cs', K.cells hc, ih (Nat.le_of_ble_eq_true htk) hx fun p hpx => hp p (List.mem_append_right _ hpx)⟩, rfl⟩
    case h_8 => -- slice
      rename_i e a len cap hu
      rw [hu] at htk
      simp only [Bool.and_eq_true] at htk
      split at h
      · rename_i hc
        rw [if_pos hc]
        simp only [Option.bind_eq_some_iff, Option.map_eq_some_iff, if_true] at h
        obtain ⟨elems, he, rest, hr, hx⟩ := h
        simp only [Prod.mk.injEq] at hx
        obtain ⟨rfl, rfl⟩ := hx
        have hel : elems.length = len := by have := length_mapM he; simpa using this
        have hrl : rest.length = cap - len := by have := length_mapM hr; simpa using this
        have one : ∀ (i : Nat) (y : DataW H × List MemPlace), y ∈ elems ++ rest → ((w.cells? base (a.add (i * P.cellsOf e)) (P.cellsOf e)).bind (DataW.trod enc P w base (fun _ => true) true fuel e)) = some y →
            ((w'.cells? base (a.add (i * P.cellsOf e)) (P.cellsOf e)).bind (DataW.trod enc P w' base sp true fuel e)) = some y := by
          intro i y hy h1
          simp only [Option.bind_eq_some_iff] at h1 ⊢
          obtain ⟨cs', h2, h3⟩ := h1
          exact ⟨cs', K.cells h2, ih (Nat.le_of_ble_eq_true htk.2) h3 fun p hpy => hp p (List.mem_append_right _ (List.mem_flatMap.2 ⟨y, hy, hpy⟩))⟩
        simp only [Option.bind_eq_some_iff, Option.map_eq_some_iff]
        refine ⟨elems, mapM_kept he fun i _ y hy h1 => one i y (List.mem_append_left _ hy) h1, rest, ?_, rfl⟩
        by_cases hz : cap = 0
        · have h0 : rest = [] := List.eq_nil_of_length_eq_zero (by omega)
          subst h0
          subst hz
          split <;> simp
        · have hsp : sp a.block = true := by
            have h0 : 0 < (elems.length + rest.length) * P.cellsOf e := Nat.mul_pos (by omega) (Nat.le_of_ble_eq_true htk.1)
            exact hp _ (List.mem_append_left _ (mem_row_mk h0))
          rw [if_pos hsp]
          exact mapM_kept hr fun j _ y hy h1 => one (len + j) y (List.mem_append_right _ hy) h1
      · cases h
    case h_9 => -- struct
      rename_i fs hu
      rw [hu] at htk
      dsimp only at htk
      split at h
      · rename_i hc
        rw [if_pos hc]
        simp only [Option.map_eq_some_iff] at h ⊢
        obtain ⟨xs, hx, he⟩ := h
        have he2 := he
        simp only [Prod.mk.injEq] at he2
        obtain ⟨rfl, rfl⟩ := he2
        exact ⟨xs, mapM_kept hx fun f hf y hy h1 => ih (Nat.le_of_ble_eq_true (List.all_eq_true.1 htk f hf)) h1 fun p hpy => hp p (List.mem_flatMap.2 ⟨y, hy, hpy⟩), rfl⟩
      · cases h
    case h_10 => -- array
      rename_i n e hu
      rw [hu] at htk
      dsimp only at htk
      split at h
      · rename_i hc
        rw [if_pos hc]
        simp only [Option.map_eq_some_iff] at h ⊢
        obtain ⟨xs, hx, he⟩ := h
        have he2 := he
        simp only [Prod.mk.injEq] at he2
        obtain ⟨rfl, rfl⟩ := he2
        exact ⟨xs, mapM_kept hx fun f _ y hy h1 => ih (Nat.le_of_ble_eq_true htk) h1 fun p hpy => hp p (List.mem_flatMap.2 ⟨y, hy, hpy⟩), rfl⟩
      · cases h
    case h_12 => -- interface
      simp only at h ⊢
      exact h
    case h_14 => -- map
      rename_i k e b hu
      rw [hu] at htk
      dsimp only at htk
      split at h
      · rename_i es clock hb
        rw [K.heap _ _ hb]
        simp only
        split at h
        · rename_i hc
          rw [if_pos hc]
          simp only [Option.bind_eq_some_iff] at h ⊢
          obtain ⟨entries, hx, hrest⟩ := h
          refine ⟨entries, ?_, hrest⟩
          split at hrest
          · simp only [Option.some.injEq, Prod.mk.injEq] at hrest
            obtain ⟨rfl, rfl⟩ := hrest
            refine mapM_kept hx fun f _ y hy h1 => ?_
            simp only [Option.bind_eq_some_iff] at h1 ⊢
            obtain ⟨key, hk, h2⟩ := h1
            refine ⟨key, hk, ?_⟩
            split at h2
            · rename_i hf
              rw [if_pos hf]
              simp only [Option.map_eq_some_iff] at h2 ⊢
              obtain ⟨z, hz, rfl⟩ := h2
              exact ⟨z, ih (Nat.le_of_ble_eq_true htk) hz fun p hpy => hp p (List.mem_cons_of_mem _ (List.mem_flatMap.2 ⟨_, hy, hpy⟩)), rfl⟩
            · cases h2
          · cases hrest
        · cases h
      · cases h
    all_goals first | (cases h; done) | (simp_all; done)

theorem trodAll_kept {H : Type} {enc : TypeId × Value → H} (hS : slicesBig P) {w w' : World} (K : Kept w w') {base : Nat} {sp : Nat → Bool} :
    ∀ {ts : List TypeId} {vs : List Value} {ds : List (DataW H)} {ps : List MemPlace}, (∀ t ∈ ts, t < P.types.size) → DataW.TrodAll enc P w base (fun _ => true) true ts vs ds ps →
      (∀ p ∈ ps, sp p.block = true) → DataW.TrodAll enc P w' base sp true ts vs ds ps
  | [], [], [], ps, _, h, hp => h
  | t :: ts, v :: vs, d :: ds, ps, ht, h, hp => by
    obtain ⟨p, q, ⟨fuel, h1⟩, h2, rfl⟩ := h
    exact ⟨p, q, ⟨fuel, trod_kept hS K (ht t (by simp)) h1 fun x hx => hp x (List.mem_append_left _ hx)⟩, trodAll_kept hS K (fun x hx => ht x (by simp [hx])) h2 (fun x hx => hp x (List.mem_append_right _ hx)), rfl⟩
  | [], _ :: _, _, _, _, h, _ => by simp [DataW.TrodAll] at h
  | [], [], _ :: _, _, _, h, _ => by simp [DataW.TrodAll] at h
  | _ :: _, [], _, _, _, h, _ => by simp [DataW.TrodAll] at h
  | _ :: _, _ :: _, [], _, _, h, _ => by simp [DataW.TrodAll] at h
theorem trodVars_kept {H : Type} {enc : TypeId × Value → H} (hS : slicesBig P) {w w' : World} (K : Kept w w') {sp : Nat → Bool} :
    ∀ {ns : List String} {ds : List (DataW H)} {ps : List MemPlace}, DataW.TrodVars enc P w (fun _ => true) ns ds ps →
      (∀ p ∈ ps, sp p.block = true) → DataW.TrodVars enc P w' sp ns ds ps
  | [], [], ps, h, hp => h
  | n :: ns, d :: ds, ps, h, hp => by
    obtain ⟨g, t, cs, fuel, p, q, hn, ht, hv, h1, h2, rfl⟩ := h
    refine ⟨g, t, cs, fuel, p, q, hn, ht, ?_, trod_kept hS K (hS.gl g t ht) h1 fun x hx => hp x (List.mem_append_left _ (List.mem_append_right _ hx)), trodVars_kept hS K h2 (fun x hx => hp x (List.mem_append_right _ hx)), rfl⟩
    unfold World.var? at hv ⊢
    rw [hn] at hv ⊢
    simp only [Option.bind_some] at hv ⊢
    cases hb : w.heap[g]? with
    | none => rw [hb] at hv; cases hv
    | some o => rw [K.heap _ _ hb]; rw [hb] at hv; exact hv
  | [], _ :: _, _, h, _ => by simp [DataW.TrodVars] at h
  | _ :: _, [], _, h, _ => by simp [DataW.TrodVars] at h

/-- A LAW's ROW, from what its walk gave: true, and no block that was there has turned. -/
theorem law_post {H : Type} {enc : TypeId × Value → H} (hS : slicesBig P) {f : Func} {s : ChangeSpec} {apart fresh handsOn again : Bool} {W W' : World} {args : Array Value} {ds gs : List (DataW H)} {before : List MemPlace}
    (hW : DataW.Whole enc P f.params.toList s.vars apart W args.toList ds gs before) (K : Kept W W') (hts : (f.params.toList.all fun t => Nat.blt t P.types.size) = true) {tb : TypeId} (hr : f.resultTypes = #[tb]) (hb : P.underlying tb = some .bool)
    (hs : s.fn H (ds ++ gs) = { results := [.lit (.bool true)], args := ds, vars := gs }) :
    s.post enc P f apart fresh handsOn again W args (vb true) W' := by
  have hlt : ∀ p ∈ before, p.block < W.heap.size := fun p hp => hW.lt p hp
  have hW0 := hW
  obtain ⟨pa, pv, hA, hV, rfl, hz, hn⟩ := hW
  have hres : ∀ (b : Nat) (sp : Nat → Bool) (hd : Bool), DataW.TrodAll enc P W' b sp hd f.resultTypes.toList ((vb true).resultList f.resultTypes.size) [.lit (.bool true)] [] := by
    intro b sp hd
    rw [hr]
    exact trodAll_cons_mk (shut_bool hb _) trodAll_mk0
  have hargs : ∀ sp : Nat → Bool, (∀ p ∈ pa ++ pv, sp p.block = true) → DataW.TrodAll enc P W' 0 sp true f.params.toList args.toList ds pa := fun sp hp => trodAll_kept hS K (fun t ht => Nat.le_of_ble_eq_true (List.all_eq_true.1 hts t ht)) hA fun p h => hp p (List.mem_append_left _ h)
  have hvars : ∀ sp : Nat → Bool, (∀ p ∈ pa ++ pv, sp p.block = true) → DataW.TrodVars enc P W' sp s.vars gs pv := fun sp hp => trodVars_kept hS K hV fun p h => hp p (List.mem_append_right _ h)
  have hold : ∀ p ∈ pa ++ pv, (fun b => decide (b < W.heap.size)) p.block = true := fun p hp => by simpa using hlt p hp
  have hall : ∀ p ∈ pa ++ pv, (fun _ : Nat => true) p.block = true := fun _ _ => rfl
  refine ⟨ds, gs, pa ++ pv, [], pa, pv, hW0, ?_, ?_, ?_, ⟨K.os, K.output, fun i hi => ?_⟩, fun _ => ⟨?_, _, gs, ([] ++ pa) ++ pv, ⟨[] ++ pa, pv, trodAll_append (hargs _ hall) (hres _ _ _), hvars _ hall, rfl, ?_, ?_⟩, ?_⟩⟩
  · rw [hs]; exact hres _ _ _
  · rw [hs]; exact hargs _ hold
  · rw [hs]; exact hvars _ hold
  · cases hb : W.heap[i]? with
    | none => simp at hb; omega
    | some o => rw [K.heap _ _ hb]; cases o <;> simp
  · intro j t r h1 h2
    exact ok_one hr rfl (okWide_bool_mk hb _) j t r h1 h2
  · intro b off hp
    have h1 := hz b off (by simpa using hp)
    have h2 := hlt (.cell b off) (by simpa using hp)
    unfold World.frozen? at h1 ⊢
    cases hb : W.heap[b]? with
    | none => simp [MemPlace.block] at hb h2; omega
    | some o => rw [hb] at h1; rw [K.heap _ _ hb]; exact h1
  · intro ha
    simpa using hn ha
  · intro p hp _
    simpa using hp
end
end Go.Vc
