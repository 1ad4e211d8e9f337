/-
  The framework of this prover's proofs, part X: regions that draw their order: every order is one. Conditions: none.
-/
import Derived.Test.YtgonnpleihbklaaDoorVcW
set_option linter.unusedVariables false
namespace Go.Vc
open Go

section
variable {P : Program} {cfg : Cfg} {ops : Array Oper} {ms : List Nat}

theorem dsts_tail' {o : Oper} {l : List Oper} {i : Nat} (hi : i ∈ dstsL l) : i ∈ dstsL (o :: l) := by
  simp only [dstsL]
  cases o.dst <;> simp [hi]

theorem vcOp_monoV {o : Oper} {st : St} {h : Hp} {K K' : St → Hp → Prop} (hE : isE o.op = false) (W : WF st) (H : vcOp P cfg ops o st h K) (hk : ∀ s, WF s → K s h → K' s h) : vcOp P cfg ops o st h K' := by
  obtain ⟨g, h1, h2, h3, sv, h4, h5⟩ := (vcOp_V hE).1 H
  exact (vcOp_V hE).2 ⟨g, h1, h2, h3, sv, h4, hk _ (putS_WF W) h5⟩
theorem vcOp_monoE {o : Oper} {st : St} {h : Hp} {K K' : St → Hp → Prop} (hE : isE o.op = true) (H : vcOp P cfg ops o st h K) (hk : ∀ s h', K s h' → K' s h') : vcOp P cfg ops o st h K' := by
  obtain ⟨g, h1, h2, h3, h4⟩ := (vcOp_E hE).1 H
  exact (vcOp_E hE).2 ⟨g, h1, h2, fun c => vcE_mono (fun sv b h' _ hb => ⟨hb.1, hk _ _ hb.2⟩) (h3 c), fun c => ⟨(h4 c).1, hk _ _ (h4 c).2⟩⟩
theorem vcOp_mono {o : Oper} {st : St} {h : Hp} {K K' : St → Hp → Prop} (H : vcOp P cfg ops o st h K) (hk : ∀ s h', K s h' → K' s h') : vcOp P cfg ops o st h K' := by
  cases hE : isE o.op with
  | true => exact vcOp_monoE hE H hk
  | false =>
    obtain ⟨g, h1, h2, h3, sv, h4, h5⟩ := (vcOp_V hE).1 H
    exact (vcOp_V hE).2 ⟨g, h1, h2, h3, sv, h4, hk _ _ h5⟩

def rk (a : Bool) (m : Nat) (b b' : List Box) (h' : Hp) (fl : List Fg) (K : Prop) : Prop := bif a then K else agn m b b' h' fl K
theorem rk_mono {a : Bool} {m : Nat} {b b' : List Box} {h' : Hp} {fl : List Fg} {K K' : Prop} (hk : K → K') (H : rk a m b b' h' fl K) : rk a m b b' h' fl K' := by
  cases a with
  | true => exact hk H
  | false => exact agn_mono hk H
theorem rk_K {a : Bool} {m : Nat} {b b' : List Box} {h' : Hp} {fl : List Fg} {K : Prop} (H : rk a m b b' h' fl K) : K := by
  cases a with
  | true => exact H
  | false => exact agn_K H
theorem vcD_E {i : Nat} {o : Oper} (ho : ops[i]? = some o) (hE : isE o.op = true) {l : List Nat} {fl : List Fg} {st : St} {h : Hp} {K : St → Hp → Prop} :
    vcD P cfg ops ms (i :: l) fl st h K ↔ vcOp P cfg ops o st h fun s h' => rk (isA o.op) (ms.getD i 0) st.b s.b h' fl (vcD P cfg ops ms l fl s h' K) := by
  simp only [vcD, ho, hE, cond_true]
  cases isA o.op <;> exact Iff.rfl
theorem vcD_V {i : Nat} {o : Oper} (ho : ops[i]? = some o) (hE : isE o.op = false) {l : List Nat} {fl : List Fg} {st : St} {h : Hp} {K : St → Hp → Prop} :
    vcD P cfg ops ms (i :: l) fl st h K ↔ vcDV P ops i o st h fl fun fl' s => vcD P cfg ops ms l fl' s h K := by
  simp only [vcD, ho, hE, cond_false]
theorem vcDV_monoW {o : Oper} {i : Nat} {st : St} {h : Hp} {fl fl2 : List Fg} {K K' : List Fg → St → Prop} (W : WF st) (hk : ∀ g sv s, WF s → K (flagV P o (chG st g) (GG st g) st i sv fl) s → K' (flagV P o (chG st g) (GG st g) st i sv fl2) s) (H : vcDV P ops i o st h fl K) : vcDV P ops i o st h fl2 K' := by
  obtain ⟨g, h1, h2, h3, sv, h4, h5⟩ := vcDV_iff.1 H
  exact vcDV_iff.2 ⟨g, h1, h2, h3, sv, h4, hk g sv _ (putS_WF W) h5⟩
theorem agn_sub {m : Nat} {b b' : List Box} {h' : Hp} {K : Prop} {fl fl' : List Fg} (hs : fl.Sublist fl') : agn m b b' h' fl' K → agn m b b' h' fl K := by
  induction hs with
  | slnil => exact fun H => H
  | cons f hs ih =>
    intro H
    unfold agn at H
    cases hb : bit m f.j with
    | true => rw [hb] at H; exact ih H
    | false =>
      rw [hb] at H
      simp only [cond_false] at H
      cases hx : sameBx b b' f.bx with
      | false => rw [hx] at H; exact H.elim
      | true =>
        rw [hx] at H
        simp only [cond_true] at H
        cases hp : f.p with
        | none => rw [hp] at H; exact ih H
        | some p => rw [hp] at H; exact ih H.2
  | cons_cons f hs ih =>
    intro H
    unfold agn at H ⊢
    cases hb : bit m f.j with
    | true => rw [hb] at H; exact ih H
    | false =>
      rw [hb] at H
      simp only [cond_false] at H ⊢
      cases hx : sameBx b b' f.bx with
      | false => rw [hx] at H; exact H.elim
      | true =>
        rw [hx] at H
        simp only [cond_true] at H ⊢
        cases hp : f.p with
        | none => rw [hp] at H; exact ih H
        | some p => rw [hp] at H; exact ⟨H.1, ih H.2⟩
theorem flagV_sub {o : Oper} {ch : List (Nat × Bool)} {G : Prop → Prop} {st : St} {i : Nat} {sv : SV} {fl fl' : List Fg} (hs : fl.Sublist fl') : (flagV P o ch G st i sv fl).Sublist (flagV P o ch G st i sv fl') := by
  unfold flagV
  split
  · exact hs
  · exact hs.cons_cons _
  · exact hs.cons_cons _
theorem flagV_tail {o : Oper} {ch : List (Nat × Bool)} {G : Prop → Prop} {st : St} {i : Nat} {sv : SV} {fl : List Fg} : fl.Sublist (flagV P o ch G st i sv fl) := by
  unfold flagV
  split
  · exact List.Sublist.refl _
  · exact List.sublist_cons_self _ _
  · exact List.sublist_cons_self _ _
theorem vcDV_mono2 {o : Oper} {i : Nat} {st : St} {h : Hp} {fl fl2 : List Fg} {K K' : List Fg → St → Prop} (hk : ∀ g sv s, K (flagV P o (chG st g) (GG st g) st i sv fl) s → K' (flagV P o (chG st g) (GG st g) st i sv fl2) s) (H : vcDV P ops i o st h fl K) : vcDV P ops i o st h fl2 K' := by
  obtain ⟨g, h1, h2, h3, sv, h4, h5⟩ := vcDV_iff.1 H
  exact vcDV_iff.2 ⟨g, h1, h2, h3, sv, h4, hk g sv _ h5⟩
theorem vcD_fl : ∀ (l : List Nat) {fl fl' : List Fg} {st : St} {h : Hp} {K : St → Hp → Prop}, fl'.Sublist fl → vcD P cfg ops ms l fl st h K → vcD P cfg ops ms l fl' st h K
  | [], fl, fl', st, h, K, _, H => H
  | i :: l, fl, fl', st, h, K, hf, H => by
    cases ho : ops[i]? with
    | none => simp [vcD, ho] at H
    | some o =>
      cases hE : isE o.op with
      | true =>
        rw [vcD_E ho hE] at H ⊢
        refine vcOp_mono H fun s h' hk => ?_
        cases hA : isA o.op with
        | true => rw [hA] at hk; exact vcD_fl l hf hk
        | false => rw [hA] at hk; exact agn_sub hf (agn_mono (vcD_fl l hf) hk)
      | false =>
        rw [vcD_V ho hE] at H ⊢
        exact vcDV_mono2 (fun g sv s hk => vcD_fl l (flagV_sub hf) hk) H

/-- A call that an operation which makes a block, or a box, may go ahead of. -/
def AC (x y : Oper) : Prop := isA x.op = true ∧ x.guard = none ∧ isCall y.op = true ∧ y.guard = none
/-- One operation against another one that stands ahead of it. -/
structure PR (ops : Array Oper) (ms : List Nat) (j i : Nat) : Prop where
  dep : ∀ oj, ops[j]? = some oj → ∀ e ∈ oj.after, Region.binds .any e = true → e.on ≠ i
  un : bit (ms.getD i 0) j = false → ∀ oj oi, ops[j]? = some oj → ops[i]? = some oi → (isE oj.op = false ∨ AC oi oj) ∧ Apart ops oi oj

/-- What a call asks. -/
inductive CD where
  | no | call (f : FuncId) (vs : List Value) | ext (f : FuncId) (vs : List Value) | sem (m : Sem Value) | inv (fv : Value) (vs : List Value)
def CD.ask (P : Program) (s : Sh) (h : Hp) (K : SV → Hp → Prop) : CD → Prop
  | .no => False
  | .call f vs => CallOK P f vs h fun v h' => res s v fun x => K x h'
  | .ext f vs => ExtOK P f vs h fun v h' => res s v fun x => K x h'
  | .sem m => SemOK P m h fun v h' => res s v fun x => K x h'
  | .inv fv vs => InvOK P fv vs h fun v h' => res s v fun x => K x h'
theorem vcE_C {o : Oper} {ch : List (Nat × Bool)} {st : St} (hC : isCall o.op = true) : ∃ D : CD, ∀ b h K, vcE P cfg o ch ⟨st.n, st.t, st.g, b⟩ h K ↔ D.ask P (shp P o.type) h (fun x h' => K x b h') := by
  obtain ⟨dst, op, ty, pos, af, gd⟩ := o
  have hevs : ∀ b l, (⟨st.n, st.t, st.g, b⟩ : St).evs ch l = st.evs ch l := by
    intro b l
    induction l with
    | nil => rfl
    | cons q l ih => simp only [St.evs, ih]; rfl
  have hev : ∀ b x, (⟨st.n, st.t, st.g, b⟩ : St).ev ch x = st.ev ch x := fun b x => rfl
  have none' : (∀ b h K, vcE P cfg ⟨dst, op, ty, pos, af, gd⟩ ch ⟨st.n, st.t, st.g, b⟩ h K ↔ False) → ∃ D : CD, ∀ b h K, vcE P cfg ⟨dst, op, ty, pos, af, gd⟩ ch ⟨st.n, st.t, st.g, b⟩ h K ↔ D.ask P (shp P ty) h (fun x h' => K x b h') := fun h => ⟨.no, h⟩
  cases op with
  | call c =>
    obtain ⟨callee, args, ts⟩ := c
    cases callee with
    | invoke r m => exact none' fun b h K => Iff.rfl
    | builtin bb =>
      simp only [vcE, hevs]
      cases hv : st.evs ch args.toList with
      | none => exact ⟨.no, fun b h K => Iff.rfl⟩
      | some vs =>
        cases bb with
        | append => exact ⟨.sem _, fun b h K => Iff.rfl⟩
        | copy => exact ⟨.sem _, fun b h K => Iff.rfl⟩
        | delete => exact ⟨.sem _, fun b h K => Iff.rfl⟩
        | clear => exact ⟨.sem _, fun b h K => Iff.rfl⟩
        | _ => exact ⟨.no, fun b h K => Iff.rfl⟩
    | value f =>
      cases f with
      | func g =>
        simp only [vcE, hevs]
        cases hv : st.evs ch args.toList with
        | none => exact ⟨.no, fun b h K => Iff.rfl⟩
        | some vs =>
          simp only
          cases hb : (P.funcs[g]?).map (·.body.isSome) with
          | none => exact ⟨.no, fun b h K => Iff.rfl⟩
          | some q =>
            cases q with
            | true => exact ⟨.call g vs, fun b h K => Iff.rfl⟩
            | false => exact ⟨.ext g vs, fun b h K => Iff.rfl⟩
      | tmp t =>
        simp only [vcE, hevs, hev]
        cases hv : st.evs ch args.toList with
        | none => exact ⟨.no, fun b h K => Iff.rfl⟩
        | some vs =>
          cases hf : (st.ev ch (.tmp t)).val? with
          | none => exact ⟨.no, fun b h K => Iff.rfl⟩
          | some fv => exact ⟨.inv fv vs, fun b h K => Iff.rfl⟩
      | const v => exact none' fun b h K => Iff.rfl
      | global g => exact none' fun b h K => Iff.rfl
  | _ => cases hC
theorem sub_of_set {h : Hp} {b : Nat} {ob : Obj} {w : World} (hb : h b = none) (hs : Sub (h.set b ob) w) : Sub h w := fun i o ho => hs i o (by
  have : i ≠ b := fun e => by rw [e, hb] at ho; cases ho
  simp [Hp.set, this, ho])
theorem frame_at {h h' : Hp} {b : Nat} {ob : Obj} {w w' : World} (hb : h b = none) (hs : Sub (h.set b ob) w) (hs' : Sub h' w') (F : Fr h h' w w') : h' b = none ∧ Sub (h'.set b ob) w' ∧ Fr (h.set b ob) (h'.set b ob) w w' := by
  have h1 : w.heap[b]? = some ob := hs b ob (by simp [Hp.set])
  have hlt : b < w.heap.size := (Array.getElem?_eq_some_iff.1 h1).1
  obtain ⟨k1, k2⟩ := F.keep b hlt hb
  refine ⟨k2, fun i o ho => ?_, F.os, F.tape, F.output, F.size, fun i hi hn => ?_⟩
  · unfold Hp.set at ho
    split at ho
    · rename_i e; rw [e, k1, h1]; exact ho
    · exact hs' i o ho
  · unfold Hp.set at hn ⊢
    split at hn
    · cases hn
    · rename_i hne
      rw [if_neg hne]
      exact F.keep i hi hn
theorem CD.mono {D : CD} {s : Sh} {h : Hp} {K K' : SV → Hp → Prop} (hk : ∀ x h', K x h' → K' x h') (H : D.ask P s h K) : D.ask P s h K' := by
  cases D with
  | no => exact H
  | call f vs => exact fun w hs => (H w hs).mono fun e w' ⟨v, h', h1, h2, h3, h4⟩ => ⟨v, h', h1, h2, h3, res_mono (fun x => hk x h') h4⟩
  | ext f vs => exact fun w hs => let ⟨v, w', h', h1, h2, h3, h4⟩ := H w hs; ⟨v, w', h', h1, h2, h3, res_mono (fun x => hk x h') h4⟩
  | sem m => exact fun w hs => let ⟨v, w', h', h1, h2, h3, h4⟩ := H w hs; ⟨v, w', h', h1, h2, h3, res_mono (fun x => hk x h') h4⟩
  | inv fv vs =>
    obtain ⟨f, pre, post, e, hf, H⟩ := H
    exact ⟨f, pre, post, e, hf, fun w hs => (H w hs).mono fun e w' ⟨v, h', h1, h2, h3, h4⟩ => ⟨v, h', h1, h2, h3, res_mono (fun x => hk x h') h4⟩⟩
/-- What a call does is done beside a block of which it does not know, too. -/
theorem CD.frame {D : CD} {s : Sh} {h : Hp} {b : Nat} {ob : Obj} {K : SV → Hp → Prop} (hb : h b = none) (H : D.ask P s h K) : D.ask P s (h.set b ob) fun x h2 => ∃ h', h' b = none ∧ h2 = h'.set b ob ∧ K x h' := by
  have hc : ∀ f vs, (CallOK P f vs h fun v h' => res s v fun x => K x h') → CallOK P f vs (h.set b ob) fun v h2 => res s v fun x => ∃ h', h' b = none ∧ h2 = h'.set b ob ∧ K x h' := by
    intro f vs H w hs
    refine (H w (sub_of_set hb hs)).mono fun e w' ⟨v, h', h1, h2, h3, h4⟩ => ?_
    obtain ⟨k1, k2, k3⟩ := frame_at hb hs h2 h3
    exact ⟨v, _, h1, k2, k3, res_mono (fun x hx => ⟨h', k1, rfl, hx⟩) h4⟩
  cases D with
  | no => exact H
  | call f vs => exact hc f vs H
  | ext f vs =>
    intro w hs
    obtain ⟨v, w', h', h1, h2, h3, h4⟩ := H w (sub_of_set hb hs)
    obtain ⟨k1, k2, k3⟩ := frame_at hb hs h2 h3
    exact ⟨v, w', _, h1, k2, k3, res_mono (fun x hx => ⟨h', k1, rfl, hx⟩) h4⟩
  | sem m =>
    intro w hs
    obtain ⟨v, w', h', h1, h2, h3, h4⟩ := H w (sub_of_set hb hs)
    obtain ⟨k1, k2, k3⟩ := frame_at hb hs h2 h3
    exact ⟨v, w', _, h1, k2, k3, res_mono (fun x hx => ⟨h', k1, rfl, hx⟩) h4⟩
  | inv fv vs =>
    obtain ⟨f, pre, post, e, hf, H⟩ := H
    exact ⟨f, pre, post, e, hf, hc _ _ H⟩
/-- A call comes to an end, where there is a world; and there is one behind it. -/
theorem CD.sub {D : CD} {s : Sh} {h : Hp} {K : SV → Hp → Prop} (H : D.ask P s h K) : D.ask P s h fun x h' => (∃ w, Sub h' w) ∧ K x h' := by
  have hc : ∀ f vs, (CallOK P f vs h fun v h' => res s v fun x => K x h') → CallOK P f vs h fun v h' => res s v fun x => (∃ w, Sub h' w) ∧ K x h' :=
    fun f vs H w hs => (H w hs).mono fun e w' ⟨v, h', h1, h2, h3, h4⟩ => ⟨v, h', h1, h2, h3, res_mono (fun x hx => ⟨⟨w', h2⟩, hx⟩) h4⟩
  cases D with
  | no => exact H
  | call f vs => exact hc f vs H
  | ext f vs => exact fun w hs => let ⟨v, w', h', h1, h2, h3, h4⟩ := H w hs; ⟨v, w', h', h1, h2, h3, res_mono (fun x hx => ⟨⟨w', h2⟩, hx⟩) h4⟩
  | sem m => exact fun w hs => let ⟨v, w', h', h1, h2, h3, h4⟩ := H w hs; ⟨v, w', h', h1, h2, h3, res_mono (fun x hx => ⟨⟨w', h2⟩, hx⟩) h4⟩
  | inv fv vs =>
    obtain ⟨f, pre, post, e, hf, H⟩ := H
    exact ⟨f, pre, post, e, hf, hc _ _ H⟩
theorem CD.ex {D : CD} {s : Sh} {h : Hp} {K : SV → Hp → Prop} (hw : ∃ w, Sub h w) (H : D.ask P s h K) : ∃ x h', K x h' := by
  obtain ⟨w, hs⟩ := hw
  have hr : ∀ v h', (res s v fun x => K x h') → ∃ x h', K x h' := fun v h' hr => let ⟨x, hx, _⟩ := exS_elim hr; ⟨x, h', hx.2⟩
  have hc : ∀ f vs, (CallOK P f vs h fun v h' => res s v fun x => K x h') → ∃ x h', K x h' := by
    intro f vs H
    obtain ⟨e, w', fr, ⟨v, h', _, _, _, h4⟩, _⟩ := H w hs []
    exact hr _ _ h4
  cases D with
  | no => exact H.elim
  | call f vs => exact hc f vs H
  | ext f vs => obtain ⟨v, w', h', h1, h2, h3, h4⟩ := H w hs; exact hr _ _ h4
  | sem m => obtain ⟨v, w', h', h1, h2, h3, h4⟩ := H w hs; exact hr _ _ h4
  | inv fv vs =>
    obtain ⟨f, pre, post, e, hf, H⟩ := H
    exact hc _ _ H

/-- The reads hold at more of a heap. -/
def FM (fl : List Fg) : Prop := ∀ f ∈ fl, ∀ p, f.p = some p → ∀ h h' : Hp, h.le h' → p h → p h'
theorem Rd.le {m : Sem Value} {h h' : Hp} {v : Value} (hl : h.le h') (H : Rd P m h v) : Rd P m h' v := fun w hs => H w fun b o ho => hs b o (hl b o ho)
theorem row_le' {h h' : Hp} (hl : h.le h') {b o n : Nat} {xs : List Value} (e : h.row b o n = some xs) : h'.row b o n = some xs := by
  unfold Hp.row at e ⊢
  cases hb : h b with
  | none => rw [hb] at e; cases e
  | some ob => rw [hb] at e; rw [hl b ob hb]; exact e
theorem cell_le' {h h' : Hp} (hl : h.le h') {b o : Nat} {x : Value} (e : h.cell b o = some x) : h'.cell b o = some x := by
  unfold Hp.cell at e ⊢
  cases hb : h b with
  | none => rw [hb] at e; cases e
  | some ob => rw [hb] at e; rw [hl b ob hb]; exact e
theorem VD.again_le {G : Prop → Prop} (hG : ∀ p q : Prop, (p → q) → G p → G q) {h h' : Hp} (hl : h.le h') {u : SV} {v : VD} (H : v.again P G h u) : v.again P G h' u := by
  cases v with
  | rd m s => exact hG _ _ (Rd.le hl) H
  | ldA b o n l => exact hG _ _ (row_le' hl) H
  | ld1 b o s => exact hG _ _ (cell_le' hl) H
  | _ => exact H
theorem VD.sem_again {G : Prop → Prop} {h : Hp} {u : SV} {v : VD} (H : v.sem P G h fun y => y = u) : v.again P G h u := by
  cases v with
  | rd m s => obtain ⟨x, hx, _⟩ := exS_elim H; rw [hx.2] at hx; exact hx.1
  | ldA b o n l => obtain ⟨x, hx, _⟩ := exL_elim H; show G _; rw [← hx.2]; exact hx.1
  | ld1 b o s => obtain ⟨x, hx⟩ := ex1_elim H; show G _; rw [← hx.2]; exact hx.1
  | _ => exact trivial
theorem FM_flag {o : Oper} {g : Option (Nat × Bool)} {st : St} {i : Nat} {sv : SV} {fl : List Fg} (hf : FM fl) : FM (flagV P o (chG st g) (GG st g) st i sv fl) := by
  unfold flagV
  split
  · exact hf
  · intro f hm p hp h h' hl
    rcases List.mem_cons.1 hm with rfl | hm
    · simp only [Option.some.injEq] at hp
      subst hp
      exact VD.again_le (GG_mono st g) hl
    · exact hf f hm p hp h h' hl
  · intro f hm p hp h h' hl
    rcases List.mem_cons.1 hm with rfl | hm
    · cases hp
    · exact hf f hm p hp h h' hl
theorem agn_le {m : Nat} {b b' : List Box} {h h' : Hp} {K : Prop} (hl : h.le h') : ∀ {fl : List Fg}, FM fl → agn m b b' h fl K → agn m b b' h' fl K
  | [], _, H => H
  | f :: l, hf, H => by
    have hf' : FM l := fun x hx => hf x (List.mem_cons_of_mem _ hx)
    unfold agn at H ⊢
    cases hb : bit m f.j with
    | true => rw [hb] at H; exact agn_le hl hf' H
    | false =>
      rw [hb] at H
      simp only [cond_false] at H ⊢
      cases hx : sameBx b b' f.bx with
      | false => rw [hx] at H; exact H.elim
      | true =>
        rw [hx] at H
        simp only [cond_true] at H ⊢
        cases hp : f.p with
        | none => rw [hp] at H; exact agn_le hl hf' H
        | some p => rw [hp] at H; exact ⟨hf f (by simp) p hp h h' hl H.1, agn_le hl hf' H.2⟩
theorem agn_bx {m : Nat} {b : List Box} {x : Box} {h : Hp} {K : Prop} : ∀ {fl : List Fg}, agn m b b h fl K → agn m (b ++ [x]) (b ++ [x]) h fl K
  | [], H => H
  | f :: l, H => by
    unfold agn at H ⊢
    cases hb : bit m f.j with
    | true => rw [hb] at H; exact agn_bx H
    | false =>
      rw [hb] at H
      simp only [cond_false] at H ⊢
      cases hx : sameBx b b f.bx with
      | false => rw [hx] at H; exact H.elim
      | true =>
        have hx2 : sameBx (b ++ [x]) (b ++ [x]) f.bx = true := by
          cases hk : f.bx with
          | none => rfl
          | some k =>
            rw [hk] at hx
            simp only [sameBx] at hx ⊢
            cases hbk : b[k]? with
            | none => rw [hbk] at hx; cases hx
            | some y =>
              rw [hbk] at hx
              rw [List.getElem?_append_left (List.getElem?_eq_some_iff.1 hbk).1, hbk]
              exact hx
        rw [hx] at H
        rw [hx2]
        simp only [cond_true] at H ⊢
        cases hp : f.p with
        | none => rw [hp] at H; exact agn_bx H
        | some p => rw [hp] at H; exact ⟨H.1, agn_bx H.2⟩

theorem vcOp_U {o : Oper} {st : St} {h : Hp} {K : St → Hp → Prop} (hE : isE o.op = true) (hg : o.guard = none) : vcOp P cfg ops o st h K ↔ vcE P cfg o [] st h fun sv b h' => putC st o.dst none ∧ K (putS ⟨st.n, st.t, st.g, b⟩ o.dst none sv) h' := by
  unfold vcOp
  rw [hg]
  simp only [hE, cond_true, put_iff]
  exact Iff.rfl

/-- A block, or a box, may be made ahead of a call that does not know of it. -/
theorem swapAE {c e : Oper} {st : St} {m : Nat} (A : Apart ops c e) (W : WF st) (hac : AC e c) (hEc : isE c.op = true) (hEe : isE e.op = true) {h : Hp} {fl : List Fg} {F : St → Hp → Prop} (hf : FM fl) (hw : ∃ w, Sub h w)
    (H : vcOp P cfg ops c st h fun s1 h1 => agn m st.b s1.b h1 fl (vcOp P cfg ops e s1 h1 fun s2 h2 => F s2 h2)) :
    vcOp P cfg ops e st h fun s h' => vcOp P cfg ops c s h' fun s2 h2 => agn m s.b s2.b h2 fl (F s2 h2) := by
  obtain ⟨hA, hge, hC, hgc⟩ := hac
  have A' : Apart ops e c := ⟨A.yx, A.xy, fun d e hd he => (A.ne e d he hd).symm⟩
  obtain ⟨DC, hDC⟩ := vcE_C (P := P) (cfg := cfg) (o := c) (ch := []) (st := st) hC
  obtain ⟨DA, hDA⟩ := vcE_A (P := P) (cfg := cfg) (o := e) (ch := []) (st := st) hA
  rw [vcOp_U hEc hgc, show st = ⟨st.n, st.t, st.g, st.b⟩ from rfl, hDC] at H
  -- the other one behind it
  have hloc : ∀ x h1 K, vcE P cfg e [] (putS st c.dst none x) h1 K = vcE P cfg e [] st h1 K := by
    intro x h1 K
    rcases agr_put (st := st) (dst := c.dst) (g := none) (x := x) with ⟨_, eq⟩ | ⟨d, hd, AG⟩
    · rw [eq]
    · exact AG.vcE (fun z hz hze => A.xy d hd (opTmps_operand hz hze))
  have hloc2 : ∀ x b h1 K, vcE P cfg c [] (putS ⟨st.n, st.t, st.g, b⟩ e.dst none x) h1 K = vcE P cfg c [] ⟨st.n, st.t, st.g, b⟩ h1 K := by
    intro x b h1 K
    rcases agr_put (st := ⟨st.n, st.t, st.g, b⟩) (dst := e.dst) (g := none) (x := x) with ⟨_, eq⟩ | ⟨d, hd, AG⟩
    · rw [eq]
    · exact AG.vcE (fun z hz hze => A'.xy d hd (opTmps_operand hz hze))
  have H2 : DC.ask P (shp P c.type) h fun x h1 => putC st c.dst none ∧ agn m st.b st.b h1 fl (DA.sem st.b h1 fun sv b h2 => putC (putS st c.dst none x) e.dst none ∧ F (putS ⟨(putS st c.dst none x).n, (putS st c.dst none x).t, (putS st c.dst none x).g, b⟩ e.dst none sv) h2) := by
    refine CD.mono (fun x h1 hx => ⟨hx.1, ?_⟩) H
    have hx2 := hx.2
    rw [putS_b] at hx2
    refine agn_mono (fun hv => ?_) hx2
    rw [vcOp_U hEe hge, hloc, hDA] at hv
    exact hv
  have pc : putC st c.dst none := let ⟨_, _, hx⟩ := CD.ex hw H2; hx.1
  have ne : DA ≠ .no := by
    intro e
    obtain ⟨x, h1, _, hx⟩ := CD.ex hw H2
    rw [e] at hx
    exact agn_K hx
  rw [vcOp_U hEe hge, hDA]
  cases DA with
  | no => exact (ne rfl).elim
  | pub f ob =>
    have pe : putC st e.dst none := by
      obtain ⟨x, h1, ⟨w, hs⟩, _, hx⟩ := CD.ex hw (CD.sub H2)
      have := agn_K hx w.heap.size hs.none
      exact put_back (st := st) (j := c) (gj := none) (svj := x) (b := (putS st c.dst none x).b) this.1
    intro b hb
    refine ⟨pe, ?_⟩
    rw [vcOp_U hEc hgc, hloc2, hDC]
    refine CD.mono (fun x h2 hx => ?_) (CD.frame hb H2)
    obtain ⟨h1, hb1, rfl, hx1, hx2⟩ := hx
    refine ⟨?_, ?_⟩
    · exact (putC_put (st := st) A' (gx := none) (gy := none) (by simp [gdO, hge]) (by simp [gdO, hgc]) pe).2 pc
    · rw [putS_b, putS_b]
      refine agn_mono (fun hv => ?_) (agn_le (Hp.le_set' hb1 ob) hf hx2)
      have := (hv b hb1).2
      rw [putS_box] at this ⊢
      rw [putS_comm A' (gx := none) (gy := none)]
      exact this
  | prv sv bx =>
    have pe : putC st e.dst none := by
      obtain ⟨x, h1, _, hx⟩ := CD.ex hw H2
      have := agn_K hx
      exact put_back (st := st) (j := c) (gj := none) (svj := x) (b := (putS st c.dst none x).b) this.1
    refine ⟨pe, ?_⟩
    rw [vcOp_U hEc hgc, hloc2, hDC]
    refine CD.mono (fun x h1 hx => ?_) H2
    obtain ⟨hx1, hx2⟩ := hx
    refine ⟨?_, ?_⟩
    · exact (putC_put (st := ⟨st.n, st.t, st.g, st.b ++ [bx]⟩) A' (gx := none) (gy := none) (by simp [gdO, hge]) (by simp [gdO, hgc]) pe).2 pc
    · rw [putS_b, putS_b]
      refine agn_mono (fun hv => ?_) (agn_bx (x := bx) hx2)
      have := hv.2
      rw [putS_box] at this ⊢
      rw [putS_comm A' (gx := none) (gy := none)]
      exact this

theorem exV {i : Nat} {oi : Oper} (hi : ops[i]? = some oi) (hEi : isE oi.op = false) : ∀ (A : List Nat) {B : List Nat} {fl : List Fg} {st : St} {h : Hp} {K : St → Hp → Prop}, WF st →
    (∀ j ∈ A, ∀ oj, ops[j]? = some oj → isE oj.op = false ∧ Apart ops oi oj) → vcD P cfg ops ms (A ++ i :: B) fl st h K → vcOp P cfg ops oi st h fun s _ => vcD P cfg ops ms (A ++ B) fl s h K
  | [], B, fl, st, h, K, W, hA, H => by
    rw [List.nil_append, vcD_V hi hEi] at H
    obtain ⟨g, h1, h2, h3, sv, h4, h5⟩ := vcDV_iff.1 H
    exact (vcOp_V hEi).2 ⟨g, h1, h2, h3, sv, h4, vcD_fl B flagV_tail h5⟩
  | j :: A, B, fl, st, h, K, W, hA, H => by
    cases hj : ops[j]? with
    | none => simp [vcD, hj] at H
    | some oj =>
      obtain ⟨hEj, hap⟩ := hA j (by simp) oj hj
      rw [List.cons_append, vcD_V hj hEj] at H
      have H2 : vcDV P ops j oj st h fl fun fl' s => vcOp P cfg ops oi s h fun s2 _ => vcD P cfg ops ms (A ++ B) fl' s2 h K :=
        vcDV_monoW W (fun g sv s Ws hk => exV hi hEi A Ws (fun k hk' => hA k (by simp [hk'])) hk) H
      have hap' : Apart ops oj oi := ⟨hap.yx, hap.xy, fun d e hd he => (hap.ne e d he hd).symm⟩
      have H3 := swapVV (F := fun fl' s2 => vcD P cfg ops ms (A ++ B) fl' s2 h K) hap' W hEi H2
      refine vcOp_monoV hEi W H3 fun s Ws hk => ?_
      rw [List.cons_append, vcD_V hj hEj]
      exact hk

theorem exE {i : Nat} {oi : Oper} (hi : ops[i]? = some oi) (hEi : isE oi.op = true) : ∀ (A : List Nat) {B : List Nat} {fl : List Fg} {st : St} {h : Hp} {K : St → Hp → Prop}, WF st → FM fl → (∃ w, Sub h w) →
    (∀ j ∈ A, bit (ms.getD i 0) j = false ∧ ∀ oj, ops[j]? = some oj → (isE oj.op = false ∨ AC oi oj) ∧ Apart ops oi oj) → vcD P cfg ops ms (A ++ i :: B) fl st h K →
    vcOp P cfg ops oi st h fun s h2 => rk (isA oi.op) (ms.getD i 0) st.b s.b h2 fl (vcD P cfg ops ms (A ++ B) fl s h2 K)
  | [], B, fl, st, h, K, W, hf, hw, hA, H => by
    rw [List.nil_append, vcD_E hi hEi] at H
    exact H
  | j :: A, B, fl, st, h, K, W, hf, hw, hA, H => by
    cases hj : ops[j]? with
    | none => simp [vcD, hj] at H
    | some oj =>
      obtain ⟨hbit, hA1⟩ := hA j (by simp)
      obtain ⟨hEj, hap⟩ := hA1 oj hj
      have hap' : Apart ops oj oi := ⟨hap.yx, hap.xy, fun d e hd he => (hap.ne e d he hd).symm⟩
      cases hEj' : isE oj.op with
      | false =>
        rw [List.cons_append, vcD_V hj hEj'] at H
        have H2 : vcDV P ops j oj st h fl fun fl' s => vcOp P cfg ops oi s h fun s2 h2 => (FM fl' → rk (isA oi.op) (ms.getD i 0) s.b s2.b h2 fl' (vcD P cfg ops ms (A ++ B) fl' s2 h2 K)) := by
          refine vcDV_monoW W (fun g sv s Ws hk => ?_) H
          exact vcOp_mono (exE hi hEi A Ws (FM_flag hf) hw (fun k hk' => hA k (by simp [hk'])) hk) fun s2 h2 hq _ => hq
        have H3 := swapVE (F := fun fl' s2 h2 => vcD P cfg ops ms (A ++ B) fl' s2 h2 K) (X := fun fl' s s2 h2 => FM fl' → rk (isA oi.op) (ms.getD i 0) s.b s2.b h2 fl' (vcD P cfg ops ms (A ++ B) fl' s2 h2 K))
          (Z := fun s h2 p => rk (isA oi.op) (ms.getD i 0) st.b s.b h2 fl p) hap' W hEi (fun s h2 p q hpq hz => rk_mono hpq hz) ?_ H2
        · refine vcOp_mono H3 fun s h2 hk => rk_mono (fun hv => ?_) hk
          rw [List.cons_append, vcD_V hj hEj']
          exact hv
        · intro gj svj s2 h2 hbx hx vj
          have hx := hx (FM_flag hf)
          rw [putS_b] at hx
          cases hAe : isA oi.op with
          | true =>
            rw [hAe] at hx hbx
            rcases hbx with ⟨hl, hb⟩ | ⟨hb, _⟩
            · refine ⟨fun k x _ => hb k x, fun _ => VD.again_le (GG_mono st gj) hl (VD.sem_again vj), fun s hs => hx⟩
            · cases hb
          | false =>
            rw [hAe] at hx
            obtain ⟨y1, y2, y3⟩ := agn_flag hbit hx
            refine ⟨fun k x hk hkx => ?_, y2, fun s hs => by rw [hs]; exact y3⟩
            rcases hbx with ⟨_, hb⟩ | ⟨_, hb⟩
            · exact hb k x hkx
            · exact sameBx_spec (y1 k hk) hb hkx
      | true =>
        have hac : AC oi oj := by
          rcases hEj with h1 | h1
          · rw [h1] at hEj'; cases hEj'
          · exact h1
        have hnA : isA oj.op = false := by
          have := hac.2.2.1
          cases ho : oj.op <;> rw [ho] at this <;> first | rfl | cases this
        rw [List.cons_append, vcD_E hj hEj', hnA] at H
        rw [hac.1]
        have H2 : vcOp P cfg ops oj st h fun s1 h1 => agn (ms.getD j 0) st.b s1.b h1 fl (vcOp P cfg ops oi s1 h1 fun s2 h2 => vcD P cfg ops ms (A ++ B) fl s2 h2 K) := by
          rw [vcOp_U hEj' hac.2.2.2] at H ⊢
          obtain ⟨DC, hDC⟩ := vcE_C (P := P) (cfg := cfg) (o := oj) (ch := []) (st := st) hac.2.2.1
          rw [show st = ⟨st.n, st.t, st.g, st.b⟩ from rfl, hDC] at H ⊢
          refine CD.mono (fun x h1 hx => ?_) (CD.sub H)
          refine ⟨hx.2.1, agn_mono (fun hv => ?_) hx.2.2⟩
          have := exE hi hEi A (st := putS st oj.dst none x) (putS_WF W) hf hx.1 (fun k hk' => hA k (by simp [hk'])) hv
          rw [hac.1] at this
          exact this
        have H3 := swapAE (F := fun s2 h2 => vcD P cfg ops ms (A ++ B) fl s2 h2 K) hap' W hac hEj' hEi hf hw H2
        refine vcOp_mono H3 fun s h2 hk => ?_
        show vcD P cfg ops ms (j :: A ++ B) fl s h2 K
        rw [List.cons_append, vcD_E hj hEj', hnA]
        exact hk

/-- All that is ahead of what is listed is listed. -/
def DC (ops : Array Oper) (listed : Array Bool) : Prop := ∀ (k : Nat) (o : Oper), ops[k]? = some o → listed.getD k false = true → ∀ e ∈ o.after, Region.binds .any e = true → listed.getD e.on false = true

theorem bit_testBit (m i : Nat) : bit m i = m.testBit i := by
  unfold bit Nat.testBit
  have : Nat.beq (Nat.land (Nat.shiftRight m i) 1) 1 = ((m >>> i) &&& 1 == 1) := by
    show Nat.beq ((m >>> i) &&& 1) 1 = ((m >>> i) &&& 1 == 1)
    cases hq : Nat.beq ((m >>> i) &&& 1) 1 with
    | true => have := Nat.eq_of_beq_eq_true hq; exact (beq_iff_eq.2 this).symm
    | false => have := Nat.ne_of_beq_eq_false hq; exact (beq_eq_false_iff_ne.2 this).symm
  rw [this, Nat.and_comm]
  have h2 : (1 &&& (m >>> i)) = 0 ∨ (1 &&& (m >>> i)) = 1 := by
    rw [Nat.and_comm, Nat.and_one_is_mod]
    omega
  rcases h2 with h2 | h2 <;> rw [h2] <;> rfl

theorem bit_lor (a b i : Nat) : bit (Nat.lor a b) i = (bit a i || bit b i) := by
  rw [bit_testBit, bit_testBit, bit_testBit]
  exact Nat.testBit_or a b i
theorem bit_shift (d i : Nat) : bit (Nat.shiftLeft 1 d) i = decide (i = d) := by
  rw [bit_testBit]
  show (1 <<< d).testBit i = _
  rw [Nat.testBit_shiftLeft]
  by_cases h : i = d
  · subst h; simp
  · by_cases h2 : d ≤ i
    · obtain ⟨k, hk⟩ : ∃ k, i - d = k + 1 := ⟨i - d - 1, by omega⟩
      rw [hk, Nat.testBit_succ]
      simp [h]
    · simp [h, h2]
theorem bit_zero (i : Nat) : bit 0 i = false := by rw [bit_testBit]; simp

theorem mask_fold {listed : Array Bool} {acc : List Nat} (hacc : ∀ d, listed.getD d false = true → ∀ j, bit (acc.getD d 0) j = true → listed.getD j false = true) : ∀ (l : List Edge) (s : Nat),
    (∀ e ∈ l, Region.binds .any e = true → listed.getD e.on false = true) → (∀ j, bit s j = true → listed.getD j false = true) →
    ∀ j, bit (l.foldl (fun s e => bif Region.binds .any e then Nat.lor s (Nat.lor (Nat.shiftLeft 1 e.on) (acc.getD e.on 0)) else s) s) j = true → listed.getD j false = true
  | [], s, _, hs, j, hj => hs j hj
  | e :: l, s, hl, hs, j, hj => by
    refine mask_fold hacc l _ (fun e' he' => hl e' (by simp [he'])) ?_ j hj
    intro k hk
    dsimp only at hk
    cases hb : Region.binds .any e with
    | false => rw [hb] at hk; exact hs k hk
    | true =>
      rw [hb] at hk
      simp only [cond_true, bit_lor, bit_shift, Bool.or_eq_true, decide_eq_true_eq] at hk
      have hd := hl e (by simp) hb
      rcases hk with hk | rfl | hk
      · exact hs k hk
      · exact hd
      · exact hacc _ hd k hk

theorem befM_spec {listed : Array Bool} : ∀ (l : List Oper) (acc : List Nat) (k0 : Nat), acc.length = k0 → (∀ i o, l[i]? = some o → ops[k0 + i]? = some o) → DC ops listed →
    (∀ d, listed.getD d false = true → ∀ j, bit (acc.getD d 0) j = true → listed.getD j false = true) →
    (∀ k o, k < k0 → ops[k]? = some o → (∀ e ∈ o.after, Region.binds .any e = true → listed.getD e.on false = true) → ∀ j, bit (acc.getD k 0) j = true → listed.getD j false = true) →
    ∀ (k : Nat) (o : Oper), ops[k]? = some o → (∀ e ∈ o.after, Region.binds .any e = true → listed.getD e.on false = true) → ∀ j, bit ((befM l acc).getD k 0) j = true → listed.getD j false = true
  | [], acc, k0, hlen, hl, hdc, hacc, hacc2, k, o, ho, hall, j, hj => by
    simp only [befM] at hj
    by_cases hk : k < k0
    · exact hacc2 k o hk ho hall j hj
    · have : acc.getD k 0 = 0 := by simp [List.getD, List.getElem?_eq_none (show acc.length ≤ k by omega)]
      rw [this, bit_zero] at hj
      simp at hj
  | x :: l, acc, k0, hlen, hl, hdc, hacc, hacc2, k, o, ho, hall, j, hj => by
    simp only [befM] at hj
    have hx : ops[k0]? = some x := by simpa using hl 0 x rfl
    have hm : (∀ e ∈ x.after, Region.binds .any e = true → listed.getD e.on false = true) → ∀ j, bit (x.after.toList.foldl (fun s e => bif Region.binds .any e then Nat.lor s (Nat.lor (Nat.shiftLeft 1 e.on) (acc.getD e.on 0)) else s) 0) j = true → listed.getD j false = true :=
      fun hall => mask_fold hacc _ 0 (fun e he hb => hall e (by simpa using he) hb) (fun j hj => by rw [bit_zero] at hj; simp at hj)
    refine befM_spec l _ (k0 + 1) (by simp [hlen]) ?_ hdc ?_ ?_ k o ho hall j hj
    · intro i o hi
      have := hl (i + 1) o (by simpa using hi)
      rwa [show k0 + (i + 1) = k0 + 1 + i by omega] at this
    · intro d hd j hj
      by_cases h1 : d < acc.length
      · rw [List.getD, List.getElem?_append_left h1] at hj
        exact hacc d hd j hj
      · by_cases h2 : d = acc.length
        · subst h2
          simp [List.getD] at hj
          exact hm (hdc acc.length x (by rw [hlen]; exact hx) hd) j (by simpa using hj)
        · rw [List.getD, List.getElem?_eq_none (by simp; omega)] at hj
          simp [bit_zero] at hj
    · intro k o hk ho hall j hj
      by_cases h1 : k < acc.length
      · rw [List.getD, List.getElem?_append_left h1] at hj
        exact hacc2 k o (by omega) ho hall j hj
      · have h2 : k = acc.length := by omega
        subst h2
        rw [hlen, hx] at ho
        obtain rfl := Option.some.inj ho
        simp [List.getD] at hj
        exact hm hall j (by simpa using hj)

theorem chkOne_spec {i : Nat} {x : Oper} (hx : ops[i]? = some x) : ∀ {l : List Nat}, chkOne ops ms i x l = true → ∀ j ∈ l, bit (ms.getD i 0) j = false → ∀ oj, ops[j]? = some oj → (isE oj.op = false ∨ AC x oj) ∧ Apart ops x oj
  | [], _, j, hj, _, _, _ => by simp at hj
  | k :: l, H, j, hj, hb, oj, ho => by
    simp only [chkOne, Bool.and_eq_true] at H
    rcases List.mem_cons.1 hj with rfl | hj
    · rw [ho] at H
      simp only [hb, Bool.false_or, Bool.and_eq_true, Bool.not_eq_true', Bool.or_eq_true] at H
      obtain ⟨⟨h1, h2⟩, _⟩ := H
      refine ⟨?_, apartO_spec h1⟩
      rcases h2 with h2 | ⟨⟨h2, h3⟩, h4, h5⟩
      · exact .inl h2
      · exact .inr ⟨h2, by simpa using h3, h4, by simpa using h5⟩
    · exact chkOne_spec hx H.2 j hj hb oj ho

theorem depsIn_spec {x : Oper} {done : List Nat} (h : depsIn x done = true) : ∀ e ∈ x.after, Region.binds .any e = true → e.on ∈ done := by
  intro e he hb
  unfold depsIn at h
  have := List.all_eq_true.1 h e (by simpa using he)
  simp only [hb, Bool.not_true, Bool.false_or] at this
  exact memN_iff.1 this

theorem chkOrd_spec : ∀ {l done : List Nat}, chkOrd ops ms done l = true → (∀ j ∈ done, ∀ oj, ops[j]? = some oj → ∀ e ∈ oj.after, Region.binds .any e = true → e.on ∈ done) → done.Nodup → (∀ j ∈ done, j < ops.size) →
    l.Pairwise (PR ops ms) ∧ (∀ i ∈ l, i < ops.size ∧ i ∉ done) ∧ l.Nodup ∧ done.length + l.length = ops.size ∧ (∀ i ∈ l, ∀ o, ops[i]? = some o → ∀ e ∈ o.after, Region.binds .any e = true → e.on < ops.size ∧ e.on ≠ i)
  | [], done, H, hd, hn, hlt => by
    simp only [chkOrd] at H
    exact ⟨List.Pairwise.nil, by simp, List.nodup_nil, by simpa using Nat.eq_of_beq_eq_true H, by simp⟩
  | i :: l, done, H, hd, hn, hlt => by
    simp only [chkOrd, Bool.and_eq_true] at H
    obtain ⟨H1, H2⟩ := H
    cases hi : ops[i]? with
    | none => rw [hi] at H1; simp at H1
    | some x =>
      rw [hi] at H1
      simp only [Bool.and_eq_true, Bool.not_eq_true'] at H1
      obtain ⟨⟨h1, h2⟩, h3⟩ := H1
      have hnm : i ∉ done := by intro hm; rw [memN_iff.2 hm] at h1; simp at h1
      have hlt' : i < ops.size := (Array.getElem?_eq_some_iff.1 hi).1
      obtain ⟨k1, k2, k3, k4, k5⟩ := chkOrd_spec H2 (by
        intro j hj oj ho e he hb
        rcases List.mem_cons.1 hj with rfl | hj
        · rw [hi] at ho; obtain rfl := Option.some.inj ho
          exact List.mem_cons_of_mem _ (depsIn_spec h2 e he hb)
        · exact List.mem_cons_of_mem _ (hd j hj oj ho e he hb)) (List.nodup_cons.2 ⟨hnm, hn⟩) (by
        intro j hj
        rcases List.mem_cons.1 hj with rfl | hj
        · exact hlt'
        · exact hlt j hj)
      refine ⟨List.pairwise_cons.2 ⟨?_, k1⟩, ?_, List.nodup_cons.2 ⟨?_, k3⟩, ?_, ?_⟩
      · intro j hj
        have hjd := (k2 j hj).2
        simp only [List.mem_cons, not_or] at hjd
        refine ⟨?_, ?_⟩
        · intro oj ho e he hb hon
          rw [hi] at ho; obtain rfl := Option.some.inj ho
          exact hjd.2 (hon ▸ depsIn_spec h2 e he hb)
        · intro hb oj oi hoj hoi
          -- j stands behind i; what is checked at j against all ahead of it
          have : ∀ {l done : List Nat}, chkOrd ops ms done l = true → ∀ j ∈ l, ∀ oi, ops[j]? = some oi → ∀ k ∈ done, bit (ms.getD j 0) k = false → ∀ ok, ops[k]? = some ok → (isE ok.op = false ∨ AC oi ok) ∧ Apart ops oi ok := by
            intro l
            induction l with
            | nil => intro done _ j hj; simp at hj
            | cons y l ih =>
              intro done H j hj oi hoi k hk hb ok hok
              simp only [chkOrd, Bool.and_eq_true] at H
              rcases List.mem_cons.1 hj with rfl | hj
              · rw [hoi] at H
                simp only [Bool.and_eq_true] at H
                exact chkOne_spec hoi H.1.2 k hk hb ok hok
              · exact ih H.2 j hj oi hoi k (List.mem_cons_of_mem _ hk) hb ok hok
          exact this H2 j hj oi hoi i (by simp) hb oj hoj
      · intro j hj
        rcases List.mem_cons.1 hj with rfl | hj
        · exact ⟨hlt', hnm⟩
        · obtain ⟨q1, q2⟩ := k2 j hj
          simp only [List.mem_cons, not_or] at q2
          exact ⟨q1, q2.2⟩
      · intro hm
        have := (k2 i hm).2
        simp at this
      · simp at k4 ⊢; omega
      · intro j hj o ho e he hb
        rcases List.mem_cons.1 hj with rfl | hj
        · rw [hi] at ho; obtain rfl := Option.some.inj ho
          have := depsIn_spec h2 e he hb
          exact ⟨hlt _ this, fun h => hnm (h ▸ this)⟩
        · exact k5 j hj o ho e he hb

theorem vcD_any (hP : NoNG P) {w0 : World} {h0 : Hp} {K : St → Hp → Prop} {Q : Exit → Act → World → Prop} {st0 : St} {D : List Nat} (hD : ∀ (i : Nat) (o : Oper), ops[i]? = some o → ∀ d, o.dst = some d → d ∈ D)
    (hms : ∀ listed : Array Bool, DC ops listed → ∀ (k : Nat) (o : Oper), ops[k]? = some o → (∀ e ∈ o.after, Region.binds .any e = true → listed.getD e.on false = true) → ∀ j, bit (ms.getD k 0) j = true → listed.getD j false = true)
    (hQ : ∀ st' h' a' w', K st' h' → Rel w0 h0 st' h' a' w' → Ev D st0 st' → Q .normal a' w') :
    ∀ (n : Nat) {L : List Nat} {fl : List Fg} {st : St} {h : Hp} {a : Act} {w : World} {listed : Array Bool}, FM fl → L.length = n → listed.size = ops.size → (∀ i, i < ops.size → (listed.getD i true = false ↔ i ∈ L)) → (∀ i ∈ L, i < ops.size) → L.Nodup → L.Pairwise (PR ops ms) → DC ops listed →
      (∀ (i : Nat) (o : Oper), ops[i]? = some o → ∀ e ∈ o.after, Region.binds .any e = true → e.on < ops.size ∧ e.on ≠ i) →
      Rel w0 h0 st h a w → Ev D st0 st → vcD P cfg ops ms L fl st h K → wpAny P .any ops Q n listed a w
  | 0, L, fl, st, h, a, w, listed, hfm, hn, hsz, hL, hlt, hnd, hpw, hdc, hin, R, E, H => by
    obtain rfl := List.eq_nil_of_length_eq_zero hn
    refine ⟨?_, hQ st h a w H R E⟩
    cases hr : Region.ready .any ops listed with
    | nil => rfl
    | cons i l =>
      have : i ∈ Region.ready .any ops listed := by rw [hr]; simp
      obtain ⟨h1, o, ho, _⟩ := mem_ready.1 this
      have := (hL i (Array.getElem?_eq_some_iff.1 ho).1).1 h1
      simp at this
  | n + 1, L, fl, st, h, a, w, listed, hfm, hn, hsz, hL, hlt, hnd, hpw, hdc, hin, R, E, H => by
    have hlist : ∀ i, i < ops.size → i ∉ L → listed.getD i false = true := by
      intro i hi hm
      have hb : listed.getD i true = listed[i]'(by omega) := by simp [show i < listed.size by omega]
      have hb' : listed.getD i false = listed[i]'(by omega) := by simp [show i < listed.size by omega]
      rw [hb', ← hb]
      cases hq : listed.getD i true with
      | true => rfl
      | false => exact (hm ((hL i hi).1 hq)).elim
    refine ⟨?_, ?_⟩
    · intro hr
      match L, hn with
      | x :: L', _ =>
        have hx := hlt x (by simp)
        obtain ⟨ox, hox⟩ : ∃ o, ops[x]? = some o := ⟨ops[x], by simp [hx]⟩
        have : x ∈ Region.ready .any ops listed := by
          refine mem_ready.2 ⟨(hL x hx).2 (by simp), ox, hox, fun e he hb => ?_⟩
          refine hlist _ (hin x ox hox e he hb).1 ?_
          intro hm
          rcases List.mem_cons.1 hm with hm | hm
          · exact (hin x ox hox e he hb).2 hm
          · exact ((List.pairwise_cons.1 hpw).1 _ hm).dep ox hox e he hb rfl
        rw [hr] at this
        simp at this
    · intro i hi
      obtain ⟨hl1, oi, hoi, hdeps⟩ := mem_ready.1 hi
      have hil : i < ops.size := (Array.getElem?_eq_some_iff.1 hoi).1
      have hiL := (hL i hil).1 hl1
      obtain ⟨A, B, rfl⟩ := List.append_of_mem hiL
      have hmask := hms listed hdc i oi hoi hdeps
      have hunl : ∀ j ∈ A, bit (ms.getD i 0) j = false := by
        intro j hj
        cases hb : bit (ms.getD i 0) j with
        | false => rfl
        | true =>
          have h1 := hmask j hb
          have h2 := (hL j (hlt j (by simp [hj]))).2 (by simp [hj])
          have hjs : j < listed.size := by rw [hsz]; exact hlt j (by simp [hj])
          simp [hjs] at h1 h2
          rw [h1] at h2
          simp at h2
      have hpr : ∀ j ∈ A, PR ops ms j i := fun j hj => (List.pairwise_append.1 hpw).2.2 j hj i (by simp)
      obtain ⟨ρ, R0⟩ := R
      have W : WF st := fun i s p x hi => R0.gd i s p x hi
      have R : Rel w0 h0 st h a w := ⟨ρ, R0⟩
      have Hop : vcOp P cfg ops oi st h fun s h2 => vcD P cfg ops ms (A ++ B) fl s h2 K := by
        cases hE : isE oi.op with
        | true =>
          refine vcOp_mono (exE hoi hE A W hfm ⟨w, R0.sub⟩ (fun j hj => ⟨hunl j hj, fun oj hoj => (hpr j hj).un (hunl j hj) oj oi hoj hoi⟩) H) fun s h2 hk => rk_K hk
        | false =>
          refine vcOp_monoV hE W (exV hoi hE A W (fun j hj oj hoj => ?_) H) fun s _ hk => hk
          obtain ⟨q1, q2⟩ := (hpr j hj).un (hunl j hj) oj oi hoj hoi
          refine ⟨?_, q2⟩
          rcases q1 with q1 | q1
          · exact q1
          · exfalso
            have := q1.1
            cases ho : oi.op <;> rw [ho] at this hE <;> first | (cases hE; done) | (cases this; done)
      unfold wpOp
      rw [hoi]
      refine vcOp_gen hP R Hop ?_
      intro st' h' a' w' hk R' E'
      have hnd' := List.nodup_append.1 hnd
      refine vcD_any hP hD hms hQ n hfm (by simp at hn ⊢; omega) (by simp [hsz]) ?_ ?_ ?_ ?_ ?_ hin R' (E.trans (E'.mono ?_)) hk
      · intro k hk
        by_cases hki : i = k
        · subst hki
          have hnm : i ∉ A ++ B := by
            rw [List.nodup_append] at hnd
            simp only [List.mem_append, not_or]
            refine ⟨fun hm => hnd.2.2 i hm i (by simp) rfl, ?_⟩
            have := (List.nodup_cons.1 hnd.2.1).1
            exact this
          simp only [hnm, iff_false]
          simp [hsz, hk]
        · rw [getD_set_ne true hki, hL k hk]
          simp only [List.mem_append, List.mem_cons]
          constructor
          · rintro (h1 | h1 | h1)
            · exact .inl h1
            · exact (hki h1.symm).elim
            · exact .inr h1
          · rintro (h1 | h1)
            · exact .inl h1
            · exact .inr (.inr h1)
      · intro k hk
        exact hlt k (by simp only [List.mem_append, List.mem_cons] at hk ⊢; rcases hk with h1 | h1 <;> simp [h1])
      · exact hnd.sublist (List.Sublist.append (List.Sublist.refl A) (List.sublist_cons_self i B))
      · exact hpw.sublist (List.Sublist.append (List.Sublist.refl A) (List.sublist_cons_self i B))
      · intro k o ho hlk e he hb
        by_cases hki : i = k
        · subst hki
          rw [hoi] at ho; obtain rfl := Option.some.inj ho
          exact getD_set_true (hdeps e he hb)
        · rw [getD_set_ne false hki] at hlk
          exact getD_set_true (hdc k o ho hlk e he hb)
      · intro d hd
        cases hod : oi.dst with
        | none => rw [hod] at hd; simp [dstL] at hd
        | some x => rw [hod] at hd; simp [dstL] at hd; subst hd; exact hD i oi hoi d hod

theorem allIn_spec : ∀ {n : Nat} {l : List Nat}, allIn n l = true → ∀ i, i < n → i ∈ l
  | 0, l, _, i, hi => by omega
  | n + 1, l, H, i, hi => by
    simp only [allIn, Bool.and_eq_true] at H
    by_cases h : i = n
    · subst h; exact memN_iff.1 H.1
    · exact allIn_spec H.2 i (by omega)

/-- A REGION THAT DRAWS ITS ORDER, in the one order that was checked. -/
theorem wp_draw (hP : NoNG P) (hm : P.follows .mixedOrders = true) {id : Nat} {l : List Nat} {w0 : World} {h0 : Hp} {st : St} {h : Hp} {a : Act} {w : World} {K : St → Hp → Prop} {Q : Exit → Act → World → Prop}
    (hchk : chkOrd ops (befM ops.toList []) [] l = true) (hin : allIn ops.size l = true) (R : Rel w0 h0 st h a w) (H : vcD P cfg ops (befM ops.toList []) l [] st h K)
    (hQ : ∀ st' h' a' w', K st' h' → Rel w0 h0 st' h' a' w' → Ev (dstsL ops.toList) st st' → Q .normal a' w') : (Code.region id ops true).wp P Q a w := by
  obtain ⟨k1, k2, k3, k4, k5⟩ := chkOrd_spec (ops := ops) (ms := befM ops.toList []) hchk (by simp) List.nodup_nil (by simp)
  have hlen : l.length = ops.size := by simpa using k4
  have hall : ∀ i, i < ops.size → i ∈ l := by
    intro i hi
    exact allIn_spec hin i hi
  obtain ⟨ρ, R0⟩ := R
  have R1 : Rel w0 h0 st h a { w with drawn := w.drawn + 1 } :=
    ⟨ρ, R0.step (h' := h) (w' := { w with drawn := w.drawn + 1 }) R0.sub ⟨rfl, rfl, rfl, Nat.le_refl _, fun b hb hn => ⟨rfl, hn⟩⟩⟩
  refine wp_region_any hm ?_
  refine vcD_any hP (D := dstsL ops.toList) (st0 := st) ?_ ?_ hQ ops.size (L := l) (fl := []) (fun f hf => by simp at hf) hlen (by simp) ?_ (fun i hi => (k2 i hi).1) k3 k1 ?_ ?_ R1 (Ev.refl _ _) H
  · intro i o ho d hd
    have : ∀ (m : List Oper), o ∈ m → d ∈ dstsL m := by
      intro m
      induction m with
      | nil => simp
      | cons x m ih =>
        intro hm
        rcases List.mem_cons.1 hm with rfl | hm
        · simp [dstsL, hd]
        · exact dsts_tail' (ih hm)
    exact this _ (by simpa using Array.mem_of_getElem? ho)
  · intro listed hdc k o ho hall' j hj
    refine befM_spec ops.toList [] 0 rfl (fun i o hi => by simpa using hi) hdc (fun d _ j hj => ?_) (fun k o hk => by omega) k o ho hall' j hj
    simp [List.getD, bit_zero] at hj
  · intro i hi
    simp [hall i hi, hi]
  · intro k o ho hlk
    exfalso
    by_cases hk : k < ops.size <;> simp [hk] at hlk
  · intro i o ho e he hb
    exact k5 i (hall i (Array.getElem?_eq_some_iff.1 ho).1) o ho e he hb
end
end Go.Vc
