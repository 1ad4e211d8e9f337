/-
  Laws and contracts on which the statement's proof stands, part 4. Conditions: those stated at each.
-/
import Derived.Orders
import Derived.Test.YtejefijpcggkfaaGreatDoorProg
import Derived.Sort.Grow
import Derived.Test.YtejefijpcggkfaaGreatDoorBp3
set_option linter.unusedVariables false
namespace Go.Vd
open Go.Vc
open Go
theorem Fr.refl (h : Hp) (w : World) : Fr h h w w := ⟨rfl, rfl, rfl, Nat.le_refl _, Nat.le_refl _, fun _ _ hb => ⟨rfl, hb⟩⟩
theorem Fr.trans {h h' h'' : Hp} {w w' w'' : World} (x : Fr h h' w w') (y : Fr h' h'' w' w'') : Fr h h'' w w'' :=
  ⟨y.os.trans x.os, y.tape.trans x.tape, y.output.trans x.output, Nat.le_trans x.size y.size, Nat.le_trans x.drawn y.drawn, fun b hb hn =>
    let ⟨e1, n1⟩ := x.keep b hb hn
    let ⟨e2, n2⟩ := y.keep b (Nat.lt_of_lt_of_le hb x.size) n1
    ⟨e2.trans e1, n2⟩⟩
theorem Fr.push (h : Hp) (w : World) (o : Obj) : Fr h h w (w.alloc o) :=
  ⟨rfl, rfl, rfl, by show _ ≤ (w.heap.push o).size; simp, Nat.le_refl _, fun b hb hn => ⟨by rw [push_get, if_neg (by omega)], hn⟩⟩
theorem Fr.pushSet (h : Hp) (w : World) (o : Obj) : Fr h (h.set w.heap.size o) w (w.alloc o) :=
  ⟨rfl, rfl, rfl, by show _ ≤ (w.heap.push o).size; simp, Nat.le_refl _, fun b hb hn => ⟨by rw [push_get, if_neg (by omega)], by rw [Hp.set_other _ _ (by omega)]; exact hn⟩⟩
section
variable {P : Program} {cfg : Cfg} {ρ : Nat → Option Nat} {w0 : World} {h0 : Hp} {st : St} {h : Hp} {a : Act} {w : World} {ch : List (Nat × Bool)}
theorem RelR.step (R : RelR ρ w0 h0 st h a w) {h' : Hp} {w' : World} (hs : Sub h' w') (hf : Fr h h' w w') : RelR ρ w0 h0 st h' a w' where
  n := R.n
  d := by
    refine ⟨R.d.1, fun d hd => ?_⟩
    obtain ⟨D, e, h1, h2, h3⟩ := R.d.2 d hd
    obtain ⟨e1, n1⟩ := hf.keep D (Array.getElem?_eq_some_iff.1 h1).1 h2
    exact ⟨D, e, e1.trans h1, n1, h3⟩
  fr := R.fr
  gd := R.gd
  sub := hs
  F := R.F.trans hf
  box i bx hb := by
    obtain ⟨b, h1, h2, h3, h4⟩ := R.box i bx hb
    have hlt : b < w.heap.size := (Array.getElem?_eq_some_iff.1 h2).1
    obtain ⟨e, n⟩ := hf.keep b hlt h3
    exact ⟨b, h1, e.trans h2, n, h4⟩
  dom := R.dom
  inj := R.inj
theorem RelR.newBox (R : RelR ρ w0 h0 st h a w) (ty : TypeId) (cs : List TV) :
    RelR (fun i => if i = st.b.length then some w.heap.size else ρ i) w0 h0 ⟨st.n, st.t, st.g, st.b ++ [⟨ty, cs, 0⟩]⟩ h a (w.alloc (.cells (tvals cs).toArray ty)) where
  n := R.n
  d := by
    refine ⟨R.d.1, fun d hd => ?_⟩
    obtain ⟨D, e, h1, h2, h3⟩ := R.d.2 d hd
    have hlt := (Array.getElem?_eq_some_iff.1 h1).1
    exact ⟨D, e, by rw [push_get, if_neg (by omega)]; exact h1, h2, h3⟩
  fr i := by
    refine Sl.ok_mono (ρ := ρ) ?_ (R.fr i)
    intro j b hj
    have := R.dom j b hj
    simp [show ¬ j = st.b.length by omega, hj]
  gd := R.gd
  sub := R.sub.push _
  F := R.F.trans (Fr.push h w _)
  box i bx hb := by
    by_cases hi : i = st.b.length
    · subst hi
      simp at hb
      subst hb
      refine ⟨w.heap.size, by simp, ?_, R.sub.none, R.F.size⟩
      rw [push_get, if_pos rfl]
    · have hlt : i < st.b.length := by
        have := (List.getElem?_eq_some_iff.1 hb).1
        simp at this
        omega
      rw [List.getElem?_append_left hlt] at hb
      obtain ⟨b, h1, h2, h3, h4⟩ := R.box i bx hb
      have hb2 : b < w.heap.size := (Array.getElem?_eq_some_iff.1 h2).1
      refine ⟨b, by simp [hi, h1], ?_, h3, h4⟩
      rw [push_get, if_neg (by omega)]
      exact h2
  dom i b hi := by
    split at hi
    · rename_i e; simp; omega
    · have := R.dom i b hi; simp; omega
  inj i j b hi hj := by
    have hbl : ∀ k, ρ k = some b → b < w.heap.size := by
      intro k hk
      have := R.dom k b hk
      obtain ⟨bx, hbx⟩ : ∃ bx, st.b[k]? = some bx := ⟨st.b[k], by simp [this]⟩
      obtain ⟨b', h1, h2, _⟩ := R.box k bx hbx
      rw [hk] at h1
      obtain rfl := Option.some.inj h1
      exact (Array.getElem?_eq_some_iff.1 h2).1
    split at hi <;> split at hj
    · omega
    · have := hbl _ hj; simp at hi; omega
    · have := hbl _ hi; simp at hj; omega
    · exact R.inj i j b hi hj
theorem RelR.setBox (R : RelR ρ w0 h0 st h a w) {i b : Nat} {bx : Box} (hb : st.b[i]? = some bx) (hρ : ρ i = some b) (c : List TV) :
    RelR ρ w0 h0 ⟨st.n, st.t, st.g, setAt st.b i ⟨bx.ty, c, bx.st + 1⟩⟩ h a (w.setRow b (tvals c).toArray) where
  n := R.n
  d := by
    refine ⟨R.d.1, fun d hd => ?_⟩
    obtain ⟨D, e, h1, h2, h3⟩ := R.d.2 d hd
    obtain ⟨b', k1, k2, k3, k4⟩ := R.box i bx hb
    rw [hρ] at k1; obtain rfl := Option.some.inj k1
    refine ⟨D, e, ?_, h2, h3⟩
    rw [setRow_get w b _ _ _ _ k2, if_neg (by intro e2; subst e2; rw [k2] at h1; cases h1)]
    exact h1
  fr := R.fr
  gd := R.gd
  sub := by
    obtain ⟨b', h1, h2, h3, h4⟩ := R.box i bx hb
    rw [hρ] at h1; obtain rfl := Option.some.inj h1
    intro k o hk
    rw [setRow_get w b _ _ _ _ h2, if_neg (by intro e; subst e; simp [h3] at hk)]
    exact R.sub k o hk
  F := by
    obtain ⟨b', h1, h2, h3, h4⟩ := R.box i bx hb
    rw [hρ] at h1; obtain rfl := Option.some.inj h1
    refine ⟨R.F.os, R.F.tape, R.F.output, by simpa [World.setRow] using R.F.size, R.F.drawn, fun k hk hn => ?_⟩
    obtain ⟨e, n⟩ := R.F.keep k hk hn
    exact ⟨by rw [setRow_get w b _ _ _ _ h2, if_neg (by omega)]; exact e, n⟩
  box j bj hj := by
    obtain ⟨b', h1, h2, h3, h4⟩ := R.box i bx hb
    rw [hρ] at h1; obtain rfl := Option.some.inj h1
    simp only [setAt_get] at hj
    split at hj
    · rename_i e
      obtain ⟨rfl, _⟩ := e
      simp only [Option.some.injEq] at hj
      subst hj
      exact ⟨b, hρ, by rw [setRow_get w b _ _ _ _ h2, if_pos rfl], h3, h4⟩
    · rename_i e
      obtain ⟨b2, k1, k2, k3, k4⟩ := R.box j bj hj
      have hjl : j < st.b.length := (List.getElem?_eq_some_iff.1 hj).1
      have hne : b2 ≠ b := by
        intro e2
        subst e2
        exact e ⟨R.inj j i b2 k1 hρ, hjl⟩
      exact ⟨b2, k1, by rw [setRow_get w b _ _ _ _ h2, if_neg hne]; exact k2, k3, k4⟩
  dom j b' hj := by simpa [setAt_length] using R.dom j b' hj
  inj := R.inj
def Nxt (w0 : World) (h0 : Hp) (st : St) (K : SV → List Box → Hp → Prop) (o : Oper) (a : Act) (next : Act → World → Prop) : Prop :=
  ∀ sv b' h' ρ' v w', K sv b' h' → RelR ρ' w0 h0 ⟨st.n, st.t, st.g, b'⟩ h' a w' → sv.ok ρ' v → BoxMono st.b b' → next (a.put o.dst v) w'
variable {K : SV → List Box → Hp → Prop} {o : Oper} {next : Act → World → Prop} {Q : Exit → Act → World → Prop}
theorem upon_newBox (R : RelR ρ w0 h0 st h a w) {ty : TypeId} {cs : List TV} (H : newBox cfg o st h ty cs K) (hn : Nxt w0 h0 st K o a next)
    (hrun : (execOp a.eval o).run P w = .ok (.value (.pointer (some ⟨w.heap.size, 0, none⟩))) (w.alloc (.cells (tvals cs).toArray ty))) : o.upon P a next Q ((execOp a.eval o).run P w) := by
  rw [hrun, Oper.upon_value]
  unfold newBox at H
  cases ho : allOneT cs with
  | false => rw [ho] at H; exact H.elim
  | true =>
    rw [ho] at H
    simp only [cond_true] at H
    cases hp : isPub cfg o.dst with
    | true =>
      rw [hp] at H
      simp only [cond_true] at H
      exact hn _ _ _ ρ _ _ (H w.heap.size R.sub.none) (R.step (R.sub.pushSet _) (Fr.pushSet h w _)) rfl (BoxMono.refl _)
    | false =>
      rw [hp] at H
      simp only [cond_false] at H
      exact hn _ _ _ _ _ _ H (R.newBox ty cs) ⟨w.heap.size, by simp, rfl⟩ (boxMono_new _)
theorem upon_sem (R : RelR ρ w0 h0 st h a w) {m : Sem Value} {sh : Sh} (H : SemOK P m h fun v h' => res sh v fun x => K x st.b h') (hn : Nxt w0 h0 st K o a next)
    (hrun : (execOp a.eval o).run P w = (m.run P w).andThen fun v w' => .ok (.value v) w') : o.upon P a next Q ((execOp a.eval o).run P w) := by
  obtain ⟨v, w', h', h1, h2, h3, h4⟩ := H w R.sub
  obtain ⟨x, ⟨rfl, hk⟩, hx⟩ := exS_elim (show exS sh _ from h4)
  rw [hrun, h1, Result.andThen_ok, Oper.upon_value]
  exact hn _ _ _ ρ _ _ hk (R.step h2 h3) (SV.ok_val hx) (BoxMono.refl _)
theorem upon_call (R : RelR ρ w0 h0 st h a w) {f : FuncId} {vs : List Value} {sh : Sh} (H : CallOK P f vs h fun v h' => res sh v fun x => K x st.b h') (hn : Nxt w0 h0 st K o a next)
    (hrun : (execOp a.eval o).run P w = .ok (.enter f vs.toArray) w) : o.upon P a next Q ((execOp a.eval o).run P w) := by
  rw [hrun, Oper.upon_enter]
  refine (H w R.sub).mono ?_
  rintro e w' ⟨v, h', rfl, h2, h3, h4⟩
  obtain ⟨x, ⟨rfl, hk⟩, hx⟩ := exS_elim (show exS sh _ from h4)
  exact hn _ _ _ ρ _ _ hk (R.step h2 h3) (SV.ok_val hx) (BoxMono.refl _)
end
end Go.Vd
set_option linter.unusedVariables false
namespace Go.Vd
open Go.Vc
open Go
section
variable {P : Program} {cfg : Cfg} {ρ : Nat → Option Nat} {w0 : World} {h0 : Hp} {st : St} {h : Hp} {a : Act} {w : World} {ch : List (Nat × Bool)}
variable {K : SV → List Box → Hp → Prop} {next : Act → World → Prop} {Q : Exit → Act → World → Prop}
theorem vcE_ok (hP : NoNG P) (R : RelR ρ w0 h0 st h a w) (hch : ∀ s p, (s, p) ∈ ch → a.tmps.getD s undef = .bool p) {o : Oper} (H : vcE P cfg o ch st h K) (hn : Nxt w0 h0 st K o a next) :
    o.upon P a next Q ((execOp a.eval o).run P w) := by
  obtain ⟨d, op, ty, pos, af, gd⟩ := o
  have hev := fun x => ev_ok R hch x
  have hval := fun {x : Operand} {v : Value} (hv : (st.ev ch x).val? = some v) => val_ok R hch hv
  cases op with
  | alloc T =>
    simp only [vcE] at H
    split at H
    · rename_i z hz
      exact upon_newBox R H hn (by rw [exec_v (m := Instr.alloc T true (.tuple #[])) rfl, run_alloc_T hz]; rfl)
    · exact H.elim
  | box T x =>
    simp only [vcE] at H
    have hx := hev x
    split at H
    · rename_i y e
      rw [e] at hx
      cases ho : allOneT y.cells with
      | false => unfold newBox at H; rw [ho] at H; exact H.elim
      | true =>
        have hpl : plainW y = true := by
          cases y with
          | one v => simp [TW.cells, allOneT] at ho; exact ho
          | ag l => rfl
        have hc := plainW_cells hpl
        refine upon_newBox R H hn ?_
        rw [exec_v (m := Instr.box T (a.eval x)) rfl, run_box_T, show a.eval x = y.val from hx]
        rw [hc]
        rfl
    · exact H.elim
  | buildSlice T n parts =>
    simp only [vcE] at H
    split at H
    · rename_i e ps hu hps
      split at H
      · rename_i z hz
        cases hc : (Nat.ble 1 (szT P e) && Nat.beq z.length (szT P e) && Nat.ble (n * szT P e) 4096) with
        | false => rw [hc] at H; exact H.elim
        | true =>
          rw [hc] at H
          simp only [Bool.and_eq_true] at hc
          simp only [cond_true] at H
          split at H
          · rename_i cs hf
            cases ho : allOneT cs with
            | false => rw [ho] at H; exact H.elim
            | true =>
              rw [ho] at H
              simp only [cond_true] at H
              have hE : (execOp a.eval ⟨d, .buildSlice T n parts, ty, pos, af, gd⟩).run P w = ((Instr.buildSlice T n (ps.map fun q => (q.1, q.2.val)).toArray).run P w).andThen fun v w' => .ok (.value v) w' := by
                have e := partsL_ok R hch hps
                have : parts.map (fun (q : Nat × Operand) => (q.1, a.eval q.2)) = (ps.map fun q => (q.1, q.2.val)).toArray := by
                  apply Array.ext'
                  simpa using e
                rw [← this]
                exact exec_v rfl
              rw [hE, run_buildSlice_T hu hz (Nat.le_of_ble_eq_true hc.1.1) (Nat.eq_of_beq_eq_true hc.1.2) (Nat.le_of_ble_eq_true hc.2) (partsL_plain hps) hf, Result.andThen_ok, Oper.upon_value]
              exact hn _ _ _ ρ _ _ (H w.heap.size R.sub.none) (R.step (R.sub.pushSet _) (Fr.pushSet h w _)) rfl (BoxMono.refl _)
          · exact H.elim
      · exact H.elim
    · exact H.elim
  | store T x y =>
    simp only [vcE] at H
    have hx := hev x
    have hy := hev y
    have hE : ∀ b o', a.eval x = .pointer (some ⟨b, o', none⟩) → (execOp a.eval ⟨d, .store T x y, ty, pos, af, gd⟩).run P w = ((storeVar T ⟨b, o', none⟩ (a.eval y)).run P w).andThen fun _ w' => .ok .skip w' := by
      intro b o' hb
      simp [execOp, hb, Instr.storeAt, Instr.sureAddr]
    split at H
    · rename_i i o' y' e1 e2
      rw [e1] at hx; rw [e2] at hy
      obtain ⟨b, hb, hx⟩ := hx
      split at H
      · rename_i bx hbx
        cases hc : (Nat.ble 1 (szT P T) && Nat.beq y'.cells.length (szT P T) && Nat.ble (o' + y'.cells.length) bx.c.length && allOneT y'.cells) with
        | false => rw [hc] at H; exact H.elim
        | true =>
          rw [hc] at H
          simp only [Bool.and_eq_true] at hc
          simp only [cond_true] at H
          have hpl : plainW y' = true := by
            cases y' with
            | one v => simp [TW.cells, allOneT] at hc; exact hc.2
            | ag l => rfl
          obtain ⟨b', k1, k2, k3, k4⟩ := R.box i bx hbx
          rw [hb] at k1; obtain rfl := Option.some.inj k1
          have hfit := Nat.le_of_ble_eq_true hc.1.2
          have hrun := run_storeVar_T (P := P) (w := w) (T := T) (b := b) (o := o') (v := y'.val) (vs := tvals y'.cells) (Nat.le_of_ble_eq_true hc.1.1.1) (plainW_cells hpl).symm
            (by rw [tvals_length]; exact Nat.eq_of_beq_eq_true hc.1.1.2) (allOneT_cells hc.2) k2 (by simpa [tvals_length] using hfit)
          rw [hE _ _ hx, show a.eval y = y'.val from hy, hrun, Result.andThen_ok, Oper.upon_skip]
          have hset := R.setBox hbx hb (setL bx.c o' y'.cells)
          rw [setL_tvals] at hset
          exact hn .any _ _ ρ undef _ H (by simpa using hset) trivial (boxMono_set hbx _)
      · exact H.elim
    · rename_i b o' y' e1 e2
      rw [e1] at hx; rw [e2] at hy
      have hx' : a.eval x = .pointer (some ⟨b, o', none⟩) := hx
      cases hc : (Nat.ble 1 (szT P T) && Nat.beq y'.cells.length (szT P T) && allOneT y'.cells) with
      | false => rw [hc] at H; exact H.elim
      | true =>
        rw [hc] at H
        simp only [Bool.and_eq_true] at hc
        simp only [cond_true] at H
        obtain ⟨c, t, hb, hfit, hk⟩ := H
        have hpl : plainW y' = true := by
          cases y' with
          | one v => simp [TW.cells, allOneT] at hc; exact hc.2
          | ag l => rfl
        have hwb := R.sub b _ hb
        have hrun := run_storeVar_T (P := P) (w := w) (T := T) (b := b) (o := o') (v := y'.val) (vs := tvals y'.cells) (Nat.le_of_ble_eq_true hc.1.1) (plainW_cells hpl).symm
          (by rw [tvals_length]; exact Nat.eq_of_beq_eq_true hc.1.2) (allOneT_cells hc.2) hwb hfit
        rw [hE _ _ hx', show a.eval y = y'.val from hy, hrun, Result.andThen_ok, Oper.upon_skip]
        refine hn .any _ _ ρ undef _ hk (R.step ?_ ?_) trivial (BoxMono.refl _)
        · intro k o hk
          rw [setRow_get w b _ _ _ _ hwb]
          by_cases e : k = b
          · subst e; rw [Hp.set_same] at hk; rw [if_pos rfl, hk]
          · rw [Hp.set_other _ _ e] at hk; rw [if_neg e]; exact R.sub k o hk
        · refine ⟨rfl, rfl, rfl, by simp [World.setRow], Nat.le_refl _, fun k hk hkn => ?_⟩
          have e : k ≠ b := by intro e; subst e; simp [hb] at hkn
          exact ⟨by rw [setRow_get w b _ _ _ _ hwb, if_neg e], by rw [Hp.set_other _ _ e]; exact hkn⟩
    · exact H.elim
  | call c =>
    obtain ⟨callee, args, ts⟩ := c
    have hargs : ∀ vs, st.evs ch args.toList = some vs → args.map a.eval = vs.toArray := by
      intro vs hvs
      have e := evs_ok R hch hvs
      apply Array.ext'; simpa using e
    cases callee with
    | invoke r m => exact H.elim
    | value f =>
      cases f with
      | func g =>
        simp only [vcE] at H
        split at H
        · rename_i vs hvs
          have hE : (execOp a.eval ⟨d, .call ⟨.value (.func g), args, ts⟩, ty, pos, af, gd⟩).run P w = (callFunc g vs.toArray).run P w := by
            simp [execOp, resolve, invoke, Act.eval, Deferred.ofValue, hargs vs hvs]
          split at H
          · rename_i hb
            obtain ⟨fn, hf, hbody⟩ := Option.map_eq_some_iff.1 hb
            exact upon_call R H hn (by rw [hE, run_callFunc_body hf (hP g fn hf) hbody])
          · rename_i hb
            obtain ⟨v, w', h', k1, k2, k3, k4⟩ := H w R.sub
            obtain ⟨x, ⟨rfl, hk⟩, hx⟩ := exS_elim (show exS _ _ from k4)
            rw [hE, k1, Oper.upon_value]
            exact hn _ _ _ ρ _ _ hk (R.step k2 k3) (SV.ok_val hx) (BoxMono.refl _)
          · exact H.elim
        · exact H.elim
      | tmp t =>
        simp only [vcE] at H
        split at H
        · rename_i vs fv hvs hfv
          obtain ⟨g, pre, post, rfl, ⟨fn, hf, hname, hb⟩, hc⟩ := H
          have hE : (execOp a.eval ⟨d, .call ⟨.value (.tmp t), args, ts⟩, ty, pos, af, gd⟩).run P w = (callFunc g (pre.toList ++ vs ++ post.toList).toArray).run P w := by
            have e : (pre.toList ++ vs ++ post.toList).toArray = pre ++ vs.toArray ++ post := by apply Array.ext'; simp
            rw [e]
            simp [execOp, resolve, invoke, hval hfv, Deferred.ofValue, hargs vs hvs]
          have hb' : fn.body.isSome = true := by cases hq : fn.body <;> simp_all
          exact upon_call R hc hn (by rw [hE, run_callFunc_body hf hname hb'])
        · exact H.elim
      | _ => exact H.elim
    | builtin b =>
      have hE : ∀ (m : Sem Value) (vs : List Value), st.evs ch args.toList = some vs → (∀ cs, builtin b ts ty cs vs.toArray = (do pure (.value (← m)))) →
          (execOp a.eval ⟨d, .call ⟨.builtin b, args, ts⟩, ty, pos, af, gd⟩).run P w = (m.run P w).andThen fun v w' => .ok (.value v) w' := by
        intro m vs hvs hm
        simp [execOp, resolve, invoke, hargs vs hvs, hm]
      simp only [vcE] at H
      split at H
      · rename_i vs hvs
        split at H
        · exact upon_sem R H hn (hE _ vs hvs (fun _ => rfl))
        · exact upon_sem R H hn (hE _ vs hvs (fun _ => rfl))
        · exact upon_sem R H hn (hE _ vs hvs (fun _ => rfl))
        · exact upon_sem R H hn (hE _ vs hvs (fun _ => rfl))
        · exact H.elim
      · exact H.elim
  | makeMap T r =>
    cases r with
    | some r => exact H.elim
    | none => exact upon_sem R (show SemOK P _ h _ from H) hn (exec_v (by simp [execOp]))
  | makeSlice T l c =>
    simp only [vcE] at H
    split at H
    · rename_i u v e1 e2
      exact upon_sem R H hn (exec_v (by simp [execOp, hval e1, hval e2]))
    · exact H.elim
  | convert s t x =>
    simp only [vcE] at H
    split at H
    · rename_i u e1
      exact upon_sem R H hn (exec_v (by simp [execOp, hval e1]))
    · exact H.elim
  | mapUpdate T m k x =>
    simp only [vcE] at H
    split at H
    · rename_i m' k' x' e1 e2 e3
      obtain ⟨w', h', k1, k2, k3, k4⟩ := H w R.sub
      have hE : (execOp a.eval ⟨d, .mapUpdate T m k x, ty, pos, af, gd⟩).run P w = ((Instr.mapUpdate T m' k' x').run P w).andThen fun _ w' => .ok .skip w' := by
        simp [execOp, hval e1, hval e2, hval e3]
      rw [hE, k1, Result.andThen_ok, Oper.upon_skip]
      exact hn .any _ _ ρ undef _ k4 (R.step k2 k3) trivial (BoxMono.refl _)
    · exact H.elim
  | insert T m k x =>
    simp only [vcE] at H
    split at H
    · rename_i m' k' x' e1 e2 e3
      obtain ⟨w', h', k1, k2, k3, k4⟩ := H w R.sub
      have hE : (execOp a.eval ⟨d, .insert T m k x, ty, pos, af, gd⟩).run P w = ((Instr.mapUpdate T m' k' x').run P w).andThen fun _ w' => .ok .skip w' := by
        simp [execOp, hval e1, hval e2, hval e3]
      rw [hE, k1, Result.andThen_ok, Oper.upon_skip]
      exact hn .any _ _ ρ undef _ k4 (R.step k2 k3) trivial (BoxMono.refl _)
    · exact H.elim
  | range T x =>
    simp only [vcE] at H
    split at H
    · rename_i u e1
      obtain ⟨v, w', h', k1, k2, k3, k4⟩ := H w R.sub
      have hE : (execOp a.eval ⟨d, .range T x, ty, pos, af, gd⟩).run P w = ((Instr.range T u).run P w).andThen fun v w' => .ok (.value v) w' := exec_v (by simp [execOp, hval e1])
      rw [hE, k1, Result.andThen_ok, Oper.upon_value]
      exact hn _ _ _ ρ _ _ k4 (R.step k2 k3) rfl (BoxMono.refl _)
    · exact H.elim
  | next it s =>
    simp only [vcE] at H
    split at H
    · rename_i u e1
      exact upon_sem R H hn (exec_v (by simp [execOp, hval e1]))
    · exact H.elim
  | _ => exact H.elim
end
end Go.Vd
set_option linter.unusedVariables false
namespace Go.Vd
open Go.Vc
open Go
section
variable {P : Program} {cfg : Cfg} {ρ : Nat → Option Nat} {w0 : World} {h0 : Hp} {st : St} {h : Hp} {a : Act} {w : World}
theorem put_ok (R : RelR ρ w0 h0 st h a w) {dst : Option Nat} {gd : Option (Nat × Bool)} {x : SV} {K : St → Prop} (H : st.put dst gd x K) {v : Value}
    (hv : match gd with
      | none => x.ok ρ v
      | some (s, p) => (a.tmps.getD s undef = .bool p → x.ok ρ v) ∧ (a.tmps.getD s undef ≠ .bool p → v = undef)) :
    ∃ st', K st' ∧ RelR ρ w0 h0 st' h (a.put dst v) w ∧ Ev (dstL dst) st st' := by
  cases dst with
  | none => exact ⟨st, H, R, Ev.refl _ _⟩
  | some d =>
    cases gd with
    | none =>
      simp only [St.put] at H
      cases hc : (Nat.blt d st.n && !(st.g d)) with
      | false => rw [hc] at H; exact H.elim
      | true =>
        rw [hc] at H
        simp only [Bool.and_eq_true, Bool.not_eq_true'] at hc
        have hd : d < a.tmps.size := by rw [R.n]; exact of_decide_eq_true (by have := hc.1; simpa [Nat.blt_eq] using this)
        refine ⟨_, H, ⟨by simp [Act.put, R.n], R.d, fun i => ?_, ?_, R.sub, R.F, R.box, R.dom, R.inj⟩, ⟨rfl, fun i hi => ?_, BoxMono.refl _⟩⟩
        · simp only [Act.put]
          rw [getD_set _ _ _ _ hd]
          cases hb : Nat.beq i d with
          | true =>
            have := Nat.eq_of_beq_eq_true hb
            simp only [cond_true, if_pos this]
            exact hv
          | false =>
            have hne := Nat.ne_of_beq_eq_false hb
            simp only [cond_false, if_neg hne]
            have hr := R.fr i
            cases hi : st.t i with
            | s y => rw [hi] at hr; exact hr
            | gd k p y =>
              rw [hi] at hr
              have hk := R.gd i k p y hi
              have hkd : k ≠ d := by intro e; subst e; rw [hc.2] at hk; simp at hk
              simp only [Sl.ok] at hr ⊢
              rw [getD_set _ _ _ _ hd, if_neg hkd]
              exact hr
        · intro i s p y hi
          simp only at hi
          cases hb : Nat.beq i d with
          | true => rw [hb] at hi; simp at hi
          | false => rw [hb] at hi; exact R.gd i s p y hi
        · have hne : i ≠ d := by simpa [dstL] using hi
          have : Nat.beq i d = false := by cases hq : Nat.beq i d <;> simp_all
          simp [this]
    | some q =>
      obtain ⟨s, p⟩ := q
      simp only [St.put] at H
      cases hc : (Nat.blt d st.n && !(Nat.beq d s || st.g d)) with
      | false => rw [hc] at H; exact H.elim
      | true =>
        rw [hc] at H
        simp only [Bool.and_eq_true, Bool.not_eq_true'] at hc
        have hd : d < a.tmps.size := by rw [R.n]; exact of_decide_eq_true (by have := hc.1; simpa [Nat.blt_eq] using this)
        have hnm : ¬ d = s ∧ ¬ st.g d = true := by
          have := hc.2
          simp only [Bool.or_eq_false_iff] at this
          exact ⟨Nat.ne_of_beq_eq_false this.1, by simp [this.2]⟩
        refine ⟨_, H, ⟨by simp [Act.put, R.n], R.d, fun i => ?_, ?_, R.sub, R.F, R.box, R.dom, R.inj⟩, ⟨rfl, fun i hi => ?_, BoxMono.refl _⟩⟩
        · simp only [Act.put]
          rw [getD_set _ _ _ _ hd]
          cases hb : Nat.beq i d with
          | true =>
            have := Nat.eq_of_beq_eq_true hb
            simp only [cond_true, if_pos this, Sl.ok]
            rw [getD_set _ _ _ _ hd, if_neg (fun e => hnm.1 e.symm)]
            exact hv
          | false =>
            have hne := Nat.ne_of_beq_eq_false hb
            simp only [cond_false, if_neg hne]
            have hr := R.fr i
            cases hi : st.t i with
            | s y => rw [hi] at hr; exact hr
            | gd k p y =>
              rw [hi] at hr
              have hk := R.gd i k p y hi
              have hkd : k ≠ d := by intro e; subst e; exact hnm.2 hk
              simp only [Sl.ok] at hr ⊢
              rw [getD_set _ _ _ _ hd, if_neg hkd]
              exact hr
        · intro i k p' y hi
          simp only at hi
          cases hb : Nat.beq i d with
          | true =>
            rw [hb] at hi
            simp only [cond_true, Sl.gd.injEq] at hi
            simp [hi.1]
          | false =>
            rw [hb] at hi
            have := R.gd i k p' y hi
            simp only
            cases hq : Nat.beq k s <;> simp [this]
        · have hne : i ≠ d := by simpa [dstL] using hi
          have : Nat.beq i d = false := by cases hq : Nat.beq i d <;> simp_all
          simp [this]
theorem cond_spec (R : RelR ρ w0 h0 st h a w) : ∀ (n s : Nat) (p : Bool), okGd st n s = true →
    (condP st n s p → a.tmps.getD s undef = .bool p ∧ ∀ s' p', (s', p') ∈ chain st n s p → a.tmps.getD s' undef = .bool p') ∧
    (¬ condP st n s p → a.tmps.getD s undef ≠ .bool p) := Vc.cond_spec R.toVc
end
theorem vcE_call {P : Program} {cfg : Cfg} {o : Oper} {ch : List (Nat × Bool)} {st : St} {h : Hp} {J : SV → Hp → Prop} {K : SV → List Box → Hp → Prop} (hc : isCall o.op = true) (hk : ∀ sv h', J sv h' → (exS (shp P o.type) fun y => y = sv) → K sv st.b h') (H : vcE P cfg o ch st h fun sv _ h' => J sv h') :
    vcE P cfg o ch st h K := by
  obtain ⟨dst, op, ty, pos, af, gd⟩ := o
  have hR : ∀ v h', (res (shp P ty) v fun x => J x h') → res (shp P ty) v fun x => K x st.b h' := fun v h' hr => res_shape (fun x => hk x h') hr
  have hsem : ∀ m, (SemOK P m h fun v h' => res (shp P ty) v fun x => J x h') → SemOK P m h fun v h' => res (shp P ty) v fun x => K x st.b h' :=
    fun m Hm w hs => let ⟨v, w', h', h1, h2, h3, h4⟩ := Hm w hs; ⟨v, w', h', h1, h2, h3, hR _ _ h4⟩
  have hcall : ∀ f vs, (CallOK P f vs h fun v h' => res (shp P ty) v fun x => J x h') → CallOK P f vs h fun v h' => res (shp P ty) v fun x => K x st.b h' :=
    fun f vs Hm w hs => (Hm w hs).mono fun e w' ⟨v, h', h1, h2, h3, h4⟩ => ⟨v, h', h1, h2, h3, hR _ _ h4⟩
  cases op with
  | call c =>
    obtain ⟨callee, args, ts⟩ := c
    cases callee with
    | builtin b =>
      simp only [vcE] at H ⊢
      split at H
      · cases b <;> first | exact H.elim | exact hsem _ H
      · exact H.elim
    | value f =>
      cases f with
      | func g =>
        simp only [vcE] at H ⊢
        split at H
        · rename_i vs hvs
          cases hb : (P.funcs[g]?).map (·.body.isSome) with
          | none => rw [hb] at H; exact H.elim
          | some q =>
            rw [hb] at H
            cases q with
            | true => exact hcall _ _ H
            | false => exact fun w hs => let ⟨v, w', h', h1, h2, h3, h4⟩ := H w hs; ⟨v, w', h', h1, h2, h3, hR _ _ h4⟩
        · exact H.elim
      | tmp t =>
        simp only [vcE] at H ⊢
        split at H
        · obtain ⟨f, pre, post, e, hfn, hcl⟩ := H
          exact ⟨f, pre, post, e, hfn, hcall _ _ hcl⟩
        · exact H.elim
      | _ => exact H.elim
    | invoke r m => exact H.elim
  | _ => cases hc
theorem vcOp_gen {P : Program} {cfg : Cfg} (hP : NoNG P) {ops : Array Oper} {o : Oper} {w0 : World} {h0 : Hp} {st : St} {h : Hp} {a : Act} {w : World} {K : St → Hp → Prop} {Q : Exit → Act → World → Prop} {N : Act → World → Prop}
    (R : Rel w0 h0 st h a w) (H : vcOp P cfg ops o st h K)
    (hn : ∀ st' h' a' w', K st' h' → Rel w0 h0 st' h' a' w' → Ev (dstL o.dst) st st' → N a' w') : if Region.wanted o (yielded ops a.tmps) then o.wp P a w N Q ∨ (o.asks P a w ∧ LetsOut Q) else N (a.put o.dst undef) w := by
  obtain ⟨ρ, R⟩ := R
  unfold vcOp at H
  have hnE : ∀ {gdr : Option (Nat × Bool)}, Nxt w0 h0 st (fun sv b h' => St.put ⟨st.n, st.t, st.g, b⟩ o.dst none sv fun st' => K st' h') o a N := by
    intro _ sv b' h' ρ' v w' hk R' hsv hb
    obtain ⟨st', k1, k2, k3⟩ := put_ok R' (gd := none) hk hsv
    exact hn st' h' _ _ k1 ⟨ρ', k2⟩ ⟨k3.n, k3.t, hb.trans k3.b⟩
  cases hg : o.guard with
  | none =>
    rw [hg] at H
    simp only at H
    rw [if_pos (wanted_none hg _)]
    left
    unfold Oper.wp
    cases hE : isE P o.op with
    | true =>
      rw [hE] at H
      simp only [cond_true] at H
      exact vcE_ok hP R (ch := []) (fun _ _ hm => by simp at hm) H (hnE (gdr := none))
    | false =>
      rw [hE] at H
      simp only [cond_false] at H
      obtain ⟨sv, hk, v, hr, hsv⟩ := vcV_ok R (ch := []) (fun _ _ hm => by simp at hm) (G := fun p => p) (fun p hp => hp) H
      rw [hr, Oper.upon_value]
      obtain ⟨st', k1, k2, k3⟩ := put_ok R (gd := none) hk hsv
      exact hn st' h _ _ k1 ⟨ρ, k2⟩ k3
  | some q =>
    obtain ⟨j, p⟩ := q
    rw [hg] at H
    simp only at H
    split at H
    · exact H.elim
    · rename_i s hj
      cases hok : okGd st 8 s with
      | false => rw [hok] at H; exact H.elim
      | true =>
        rw [hok] at H
        simp only [cond_true] at H
        have hspec := cond_spec R 8 s p hok
        have hw := wanted_some (ops := ops) hg hj a.tmps
        cases hE : isE P o.op with
        | true =>
          rw [hE] at H
          simp only [cond_true] at H
          cases hC : isCall o.op with
          | true =>
            rw [hC] at H
            simp only [cond_true] at H
            obtain ⟨J, H1, H2, H3⟩ := H
            by_cases hc : condP st 8 s p
            · obtain ⟨h1, h2⟩ := hspec.1 hc
              rw [if_pos (hw.2 h1)]
              left
              unfold Oper.wp
              refine vcE_ok hP R h2 (vcE_call (K := fun sv b h' => b = st.b ∧ J sv h' ∧ exS (shp P o.type) fun y => y = sv) hC (fun sv h' q1 q2 => ⟨rfl, q1, q2⟩) (H1 hc)) ?_
              rintro sv b' h' ρ' v w' ⟨hk0, hk1, hk2⟩ R' hsv hb
              subst hk0
              obtain ⟨st', k1, k2, k3⟩ := put_ok R' (gd := some (s, p)) (alS_in (H3 h') hk2 hk1) (v := v) ⟨fun _ => hsv, fun e => (e h1).elim⟩
              exact hn st' h' _ _ k1 ⟨ρ', k2⟩ ⟨k3.n, k3.t, hb.trans k3.b⟩
            · have h1 := hspec.2 hc
              rw [if_neg (fun e => h1 (hw.1 e))]
              obtain ⟨st', k1, k2, k3⟩ := put_ok R (gd := some (s, p)) (v := undef) (alS_in (H3 h) (dfl_in _) (H2 hc)) ⟨fun e => (h1 e).elim, fun _ => rfl⟩
              exact hn st' h _ _ k1 ⟨ρ, k2⟩ k3
          | false =>
          rw [hC] at H
          simp only [cond_false] at H
          by_cases hc : condP st 8 s p
          · obtain ⟨h1, h2⟩ := hspec.1 hc
            rw [if_pos (hw.2 h1)]
            left
            unfold Oper.wp
            exact vcE_ok hP R h2 (H.1 hc) (hnE (gdr := none))
          · have h1 := hspec.2 hc
            rw [if_neg (fun e => h1 (hw.1 e))]
            obtain ⟨st', k1, k2, k3⟩ := put_ok R (gd := some (s, p)) (v := undef) (H.2 hc) ⟨fun e => (h1 e).elim, fun _ => rfl⟩
            exact hn st' h _ _ k1 ⟨ρ, k2⟩ k3
        | false =>
          rw [hE] at H
          simp only [cond_false] at H
          by_cases hc : condP st 8 s p
          · obtain ⟨h1, h2⟩ := hspec.1 hc
            rw [if_pos (hw.2 h1)]
            left
            unfold Oper.wp
            obtain ⟨sv, hk, v, hr, hsv⟩ := vcV_ok R h2 (fun q hq => hq hc) H
            rw [hr, Oper.upon_value]
            obtain ⟨st', k1, k2, k3⟩ := put_ok R (gd := some (s, p)) hk (v := v) ⟨fun _ => hsv, fun e => (e h1).elim⟩
            exact hn st' h _ _ k1 ⟨ρ, k2⟩ k3
          · have h1 := hspec.2 hc
            rw [if_neg (fun e => h1 (hw.1 e))]
            obtain ⟨sv, hk⟩ := vcV_any H
            obtain ⟨st', k1, k2, k3⟩ := put_ok R (gd := some (s, p)) hk (v := undef) ⟨fun e => (h1 e).elim, fun _ => rfl⟩
            exact hn st' h _ _ k1 ⟨ρ, k2⟩ k3
theorem vcOp_ok {P : Program} {cfg : Cfg} (hP : NoNG P) {ops : Array Oper} {o : Oper} {w0 : World} {h0 : Hp} {st : St} {h : Hp} {a : Act} {w : World} {K : St → Hp → Prop} {Q : Exit → Act → World → Prop} {rest : List Oper}
    (R : Rel w0 h0 st h a w) (H : vcOp P cfg ops o st h K)
    (hn : ∀ st' h' a' w', K st' h' → Rel w0 h0 st' h' a' w' → Ev (dstL o.dst) st st' → wpList P ops Q rest a' w') : wpList P ops Q (o :: rest) a w := by
  unfold wpList
  exact vcOp_gen hP R H hn
end Go.Vd
set_option linter.unusedVariables false
namespace Go.Vd
open Go.Vc
open Go
section
variable {P : Program} {cfg : Cfg} {st st1 : St} {d : Nat} {ch : List (Nat × Bool)}
theorem Agr.vcE (A : Agr d st st1) {o : Oper} (h : ∀ x ∈ o.op.operands.toList, x ≠ .tmp d) {hp : Hp} {K : SV → List Box → Hp → Prop} : Vd.vcE P cfg o ch st1 hp K = Vd.vcE P cfg o ch st hp K := by
  obtain ⟨dst, op, ty, pos, af, gd⟩ := o
  have hnb : ∀ T cs, Vc.newBox cfg ⟨dst, op, ty, pos, af, gd⟩ st1 hp T cs K = Vc.newBox cfg ⟨dst, op, ty, pos, af, gd⟩ st hp T cs K := by intro T cs; simp only [Vc.newBox, A.b]
  cases op with
  | alloc T => simp only [Vd.vcE, hnb]
  | box T x => simp only [Vd.vcE, hnb]; rw [A.ev (h x (by simp [Op.operands]))]
  | buildSlice T n ps =>
    simp only [Vd.vcE, A.b]
    rw [A.partsL (fun x hx => h x.2 (by simp only [Op.operands, List.mem_map]; exact ⟨x, hx, rfl⟩))]
  | store T x y => simp only [Vd.vcE, A.b]; rw [A.ev (h x (by simp [Op.operands])), A.ev (h y (by simp [Op.operands]))]
  | call c =>
    obtain ⟨callee, args, ts⟩ := c
    have ha : ∀ x ∈ args.toList, x ≠ .tmp d := fun x hx => h x (by simp only [Op.operands, Call.operands]; cases callee <;> simp_all)
    cases callee with
    | builtin b => simp only [Vd.vcE, A.b]; rw [A.evs ha]
    | value f =>
      cases f with
      | func g => simp only [Vd.vcE, A.b]; rw [A.evs ha]
      | tmp t => simp only [Vd.vcE, A.b]; rw [A.evs ha, A.ev (h (.tmp t) (by simp [Op.operands, Call.operands]))]
      | _ => rfl
    | invoke r m => rfl
  | makeMap T r => cases r <;> simp only [Vd.vcE, A.b]
  | convert s t x => simp only [Vd.vcE, A.b]; rw [A.ev (h x (by simp [Op.operands]))]
  | makeSlice T l c => simp only [Vd.vcE, A.b]; rw [A.ev (h l (by simp [Op.operands])), A.ev (h c (by simp [Op.operands]))]
  | mapUpdate T m k x => simp only [Vd.vcE, A.b]; rw [A.ev (h m (by simp [Op.operands])), A.ev (h k (by simp [Op.operands])), A.ev (h x (by simp [Op.operands]))]
  | insert T m k x => simp only [Vd.vcE, A.b]; rw [A.ev (h m (by simp [Op.operands])), A.ev (h k (by simp [Op.operands])), A.ev (h x (by simp [Op.operands]))]
  | range T x => simp only [Vd.vcE, A.b]; rw [A.ev (h x (by simp [Op.operands]))]
  | next it s => simp only [Vd.vcE, A.b]; rw [A.ev (h it (by simp [Op.operands]))]
  | _ => rfl
end
section
variable {P : Program} {cfg : Cfg} {ops : Array Oper} {st st1 : St} {d : Nat}
theorem vcOp_V {o : Oper} {h : Hp} {K : St → Hp → Prop} (hE : isE P o.op = false) : vcOp P cfg ops o st h K ↔ ∃ g, gdO ops o = some g ∧ okG st g ∧ putC st o.dst g ∧ ∃ sv, VS P g o st h sv ∧ K (putS st o.dst g sv) h := by
  unfold vcOp gdO
  cases hg : o.guard with
  | none =>
    simp only [hE, cond_false, Option.some.injEq, exists_eq_left', okG, true_and]
    constructor
    · intro H
      obtain ⟨sv, h1, h2⟩ := VD.pick (show (vcVd P o [] st).sem P (fun p => p) h _ from H)
      rw [put_iff] at h2
      exact ⟨h2.1, sv, h1, h2.2⟩
    · rintro ⟨h1, sv, h2, h3⟩
      exact VD.mono (fun _ b o hb => hb) (fun p q f => f) (fun x hx => by rw [hx]; exact put_iff.2 ⟨h1, h3⟩) h2
  | some q =>
    obtain ⟨j, p⟩ := q
    simp only
    cases hj : (ops[j]?).bind (·.dst) with
    | none => simp
    | some s =>
      simp only [Option.map_some, Option.some.injEq, exists_eq_left', okG, hE, cond_false]
      cases hok : okGd st 8 s with
      | false => simp
      | true =>
        simp only [cond_true, true_and]
        constructor
        · intro H
          obtain ⟨sv, h1, h2⟩ := VD.pick (show (vcVd P o (chain st 8 s p) st).sem P (fun q => condP st 8 s p → q) h _ from H)
          rw [put_iff] at h2
          exact ⟨h2.1, sv, h1, h2.2⟩
        · rintro ⟨h1, sv, h2, h3⟩
          exact VD.mono (fun _ b o hb => hb) (fun p q f g c => f (g c)) (fun x hx => by rw [hx]; exact put_iff.2 ⟨h1, h3⟩) h2
theorem vcE_mono {o : Oper} {st : St} {ch : List (Nat × Bool)} {h : Hp} {K K' : SV → List Box → Hp → Prop} (hk : ∀ sv b h', BoxMono st.b b → K sv b h' → K' sv b h') (H : vcE P cfg o ch st h K) : vcE P cfg o ch st h K' := by
  obtain ⟨dst, op, ty, pos, af, gd⟩ := o
  have same : ∀ sv h', K sv st.b h' → K' sv st.b h' := fun sv h' => hk sv st.b h' (BoxMono.refl _)
  have hsem : ∀ m sh, (SemOK P m h fun v h' => res sh v fun x => K x st.b h') → SemOK P m h fun v h' => res sh v fun x => K' x st.b h' := by
    intro m sh H w hs
    obtain ⟨v, w', h', h1, h2, h3, h4⟩ := H w hs
    exact ⟨v, w', h', h1, h2, h3, res_mono (fun x hx => same _ _ hx) h4⟩
  have hcall : ∀ f vs sh, (CallOK P f vs h fun v h' => res sh v fun x => K x st.b h') → CallOK P f vs h fun v h' => res sh v fun x => K' x st.b h' := by
    intro f vs sh H w hs
    exact (H w hs).mono fun e w' ⟨v, h', h1, h2, h3, h4⟩ => ⟨v, h', h1, h2, h3, res_mono (fun x hx => same _ _ hx) h4⟩
  cases op with
  | alloc T =>
    simp only [vcE] at *
    split at H
    · exact newBox_mono hk H
    · exact H.elim
  | box T x =>
    simp only [vcE] at *
    split at H
    · exact newBox_mono hk H
    · exact H.elim
  | buildSlice T n parts =>
    simp only [vcE] at *
    rcases hu : P.underlying T with _ | d'
    · rw [hu] at H; exact H.elim
    · rcases hp : partsL st ch parts.toList with _ | ps
      · rw [hu, hp] at H; cases d' <;> exact H.elim
      · rw [hu, hp] at H
        cases d' with
        | slice e =>
          simp only at *
          rcases hz : zeroL P e with _ | z
          · rw [hz] at H; exact H.elim
          · rw [hz] at H
            simp only at *
            rcases Bool.eq_false_or_eq_true (Nat.ble 1 (szT P e) && Nat.beq z.length (szT P e) && Nat.ble (n * szT P e) 4096) with hc | hc
            · rw [hc] at H ⊢
              simp only [cond_true] at *
              rcases hf : fillL (fun i => some (i * szT P e, szT P e)) ((List.replicate n z).flatten) ps with _ | cs
              · rw [hf] at H; exact H.elim
              · rw [hf] at H
                simp only at *
                rcases Bool.eq_false_or_eq_true (allOneT cs) with ho | ho
                · rw [ho] at H ⊢; exact fun b hb => same _ _ (H b hb)
                · rw [ho] at H; exact H.elim
            · rw [hc] at H; exact H.elim
        | _ => exact H.elim
  | store T x y =>
    simp only [vcE] at *
    split at H
    · rename_i i o' y' e1 e2
      rcases hb : st.b[i]? with _ | bx
      · rw [hb] at H; exact H.elim
      · rw [hb] at H
        simp only at *
        rcases Bool.eq_false_or_eq_true (Nat.ble 1 (szT P T) && Nat.beq y'.cells.length (szT P T) && Nat.ble (o' + y'.cells.length) bx.c.length && allOneT y'.cells) with hc | hc
        · rw [hc] at H ⊢; exact hk _ _ _ (boxMono_set hb _) H
        · rw [hc] at H; exact H.elim
    · rename_i b o' y' e1 e2
      rcases Bool.eq_false_or_eq_true (Nat.ble 1 (szT P T) && Nat.beq y'.cells.length (szT P T) && allOneT y'.cells) with hc | hc
      · rw [hc] at H ⊢
        simp only [cond_true] at *
        obtain ⟨c, e, h1, h2, h3⟩ := H
        exact ⟨c, e, h1, h2, same _ _ h3⟩
      · rw [hc] at H; exact H.elim
    · exact H.elim
  | call c =>
    obtain ⟨callee, args, ts⟩ := c
    cases callee with
    | invoke r m => exact H.elim
    | value f =>
      cases f with
      | func g =>
        simp only [vcE] at *
        split at H
        · split at H
          · exact hcall _ _ _ H
          · intro w hs
            obtain ⟨v, w', h', h1, h2, h3, h4⟩ := H w hs
            exact ⟨v, w', h', h1, h2, h3, res_mono (fun x hx => same _ _ hx) h4⟩
          · exact H.elim
        · exact H.elim
      | tmp t =>
        simp only [vcE] at *
        split at H
        · obtain ⟨f, pre, post, h1, h2, h3⟩ := H
          exact ⟨f, pre, post, h1, h2, hcall _ _ _ h3⟩
        · exact H.elim
      | _ => exact H.elim
    | builtin b =>
      simp only [vcE] at *
      split at H
      · split at H
        · exact hsem _ _ H
        · exact hsem _ _ H
        · exact hsem _ _ H
        · exact hsem _ _ H
        · exact H.elim
      · exact H.elim
  | makeMap T r =>
    cases r with
    | some r => exact H.elim
    | none => exact hsem _ _ H
  | convert s t x =>
    simp only [vcE] at *
    split at H
    · exact hsem _ _ H
    · exact H.elim
  | makeSlice T l c =>
    simp only [vcE] at *
    split at H
    · exact hsem _ _ H
    · exact H.elim
  | mapUpdate T m k x =>
    simp only [vcE] at *
    split at H
    · intro w hs
      obtain ⟨w', h', h1, h2, h3, h4⟩ := H w hs
      exact ⟨w', h', h1, h2, h3, same _ _ h4⟩
    · exact H.elim
  | insert T m k x =>
    simp only [vcE] at *
    split at H
    · intro w hs
      obtain ⟨w', h', h1, h2, h3, h4⟩ := H w hs
      exact ⟨w', h', h1, h2, h3, same _ _ h4⟩
    · exact H.elim
  | range T x =>
    simp only [vcE] at *
    split at H
    · intro w hs
      obtain ⟨v, w', h', h1, h2, h3, h4⟩ := H w hs
      exact ⟨v, w', h', h1, h2, h3, same _ _ h4⟩
    · exact H.elim
  | next it s =>
    simp only [vcE] at *
    split at H
    · exact hsem _ _ H
    · exact H.elim
  | _ => exact H.elim
theorem vcE_mono2 {o : Oper} {st : St} {ch : List (Nat × Bool)} {h : Hp} {K : SV → List Box → Hp → Prop} {J : SV → Hp → Prop} (hc : isCall o.op = true) (hk : ∀ sv h', K sv st.b h' → J sv h') (H : vcE P cfg o ch st h K) : vcE P cfg o ch st h fun sv _ h' => J sv h' := by
  obtain ⟨dst, op, ty, pos, af, gd⟩ := o
  have hR : ∀ v h', (res (shp P ty) v fun x => K x st.b h') → res (shp P ty) v fun x => J x h' := fun v h' hr => res_mono (fun x => hk x h') hr
  have hsem : ∀ m, (SemOK P m h fun v h' => res (shp P ty) v fun x => K x st.b h') → SemOK P m h fun v h' => res (shp P ty) v fun x => J x h' :=
    fun m Hm w hs => let ⟨v, w', h', h1, h2, h3, h4⟩ := Hm w hs; ⟨v, w', h', h1, h2, h3, hR _ _ h4⟩
  have hcall : ∀ f vs, (CallOK P f vs h fun v h' => res (shp P ty) v fun x => K x st.b h') → CallOK P f vs h fun v h' => res (shp P ty) v fun x => J x h' :=
    fun f vs Hm w hs => (Hm w hs).mono fun e w' ⟨v, h', h1, h2, h3, h4⟩ => ⟨v, h', h1, h2, h3, hR _ _ h4⟩
  cases op with
  | call c =>
    obtain ⟨callee, args, ts⟩ := c
    cases callee with
    | builtin b =>
      simp only [Vd.vcE] at H ⊢
      split at H
      · cases b <;> first | exact H.elim | exact hsem _ H
      · exact H.elim
    | value f =>
      cases f with
      | func g =>
        simp only [Vd.vcE] at H ⊢
        split at H
        · rename_i vs hvs
          cases hb : (P.funcs[g]?).map (·.body.isSome) with
          | none => rw [hb] at H; exact H.elim
          | some q =>
            rw [hb] at H
            cases q with
            | true => exact hcall _ _ H
            | false => exact fun w hs => let ⟨v, w', h', h1, h2, h3, h4⟩ := H w hs; ⟨v, w', h', h1, h2, h3, hR _ _ h4⟩
        · exact H.elim
      | tmp t =>
        simp only [Vd.vcE] at H ⊢
        split at H
        · obtain ⟨f, pre, post, e, hfn, hcl⟩ := H
          exact ⟨f, pre, post, e, hfn, hcall _ _ hcl⟩
        · exact H.elim
      | _ => exact H.elim
    | invoke r m => exact H.elim
  | _ => cases hc
theorem vcOp_E {o : Oper} {h : Hp} {K : St → Hp → Prop} (hE : isE P o.op = true) : vcOp P cfg ops o st h K ↔ ∃ g, gdO ops o = some g ∧ okG st g ∧
    (coG st g → vcE P cfg o (chG st g) st h fun sv b h' => putC ⟨st.n, st.t, st.g, b⟩ o.dst (pgO o g) ∧ K (putS ⟨st.n, st.t, st.g, b⟩ o.dst (pgO o g) sv) h') ∧
    (¬ coG st g → putC st o.dst g ∧ K (putS st o.dst g (dfl (shp P o.type))) h) := by
  unfold vcOp gdO
  cases hg : o.guard with
  | none =>
    have e0 : pgO o none = none := by unfold pgO; cases isCall o.op <;> rfl
    simp only [hE, cond_true, Option.some.injEq, exists_eq_left', okG, coG, chG, true_and, not_true_eq_false, false_implies, true_implies, and_true, put_iff, e0]
  | some q =>
    obtain ⟨j, p⟩ := q
    simp only
    cases hj : (ops[j]?).bind (·.dst) with
    | none => simp
    | some s =>
      simp only [Option.map_some, Option.some.injEq, exists_eq_left', okG, coG, chG, hE, cond_true]
      cases hok : okGd st 8 s with
      | false => simp
      | true =>
        cases hC : isCall o.op with
        | false =>
          have e0 : pgO o (some (s, p)) = none := by unfold pgO; rw [hC]; rfl
          simp only [cond_true, cond_false, true_and, put_iff, e0]
        | true =>
          have e0 : pgO o (some (s, p)) = some (s, p) := by unfold pgO; rw [hC]; rfl
          simp only [cond_true, true_and, e0]
          constructor
          · rintro ⟨J, H1, H2, H3⟩
            exact ⟨fun hc => vcE_call hC (fun sv h' q1 q2 => put_iff.1 (alS_in (H3 h') q2 q1)) (H1 hc), fun hc => put_iff.1 (alS_in (H3 h) (dfl_in _) (H2 hc))⟩
          · rintro ⟨H1, H2⟩
            exact ⟨fun sv h' => putC st o.dst (some (s, p)) ∧ K (putS st o.dst (some (s, p)) sv) h', fun hc => vcE_mono2 hC (fun sv h' q1 => q1) (H1 hc), fun hc => H2 hc, fun h' => alS_all fun x hx => put_iff.2 hx⟩
theorem swapVV {j i : Oper} {nj : Nat} (A : Apart ops j i) (W : WF st) (hi : isE P i.op = false) {h : Hp} {fl : List Fg} {F : List Fg → St → Prop}
    (H : vcDV P ops nj j st h fl fun fl' s => vcOp P cfg ops i s h fun s2 _ => F fl' s2) : vcOp P cfg ops i st h fun s _ => vcDV P ops nj j s h fl fun fl' s2 => F fl' s2 := by
  obtain ⟨gj, hgj, okj, pj, svj, vj, H⟩ := vcDV_iff.1 H
  obtain ⟨gi, hgi, oki, pi, svi, vi, H⟩ := (vcOp_V hi).1 H
  obtain ⟨e1, e2, _, _, _⟩ := VS_put (P := P) A W hgi pj (v := svj) (h := h)
  have pi' := (putC_put A hgj hgi pj).1 pi
  have A' : Apart ops i j := ⟨A.yx, A.xy, fun d e hd he => (A.ne e d he hd).symm⟩
  obtain ⟨f1, f2, f3, _, _⟩ := VS_put (P := P) A' W hgj pi' (v := svi) (h := h)
  refine (vcOp_V hi).2 ⟨gi, hgi, e1.1 oki, pi', svi, (e2 _).1 vi, ?_⟩
  refine vcDV_iff.2 ⟨gj, hgj, f1.2 okj, (putC_put A' hgi hgj pi').2 pj, svj, (f2 _).2 vj, ?_⟩
  rw [putS_comm A', f3]
  exact H
theorem vcE_A {o : Oper} {ch : List (Nat × Bool)} {st : St} (hA : isA o.op = true) : ∃ D : AD, ∀ h K, vcE P cfg o ch st h K ↔ D.sem st.b h K := by
  obtain ⟨dst, op, ty, pos, af, gd⟩ := o
  cases op with
  | alloc T =>
    simp only [vcE]
    split
    · exact newBox_A
    · exact ⟨.no, fun h K => Iff.rfl⟩
  | box T x =>
    simp only [vcE]
    split
    · exact newBox_A
    · exact ⟨.no, fun h K => Iff.rfl⟩
  | buildSlice T n parts =>
    simp only [vcE]
    split
    · rename_i e ps hu hp
      split
      · rename_i z hz
        rcases Bool.eq_false_or_eq_true (Nat.ble 1 (szT P e) && Nat.beq z.length (szT P e) && Nat.ble (n * szT P e) 4096) with hc | hc
        · rw [hc]
          simp only [cond_true]
          split
          · rename_i cs _
            rcases Bool.eq_false_or_eq_true (allOneT cs) with ho | ho
            · rw [ho]; exact ⟨.pub (fun b => .t (.one (.v (.slice (some ⟨b, 0, none⟩) n n)))) _, fun h K => Iff.rfl⟩
            · rw [ho]; exact ⟨.no, fun h K => Iff.rfl⟩
          · exact ⟨.no, fun h K => Iff.rfl⟩
        · rw [hc]; exact ⟨.no, fun h K => Iff.rfl⟩
      · exact ⟨.no, fun h K => Iff.rfl⟩
    · exact ⟨.no, fun h K => Iff.rfl⟩
  | _ => cases hA
theorem vcE_Ale {o : Oper} {ch : List (Nat × Bool)} {st : St} {h : Hp} {K : SV → List Box → Hp → Prop} (hA : isA o.op = true) (H : vcE P cfg o ch st h K) : vcE P cfg o ch st h fun sv b h2 => (h.le h2 ∧ ∀ (k : Nat) (x : Box), st.b[k]? = some x → b[k]? = some x) ∧ K sv b h2 := by
  obtain ⟨D, hD⟩ := vcE_A (P := P) (cfg := cfg) (ch := ch) (st := st) hA
  rw [hD] at H ⊢
  cases D with
  | no => exact H
  | pub f ob =>
    intro b hb
    refine ⟨⟨fun i p hp => ?_, fun _ _ e => e⟩, H b hb⟩
    have : i ≠ b := fun e => by rw [e, hb] at hp; cases hp
    simp [Hp.set, this, hp]
  | prv sv bx =>
    refine ⟨⟨fun _ _ e => e, fun k x e => ?_⟩, H⟩
    rw [List.getElem?_append_left (List.getElem?_eq_some_iff.1 e).1]
    exact e
theorem swapVE {j e : Oper} {nj : Nat} (A : Apart ops j e) (W : WF st) (he : isE P e.op = true) {h : Hp} {fl : List Fg} {X : List Fg → St → St → Hp → Prop} {F : List Fg → St → Hp → Prop} {Z : St → Hp → Prop → Prop}
    (hZ : ∀ s h2 {p q : Prop}, (p → q) → Z s h2 p → Z s h2 q)
    (hX : ∀ gj svj s2 h2, (h.le h2 ∧ (∀ (k : Nat) (x : Box), st.b[k]? = some x → s2.b[k]? = some x) ∨ isA e.op = false ∧ BoxMono st.b s2.b) → X (flagV P j (chG st gj) (GG st gj) st nj svj fl) (putS st j.dst gj svj) s2 h2 → VS P gj j st h svj → (∀ (k : Nat) (x : Box), boxR j st (chG st gj) = some k → st.b[k]? = some x → s2.b[k]? = some x) ∧
      ((vcVd P j (chG st gj) st).hr = true → (vcVd P j (chG st gj) st).again P (GG st gj) h2 svj) ∧ ∀ s, s.b = s2.b → Z s h2 (F (flagV P j (chG st gj) (GG st gj) st nj svj fl) s2 h2))
    (H : vcDV P ops nj j st h fl fun fl' s => vcOp P cfg ops e s h fun s2 h2 => X fl' s s2 h2) :
    vcOp P cfg ops e st h fun s h2 => Z s h2 (vcDV P ops nj j s h2 fl fun fl' s2 => F fl' s2 h2) := by
  obtain ⟨gj, hgj, okj, pj, svj, vj, H⟩ := vcDV_iff.1 H
  obtain ⟨ge, hge, oke, H1, H2⟩ := (vcOp_E he).1 H
  obtain ⟨e1, _, _, e4, e5⟩ := VS_put (P := P) A W hge pj (v := svj) (h := h)
  have A' : Apart ops e j := ⟨A.yx, A.xy, fun d e' hd he => (A.ne e' d he hd).symm⟩
  have hbb : (putS st j.dst gj svj).b = st.b := putS_b
  have fin : ∀ q b h2 sv, (q = none ∨ q = ge) → (h.le h2 ∧ (∀ (k : Nat) (x : Box), st.b[k]? = some x → b[k]? = some x) ∨ isA e.op = false ∧ BoxMono st.b b) → putC st e.dst q →
      X (flagV P j (chG st gj) (GG st gj) st nj svj fl) (putS st j.dst gj svj) (putS ⟨(putS st j.dst gj svj).n, (putS st j.dst gj svj).t, (putS st j.dst gj svj).g, b⟩ e.dst q sv) h2 →
      Z (putS ⟨st.n, st.t, st.g, b⟩ e.dst q sv) h2 (vcDV P ops nj j (putS ⟨st.n, st.t, st.g, b⟩ e.dst q sv) h2 fl fun fl' s2 => F fl' s2 h2) := by
    intro q b h2 sv hqq hbx hpe hx
    have hb2 : (putS ⟨(putS st j.dst gj svj).n, (putS st j.dst gj svj).t, (putS st j.dst gj svj).g, b⟩ e.dst q sv).b = b := putS_b
    obtain ⟨y1, y2, y3⟩ := hX gj svj _ h2 (by rw [hb2]; exact hbx) hx vj
    rw [hb2] at y1
    exact hZ _ _ (fun hF => behind A' W hgj okj pj vj hge hqq y1 y2 hpe hF) (y3 _ (by rw [hb2]; exact putS_b))
  refine (vcOp_E he).2 ⟨ge, hge, e1.1 oke, fun hc => ?_, fun hc => ?_⟩
  · have := H1 (by rw [e4]; exact hc)
    rw [e5] at this
    have this2 : vcE P cfg e (chG st ge) (putS st j.dst gj svj) h fun sv b h2 => (h.le h2 ∧ (∀ (k : Nat) (x : Box), st.b[k]? = some x → b[k]? = some x) ∨ isA e.op = false ∧ BoxMono st.b b) ∧
        (putC ⟨(putS st j.dst gj svj).n, (putS st j.dst gj svj).t, (putS st j.dst gj svj).g, b⟩ e.dst (pgO e ge) ∧ X (flagV P j (chG st gj) (GG st gj) st nj svj fl) (putS st j.dst gj svj) (putS ⟨(putS st j.dst gj svj).n, (putS st j.dst gj svj).t, (putS st j.dst gj svj).g, b⟩ e.dst (pgO e ge) sv) h2) := by
      cases hAe : isA e.op with
      | true =>
        refine vcE_mono ?_ (vcE_Ale hAe this)
        rintro sv b h2 _ ⟨⟨q1, q2⟩, q3⟩
        rw [hbb] at q2
        exact ⟨.inl ⟨q1, q2⟩, q3⟩
      | false =>
        refine vcE_mono ?_ this
        intro sv b h2 hbm q3
        rw [hbb] at hbm
        exact ⟨.inr ⟨rfl, hbm⟩, q3⟩
    have hloc : ∀ K, vcE P cfg e (chG st ge) (putS st j.dst gj svj) h K = vcE P cfg e (chG st ge) st h K := by
      intro K
      rcases agr_put (st := st) (dst := j.dst) (g := gj) (x := svj) with ⟨_, eq⟩ | ⟨d, hd, AG⟩
      · rw [eq]
      · exact Agr.vcE AG (fun z hz hze => A.xy d hd (opTmps_operand hz hze))
    rw [hloc] at this2
    refine vcE_mono ?_ this2
    rintro sv b h2 _ ⟨q0, q1, q2⟩
    exact ⟨put_back (st := st) (j := j) (gj := gj) (svj := svj) (b := b) q1, fin _ b h2 sv (pgO_or e ge) q0 (put_back (st := st) (j := j) (gj := gj) (svj := svj) (b := b) q1) q2⟩
  · obtain ⟨q1, q2⟩ := H2 (by rw [e4]; exact hc)
    have hpe := put_back (st := st) (j := j) (gj := gj) (svj := svj) (b := (putS st j.dst gj svj).b) q1
    refine ⟨hpe, fin ge st.b h (dfl (shp P e.type)) (.inr rfl) (.inl ⟨fun _ _ e => e, fun _ _ e => e⟩) hpe ?_⟩
    have : (⟨(putS st j.dst gj svj).n, (putS st j.dst gj svj).t, (putS st j.dst gj svj).g, st.b⟩ : St) = putS st j.dst gj svj := by rw [← hbb]
    rw [this]
    exact q2
end
end Go.Vd
set_option linter.unusedVariables false
namespace Go.Vd
open Go.Vc
open Go
section
variable {P : Program} {cfg : Cfg} {ops : Array Oper} {ms : List Nat}
theorem vcOp_monoV {o : Oper} {st : St} {h : Hp} {K K' : St → Hp → Prop} (hE : isE P o.op = false) (W : WF st) (H : vcOp P cfg ops o st h K) (hk : ∀ s, WF s → K s h → K' s h) : vcOp P cfg ops o st h K' := by
  obtain ⟨g, h1, h2, h3, sv, h4, h5⟩ := (vcOp_V hE).1 H
  exact (vcOp_V hE).2 ⟨g, h1, h2, h3, sv, h4, hk _ (putS_WF W) h5⟩
theorem vcOp_monoE {o : Oper} {st : St} {h : Hp} {K K' : St → Hp → Prop} (hE : isE P o.op = true) (H : vcOp P cfg ops o st h K) (hk : ∀ s h', K s h' → K' s h') : vcOp P cfg ops o st h K' := by
  obtain ⟨g, h1, h2, h3, h4⟩ := (vcOp_E hE).1 H
  exact (vcOp_E hE).2 ⟨g, h1, h2, fun c => vcE_mono (fun sv b h' _ hb => ⟨hb.1, hk _ _ hb.2⟩) (h3 c), fun c => ⟨(h4 c).1, hk _ _ (h4 c).2⟩⟩
theorem vcOp_mono {o : Oper} {st : St} {h : Hp} {K K' : St → Hp → Prop} (H : vcOp P cfg ops o st h K) (hk : ∀ s h', K s h' → K' s h') : vcOp P cfg ops o st h K' := by
  cases hE : isE P o.op with
  | true => exact vcOp_monoE hE H hk
  | false =>
    obtain ⟨g, h1, h2, h3, sv, h4, h5⟩ := (vcOp_V hE).1 H
    exact (vcOp_V hE).2 ⟨g, h1, h2, h3, sv, h4, hk _ _ h5⟩
theorem vcD_E {i : Nat} {o : Oper} (ho : ops[i]? = some o) (hE : isE P o.op = true) {l : List Nat} {fl : List Fg} {st : St} {h : Hp} {K : St → Hp → Prop} :
    vcD P cfg ops ms (i :: l) fl st h K ↔ vcOp P cfg ops o st h fun s h' => rk (isA o.op) (ms.getD i 0) st.b s.b h' fl (vcD P cfg ops ms l fl s h' K) := by
  simp only [vcD, ho, hE, cond_true]
  cases isA o.op <;> exact Iff.rfl
theorem vcD_V {i : Nat} {o : Oper} (ho : ops[i]? = some o) (hE : isE P o.op = false) {l : List Nat} {fl : List Fg} {st : St} {h : Hp} {K : St → Hp → Prop} :
    vcD P cfg ops ms (i :: l) fl st h K ↔ vcDV P ops i o st h fl fun fl' s => vcD P cfg ops ms l fl' s h K := by
  simp only [vcD, ho, hE, cond_false]
theorem vcD_fl : ∀ (l : List Nat) {fl fl' : List Fg} {st : St} {h : Hp} {K : St → Hp → Prop}, fl'.Sublist fl → vcD P cfg ops ms l fl st h K → vcD P cfg ops ms l fl' st h K
  | [], fl, fl', st, h, K, _, H => H
  | i :: l, fl, fl', st, h, K, hf, H => by
    cases ho : ops[i]? with
    | none => simp [vcD, ho] at H
    | some o =>
      cases hE : isE P o.op with
      | true =>
        rw [vcD_E ho hE] at H ⊢
        refine vcOp_mono H fun s h' hk => ?_
        cases hA : isA o.op with
        | true => rw [hA] at hk; exact vcD_fl l hf hk
        | false => rw [hA] at hk; exact agn_sub hf (agn_mono (vcD_fl l hf) hk)
      | false =>
        rw [vcD_V ho hE] at H ⊢
        exact vcDV_mono2 (fun g sv s hk => vcD_fl l (flagV_sub hf) hk) H
inductive CD where
  | no | call (f : FuncId) (vs : List Value) | ext (f : FuncId) (vs : List Value) | sem (m : Sem Value) | inv (fv : Value) (vs : List Value)
def CD.ask (P : Program) (s : Sh) (h : Hp) (K : SV → Hp → Prop) : CD → Prop
  | .no => False
  | .call f vs => CallOK P f vs h fun v h' => res s v fun x => K x h'
  | .ext f vs => ExtOK P f vs h fun v h' => res s v fun x => K x h'
  | .sem m => SemOK P m h fun v h' => res s v fun x => K x h'
  | .inv fv vs => InvOK P fv vs h fun v h' => res s v fun x => K x h'
theorem vcE_C {o : Oper} {ch : List (Nat × Bool)} {st : St} (hC : isCall o.op = true) : ∃ D : CD, ∀ b h K, vcE P cfg o ch ⟨st.n, st.t, st.g, b⟩ h K ↔ D.ask P (shp P o.type) h (fun x h' => K x b h') := by
  obtain ⟨dst, op, ty, pos, af, gd⟩ := o
  have hevs : ∀ b l, (⟨st.n, st.t, st.g, b⟩ : St).evs ch l = st.evs ch l := by
    intro b l
    induction l with
    | nil => rfl
    | cons q l ih => simp only [St.evs, ih]; rfl
  have hev : ∀ b x, (⟨st.n, st.t, st.g, b⟩ : St).ev ch x = st.ev ch x := fun b x => rfl
  have none' : (∀ b h K, vcE P cfg ⟨dst, op, ty, pos, af, gd⟩ ch ⟨st.n, st.t, st.g, b⟩ h K ↔ False) → ∃ D : CD, ∀ b h K, vcE P cfg ⟨dst, op, ty, pos, af, gd⟩ ch ⟨st.n, st.t, st.g, b⟩ h K ↔ D.ask P (shp P ty) h (fun x h' => K x b h') := fun h => ⟨.no, h⟩
  cases op with
  | call c =>
    obtain ⟨callee, args, ts⟩ := c
    cases callee with
    | invoke r m => exact none' fun b h K => Iff.rfl
    | builtin bb =>
      simp only [vcE, hevs]
      cases hv : st.evs ch args.toList with
      | none => exact ⟨.no, fun b h K => Iff.rfl⟩
      | some vs =>
        cases bb with
        | append => exact ⟨.sem _, fun b h K => Iff.rfl⟩
        | copy => exact ⟨.sem _, fun b h K => Iff.rfl⟩
        | delete => exact ⟨.sem _, fun b h K => Iff.rfl⟩
        | clear => exact ⟨.sem _, fun b h K => Iff.rfl⟩
        | _ => exact ⟨.no, fun b h K => Iff.rfl⟩
    | value f =>
      cases f with
      | func g =>
        simp only [vcE, hevs]
        cases hv : st.evs ch args.toList with
        | none => exact ⟨.no, fun b h K => Iff.rfl⟩
        | some vs =>
          simp only
          cases hb : (P.funcs[g]?).map (·.body.isSome) with
          | none => exact ⟨.no, fun b h K => Iff.rfl⟩
          | some q =>
            cases q with
            | true => exact ⟨.call g vs, fun b h K => Iff.rfl⟩
            | false => exact ⟨.ext g vs, fun b h K => Iff.rfl⟩
      | tmp t =>
        simp only [vcE, hevs, hev]
        cases hv : st.evs ch args.toList with
        | none => exact ⟨.no, fun b h K => Iff.rfl⟩
        | some vs =>
          cases hf : (st.ev ch (.tmp t)).val? with
          | none => exact ⟨.no, fun b h K => Iff.rfl⟩
          | some fv => exact ⟨.inv fv vs, fun b h K => Iff.rfl⟩
      | const v => exact none' fun b h K => Iff.rfl
      | global g => exact none' fun b h K => Iff.rfl
  | _ => cases hC
theorem frame_at {h h' : Hp} {b : Nat} {ob : Obj} {w w' : World} (hb : h b = none) (hs : Sub (h.set b ob) w) (hs' : Sub h' w') (F : Fr h h' w w') : h' b = none ∧ Sub (h'.set b ob) w' ∧ Fr (h.set b ob) (h'.set b ob) w w' := by
  have h1 : w.heap[b]? = some ob := hs b ob (by simp [Hp.set])
  have hlt : b < w.heap.size := (Array.getElem?_eq_some_iff.1 h1).1
  obtain ⟨k1, k2⟩ := F.keep b hlt hb
  refine ⟨k2, fun i o ho => ?_, F.os, F.tape, F.output, F.size, F.drawn, fun i hi hn => ?_⟩
  · unfold Hp.set at ho
    split at ho
    · rename_i e; rw [e, k1, h1]; exact ho
    · exact hs' i o ho
  · unfold Hp.set at hn ⊢
    split at hn
    · cases hn
    · rename_i hne
      rw [if_neg hne]
      exact F.keep i hi hn
theorem CD.mono {D : CD} {s : Sh} {h : Hp} {K K' : SV → Hp → Prop} (hk : ∀ x h', K x h' → K' x h') (H : D.ask P s h K) : D.ask P s h K' := by
  cases D with
  | no => exact H
  | call f vs => exact fun w hs => (H w hs).mono fun e w' ⟨v, h', h1, h2, h3, h4⟩ => ⟨v, h', h1, h2, h3, res_mono (fun x => hk x h') h4⟩
  | ext f vs => exact fun w hs => let ⟨v, w', h', h1, h2, h3, h4⟩ := H w hs; ⟨v, w', h', h1, h2, h3, res_mono (fun x => hk x h') h4⟩
  | sem m => exact fun w hs => let ⟨v, w', h', h1, h2, h3, h4⟩ := H w hs; ⟨v, w', h', h1, h2, h3, res_mono (fun x => hk x h') h4⟩
  | inv fv vs =>
    obtain ⟨f, pre, post, e, hf, H⟩ := H
    exact ⟨f, pre, post, e, hf, fun w hs => (H w hs).mono fun e w' ⟨v, h', h1, h2, h3, h4⟩ => ⟨v, h', h1, h2, h3, res_mono (fun x => hk x h') h4⟩⟩
theorem CD.frame {D : CD} {s : Sh} {h : Hp} {b : Nat} {ob : Obj} {K : SV → Hp → Prop} (hb : h b = none) (H : D.ask P s h K) : D.ask P s (h.set b ob) fun x h2 => ∃ h', h' b = none ∧ h2 = h'.set b ob ∧ K x h' := by
  have hc : ∀ f vs, (CallOK P f vs h fun v h' => res s v fun x => K x h') → CallOK P f vs (h.set b ob) fun v h2 => res s v fun x => ∃ h', h' b = none ∧ h2 = h'.set b ob ∧ K x h' := by
    intro f vs H w hs
    refine (H w (sub_of_set hb hs)).mono fun e w' ⟨v, h', h1, h2, h3, h4⟩ => ?_
    obtain ⟨k1, k2, k3⟩ := frame_at hb hs h2 h3
    exact ⟨v, _, h1, k2, k3, res_mono (fun x hx => ⟨h', k1, rfl, hx⟩) h4⟩
  cases D with
  | no => exact H
  | call f vs => exact hc f vs H
  | ext f vs =>
    intro w hs
    obtain ⟨v, w', h', h1, h2, h3, h4⟩ := H w (sub_of_set hb hs)
    obtain ⟨k1, k2, k3⟩ := frame_at hb hs h2 h3
    exact ⟨v, w', _, h1, k2, k3, res_mono (fun x hx => ⟨h', k1, rfl, hx⟩) h4⟩
  | sem m =>
    intro w hs
    obtain ⟨v, w', h', h1, h2, h3, h4⟩ := H w (sub_of_set hb hs)
    obtain ⟨k1, k2, k3⟩ := frame_at hb hs h2 h3
    exact ⟨v, w', _, h1, k2, k3, res_mono (fun x hx => ⟨h', k1, rfl, hx⟩) h4⟩
  | inv fv vs =>
    obtain ⟨f, pre, post, e, hf, H⟩ := H
    exact ⟨f, pre, post, e, hf, hc _ _ H⟩
theorem CD.sub {D : CD} {s : Sh} {h : Hp} {K : SV → Hp → Prop} (H : D.ask P s h K) : D.ask P s h fun x h' => (∃ w, Sub h' w) ∧ K x h' := by
  have hc : ∀ f vs, (CallOK P f vs h fun v h' => res s v fun x => K x h') → CallOK P f vs h fun v h' => res s v fun x => (∃ w, Sub h' w) ∧ K x h' :=
    fun f vs H w hs => (H w hs).mono fun e w' ⟨v, h', h1, h2, h3, h4⟩ => ⟨v, h', h1, h2, h3, res_mono (fun x hx => ⟨⟨w', h2⟩, hx⟩) h4⟩
  cases D with
  | no => exact H
  | call f vs => exact hc f vs H
  | ext f vs => exact fun w hs => let ⟨v, w', h', h1, h2, h3, h4⟩ := H w hs; ⟨v, w', h', h1, h2, h3, res_mono (fun x hx => ⟨⟨w', h2⟩, hx⟩) h4⟩
  | sem m => exact fun w hs => let ⟨v, w', h', h1, h2, h3, h4⟩ := H w hs; ⟨v, w', h', h1, h2, h3, res_mono (fun x hx => ⟨⟨w', h2⟩, hx⟩) h4⟩
  | inv fv vs =>
    obtain ⟨f, pre, post, e, hf, H⟩ := H
    exact ⟨f, pre, post, e, hf, hc _ _ H⟩
theorem CD.ex {D : CD} {s : Sh} {h : Hp} {K : SV → Hp → Prop} (hw : ∃ w, Sub h w) (H : D.ask P s h K) : ∃ x h', K x h' := by
  obtain ⟨w, hs⟩ := hw
  have hr : ∀ v h', (res s v fun x => K x h') → ∃ x h', K x h' := fun v h' hr => let ⟨x, hx, _⟩ := exS_elim hr; ⟨x, h', hx.2⟩
  have hc : ∀ f vs, (CallOK P f vs h fun v h' => res s v fun x => K x h') → ∃ x h', K x h' := by
    intro f vs H
    obtain ⟨e, w', fr, ⟨v, h', _, _, _, h4⟩, _⟩ := H w hs []
    exact hr _ _ h4
  cases D with
  | no => exact H.elim
  | call f vs => exact hc f vs H
  | ext f vs => obtain ⟨v, w', h', h1, h2, h3, h4⟩ := H w hs; exact hr _ _ h4
  | sem m => obtain ⟨v, w', h', h1, h2, h3, h4⟩ := H w hs; exact hr _ _ h4
  | inv fv vs =>
    obtain ⟨f, pre, post, e, hf, H⟩ := H
    exact hc _ _ H
theorem vcOp_U {o : Oper} {st : St} {h : Hp} {K : St → Hp → Prop} (hE : isE P o.op = true) (hg : o.guard = none) : vcOp P cfg ops o st h K ↔ vcE P cfg o [] st h fun sv b h' => putC st o.dst none ∧ K (putS ⟨st.n, st.t, st.g, b⟩ o.dst none sv) h' := by
  unfold vcOp
  rw [hg]
  simp only [hE, cond_true, put_iff]
  exact Iff.rfl
theorem swapAE {c e : Oper} {st : St} {m : Nat} (A : Apart ops c e) (W : WF st) (hac : AC e c) (hEc : isE P c.op = true) (hEe : isE P e.op = true) {h : Hp} {fl : List Fg} {F : St → Hp → Prop} (hf : FM fl) (hw : ∃ w, Sub h w)
    (H : vcOp P cfg ops c st h fun s1 h1 => agn m st.b s1.b h1 fl (vcOp P cfg ops e s1 h1 fun s2 h2 => F s2 h2)) :
    vcOp P cfg ops e st h fun s h' => vcOp P cfg ops c s h' fun s2 h2 => agn m s.b s2.b h2 fl (F s2 h2) := by
  obtain ⟨hA, hge, hC, hgc⟩ := hac
  have A' : Apart ops e c := ⟨A.yx, A.xy, fun d e hd he => (A.ne e d he hd).symm⟩
  obtain ⟨DC, hDC⟩ := vcE_C (P := P) (cfg := cfg) (o := c) (ch := []) (st := st) hC
  obtain ⟨DA, hDA⟩ := vcE_A (P := P) (cfg := cfg) (o := e) (ch := []) (st := st) hA
  rw [vcOp_U hEc hgc, show st = ⟨st.n, st.t, st.g, st.b⟩ from rfl, hDC] at H
  -- the other one behind it
  have hloc : ∀ x h1 K, vcE P cfg e [] (putS st c.dst none x) h1 K = vcE P cfg e [] st h1 K := by
    intro x h1 K
    rcases agr_put (st := st) (dst := c.dst) (g := none) (x := x) with ⟨_, eq⟩ | ⟨d, hd, AG⟩
    · rw [eq]
    · exact Agr.vcE AG (fun z hz hze => A.xy d hd (opTmps_operand hz hze))
  have hloc2 : ∀ x b h1 K, vcE P cfg c [] (putS ⟨st.n, st.t, st.g, b⟩ e.dst none x) h1 K = vcE P cfg c [] ⟨st.n, st.t, st.g, b⟩ h1 K := by
    intro x b h1 K
    rcases agr_put (st := ⟨st.n, st.t, st.g, b⟩) (dst := e.dst) (g := none) (x := x) with ⟨_, eq⟩ | ⟨d, hd, AG⟩
    · rw [eq]
    · exact Agr.vcE AG (fun z hz hze => A'.xy d hd (opTmps_operand hz hze))
  have H2 : DC.ask P (shp P c.type) h fun x h1 => putC st c.dst none ∧ agn m st.b st.b h1 fl (DA.sem st.b h1 fun sv b h2 => putC (putS st c.dst none x) e.dst none ∧ F (putS ⟨(putS st c.dst none x).n, (putS st c.dst none x).t, (putS st c.dst none x).g, b⟩ e.dst none sv) h2) := by
    refine CD.mono (fun x h1 hx => ⟨hx.1, ?_⟩) H
    have hx2 := hx.2
    rw [putS_b] at hx2
    refine agn_mono (fun hv => ?_) hx2
    rw [vcOp_U hEe hge, hloc, hDA] at hv
    exact hv
  have pc : putC st c.dst none := let ⟨_, _, hx⟩ := CD.ex hw H2; hx.1
  have ne : DA ≠ .no := by
    intro e
    obtain ⟨x, h1, _, hx⟩ := CD.ex hw H2
    rw [e] at hx
    exact agn_K hx
  rw [vcOp_U hEe hge, hDA]
  cases DA with
  | no => exact (ne rfl).elim
  | pub f ob =>
    have pe : putC st e.dst none := by
      obtain ⟨x, h1, ⟨w, hs⟩, _, hx⟩ := CD.ex hw (CD.sub H2)
      have := agn_K hx w.heap.size hs.none
      exact put_back (st := st) (j := c) (gj := none) (svj := x) (b := (putS st c.dst none x).b) this.1
    intro b hb
    refine ⟨pe, ?_⟩
    rw [vcOp_U hEc hgc, hloc2, hDC]
    refine CD.mono (fun x h2 hx => ?_) (CD.frame hb H2)
    obtain ⟨h1, hb1, rfl, hx1, hx2⟩ := hx
    refine ⟨?_, ?_⟩
    · exact (putC_put (st := st) A' (gx := none) (gy := none) (by simp [gdO, hge]) (by simp [gdO, hgc]) pe).2 pc
    · rw [putS_b, putS_b]
      refine agn_mono (fun hv => ?_) (agn_le (Hp.le_set' hb1 ob) hf hx2)
      have := (hv b hb1).2
      rw [putS_box] at this ⊢
      rw [putS_comm A' (gx := none) (gy := none)]
      exact this
  | prv sv bx =>
    have pe : putC st e.dst none := by
      obtain ⟨x, h1, _, hx⟩ := CD.ex hw H2
      have := agn_K hx
      exact put_back (st := st) (j := c) (gj := none) (svj := x) (b := (putS st c.dst none x).b) this.1
    refine ⟨pe, ?_⟩
    rw [vcOp_U hEc hgc, hloc2, hDC]
    refine CD.mono (fun x h1 hx => ?_) H2
    obtain ⟨hx1, hx2⟩ := hx
    refine ⟨?_, ?_⟩
    · exact (putC_put (st := ⟨st.n, st.t, st.g, st.b ++ [bx]⟩) A' (gx := none) (gy := none) (by simp [gdO, hge]) (by simp [gdO, hgc]) pe).2 pc
    · rw [putS_b, putS_b]
      refine agn_mono (fun hv => ?_) (agn_bx (x := bx) hx2)
      have := hv.2
      rw [putS_box] at this ⊢
      rw [putS_comm A' (gx := none) (gy := none)]
      exact this
theorem vcE_B {o : Oper} {ch : List (Nat × Bool)} {st : St} (hB : isB cfg o = true) : (∀ h K, ¬ vcE P cfg o ch st h K) ∨ ∃ (f : Nat → SV) (ob : Obj), ∀ h K, vcE P cfg o ch st h K ↔ ∀ b, h b = none → K (f b) st.b (h.set b ob) := by
  obtain ⟨dst, op, ty, pos, af, gd⟩ := o
  have key : ∀ {o : Oper} {t : TypeId} {cs : List TV}, isPub cfg o.dst = true → (∀ (h : Hp) (K : SV → List Box → Hp → Prop), ¬ newBox cfg o st h t cs K) ∨ ∃ (f : Nat → SV) (ob : Obj), ∀ h K, newBox cfg o st h t cs K ↔ ∀ b, h b = none → K (f b) st.b (h.set b ob) := by
    intro o t cs hp
    unfold newBox
    rw [hp]
    cases allOneT cs with
    | false => exact .inl fun h K q => q
    | true => exact .inr ⟨fun b => .t (.one (.hp b 0)), _, fun h K => Iff.rfl⟩
  unfold isB at hB
  cases op with
  | alloc T =>
    simp only [vcE]
    split
    · exact key hB
    · exact .inl fun h K q => q
  | box T x =>
    simp only [vcE]
    split
    · exact key hB
    · exact .inl fun h K q => q
  | buildSlice T n parts =>
    simp only [vcE]
    split
    · rename_i e ps hu hp
      split
      · rename_i z hz
        rcases Bool.eq_false_or_eq_true (Nat.ble 1 (szT P e) && Nat.beq z.length (szT P e) && Nat.ble (n * szT P e) 4096) with hc | hc
        · rw [hc]
          simp only [cond_true]
          split
          · rename_i cs _
            rcases Bool.eq_false_or_eq_true (allOneT cs) with ho | ho
            · rw [ho]; exact .inr ⟨fun b => .t (.one (.v (.slice (some ⟨b, 0, none⟩) n n))), _, fun h K => Iff.rfl⟩
            · rw [ho]; exact .inl fun h K q => q
          · exact .inl fun h K q => q
        · rw [hc]; exact .inl fun h K q => q
      · exact .inl fun h K q => q
    · exact .inl fun h K q => q
  | _ => cases hB
theorem swapAA {c e : Oper} {st : St} (A : Apart ops c e) (W : WF st) (hab : AB cfg e c) (hEc : isE P c.op = true) (hEe : isE P e.op = true) {h : Hp} {F : St → Hp → Prop} (hw : ∃ w, Sub h w)
    (H : vcOp P cfg ops c st h fun s1 h1 => vcOp P cfg ops e s1 h1 fun s2 h2 => F s2 h2) :
    vcOp P cfg ops e st h fun s h' => vcOp P cfg ops c s h' fun s2 h2 => F s2 h2 := by
  obtain ⟨hBe, hge, hBc, hgc⟩ := hab
  have A' : Apart ops e c := ⟨A.yx, A.xy, fun d e hd he => (A.ne e d he hd).symm⟩
  rw [vcOp_U hEc hgc] at H
  have hloc : ∀ x h1 K, vcE P cfg e [] (putS st c.dst none x) h1 K = vcE P cfg e [] st h1 K := by
    intro x h1 K
    rcases agr_put (st := st) (dst := c.dst) (g := none) (x := x) with ⟨_, eq⟩ | ⟨d, hd, AG⟩
    · rw [eq]
    · exact Agr.vcE AG (fun z hz hze => A.xy d hd (opTmps_operand hz hze))
  have hloc2 : ∀ x h1 K, vcE P cfg c [] (putS st e.dst none x) h1 K = vcE P cfg c [] st h1 K := by
    intro x h1 K
    rcases agr_put (st := st) (dst := e.dst) (g := none) (x := x) with ⟨_, eq⟩ | ⟨d, hd, AG⟩
    · rw [eq]
    · exact Agr.vcE AG (fun z hz hze => A'.xy d hd (opTmps_operand hz hze))
  have eb : ∀ (d : Option Nat) (x : SV), (⟨(putS st d none x).n, (putS st d none x).t, (putS st d none x).g, st.b⟩ : St) = putS st d none x := by
    intro d x
    have e1 := putS_b (st := st) (dst := d) (g := none) (x := x)
    generalize putS st d none x = s at e1
    obtain ⟨n, t, g, b⟩ := s
    simp only at e1
    rw [e1]
  rcases vcE_B (P := P) (cfg := cfg) (o := c) (ch := []) (st := st) hBc with hn | ⟨fc, oc, hc⟩
  · exact (hn _ _ H).elim
  rcases vcE_B (P := P) (cfg := cfg) (o := e) (ch := []) (st := st) hBe with hn | ⟨fe, oe, he⟩
  · rw [hc] at H
    obtain ⟨b, hb, _⟩ := fresh_at hw 0
    have q2 : vcOp P cfg ops e (putS st c.dst none (fc b)) (h.set b oc) F := (H b hb).2
    rw [vcOp_U hEe hge, hloc] at q2
    exact (hn _ _ q2).elim
  rw [hc] at H
  have H2 : ∀ b, h b = none → putC st c.dst none ∧ ∀ b2, (h.set b oc) b2 = none → putC (putS st c.dst none (fc b)) e.dst none ∧ F (putS (putS st c.dst none (fc b)) e.dst none (fe b2)) ((h.set b oc).set b2 oe) := by
    intro b hb
    refine ⟨(H b hb).1, ?_⟩
    have q2 : vcOp P cfg ops e (putS st c.dst none (fc b)) (h.set b oc) F := (H b hb).2
    rw [vcOp_U hEe hge, hloc, he] at q2
    intro b2 hb2
    have q3 := q2 b2 hb2
    rw [eb] at q3
    exact q3
  have sset : ∀ {b b2 : Nat} {o o2 : Obj}, b ≠ b2 → (h.set b o).set b2 o2 = (h.set b2 o2).set b o := by
    intro b b2 o o2 hne
    funext i
    simp only [Hp.set]
    by_cases h1 : i = b2
    · by_cases h2 : i = b
      · exact (hne (h2.symm.trans h1)).elim
      · simp [h1]; intro q; exact (hne q.symm).elim
    · simp [h1]
  have nn : ∀ {b b2 : Nat} {o : Obj}, (h.set b o) b2 = none → b2 ≠ b ∧ h b2 = none := by
    intro b b2 o hq
    unfold Hp.set at hq
    split at hq
    · cases hq
    · rename_i h1; exact ⟨h1, hq⟩
  rw [vcOp_U hEe hge, he]
  intro b2 hb2
  obtain ⟨b0, hb0, hne0⟩ := fresh_at hw b2
  have pc := (H2 b0 hb0).1
  have pe : putC st e.dst none := by
    have := ((H2 b0 hb0).2 b2 (by simp [Hp.set, hne0.symm, hb2])).1
    exact (putC_put (st := st) A (gx := none) (gy := none) (by simp [gdO, hgc]) (by simp [gdO, hge]) pc).1 this
  refine ⟨pe, ?_⟩
  show vcOp P cfg ops c (putS st e.dst none (fe b2)) (h.set b2 oe) F
  rw [vcOp_U hEc hgc, hloc2, hc]
  intro b hb
  obtain ⟨hne, hbh⟩ := nn hb
  have q := (H2 b hbh).2 b2 (by simp [Hp.set, hne.symm, hb2])
  refine ⟨(putC_put (st := st) A' (gx := none) (gy := none) (by simp [gdO, hge]) (by simp [gdO, hgc]) pe).2 pc, ?_⟩
  rw [eb, putS_comm A' (gx := none) (gy := none), ← sset hne]
  exact q.2
theorem exV {i : Nat} {oi : Oper} (hi : ops[i]? = some oi) (hEi : isE P oi.op = false) : ∀ (A : List Nat) {B : List Nat} {fl : List Fg} {st : St} {h : Hp} {K : St → Hp → Prop}, WF st →
    (∀ j ∈ A, ∀ oj, ops[j]? = some oj → isE P oj.op = false ∧ Apart ops oi oj) → vcD P cfg ops ms (A ++ i :: B) fl st h K → vcOp P cfg ops oi st h fun s _ => vcD P cfg ops ms (A ++ B) fl s h K
  | [], B, fl, st, h, K, W, hA, H => by
    rw [List.nil_append, vcD_V hi hEi] at H
    obtain ⟨g, h1, h2, h3, sv, h4, h5⟩ := vcDV_iff.1 H
    exact (vcOp_V hEi).2 ⟨g, h1, h2, h3, sv, h4, vcD_fl B flagV_tail h5⟩
  | j :: A, B, fl, st, h, K, W, hA, H => by
    cases hj : ops[j]? with
    | none => simp [vcD, hj] at H
    | some oj =>
      obtain ⟨hEj, hap⟩ := hA j (by simp) oj hj
      rw [List.cons_append, vcD_V hj hEj] at H
      have H2 : vcDV P ops j oj st h fl fun fl' s => vcOp P cfg ops oi s h fun s2 _ => vcD P cfg ops ms (A ++ B) fl' s2 h K :=
        vcDV_monoW W (fun g sv s Ws hk => exV hi hEi A Ws (fun k hk' => hA k (by simp [hk'])) hk) H
      have hap' : Apart ops oj oi := ⟨hap.yx, hap.xy, fun d e hd he => (hap.ne e d he hd).symm⟩
      have H3 := swapVV (F := fun fl' s2 => vcD P cfg ops ms (A ++ B) fl' s2 h K) hap' W hEi H2
      refine vcOp_monoV hEi W H3 fun s Ws hk => ?_
      rw [List.cons_append, vcD_V hj hEj]
      exact hk
theorem exE {i : Nat} {oi : Oper} (hi : ops[i]? = some oi) (hEi : isE P oi.op = true) : ∀ (A : List Nat) {B : List Nat} {fl : List Fg} {st : St} {h : Hp} {K : St → Hp → Prop}, WF st → FM fl → (∃ w, Sub h w) →
    (∀ j ∈ A, bit (ms.getD i 0) j = false ∧ ∀ oj, ops[j]? = some oj → ((isE P oj.op = false ∨ AC oi oj) ∨ AB cfg oi oj) ∧ Apart ops oi oj) → vcD P cfg ops ms (A ++ i :: B) fl st h K →
    vcOp P cfg ops oi st h fun s h2 => rk (isA oi.op) (ms.getD i 0) st.b s.b h2 fl (vcD P cfg ops ms (A ++ B) fl s h2 K)
  | [], B, fl, st, h, K, W, hf, hw, hA, H => by
    rw [List.nil_append, vcD_E hi hEi] at H
    exact H
  | j :: A, B, fl, st, h, K, W, hf, hw, hA, H => by
    cases hj : ops[j]? with
    | none => simp [vcD, hj] at H
    | some oj =>
      obtain ⟨hbit, hA1⟩ := hA j (by simp)
      obtain ⟨hEj, hap⟩ := hA1 oj hj
      have hap' : Apart ops oj oi := ⟨hap.yx, hap.xy, fun d e hd he => (hap.ne e d he hd).symm⟩
      cases hEj' : isE P oj.op with
      | false =>
        rw [List.cons_append, vcD_V hj hEj'] at H
        have H2 : vcDV P ops j oj st h fl fun fl' s => vcOp P cfg ops oi s h fun s2 h2 => (FM fl' → rk (isA oi.op) (ms.getD i 0) s.b s2.b h2 fl' (vcD P cfg ops ms (A ++ B) fl' s2 h2 K)) := by
          refine vcDV_monoW W (fun g sv s Ws hk => ?_) H
          exact vcOp_mono (exE hi hEi A Ws (FM_flag hf) hw (fun k hk' => hA k (by simp [hk'])) hk) fun s2 h2 hq _ => hq
        have H3 := swapVE (F := fun fl' s2 h2 => vcD P cfg ops ms (A ++ B) fl' s2 h2 K) (X := fun fl' s s2 h2 => FM fl' → rk (isA oi.op) (ms.getD i 0) s.b s2.b h2 fl' (vcD P cfg ops ms (A ++ B) fl' s2 h2 K))
          (Z := fun s h2 p => rk (isA oi.op) (ms.getD i 0) st.b s.b h2 fl p) hap' W hEi (fun s h2 p q hpq hz => rk_mono hpq hz) ?_ H2
        · refine vcOp_mono H3 fun s h2 hk => rk_mono (fun hv => ?_) hk
          rw [List.cons_append, vcD_V hj hEj']
          exact hv
        · intro gj svj s2 h2 hbx hx vj
          have hx := hx (FM_flag hf)
          rw [putS_b] at hx
          cases hAe : isA oi.op with
          | true =>
            rw [hAe] at hx hbx
            rcases hbx with ⟨hl, hb⟩ | ⟨hb, _⟩
            · refine ⟨fun k x _ => hb k x, fun _ => VD.again_le (GG_mono st gj) hl (VD.sem_again vj), fun s hs => hx⟩
            · cases hb
          | false =>
            rw [hAe] at hx
            obtain ⟨y1, y2, y3⟩ := agn_flag hbit hx
            refine ⟨fun k x hk hkx => ?_, y2, fun s hs => by rw [hs]; exact y3⟩
            rcases hbx with ⟨_, hb⟩ | ⟨_, hb⟩
            · exact hb k x hkx
            · exact sameBx_spec (y1 k hk) hb hkx
      | true =>
        by_cases hab : AB cfg oi oj
        · have hAj := isB_A hab.2.2.1
          have hAi := isB_A hab.1
          rw [List.cons_append, vcD_E hj hEj', hAj] at H
          rw [hAi]
          have H2 : vcOp P cfg ops oj st h fun s1 h1 => vcOp P cfg ops oi s1 h1 fun s2 h2 => vcD P cfg ops ms (A ++ B) fl s2 h2 K := by
            rw [vcOp_U hEj' hab.2.2.2] at H ⊢
            rcases vcE_B (P := P) (cfg := cfg) (o := oj) (ch := []) (st := st) hab.2.2.1 with hn | ⟨f, ob, hc⟩
            · exact (hn _ _ H).elim
            rw [hc] at H ⊢
            intro b hb
            refine ⟨(H b hb).1, ?_⟩
            have := exE hi hEi A (st := putS st oj.dst none (f b)) (putS_WF W) hf (world_set hw hb ob) (fun k hk' => hA k (by simp [hk'])) (H b hb).2
            rw [hAi] at this
            exact this
          have H3 := swapAA (F := fun s2 h2 => vcD P cfg ops ms (A ++ B) fl s2 h2 K) hap' W hab hEj' hEi hw H2
          refine vcOp_mono H3 fun s h2 hk => ?_
          show vcD P cfg ops ms (j :: A ++ B) fl s h2 K
          rw [List.cons_append, vcD_E hj hEj', hAj]
          exact hk
        have hac : AC oi oj := by
          rcases hEj with (h1 | h1) | h1
          · rw [h1] at hEj'; cases hEj'
          · exact h1
          · exact absurd h1 hab
        have hnA : isA oj.op = false := by
          have := hac.2.2.1
          cases ho : oj.op <;> rw [ho] at this <;> first | rfl | cases this
        rw [List.cons_append, vcD_E hj hEj', hnA] at H
        rw [hac.1]
        have H2 : vcOp P cfg ops oj st h fun s1 h1 => agn (ms.getD j 0) st.b s1.b h1 fl (vcOp P cfg ops oi s1 h1 fun s2 h2 => vcD P cfg ops ms (A ++ B) fl s2 h2 K) := by
          rw [vcOp_U hEj' hac.2.2.2] at H ⊢
          obtain ⟨DC, hDC⟩ := vcE_C (P := P) (cfg := cfg) (o := oj) (ch := []) (st := st) hac.2.2.1
          rw [show st = ⟨st.n, st.t, st.g, st.b⟩ from rfl, hDC] at H ⊢
          refine CD.mono (fun x h1 hx => ?_) (CD.sub H)
          refine ⟨hx.2.1, agn_mono (fun hv => ?_) hx.2.2⟩
          have := exE hi hEi A (st := putS st oj.dst none x) (putS_WF W) hf hx.1 (fun k hk' => hA k (by simp [hk'])) hv
          rw [hac.1] at this
          exact this
        have H3 := swapAE (F := fun s2 h2 => vcD P cfg ops ms (A ++ B) fl s2 h2 K) hap' W hac hEj' hEi hf hw H2
        refine vcOp_mono H3 fun s h2 hk => ?_
        show vcD P cfg ops ms (j :: A ++ B) fl s h2 K
        rw [List.cons_append, vcD_E hj hEj', hnA]
        exact hk
theorem vcD_any (hP : NoNG P) {w0 : World} {h0 : Hp} {K : St → Hp → Prop} {Q : Exit → Act → World → Prop} {st0 : St} {D : List Nat} (hD : ∀ (i : Nat) (o : Oper), ops[i]? = some o → ∀ d, o.dst = some d → d ∈ D)
    (hms : ∀ listed : Array Bool, DC ops listed → ∀ (k : Nat) (o : Oper), ops[k]? = some o → (∀ e ∈ o.after, Region.binds .any e = true → listed.getD e.on false = true) → ∀ j, bit (ms.getD k 0) j = true → listed.getD j false = true)
    (hQ : ∀ st' h' a' w', K st' h' → Rel w0 h0 st' h' a' w' → Ev D st0 st' → Q .normal a' w') :
    ∀ (n : Nat) {L : List Nat} {fl : List Fg} {st : St} {h : Hp} {a : Act} {w : World} {listed : Array Bool}, FM fl → L.length = n → listed.size = ops.size → (∀ i, i < ops.size → (listed.getD i true = false ↔ i ∈ L)) → (∀ i ∈ L, i < ops.size) → L.Nodup → L.Pairwise (PR (P := P) (cfg := cfg) ops ms) → DC ops listed →
      (∀ (i : Nat) (o : Oper), ops[i]? = some o → ∀ e ∈ o.after, Region.binds .any e = true → e.on < ops.size ∧ e.on ≠ i) →
      Rel w0 h0 st h a w → Ev D st0 st → vcD P cfg ops ms L fl st h K → wpAny P .any ops Q n listed a w
  | 0, L, fl, st, h, a, w, listed, hfm, hn, hsz, hL, hlt, hnd, hpw, hdc, hin, R, E, H => by
    obtain rfl := List.eq_nil_of_length_eq_zero hn
    refine ⟨?_, hQ st h a w H R E⟩
    cases hr : Region.ready .any ops listed with
    | nil => rfl
    | cons i l =>
      have : i ∈ Region.ready .any ops listed := by rw [hr]; simp
      obtain ⟨h1, o, ho, _⟩ := mem_ready.1 this
      have := (hL i (Array.getElem?_eq_some_iff.1 ho).1).1 h1
      simp at this
  | n + 1, L, fl, st, h, a, w, listed, hfm, hn, hsz, hL, hlt, hnd, hpw, hdc, hin, R, E, H => by
    have hlist : ∀ i, i < ops.size → i ∉ L → listed.getD i false = true := by
      intro i hi hm
      have hb : listed.getD i true = listed[i]'(by omega) := by simp [show i < listed.size by omega]
      have hb' : listed.getD i false = listed[i]'(by omega) := by simp [show i < listed.size by omega]
      rw [hb', ← hb]
      cases hq : listed.getD i true with
      | true => rfl
      | false => exact (hm ((hL i hi).1 hq)).elim
    refine ⟨?_, ?_⟩
    · intro hr
      match L, hn with
      | x :: L', _ =>
        have hx := hlt x (by simp)
        obtain ⟨ox, hox⟩ : ∃ o, ops[x]? = some o := ⟨ops[x], by simp [hx]⟩
        have : x ∈ Region.ready .any ops listed := by
          refine mem_ready.2 ⟨(hL x hx).2 (by simp), ox, hox, fun e he hb => ?_⟩
          refine hlist _ (hin x ox hox e he hb).1 ?_
          intro hm
          rcases List.mem_cons.1 hm with hm | hm
          · exact (hin x ox hox e he hb).2 hm
          · exact ((List.pairwise_cons.1 hpw).1 _ hm).dep ox hox e he hb rfl
        rw [hr] at this
        simp at this
    · intro i hi
      obtain ⟨hl1, oi, hoi, hdeps⟩ := mem_ready.1 hi
      have hil : i < ops.size := (Array.getElem?_eq_some_iff.1 hoi).1
      have hiL := (hL i hil).1 hl1
      obtain ⟨A, B, rfl⟩ := List.append_of_mem hiL
      have hmask := hms listed hdc i oi hoi hdeps
      have hunl : ∀ j ∈ A, bit (ms.getD i 0) j = false := by
        intro j hj
        cases hb : bit (ms.getD i 0) j with
        | false => rfl
        | true =>
          have h1 := hmask j hb
          have h2 := (hL j (hlt j (by simp [hj]))).2 (by simp [hj])
          have hjs : j < listed.size := by rw [hsz]; exact hlt j (by simp [hj])
          simp [hjs] at h1 h2
          rw [h1] at h2
          simp at h2
      have hpr : ∀ j ∈ A, PR (P := P) (cfg := cfg) ops ms j i := fun j hj => (List.pairwise_append.1 hpw).2.2 j hj i (by simp)
      obtain ⟨ρ, R0⟩ := R
      have W : WF st := fun i s p x hi => R0.gd i s p x hi
      have R : Rel w0 h0 st h a w := ⟨ρ, R0⟩
      have Hop : vcOp P cfg ops oi st h fun s h2 => vcD P cfg ops ms (A ++ B) fl s h2 K := by
        cases hE : isE P oi.op with
        | true =>
          refine vcOp_mono (exE hoi hE A W hfm ⟨w, R0.sub⟩ (fun j hj => ⟨hunl j hj, fun oj hoj => (hpr j hj).un (hunl j hj) oj oi hoj hoi⟩) H) fun s h2 hk => rk_K hk
        | false =>
          refine vcOp_monoV hE W (exV hoi hE A W (fun j hj oj hoj => ?_) H) fun s _ hk => hk
          obtain ⟨q1, q2⟩ := (hpr j hj).un (hunl j hj) oj oi hoj hoi
          refine ⟨?_, q2⟩
          rcases q1 with (q1 | q1) | q1
          · exact q1
          all_goals
            exfalso
            have : isA oi.op = true := by first | exact q1.1 | exact isB_A q1.1
            cases ho : oi.op <;> rw [ho] at this hE <;> first | (cases hE; done) | (cases this; done)
      unfold wpOp
      rw [hoi]
      refine vcOp_gen hP R Hop ?_
      intro st' h' a' w' hk R' E'
      have hnd' := List.nodup_append.1 hnd
      refine vcD_any hP hD hms hQ n hfm (by simp at hn ⊢; omega) (by simp [hsz]) ?_ ?_ ?_ ?_ ?_ hin R' (E.trans (E'.mono ?_)) hk
      · intro k hk
        by_cases hki : i = k
        · subst hki
          have hnm : i ∉ A ++ B := by
            rw [List.nodup_append] at hnd
            simp only [List.mem_append, not_or]
            refine ⟨fun hm => hnd.2.2 i hm i (by simp) rfl, ?_⟩
            have := (List.nodup_cons.1 hnd.2.1).1
            exact this
          simp only [hnm, iff_false]
          simp [hsz, hk]
        · rw [getD_set_ne true hki, hL k hk]
          simp only [List.mem_append, List.mem_cons]
          constructor
          · rintro (h1 | h1 | h1)
            · exact .inl h1
            · exact (hki h1.symm).elim
            · exact .inr h1
          · rintro (h1 | h1)
            · exact .inl h1
            · exact .inr (.inr h1)
      · intro k hk
        exact hlt k (by simp only [List.mem_append, List.mem_cons] at hk ⊢; rcases hk with h1 | h1 <;> simp [h1])
      · exact hnd.sublist (List.Sublist.append (List.Sublist.refl A) (List.sublist_cons_self i B))
      · exact hpw.sublist (List.Sublist.append (List.Sublist.refl A) (List.sublist_cons_self i B))
      · intro k o ho hlk e he hb
        by_cases hki : i = k
        · subst hki
          rw [hoi] at ho; obtain rfl := Option.some.inj ho
          exact getD_set_true (hdeps e he hb)
        · rw [getD_set_ne false hki] at hlk
          exact getD_set_true (hdc k o ho hlk e he hb)
      · intro d hd
        cases hod : oi.dst with
        | none => rw [hod] at hd; simp [dstL] at hd
        | some x => rw [hod] at hd; simp [dstL] at hd; subst hd; exact hD i oi hoi d hod
theorem wp_draw (hP : NoNG P) (hm : P.follows .mixedOrders = true) {id : Nat} {l : List Nat} {w0 : World} {h0 : Hp} {st : St} {h : Hp} {a : Act} {w : World} {K : St → Hp → Prop} {Q : Exit → Act → World → Prop}
    (hchk : chkOrd P cfg ops (befM ops.toList []) [] l = true) (hin : allIn ops.size l = true) (R : Rel w0 h0 st h a w) (H : vcD P cfg ops (befM ops.toList []) l [] st h K)
    (hQ : ∀ st' h' a' w', K st' h' → Rel w0 h0 st' h' a' w' → Ev (dstsL ops.toList) st st' → Q .normal a' w') : (Code.region id ops true).wp P Q a w := by
  obtain ⟨k1, k2, k3, k4, k5⟩ := chkOrd_spec (ops := ops) (ms := befM ops.toList []) hchk (by simp) List.nodup_nil (by simp)
  have hlen : l.length = ops.size := by simpa using k4
  have hall : ∀ i, i < ops.size → i ∈ l := by
    intro i hi
    exact allIn_spec hin i hi
  obtain ⟨ρ, R0⟩ := R
  have R1 : Rel w0 h0 st h a { w with drawn := w.drawn + 1 } :=
    ⟨ρ, R0.step (h' := h) (w' := { w with drawn := w.drawn + 1 }) R0.sub ⟨rfl, rfl, rfl, Nat.le_refl _, Nat.le_succ _, fun b hb hn => ⟨rfl, hn⟩⟩⟩
  refine wp_region_any hm ?_
  refine vcD_any hP (D := dstsL ops.toList) (st0 := st) ?_ ?_ hQ ops.size (L := l) (fl := []) (fun f hf => by simp at hf) hlen (by simp) ?_ (fun i hi => (k2 i hi).1) k3 k1 ?_ ?_ R1 (Ev.refl _ _) H
  · intro i o ho d hd
    have : ∀ (m : List Oper), o ∈ m → d ∈ dstsL m := by
      intro m
      induction m with
      | nil => simp
      | cons x m ih =>
        intro hm
        rcases List.mem_cons.1 hm with rfl | hm
        · simp [dstsL, hd]
        · exact dsts_tail' (ih hm)
    exact this _ (by simpa using Array.mem_of_getElem? ho)
  · intro listed hdc k o ho hall' j hj
    refine befM_spec ops.toList [] 0 rfl (fun i o hi => by simpa using hi) hdc (fun d _ j hj => ?_) (fun k o hk => by omega) k o ho hall' j hj
    simp [List.getD, bit_zero] at hj
  · intro i hi
    simp [hall i hi, hi]
  · intro k o ho hlk
    exfalso
    by_cases hk : k < ops.size <;> simp [hk] at hlk
  · intro i o ho e he hb
    exact k5 i (hall i (Array.getElem?_eq_some_iff.1 ho).1) o ho e he hb
end
end Go.Vd
set_option linter.unusedVariables false
namespace Go.Vd
open Go.Vc
open Go
section
variable {P : Program} {cfg : Cfg} {w0 : World} {h0 : Hp}
theorem vcOps_ok (hP : NoNG P) {ops : Array Oper} {Q : Exit → Act → World → Prop} : ∀ (l : List Oper) {st : St} {h : Hp} {a : Act} {w : World} {K : St → Hp → Prop}, Rel w0 h0 st h a w → vcOps P cfg ops l st h K →
    (∀ st' h' a' w', K st' h' → Rel w0 h0 st' h' a' w' → Ev (dstsL l) st st' → Q .normal a' w') → wpList P ops Q l a w
  | [], st, h, a, w, K, R, H, hn => hn st h a w H R (Ev.refl _ _)
  | o :: l, st, h, a, w, K, R, H, hn => by
    refine vcOp_ok hP R (show vcOp P cfg ops o st h _ from H) ?_
    intro st' h' a' w' hk R' E'
    refine vcOps_ok hP l R' hk ?_
    intro st2 h2 a2 w2 hk2 R2 E2
    exact hn st2 h2 a2 w2 hk2 R2 ((E'.mono fun i hi => dsts_sub hi).trans (E2.mono fun i hi => dsts_tail hi))
theorem noGd {ρ : Nat → Option Nat} {st : St} {h : Hp} {a : Act} {w : World} (R : RelR ρ w0 h0 st h a w) (hg : st.g = (fun _ => false)) (i s : Nat) (p : Bool) (x : SV) : st.t i ≠ .gd s p x := by
  intro e
  have := R.gd i s p x e
  rw [hg] at this
  simp at this
theorem endR_ok {st0 st : St} {h : Hp} {a : Act} {w : World} {D : List Nat} (R0 : ∀ i s p x, st0.t i ≠ .gd s p x) (R : Rel w0 h0 st h a w) (E : Ev D st0 st) : Rel w0 h0 (endR D st) h a w ∧ (endR D st).g = (fun _ => false) ∧ Ev D st0 (endR D st) := by
  obtain ⟨ρ, R⟩ := R
  have hno : ∀ i s p x, (endR D st).t i ≠ .gd s p x := by
    intro i s p x e
    simp only [endR] at e
    split at e
    · simp at e
    · rename_i s' p' x' hi
      cases hm : memN i D with
      | true => rw [hm] at e; simp at e
      | false =>
        have : i ∉ D := by intro hd; rw [memN_iff.2 hd] at hm; simp at hm
        rw [E.t i this] at hi
        exact R0 i _ _ _ hi
  refine ⟨⟨ρ, R.n, R.d, fun i => ?_, fun i s p x e => (hno i s p x e).elim, R.sub, R.F, R.box, R.dom, R.inj⟩, rfl, E.n, fun i hi => ?_, E.b⟩
  · have hr := R.fr i
    simp only [endR]
    split
    · rename_i x hx; rw [hx] at hr; exact hr
    · rename_i s p x hx
      cases hm : memN i D with
      | true => exact trivial
      | false =>
        have : i ∉ D := by intro hd; rw [memN_iff.2 hd] at hm; simp at hm
        rw [E.t i this] at hx
        exact (R0 i _ _ _ hx).elim
  · have e := E.t i hi
    simp only [endR]
    split
    · rename_i x hx; rw [← e, hx]
    · rename_i s p x hx; rw [e] at hx; exact (R0 i _ _ _ hx).elim
def Post (w0 : World) (h0 : Hp) (D : List Nat) (st : St) (Q : Ex → St → Hp → Prop) (e : Exit) (a : Act) (w : World) : Prop :=
  ∃ x st' h', toEx e = some x ∧ Q x st' h' ∧ Rel w0 h0 st' h' a w ∧ st'.g = (fun _ => false) ∧ Ev D st st'
theorem loopSt_rel {st st' : St} {h : Hp} {a : Act} {w : World} {D slots : List Nat} {bxs : List (Nat × List Sh1)} {xs : List TW} {ys : List (List TV)}
    (hg0 : ∀ i s p x, st.t i ≠ .gd s p x) (hbnd : ∀ i j o, i ∉ D → st.t i = .s (.bp j o) → j < st.b.length) (hsub : ∀ i, i ∈ slots → i ∈ D)
    (R : Rel w0 h0 st' h a w) (hg' : st'.g = (fun _ => false)) (hn : st'.n = st.n) (ht : ∀ i, i ∉ D → st'.t i = st.t i)
    (hlb : st.b.length ≤ st'.b.length) (hty : ∀ (j : Nat) (x y : Box), st.b[j]? = some x → st'.b[j]? = some y → y.ty = x.ty)
    (hsame : ∀ (j : Nat) (x y : Box), (lookN j bxs).isSome = false → st.b[j]? = some x → st'.b[j]? = some y → tvals y.c = tvals x.c)
    (hbi : ∀ (k : Nat) (q : Nat × List Sh1), bxs[k]? = some q → q.1 < st.b.length)
    (hv : loopVals st' slots bxs = some (twals xs ++ tvalsL ys)) (hxl : xs.length = slots.length) (hyl : ys.length = bxs.length)
    (hylen : ∀ (k : Nat) (q : Nat × List Sh1) (y : List TV) (x : Box), bxs[k]? = some q → ys[k]? = some y → st'.b[q.1]? = some x → y.length = x.c.length)
    (hg : st.g = (fun _ => false)) : Rel w0 h0 (loopSt st D slots bxs xs ys) h a w := by
  obtain ⟨ρ, R⟩ := R
  have hsv : slotVals st' slots = some (twals xs) ∧ boxVals st' bxs = some (tvalsL ys) := by
    unfold loopVals at hv
    split at hv
    · rename_i u v hu hv'
      simp only [Option.some.injEq] at hv
      have hl := slotVals_len hu
      obtain ⟨e1, e2⟩ := List.append_inj hv (by rw [hl, twals_length, hxl])
      exact ⟨by rw [hu, e1], by rw [hv', e2]⟩
    · simp at hv
  -- the boxes of the head against the frame's
  have key : ∀ (j : Nat) (x y : Box), (setBoxes st.b bxs ys)[j]? = some x → st'.b[j]? = some y → tvals x.c = tvals y.c ∧ x.ty = y.ty := by
    have : ∀ (l : List (Nat × List Sh1)) (zs : List (List TV)) (b : List Box), boxVals st' l = some (tvalsL zs) → zs.length = l.length →
        (∀ (k : Nat) (q : Nat × List Sh1) (y : List TV) (x : Box), l[k]? = some q → zs[k]? = some y → st'.b[q.1]? = some x → y.length = x.c.length) →
        (∀ (k : Nat) (q : Nat × List Sh1), l[k]? = some q → q.1 < b.length) →
        (∀ (j : Nat) (x y : Box), b[j]? = some x → st'.b[j]? = some y → (tvals x.c = tvals y.c ∨ (lookN j l).isSome = true) ∧ x.ty = y.ty) →
        ∀ (j : Nat) (x y : Box), (setBoxes b l zs)[j]? = some x → st'.b[j]? = some y → tvals x.c = tvals y.c ∧ x.ty = y.ty := by
      intro l
      induction l with
      | nil => intro zs b _ _ _ _ hb j x y hx hy; obtain ⟨h1, h2⟩ := hb j x y (by simpa [setBoxes] using hx) hy; exact ⟨h1.resolve_right (by simp [lookN]), h2⟩
      | cons q l ih =>
        obtain ⟨i, s⟩ := q
        intro zs b H hl hlen hbi hb
        cases zs with
        | nil => simp at hl
        | cons z zs =>
          simp only [boxVals] at H
          split at H
          · rename_i bx vs hbx hvs
            simp only [Option.some.injEq, tvalsL] at H
            have hylen := hlen 0 (i, s) z bx rfl rfl hbx
            have hsp := List.append_inj H (by simp [tvals_length, hylen])
            have hib : i < b.length := hbi 0 (i, s) rfl
            obtain ⟨b0, hb0⟩ : ∃ b0, b[i]? = some b0 := ⟨b[i], by simp [hib]⟩
            simp only [setBoxes, hb0]
            refine ih zs _ (by rw [hvs, hsp.2]) (by simpa using hl) (fun k q y' x h1 h2 h3 => hlen (k + 1) q y' x (by simpa using h1) (by simpa using h2) h3)
              (fun k q hq => by rw [setAt_length]; exact hbi (k + 1) q (by simpa using hq)) ?_
            intro j x y hx hy
            rw [setAt_get] at hx
            split at hx
            · rename_i e
              obtain ⟨rfl, _⟩ := e
              rw [hbx] at hy
              obtain rfl := Option.some.inj hy
              simp only [Option.some.injEq] at hx
              subst hx
              exact ⟨.inl hsp.1.symm, (hb j b0 bx hb0 hbx).2⟩
            · rename_i e
              obtain ⟨h1, h2⟩ := hb j x y hx hy
              refine ⟨?_, h2⟩
              rcases h1 with h1 | h1
              · exact .inl h1
              · simp only [lookN] at h1
                cases hq : Nat.beq j i with
                | true =>
                  have := Nat.eq_of_beq_eq_true hq
                  subst this
                  exact (e ⟨rfl, hib⟩).elim
                | false => rw [hq] at h1; exact .inr h1
          · simp at H
    refine this bxs ys st.b hsv.2 hyl hylen hbi ?_
    intro j x y hx hy
    refine ⟨?_, (hty j x y hx hy).symm⟩
    cases hq : (lookN j bxs).isSome with
    | true => exact .inr rfl
    | false => exact .inl (hsame j x y hq hx hy).symm
  refine ⟨fun i => if i < st.b.length then ρ i else none, ?_, R.d, ?_, ?_, R.sub, R.F, ?_, ?_, ?_⟩
  · rw [R.n, hn]; rfl
  · have hst : ∀ i x, st'.t i = .s (.t x) → a.tmps.getD i undef = x.val := by
      intro i x hx
      have := R.fr i
      rw [hx] at this
      exact this
    refine setSlots_ok (st := st') hst slots xs _ ?_ hsv.1
    intro i
    cases hm : memN i D with
    | true => exact trivial
    | false =>
      have hi : i ∉ D := by intro hd; rw [memN_iff.2 hd] at hm; simp at hm
      have hr := R.fr i
      rw [ht i hi] at hr
      simp only [cond_false]
      cases hs : st.t i with
      | gd s p x => exact (hg0 i s p x hs).elim
      | s x =>
        rw [hs] at hr
        cases x with
        | bp j o =>
          obtain ⟨b, h1, h2⟩ := hr
          exact ⟨b, by simp [hbnd i j o hi hs, h1], h2⟩
        | _ => exact hr
  · intro i s p x e
    refine (setSlots_nogd slots xs _ ?_ i s p x e).elim
    intro i s p x
    cases hm : memN i D with
    | true => simp
    | false => exact hg0 i s p x
  · intro i bx hbx
    have hil : i < st.b.length := by
      have := (List.getElem?_eq_some_iff.1 hbx).1
      simpa [loopSt, setBoxes_len] using this
    obtain ⟨by', hby⟩ : ∃ y, st'.b[i]? = some y := ⟨st'.b[i]'(by omega), by simp [show i < st'.b.length by omega]⟩
    obtain ⟨b, h1, h2, h3, h4⟩ := R.box i by' hby
    obtain ⟨k1, k2⟩ := key i bx by' hbx hby
    exact ⟨b, by simp [hil, h1], by rw [k1, k2]; exact h2, h3, h4⟩
  · intro i b hi
    split at hi
    · rename_i hl; simpa [loopSt, setBoxes_len] using hl
    · simp at hi
  · intro i j b hi hj
    split at hi
    · split at hj
      · exact R.inj i j b hi hj
      · simp at hj
    · simp at hi
theorem vcC_ok (hP : NoNG P) (hm : P.follows .mixedOrders = true) : ∀ (c : Code) {st : St} {h : Hp} {a : Act} {w : World} {Q : Ex → St → Hp → Prop}, vcC P cfg c st h Q → st.g = (fun _ => false) → Rel w0 h0 st h a w → c.wp P (Post w0 h0 (dstsC c) st Q) a w := by
  intro c
  induction c with
  | skip => intro st h a w Q H hg R; exact wp_skip ⟨.nrm, st, h, rfl, H, R, hg, Ev.refl _ _⟩
  | region id ops draw =>
    intro st h a w Q H hg R
    simp only [vcC] at H
    cases draw with
    | true =>
      simp only [cond_true] at H
      split at H
      · rename_i l hl
        rcases Bool.eq_false_or_eq_true (chkOrd P cfg ops (befM ops.toList []) [] l && allIn ops.size l) with hc | hc
        · rw [hc] at H
          simp only [cond_true] at H
          simp only [Bool.and_eq_true] at hc
          refine wp_draw hP hm hc.1 hc.2 R H ?_
          intro st' h' a' w' hk R' E'
          obtain ⟨ρ, R0⟩ := R
          obtain ⟨k1, k2, k3⟩ := endR_ok (noGd R0 hg) R' E'
          exact ⟨.nrm, _, h', rfl, hk, k1, k2, k3⟩
        · rw [hc] at H; exact H.elim
      · exact H.elim
    | false =>
      simp only [cond_false] at H
      refine wp_region_list (vcOps_ok hP ops.toList R H ?_)
      intro st' h' a' w' hk R' E'
      obtain ⟨ρ, R0⟩ := R
      obtain ⟨k1, k2, k3⟩ := endR_ok (noGd R0 hg) R' E'
      exact ⟨.nrm, _, h', rfl, hk, k1, k2, k3⟩
  | seq x y ihx ihy =>
    intro st h a w Q H hg R
    refine wp_seq (wp_mono (ihx H hg R) ?_)
    rintro e a' w' ⟨ex, st', h', he, hq, R', hg', E'⟩
    have hD : ∀ i, i ∈ dstsC x → i ∈ dstsC (.seq x y) := fun i hi => by simp [dstsC, hi]
    have hD' : ∀ i, i ∈ dstsC y → i ∈ dstsC (.seq x y) := fun i hi => by simp [dstsC, hi]
    cases e with
    | normal =>
      simp only [toEx, Option.some.injEq] at he
      subst he
      refine wp_mono (ihy hq hg' R') ?_
      rintro e a2 w2 ⟨ex, st2, h2, he, hq, R2, hg2, E2⟩
      exact ⟨ex, st2, h2, he, hq, R2, hg2, (E'.mono hD).trans (E2.mono hD')⟩
    | exit id => simp only [toEx, Option.some.injEq] at he; subst he; exact ⟨_, st', h', rfl, hq, R', hg', E'.mono hD⟩
    | ret => simp only [toEx, Option.some.injEq] at he; subst he; exact ⟨_, st', h', rfl, hq, R', hg', E'.mono hD⟩
    | goto l => simp [toEx] at he
    | panic ch => simp [toEx] at he
    | outgrown => simp [toEx] at he
  | cond c x y ihx ihy =>
    intro st h a w Q H hg R
    simp only [vcC] at H
    split at H
    · rename_i t ht
      obtain ⟨ρ, R0⟩ := R
      have hc : a.eval c = .bool t := sv_cases_t ht (ev_ok R0 (fun _ _ hm => by simp at hm) c)
      refine wp_cond_split hc (fun e => ?_) (fun e => ?_)
      · refine wp_mono (ihx (H.1 e) hg ⟨ρ, R0⟩) ?_
        rintro e a2 w2 ⟨ex, st2, h2, he, hq, R2, hg2, E2⟩
        exact ⟨ex, st2, h2, he, hq, R2, hg2, E2.mono fun i hi => by simp [dstsC, hi]⟩
      · refine wp_mono (ihy (H.2 e) hg ⟨ρ, R0⟩) ?_
        rintro e a2 w2 ⟨ex, st2, h2, he, hq, R2, hg2, E2⟩
        exact ⟨ex, st2, h2, he, hq, R2, hg2, E2.mono fun i hi => by simp [dstsC, hi]⟩
    · exact H.elim
  | block id x ihx =>
    intro st h a w Q H hg R
    refine wp_block (wp_mono (ihx H hg R) ?_)
    rintro e a' w' ⟨ex, st', h', he, hq, R', hg', E'⟩
    cases e with
    | normal => simp only [toEx, Option.some.injEq] at he; subst he; exact ⟨_, st', h', rfl, hq, R', hg', E'⟩
    | exit i =>
      simp only [toEx, Option.some.injEq] at he
      subst he
      simp only at hq
      simp only [Exit.inBlock]
      cases hb : Nat.beq i id with
      | true =>
        rw [hb] at hq
        rw [if_pos (Nat.eq_of_beq_eq_true hb)]
        exact ⟨_, st', h', rfl, hq, R', hg', E'⟩
      | false =>
        rw [hb] at hq
        rw [if_neg (Nat.ne_of_beq_eq_false hb)]
        exact ⟨_, st', h', rfl, hq, R', hg', E'⟩
    | ret => simp only [toEx, Option.some.injEq] at he; subst he; exact ⟨_, st', h', rfl, hq, R', hg', E'⟩
    | goto l => simp [toEx] at he
    | panic ch => simp [toEx] at he
    | outgrown => simp [toEx] at he
  | loop x ihx =>
    intro st h a w Q H hg R
    simp only [vcC] at H
    split at H
    · exact H.elim
    · rename_i slots shs bxs hann
      split at H
      · exact H.elim
      · exact H.elim
      · rename_i vs0 hv0 hchk
        simp only [Bool.and_eq_true] at hchk
        obtain ⟨⟨hc1, hc2⟩, hc3⟩ := hchk
        have hshs := Nat.eq_of_beq_eq_true hc1
        have hlens := chkLens_spec hc2
        have hsub := subN_spec hc3
        obtain ⟨I, μ, hI0, hround⟩ := H
        have hR := R
        obtain ⟨ρ, R0⟩ := R
        have hg0 := noGd R0 hg
        have hbnd : ∀ i j o, i ∉ dstsC x → st.t i = .s (.bp j o) → j < st.b.length := by
          intro i j o _ hi
          have hr := R0.fr i
          rw [hi] at hr
          obtain ⟨b, h1, _⟩ := hr
          exact R0.dom j b h1
        have hbi : ∀ (k : Nat) (q : Nat × List Sh1), bxs[k]? = some q → q.1 < st.b.length := by
          intro k q hq
          obtain ⟨bx, hbx, _⟩ := hlens k q hq
          exact (List.getElem?_eq_some_iff.1 hbx).1
        let Inv : Nat → Act → World → Prop := fun n a w => ∃ vs h' xs ys, n = μ vs h' ∧ I vs h' ∧ Rel w0 h0 (loopSt st (dstsC x) slots bxs xs ys) h' a w ∧
          vcC P cfg x (loopSt st (dstsC x) slots bxs xs ys) h' fun e st' h'' => match e with
            | .nrm => match loopVals st' slots bxs with
              | some vs' => bif (sameB 0 st.b st'.b bxs && chkLens st' bxs) then (I vs' h'' ∧ μ vs' h'' < μ vs h') else False
              | none => False
            | e => Q e st' h''
        -- from a frame that fits to the head
        have head : ∀ st' h' a w vs, Rel w0 h0 st' h' a w → st'.g = (fun _ => false) → st'.n = st.n → (∀ i, i ∉ dstsC x → st'.t i = st.t i) → st.b.length ≤ st'.b.length →
            (∀ (j : Nat) (x y : Box), st.b[j]? = some x → st'.b[j]? = some y → y.ty = x.ty) → (∀ (j : Nat) (x y : Box), (lookN j bxs).isSome = false → st.b[j]? = some x → st'.b[j]? = some y → tvals y.c = tvals x.c) →
            (∀ (k : Nat) (q : Nat × List Sh1) (y : Box), bxs[k]? = some q → st'.b[q.1]? = some y → y.c.length = q.2.length) →
            loopVals st' slots bxs = some vs → I vs h' → Inv (μ vs h') a w := by
          intro st' h' a w vs R' hg' hn' ht' hlb' hty' hsame' hlen' hv' hI'
          obtain ⟨xs, hx, hxl⟩ := ex0L_elim' (hround vs h' hI')
          obtain ⟨ys, ⟨hvs, hvc⟩, hyl, hylen⟩ := exLL_elim hx
          refine ⟨vs, h', xs, ys, rfl, hI', ?_, hvc⟩
          refine loopSt_rel hg0 hbnd hsub R' hg' hn' ht' hlb' hty' hsame' hbi (by rw [hv', hvs]) (by rw [hxl, hshs]) hyl ?_ hg
          intro k q y bx h1 h2 h3
          rw [hylen k q y h1 h2, hlen' k q bx h1 h3]
        refine wp_loop_n Inv (μ vs0 h) ?_ ?_
        · refine head st h a w vs0 hR hg rfl (fun _ _ => rfl) (Nat.le_refl _) (fun j u v h1 h2 => by rw [h1] at h2; obtain rfl := Option.some.inj h2; rfl) (fun j u v _ h1 h2 => by rw [h1] at h2; obtain rfl := Option.some.inj h2; rfl) ?_ hv0 hI0
          intro k q y h1 h2
          obtain ⟨bx, hbx, hl⟩ := hlens k q h1
          rw [hbx] at h2
          obtain rfl := Option.some.inj h2
          exact hl
        · rintro n a w ⟨vs, h', xs, ys, rfl, hI', hRl, hvc⟩
          refine wp_mono (ihx hvc hg hRl) ?_
          have hE0 : Ev (dstsC x) st (loopSt st (dstsC x) slots bxs xs ys) := loopSt_ev hsub
          rintro e a2 w2 ⟨ex, st2, h2, he, hq, R2, hg2, E2⟩
          cases e with
          | normal =>
            simp only [toEx, Option.some.injEq] at he
            subst he
            simp only at hq
            split at hq
            · rename_i vs' hv'
              cases hsB' : (sameB 0 st.b st2.b bxs && chkLens st2 bxs) with
              | false => rw [hsB'] at hq; exact hq.elim
              | true =>
                rw [hsB'] at hq
                simp only [cond_true] at hq
                simp only [Bool.and_eq_true] at hsB'
                obtain ⟨hsB, hcl⟩ := hsB'
                have hE := hE0.trans E2
                refine ⟨μ vs' h2, hq.2, head st2 h2 a2 w2 vs' R2 hg2 hE.n hE.t (boxMono_len hE.b) ?_ ?_ ?_ hv' hq.1⟩
                · intro j u v h1 h2
                  obtain ⟨y, hy, ht, _⟩ := hE.b j u h1
                  rw [h2] at hy
                  obtain rfl := Option.some.inj hy
                  exact ht
                · intro j u v hl h1 h2
                  have hs := (sameB_spec _ _ _ 0 hsB).2 j u v (by rw [Nat.zero_add]; exact hl) h1 h2
                  obtain ⟨y, hy, _, _, hst⟩ := hE.b j u h1
                  rw [h2] at hy
                  obtain rfl := Option.some.inj hy
                  rw [hst hs.symm]
                · intro k q y h1 h2
                  obtain ⟨bx, hbx, hl⟩ := chkLens_spec hcl k q h1
                  rw [hbx] at h2
                  obtain rfl := Option.some.inj h2
                  exact hl
            · exact hq.elim
          | exit id => simp only [toEx, Option.some.injEq] at he; subst he; exact ⟨_, st2, h2, rfl, hq, R2, hg2, hE0.trans E2⟩
          | ret => simp only [toEx, Option.some.injEq] at he; subst he; exact ⟨_, st2, h2, rfl, hq, R2, hg2, hE0.trans E2⟩
          | goto l => simp [toEx] at he
          | panic ch => simp [toEx] at he
          | outgrown => simp [toEx] at he
  | exit id => intro st h a w Q H hg R; exact wp_exit ⟨_, st, h, rfl, H, R, hg, Ev.refl _ _⟩
  | ret => intro st h a w Q H hg R; exact wp_ret ⟨_, st, h, rfl, H, R, hg, Ev.refl _ _⟩
  | _ => intros; rename_i H _ _; exact H.elim
end
end Go.Vd
set_option linter.unusedVariables false
namespace Go.Vd
open Go.Vc
open Go
section
variable {P : Program} {cfg : Cfg} {w0 : World} {h0 : Hp}
theorem vcRes_ok {st : St} {h : Hp} : ∀ {l : List ResultVar} {K : List Value → Prop}, vcRes P st h l K → ∃ vs, K vs ∧ ∀ {ρ : Nat → Option Nat} {a : Act} {w : World}, RelR ρ w0 h0 st h a w → (l.mapM (resOne a.tmps)).run P w = .ok vs w := fun H => let ⟨vs, k, e⟩ := Vc.vcRes_ok (w0 := w0) (h0 := h0) H; ⟨vs, k, fun R => e R.toVc⟩
theorem leaves_marks {ρ : Nat → Option Nat} {st : St} {h : Hp} {fn : Func} {vs : List Value} {n : Nat} {K : Ending → World → Prop} (H : ∀ {ρ : Nat → Option Nat} {a : Act} {w : World}, RelR ρ w0 h0 st h a w → (fn.results.toList.mapM (resOne a.tmps)).run P w = .ok vs w) (hK : ∀ W, Sub h W → Fr h0 h w0 W → K (.returned (tupV vs)) W) :
    ∀ (ds : List Deferred) {a : Act} {w : World}, RelR ρ w0 h0 st h a w → a.defers = ds → LeavesInM Fence.wide n P fn a.tmps K ds .returning w
  | [], a, w, R, _ => ⟨_, results_ok (H R), hK w R.sub R.F⟩
  | d :: ds, a, w, R, hd => by
    have hm := R.d
    rw [hd] at hm
    obtain ⟨D, e, k1, k2, k3⟩ := hm.2 d List.mem_cons_self
    refine ⟨by simp, .inl ⟨D, w.putObj D (.deferred none), by rw [e], run_takeDeferred k1, ?_⟩⟩
    have hsz : (w.putObj D (.deferred none)).heap.size = w.heap.size := by simp [World.putObj]
    have hoth : ∀ b, b ≠ D → (w.putObj D (.deferred none)).heap[b]? = w.heap[b]? := fun b hb => World.putObj_heap_other hb
    have R' : RelR ρ w0 h0 st h { a with defers := ds } (w.putObj D (.deferred none)) := by
      refine ⟨R.n, ⟨(List.nodup_cons.1 hm.1).2, ?_⟩, R.fr, R.gd, ?_, ⟨R.F.os, R.F.tape, R.F.output, by rw [hsz]; exact R.F.size, R.F.drawn, ?_⟩, ?_, R.dom, R.inj⟩
      · intro x hx
        obtain ⟨D', e', j1, j2, j3⟩ := hm.2 x (List.mem_cons_of_mem _ hx)
        refine ⟨D', e', ?_, j2, j3⟩
        rw [hoth D' (fun e2 => ?_)]
        · exact j1
        · subst e2
          rw [← e] at e'
          subst e'
          exact (List.nodup_cons.1 hm.1).1 hx
      · intro b o hb
        rw [hoth b (fun e2 => by subst e2; rw [k2] at hb; cases hb)]
        exact R.sub b o hb
      · intro b hb hn
        rw [hoth b (fun e2 => by subst e2; omega)]
        exact R.F.keep b hb hn
      · intro i bx hb
        obtain ⟨b, j1, j2, j3, j4⟩ := R.box i bx hb
        refine ⟨b, j1, ?_, j3, j4⟩
        rw [hoth b (fun e2 => by subst e2; rw [k1] at j2; cases j2)]
        exact j2
    exact leaves_marks (a := { a with defers := ds }) H hK ds R' rfl
theorem vcFn_ok (hP : NoNG P) (hm : P.follows .mixedOrders = true) {f : FuncId} {fn : Func} (hf : P.funcs[f]? = some fn) {args : List TW} {h : Hp} {R : Value → Hp → Prop} (hn : args.length ≤ fn.ntmps) (H : vcFn P cfg fn args h R) : CallOK P f (args.map TW.val) h R := by
  intro w hs
  unfold vcFn at H
  split at H
  · exact H.elim
  · rename_i c hb
    refine (callsIn_wide (n := 3)).1 (callsIn_of_wp_marks hf hb trivial (wpIn_wide.2 ?_))
    have hR0 : Rel w h ⟨fn.ntmps, argSlots args, fun _ => false, []⟩ h { tmps := (args.map TW.val).toArray ++ Array.replicate (fn.ntmps - (args.map TW.val).toArray.size) undef, defers := [] } w := by
      refine ⟨fun _ => none, ?_, ⟨List.nodup_nil, fun d hd => by cases hd⟩, argSlots_ok args _, ?_, hs, Fr.refl h w, ?_, ?_, ?_⟩
      · simp; omega
      · intro i s p x e
        have : ∀ (args : List TW) (i : Nat), argSlots args i ≠ .gd s p x := by
          intro args
          induction args with
          | nil => intro i; simp [argSlots]
          | cons y l ih => intro i; cases i <;> simp [argSlots]; exact ih _
        exact (this args i e).elim
      · intro i bx hbx; simp at hbx
      · intro i b hb; simp at hb
      · intro i j b hb; simp at hb
    refine wp_mono (vcC_ok hP hm c H rfl hR0) ?_
    rintro e a' w' ⟨ex, st', h', he, hq, ⟨ρ, R'⟩, hg', E'⟩
    have fin : (vcRes P st' h' fn.results.toList fun vs => match vs with
        | [v] => R v h'
        | vs => R (.tuple vs.toArray) h') → LeavesInM Fence.wide 3 P fn a'.tmps (fun e w' => ∃ v h', e = .returned v ∧ Sub h' w' ∧ Fr h h' w w' ∧ R v h') a'.defers .returning w' := by
      intro hx
      obtain ⟨vs, hk, hv⟩ := vcRes_ok hx
      refine leaves_marks hv (fun W k1 k2 => ⟨_, h', rfl, k1, k2, ?_⟩) _ R' rfl
      match vs, hk with
      | [], hk => exact hk
      | [v], hk => exact hk
      | u :: v :: l, hk => exact hk
    cases e with
    | normal => simp only [toEx, Option.some.injEq] at he; subst he; exact fin hq
    | ret => simp only [toEx, Option.some.injEq] at he; subst he; exact fin hq
    | exit id => simp only [toEx, Option.some.injEq] at he; subst he; exact hq.elim
    | goto l => simp [toEx] at he
    | panic ch => simp [toEx] at he
    | outgrown => simp [toEx] at he
theorem call_of (hP : NoNG P) (hm : P.follows .mixedOrders = true) {f : FuncId} {fn : Func} (hf : P.funcs[f]? = some fn) (args : List TW) {vs : List Value} {h : Hp} {R : Value → Hp → Prop} (hn : Nat.ble args.length fn.ntmps = true) (hv : vs = args.map TW.val) {V : Prop} (hV : V = vcFn P cfg fn args h R) (H : V) : CallOK P f vs h R := by
  subst hv
  exact vcFn_ok hP hm hf (Nat.le_of_ble_eq_true hn) (hV ▸ H)
end
end Go.Vd
namespace Go.Proofs.YtejefijpcggkfaaGreatDoor.D
open Go Go.Vd
open Go.Vc (Hp IsW NoNG cellsO vag vb vi vs vsl)
set_option maxRecDepth 100000
set_option linter.unusedVariables false
theorem noNG : NoNG Tryz.prog := by
  have h : (Tryz.prog.funcs.all fun fn => !(fn.name == "runtime.NumGoroutine")) = true := by kernel_rfl
  intro f fn hf
  rw [Array.all_eq_true] at h
  obtain ⟨hlt, he⟩ := Array.getElem?_eq_some_iff.mp hf
  have := h f hlt
  rw [he] at this
  simpa using this
theorem mixed : Tryz.prog.follows .mixedOrders = true := by kernel_rfl
def VC_cmp_isNaN_int (u_x : Int) (h : Hp) (R : Value → Hp → Prop) : Prop :=
  R (vb (decide ((u_x : Int) ≠ u_x))) h
theorem ok_cmp_isNaN_int {u_x : Int} {h : Hp} {R : Value → Hp → Prop} (H : VC_cmp_isNaN_int u_x h R) : CallOK Tryz.prog 100 [(vi u_x)] h R :=
  call_of (cfg := ⟨[], [], []⟩) noNG mixed Tryz.func100 [.one (.v (vi u_x))] (by kernel_rfl) rfl (by kernel_rfl) H
def VC_cmp_Compare_int (u_x : Int) (u_y : Int) (h : Hp) (R : Value → Hp → Prop) : Prop :=
  (CallOK Tryz.prog 100 [(vi u_x)] h fun v1 h2 => ∃ (p3 : Bool), v1 = (vb p3) ∧ (CallOK Tryz.prog 100 [(vi u_y)] h2 fun v4 h5 => ∃ (p6 : Bool), v4 = (vb p6) ∧ ((p3 = true → ((p6 = true → R (vi 0) h5) ∧ (p6 = false → R (vi (-1)) h5))) ∧ (p3 = false → ((p6 = true → R (vi 1) h5) ∧ (p6 = false → (((decide ((u_x : Int) < u_y)) = true → R (vi (-1)) h5) ∧ ((decide ((u_x : Int) < u_y)) = false → (((decide ((u_x : Int) > u_y)) = true → R (vi 1) h5) ∧ ((decide ((u_x : Int) > u_y)) = false → R (vi 0) h5))))))))))
theorem ok_cmp_Compare_int {u_x : Int} {u_y : Int} {h : Hp} {R : Value → Hp → Prop} (H : VC_cmp_Compare_int u_x u_y h R) : CallOK Tryz.prog 61 [(vi u_x), (vi u_y)] h R :=
  call_of (cfg := ⟨[], [], []⟩) noNG mixed Tryz.func61 [.one (.v (vi u_x)), .one (.v (vi u_y))] (by kernel_rfl) rfl (by kernel_rfl) H
def VC_cmp_Or_int (u_valsa : Option Addr) (u_valsn u_valsc : Nat) (h : Hp) (R : Value → Hp → Prop) : Prop :=
  (∃ (I2 : List Value → Hp → Prop) (m3 : List Value → Hp → Nat), I2 [(vi 0)] h ∧ ∀ (vs4 : List Value) (h5 : Hp), I2 vs4 h5 → ∃ (x6 : Int), vs4 = [(vi x6)] ∧ (((decide ((x6 : Int) < ((u_valsn : Nat) : Int))) = true → (∃ (b9 o10 : Nat), (u_valsa = some ⟨b9, o10, none⟩ ∧ (0 : Int) ≤ x6 ∧ x6 < ((u_valsn : Nat) : Int)) ∧ (∃ (x11 : Int), (Hp.cell h5 b9 (o10 + x6.toNat * 1) = some (vi x11)) ∧ (((decide ((x11 : Int) ≠ 0)) = true → R (vi x11) h5) ∧ ((decide ((x11 : Int) ≠ 0)) = false → (∃ (x13 : Int), (IsW x13 (x6 + 1)) ∧ (I2 [(vi x13)] h5 ∧ m3 [(vi x13)] h5 < m3 vs4 h5))))))) ∧ ((decide ((x6 : Int) < ((u_valsn : Nat) : Int))) = false → R (vi 0) h5)))
theorem ok_cmp_Or_int {u_valsa : Option Addr} {u_valsn u_valsc : Nat} {h : Hp} {R : Value → Hp → Prop} (H : VC_cmp_Or_int u_valsa u_valsn u_valsc h R) : CallOK Tryz.prog 60 [(vsl u_valsa u_valsn u_valsc)] h R :=
  call_of (cfg := ⟨[], [(3, ([8], [.one (.int .i64)], []))], []⟩) noNG mixed Tryz.func60 [.one (.v (vsl u_valsa u_valsn u_valsc))] (by kernel_rfl) rfl (by kernel_rfl) H
def VC_value_Compare (u_aKind : Int) (u_aN : Int) (u_bKind : Int) (u_bN : Int) (h : Hp) (R : Value → Hp → Prop) : Prop :=
  (CallOK Tryz.prog 61 [(vi u_aKind), (vi u_bKind)] h fun v1 h2 => ∃ (x3 : Int), v1 = (vi x3) ∧ (CallOK Tryz.prog 61 [(vi u_aN), (vi u_bN)] h2 fun v4 h5 => ∃ (x6 : Int), v4 = (vi x6) ∧ (∀ (b7 : Nat), h5 b7 = none → let h8 : Hp := Hp.set h5 b7 (cellsO [(vi x3), (vi x6)] 3); (CallOK Tryz.prog 60 [(vsl (some (⟨b7, 0, none⟩ : Addr)) 2 2)] h8 fun v9 h10 => ∃ (x11 : Int), v9 = (vi x11) ∧ R (vi x11) h10))))
theorem ok_value_Compare {u_aKind : Int} {u_aN : Int} {u_bKind : Int} {u_bN : Int} {h : Hp} {R : Value → Hp → Prop} (H : VC_value_Compare u_aKind u_aN u_bKind u_bN h R) : CallOK Tryz.prog 29 [(vag [(vi u_aKind), (vi u_aN)]), (vag [(vi u_bKind), (vi u_bN)])] h R :=
  call_of (cfg := ⟨[], [], [(1, [0, 1, 2, 3, 5, 6, 7, 8, 4, 9, 10, 11, 12])]⟩) noNG mixed Tryz.func29 [.ag [.v (vi u_aKind), .v (vi u_aN)], .ag [.v (vi u_bKind), .v (vi u_bN)]] (by kernel_rfl) rfl (by kernel_rfl) H
def VC_batch_Answer_2 (u_aStart : Int) (u_aKeyKind : Int) (u_aKeyN : Int) (u_aAccsa : Option Addr) (u_aAccsn u_aAccsc : Nat) (u_aTold : Bool) (u_bStart : Int) (u_bKeyKind : Int) (u_bKeyN : Int) (u_bAccsa : Option Addr) (u_bAccsn u_bAccsc : Nat) (u_bTold : Bool) (h : Hp) (R : Value → Hp → Prop) : Prop :=
  (((decide ((u_aStart : Int) ≠ u_bStart)) = true → (∃ (x1 : Int), (IsW x1 (u_aStart - u_bStart)) ∧ R (vi x1) h)) ∧ ((decide ((u_aStart : Int) ≠ u_bStart)) = false → (CallOK Tryz.prog 29 [(vag [(vi u_aKeyKind), (vi u_aKeyN)]), (vag [(vi u_bKeyKind), (vi u_bKeyN)])] h fun v3 h4 => ∃ (x5 : Int), v3 = (vi x5) ∧ R (vi x5) h4)))
theorem ok_batch_Answer_2 {u_aStart : Int} {u_aKeyKind : Int} {u_aKeyN : Int} {u_aAccsa : Option Addr} {u_aAccsn u_aAccsc : Nat} {u_aTold : Bool} {u_bStart : Int} {u_bKeyKind : Int} {u_bKeyN : Int} {u_bAccsa : Option Addr} {u_bAccsn u_bAccsc : Nat} {u_bTold : Bool} {h : Hp} {R : Value → Hp → Prop} (H : VC_batch_Answer_2 u_aStart u_aKeyKind u_aKeyN u_aAccsa u_aAccsn u_aAccsc u_aTold u_bStart u_bKeyKind u_bKeyN u_bAccsa u_bAccsn u_bAccsc u_bTold h R) : CallOK Tryz.prog 28 [(vag [(vi u_aStart), (vi u_aKeyKind), (vi u_aKeyN), (vsl u_aAccsa u_aAccsn u_aAccsc), (vb u_aTold)]), (vag [(vi u_bStart), (vi u_bKeyKind), (vi u_bKeyN), (vsl u_bAccsa u_bAccsn u_bAccsc), (vb u_bTold)])] h R :=
  call_of (cfg := ⟨[], [], []⟩) noNG mixed Tryz.func28 [.ag [.v (vi u_aStart), .v (vi u_aKeyKind), .v (vi u_aKeyN), .v (vsl u_aAccsa u_aAccsn u_aAccsc), .v (vb u_aTold)], .ag [.v (vi u_bStart), .v (vi u_bKeyKind), .v (vi u_bKeyN), .v (vsl u_bAccsa u_bAccsn u_bAccsc), .v (vb u_bTold)]] (by kernel_rfl) rfl (by kernel_rfl) H
end Go.Proofs.YtejefijpcggkfaaGreatDoor.D
namespace Go.Proofs.YtejefijpcggkfaaGreatDoor.D
open Go Go.Vd
open Go.Vc (Hp IsW NoNG cellsO vag vb vi vs vsl)
set_option linter.unusedVariables false
def cI (x y : Int) : Int := if x < y then -1 else if x > y then 1 else 0
def cV (a b : Int × Int) : Int := if cI a.1 b.1 ≠ 0 then cI a.1 b.1 else cI a.2 b.2
theorem isWd {e : Int} (h : -9223372036854775808 ≤ e ∧ e ≤ 9223372036854775807) : IsW e e := (IntWalk.i64_in _ h).symm
theorem cmp_Compare_okD {x y : Int} {h : Hp} {R : Value → Hp → Prop} (hK : R (vi (cI x y)) h) : CallOK Tryz.prog 61 [vi x, vi y] h R := by
  have nan : ∀ {z : Int} {K : Value → Hp → Prop}, K (vb false) h → CallOK Tryz.prog 100 [vi z] h K := by
    intro z K hk
    refine ok_cmp_isNaN_int ?_
    unfold VC_cmp_isNaN_int
    simpa using hk
  refine ok_cmp_Compare_int ?_
  unfold VC_cmp_Compare_int
  unfold cI at hK
  refine nan ⟨_, rfl, nan ⟨_, rfl, fun e => by (cases e), fun _ => ⟨fun e => by (cases e), fun _ => ⟨fun e => ?_, fun e => ⟨fun e2 => ?_, fun e2 => ?_⟩⟩⟩⟩⟩
  · rw [if_pos (of_decide_eq_true e)] at hK; exact hK
  · rw [if_neg (of_decide_eq_false e), if_pos (of_decide_eq_true e2)] at hK; exact hK
  · rw [if_neg (of_decide_eq_false e), if_neg (of_decide_eq_false e2)] at hK; exact hK
def vint0 (l : List Value) : Int := match l with | [.int _ x] => x | _ => 0
theorem cmp_Or2_okD {x y : Int} {b : Nat} {h : Hp} {R : Value → Hp → Prop} (c0 : Hp.cell h b 0 = some (vi x)) (c1 : Hp.cell h b 1 = some (vi y)) (hK : R (vi (if x ≠ 0 then x else y)) h) : CallOK Tryz.prog 60 [vsl (some ⟨b, 0, none⟩) 2 2] h R := by
  refine ok_cmp_Or_int ?_
  unfold VC_cmp_Or_int
  refine ⟨fun vs hh => hh = h ∧ ∃ i : Nat, vs = [vi i] ∧ i ≤ 2 ∧ (0 < i → x = 0) ∧ (1 < i → y = 0), fun vs hh => 2 - (vint0 vs).toNat, ⟨rfl, 0, rfl, by decide, by simp, by simp⟩, ?_⟩
  rintro vs hh ⟨rfl, i, rfl, hi, h1, h2⟩
  refine ⟨i, rfl, fun e => ?_, fun e => ?_⟩
  · have hlt : i < 2 := by have := of_decide_eq_true e; omega
    match i, hlt with
    | 0, _ =>
      refine ⟨b, 0, ⟨rfl, by omega, by omega⟩, x, c0, fun e => ?_, fun e => ⟨1, isWd (by omega), ⟨rfl, 1, rfl, by omega, fun _ => ?_, fun q => absurd q (by omega)⟩, by simp [vint0]⟩⟩
      · have hx : x ≠ 0 := of_decide_eq_true e
        rw [if_pos hx] at hK; exact hK
      · have := of_decide_eq_false e; simpa using this
    | 1, _ =>
      have hx := h1 (by decide)
      refine ⟨b, 0, ⟨rfl, by omega, by omega⟩, y, c1, fun e => ?_, fun e => ⟨2, isWd (by omega), ⟨rfl, 2, rfl, by omega, fun _ => hx, fun _ => ?_⟩, by simp [vint0]⟩⟩
      · rw [if_neg (by simp [hx])] at hK; exact hK
      · have := of_decide_eq_false e; simpa using this
  · have hge : i = 2 := by have := of_decide_eq_false e; omega
    subst hge
    have hx := h1 (by decide)
    have hy := h2 (by decide)
    rw [if_neg (by simp [hx]), hy] at hK
    exact hK
theorem value_Compare_okD {a b : Int × Int} {h : Hp} {R : Value → Hp → Prop} (hK : ∀ h', R (vi (cV a b)) h') : CallOK Tryz.prog 29 [vag [vi a.1, vi a.2], vag [vi b.1, vi b.2]] h R := by
  refine ok_value_Compare ?_
  unfold VC_value_Compare
  refine cmp_Compare_okD ⟨_, rfl, cmp_Compare_okD ⟨_, rfl, ?_⟩⟩
  intro b7 hb7 h8
  exact cmp_Or2_okD (x := cI a.1 b.1) (y := cI a.2 b.2) (by simp [h8, Hp.cell, Hp.set, cellsO]) (by simp [h8, Hp.cell, Hp.set, cellsO]) ⟨_, rfl, hK _⟩
structure PRow where
  s : Int
  k : Int × Int
  a : Option Addr
  n : Nat
  c : Nat
  t : Bool
  deriving Inhabited
def PRow.enc (r : PRow) : List Value := [vi r.s, vi r.k.1, vi r.k.2, vsl r.a r.n r.c, vb r.t]
def PRow.cf (x y : PRow) : Int := if x.s ≠ y.s then x.s - y.s else cV x.k y.k
theorem closure_okD {x y : PRow} (hb : -9223372036854775808 ≤ x.s - y.s ∧ x.s - y.s ≤ 9223372036854775807) {h : Hp} : CallOK Tryz.prog 28 [vag x.enc, vag y.enc] h fun v _ => v = vi (PRow.cf x y) := by
  refine ok_batch_Answer_2 ?_
  unfold VC_batch_Answer_2 PRow.cf
  refine ⟨fun e => ⟨_, isWd hb, ?_⟩, fun e => value_Compare_okD fun h' => ⟨_, rfl, ?_⟩⟩
  · rw [if_pos (of_decide_eq_true e)]
  · rw [if_neg (of_decide_eq_false e)]
theorem closure_world {x y : PRow} (hb : -9223372036854775808 ≤ x.s - y.s ∧ x.s - y.s ≤ 9223372036854775807) (W : World) : Calls Tryz.prog 28 #[.agg x.enc.toArray, .agg y.enc.toArray] W fun e w' => e = .returned (.int .i64 (PRow.cf x y)) ∧ ∃ q os', w' = Go.Sort.grow (W.drewN q) os' := by
  have H := closure_okD hb (h := fun _ => none) W (fun b o ho => by cases ho)
  refine H.mono ?_
  rintro e w' ⟨v, h', rfl, _, F, rfl⟩
  refine ⟨rfl, w'.drawn - W.drawn, w'.heap.extract W.heap.size w'.heap.size, ?_⟩
  have eh : w'.heap = W.heap ++ w'.heap.extract W.heap.size w'.heap.size := by
    apply Array.ext_getElem?
    intro i
    rw [Array.getElem?_append]
    by_cases hi : i < W.heap.size
    · rw [if_pos hi]; exact (F.keep i hi rfl).1
    · rw [if_neg hi, Array.getElem?_extract]
      by_cases h2 : i < w'.heap.size
      · rw [if_pos (by rw [Nat.min_self]; omega), show W.heap.size + (i - W.heap.size) = i by omega]
      · rw [if_neg (by rw [Nat.min_self]; omega), Array.getElem?_eq_none (by omega)]
  have ed : w'.drawn = W.drawn + (w'.drawn - W.drawn) := by have := F.drawn; omega
  cases w' with
  | mk heap tape drawn os output =>
    have e1 : os = W.os := F.os
    have e2 : tape = W.tape := F.tape
    have e3 : output = W.output := F.output
    subst e1 e2 e3
    unfold Go.Sort.grow World.drewN
    simp only [World.mk.injEq, true_and]
    exact ⟨eh, ed, trivial⟩
end Go.Proofs.YtejefijpcggkfaaGreatDoor.D
namespace Go.Proofs.YtejefijpcggkfaaGreatDoor
open Go Go.Vc Go.Txt
set_option linter.unusedVariables false
structure PR where
  k : PK
  a : Option Addr
  c : Nat
  acs : List AcS
  t : Bool
def prRow (r : PR) : D.PRow := ⟨r.k.1, r.k.2, r.a, r.acs.length, r.c, r.t⟩
theorem prow_len (r : D.PRow) : r.enc.length = 5 := rfl
theorem one_prow (r : D.PRow) : ∀ u ∈ r.enc, u.oneCell' = true := by
  intro u hu
  simp only [D.PRow.enc, List.mem_cons, List.not_mem_nil, or_false] at hu
  rcases hu with rfl | rfl | rfl | rfl | rfl <;> rfl
def accH (r : PR) : Hp → (Nat → Prop) → Prop := OwnF 69 4 r.a r.acs.length r.c (r.acs.flatMap encAc)
theorem accH_fp (r : PR) : Fp (accH r) := OwnF.fp _ _ _ _ _ _
abbrev VecP := Vec D.PRow.enc 5 64
structure Pans (h0 h : Hp) (a : Option Addr) (c : Nat) (R : List PR) : Prop where
  v : VecP h0 h a c (R.map prRow)
  i : ∃ F, EachP accH R h F ∧ (∀ b, F b → h0 b = none) ∧ ∀ b, F b → a ≠ some ⟨b, 0, none⟩
section
variable {h0 h : Hp} {a : Option Addr} {c : Nat} {R : List PR}
theorem Pans.nil (hl : h0.le h) : Pans h0 h none 0 [] := ⟨OwnV.nil hl _ _, _, EachP.nil h, fun b hb => hb.elim, fun b hb => hb.elim⟩
theorem Pans.le0 (N : Pans h0 h a c R) : h0.le h := N.v.le0
theorem Pans.le (N : Pans h0 h a c R) {h' : Hp} (l : h.le h') : Pans h0 h' a c R := by
  obtain ⟨F, E, n1, n2⟩ := N.i
  exact ⟨N.v.keep0 l, F, (EachP.fp accH_fp R).keep E fun b _ o ho => l b o ho, n1, n2⟩
theorem Pans.row (N : Pans h0 h a c R) {i : Nat} {r : PR} (hr : R[i]? = some r) : ∃ b o, a = some ⟨b, o, none⟩ ∧ h.row b (o + i * 5) 5 = some (prRow r).enc := by
  have hx : (R.map prRow)[i]? = some (prRow r) := by rw [List.getElem?_map, hr]; rfl
  exact (N.v.slp prow_len (by decide)).get prow_len (by decide) hx
theorem Pans.inner (N : Pans h0 h a c R) {i : Nat} {r : PR} (hr : R[i]? = some r) : VecA h0 h r.a r.c r.acs ∧
    ∀ (h' : Hp) (acs' : List AcS), h0.le h' → VecA h0 h' r.a r.c acs' → acs'.length = r.acs.length → Beside r.a h h' → Pans h0 h' a c (R.set i { r with acs := acs' }) := by
  obtain ⟨F, E, n1, n2⟩ := N.i
  obtain ⟨G, X, hGF, H⟩ := E.at accH_fp hr
  obtain ⟨O, rfl⟩ := X
  refine ⟨⟨N.le0, O, fun g hg => n1 g (hGF g hg)⟩, fun h' acs' l' V' hlen F' => ?_⟩
  obtain ⟨F2, E2, M⟩ := H h' (fun b => r.a = some ⟨b, 0, none⟩) { r with acs := acs' } F'.mut ⟨V'.own, rfl⟩
  obtain ⟨k, d⟩ := M.apart ((OwnF.fp _ _ _ _ _ _).al N.v.ownF) (fun b hb hb2 => n2 b hb hb2)
  refine ⟨?_, F2, E2, (M.old N.le0 n1).2, fun b hb hb2 => d b hb hb2⟩
  have e : (R.set i { r with acs := acs' }).map prRow = R.map prRow := by
    rw [List.map_set]
    have e2 : prRow { r with acs := acs' } = prRow r := by unfold prRow; simp [hlen]
    rw [e2]
    apply List.ext_getElem?
    intro j
    rw [List.getElem?_set]
    split
    · rename_i hij
      subst hij
      rw [List.getElem?_map, hr]
      obtain ⟨hi, _⟩ := List.getElem?_eq_some_iff.1 hr
      rw [if_pos (by simpa using hi)]
      rfl
    · rfl
  rw [e]
  have O2 := (OwnF.fp _ _ _ _ _ _).keep N.v.ownF k
  exact ⟨l', O2.1, N.v.new⟩
theorem Pans.again (N : Pans h0 h a c R) {i : Nat} {r : PR} (hr : R[i]? = some r) : ∃ b o, a = some ⟨b, o, none⟩ ∧ ∀ K : Hp → Prop, (∀ h', Pans h0 h' a c R → h0.le h' → K h') → h.store b (o + i * 5 + 3) [vsl r.a r.acs.length r.c] K := by
  have hx : (R.map prRow)[i]? = some (prRow r) := by rw [List.getElem?_map, hr]; rfl
  obtain ⟨b, o, ea, H⟩ := N.v.putF prow_len hx (x' := prRow r) (k := 3) (vs := [vsl r.a r.acs.length r.c]) (by simp) (by simp) (by simp [setL, prRow, D.PRow.enc])
  refine ⟨b, o, ea, fun K hK => H K fun h' V' F' => hK h' ?_ V'.le0⟩
  obtain ⟨F, E, n1, n2⟩ := N.i
  have es : (R.map prRow).set i (prRow r) = R.map prRow := by
    apply List.ext_getElem?
    intro j
    rw [List.getElem?_set]
    split
    · rename_i hij
      subst hij
      rw [hx, if_pos (List.getElem?_eq_some_iff.1 hx).1]
    · rfl
  rw [es] at V'
  exact ⟨V', F, (EachP.fp accH_fp R).keep E fun b hb o ho => F'.keep b o ho (n2 b hb), n1, n2⟩
theorem elPane : ElT Tryz.prog 55 64 5 56 := .of (by kernel_rfl) (by kernel_rfl) (by decide)
theorem Pans.app (N : Pans h0 h a c R) {h1 : Hp} (l1 : h.le h1) {r : PR} (V : VecA h h1 r.a r.c r.acs) (hb : R.length + 1 ≤ 1000000) {b : Nat} (hbn : h1 b = none) {K : Value → Hp → Prop}
    (hK : ∀ a' c' h', Pans h0 h' a' c' (R ++ [r]) → K (vsl a' (R.length + 1) c') h') : SemOK Tryz.prog (Builtin.append_ #[55, 55] 55 #[vsl a R.length c, vsl (some ⟨b, 0, none⟩) 1 1]) (h1.set b (cellsO (prRow r).enc 64)) K := by
  obtain ⟨F, E, n1, n2⟩ := N.i
  have hR : (R.map prRow).length = R.length := List.length_map _
  have key := Vec.appF (ty := 55) elPane prow_len one_prow (N.v.keep0 l1) (by rw [hR]; omega) (by rw [hR]; omega) (x := prRow r) hbn (K := K) (fun a' c' h' V' M => by
    have E1 := (EachP.fp accH_fp R).keep E fun b _ o ho => l1 b o ho
    have hG : ∀ g, r.a = some ⟨g, 0, none⟩ → h g = none := V.new
    have hd : ∀ b, r.a = some ⟨b, 0, none⟩ → ¬ F b := fun b hb hF => (EachP.fp accH_fp R).al E b hF (hG b hb)
    have E2 := E1.snoc (P := accH) (x := r) (G := fun b => r.a = some ⟨b, 0, none⟩) ⟨V.own, rfl⟩ hd
    have hna : ∀ b, a = some ⟨b, 0, none⟩ → ¬ (r.a = some ⟨b, 0, none⟩ ∨ F b) := by
      intro b hb hq
      rcases hq with hq | hq
      · exact (OwnF.fp _ _ _ _ _ _).al N.v.ownF b hb (hG b hq)
      · exact n2 b hq hb
    obtain ⟨k, d⟩ := M.apart ((EachP.fp accH_fp _).al E2) hna
    have e3 : (R.map prRow ++ [prRow r]).length = R.length + 1 := by simp
    rw [e3]
    refine hK a' c' h' ⟨by rw [List.map_append]; exact V', _, (EachP.fp accH_fp _).keep E2 k, fun b hb => ?_, fun b hb hb2 => d b hb2 hb⟩
    rcases hb with hb | hb
    · exact Hp.none_of_le N.le0 (hG b hb)
    · exact n1 b hb)
  rw [hR] at key
  exact key
theorem batch_Answer1_ok {r : PR} {K : PK} {b1 b2 : Nat} {R' : Value → Hp → Prop} (h1 : h.cell b1 0 = some (vi K.1)) (h2 : h.row b2 0 2 = some (encV K.2)) (hK : R' (vb (decide (r.k = K))) h) : CallOK Tryz.prog 24 [vag (prRow r).enc, vhp b1 0, vhp b2 0] h R' := by
  refine ok_batch_Answer_1 ?_
  unfold VC_batch_Answer_1
  refine ⟨_, h1, _, _, fun _ => h2, decide (r.k.2 = K.2), fun _ => rd_eqV, ?_⟩
  have e : (bif (decide ((r.k.1 : Int) = K.1)) then (decide (r.k.2 = K.2)) else false) = decide (r.k = K) := by
    rw [cand]
    exact decide_eq_decide.2 (Prod.ext_iff).symm
  have : (prRow r).s = r.k.1 := rfl
  show R' (vb (bif (decide ((r.k.1 : Int) = K.1)) then (decide (r.k.2 = K.2)) else false)) h
  rw [e]
  exact hK
theorem pane_IndexFunc_ok (N : Pans h0 h a c R) (hn : R.length ≤ 1000000) {K : PK} {b1 b2 : Nat} {R' : Value → Hp → Prop} (h1 : h.cell b1 0 = some (vi K.1)) (h2 : h.row b2 0 2 = some (encV K.2))
    (hy : ∀ (i : Nat) (r : PR), R[i]? = some r → r.k = K → R' (vi i) h) (hno : (∀ r ∈ R, r.k ≠ K) → R' (vi (-1)) h) : CallOK Tryz.prog 23 [vsl a R.length c, Value.func (.func 24) #[] #[vhp b1 0, vhp b2 0]] h R' := by
  refine ok_slices_IndexFunc_panes_Pane_panes_Pane ?_
  unfold VC_slices_IndexFunc_panes_Pane_panes_Pane
  refine ⟨fun vs hh => hh = h ∧ ∃ i : Nat, vs = [vi i] ∧ i ≤ R.length ∧ ∀ r ∈ R.take i, r.k ≠ K, fun vs hh => R.length - (vint vs 0).toNat, ⟨rfl, 0, rfl, Nat.zero_le _, by simp⟩, ?_⟩
  rintro vs hh ⟨rfl, i, rfl, hi, hz⟩
  refine ⟨i, rfl, fun e => ?_, fun e => ?_⟩
  · have hlt : i < R.length := by have := of_decide_eq_true e; omega
    have hx : R[i]? = some R[i] := List.getElem?_eq_getElem hlt
    have tk : R.take (i + 1) = R.take i ++ [R[i]] := List.take_succ_eq_append_getElem hlt
    obtain ⟨b, o, ea, hr⟩ := N.row hx
    refine ⟨b, o, ⟨ea, by omega, by omega⟩, _, _, _, _, _, _, _, by rw [Int.toNat_natCast]; exact hr, 24, #[], #[vhp b1 0, vhp b2 0], rfl, ⟨_, Tryz.func24, by kernel_rfl, rfl⟩, batch_Answer1_ok h1 h2 ⟨_, rfl, fun e2 => ?_, fun e2 => ?_⟩⟩
    · exact hy i _ hx (of_decide_eq_true e2)
    · have e2 := of_decide_eq_false e2
      refine ⟨_, isW (by unfold InR; omega), ⟨rfl, i + 1, rfl, by omega, fun r hr => ?_⟩, by simp [vint]; omega⟩
      rw [tk] at hr
      rcases List.mem_append.1 hr with h3 | h3
      · exact hz r h3
      · rw [List.mem_singleton.1 h3]; exact e2
  · have hge : i = R.length := by have := of_decide_eq_false e; omega
    refine hno ?_
    rw [hge, List.take_length] at hz
    exact hz
end
end Go.Proofs.YtejefijpcggkfaaGreatDoor
namespace Go.Proofs.YtejefijpcggkfaaGreatDoor
open Go Go.Vc Go.Txt
set_option linter.unusedVariables false
theorem elValP : ElT Tryz.prog 49 33 2 16 := .of (by kernel_rfl) (by kernel_rfl) (by decide)
theorem one_v (v : Vl) : ∀ u ∈ encV v, u.oneCell' = true := by
  intro u hu
  simp only [encV, List.mem_cons, List.not_mem_nil, or_false] at hu
  rcases hu with rfl | rfl <;> rfl
abbrev VecV := Vec encV 2 33
def gOut (a : AcS) : Vl := gVal a.1 a.2
theorem pane_Out_ok {r : PR} {h : Hp} {R' : Value → Hp → Prop} (S : SlP encAc h r.a r.acs.length r.acs) (hn : r.acs.length ≤ 1000)
    (hK : ∀ a c h', VecV h h' a c (r.acs.map gOut) → R' (vag [vi r.k.1, vi r.k.2.1, vi r.k.2.2, vsl a (r.acs.map gOut).length c]) h') : CallOK Tryz.prog 30 [vag (prRow r).enc] h R' := by
  refine ok_panes_Pane_Out ?_
  unfold VC_panes_Pane_Out
  intro J30
  have hJ : ∀ a c h', VecV h h' a c (r.acs.map gOut) → J30 r.k.1 r.k.2.1 r.k.2.2 a (r.acs.map gOut).length c h' := hK
  clear_value J30
  refine ⟨fun vs hh => ∃ (i : Nat) (a : Option Addr) (c : Nat), vs = [vi i, vi r.k.1, vi r.k.2.1, vi r.k.2.2, vsl a ((r.acs.take i).map gOut).length c] ∧ i ≤ r.acs.length ∧ VecV h hh a c ((r.acs.take i).map gOut), fun vs hh => r.acs.length - (vint vs 0).toNat, ⟨0, none, 0, rfl, Nat.zero_le _, OwnV.nil (Hp.le_refl h) _ _⟩, ?_⟩
  rintro vs hh ⟨i, a, c, rfl, hi, V⟩
  refine ⟨_, _, _, _, _, _, _, rfl, fun e => ?_, fun e => ?_⟩
  · have hlt : i < r.acs.length := by
      have := of_decide_eq_true e
      have h2 : (prRow r).n = r.acs.length := rfl
      omega
    have hx : r.acs[i]? = some r.acs[i] := List.getElem?_eq_getElem hlt
    have tk : r.acs.take (i + 1) = r.acs.take i ++ [r.acs[i]] := List.take_succ_eq_append_getElem hlt
    obtain ⟨b, o, ea, hr⟩ := (S.le V.le0).get encAc_len (by decide) hx
    have h2 : (prRow r).n = r.acs.length := rfl
    refine ⟨b, o, ⟨ea, by omega, by omega⟩, _, _, _, _, by rw [Int.toNat_natCast]; exact hr, gather_Value_ok (k := (r.acs[i]).1) (s := (r.acs[i]).2) ⟨_, _, rfl, ?_⟩⟩
    intro b23 hb23 h24
    have hl : ((r.acs.take i).map gOut).length = i := by rw [List.length_map, List.length_take]; omega
    refine Vec.app elValP (fun v => rfl) one_v V (by rw [hl]; omega) (by rw [hl]; omega) (x := gOut r.acs[i]) hb23 fun a' c' h' V' => ⟨_, _, _, rfl, _, isW (by unfold InR; omega), ⟨i + 1, a', c', ?_, by omega, ?_⟩, by simp [vint]; omega⟩
    · rw [tk, List.map_append]; rfl
    · rw [tk, List.map_append]; exact V'
  · have hge : i = r.acs.length := by
      have := of_decide_eq_false e
      have h2 : (prRow r).n = r.acs.length := rfl
      omega
    rw [hge, List.take_length] at V ⊢
    exact hJ a c hh V
end Go.Proofs.YtejefijpcggkfaaGreatDoor
namespace Go.Proofs.YtejefijpcggkfaaGreatDoor
open Go Go.Vc
set_option linter.unusedVariables false
set_option maxRecDepth 100000
theorem flatMap_at {α : Type} {enc : α → List Value} {sz : Nat} (he : ∀ x, (enc x).length = sz) {l : List α} {i c : Nat} {x : α} (hx : l[i]? = some x) (hc : c < sz) : (l.flatMap enc)[i * sz + c]? = (enc x)[c]? := by
  obtain ⟨hi, rfl⟩ := List.getElem?_eq_some_iff.1 hx
  have h1 : (l.flatMap enc)[i * sz + c]? = ((l.flatMap enc).drop (i * sz))[c]? := by rw [List.getElem?_drop]
  rw [h1, flatMap_drop he, List.drop_eq_getElem_cons hi, List.flatMap_cons, List.getElem?_append_left (by rw [he]; exact hc)]
theorem flatK_list {α : Type} [Inhabited α] {enc : α → List Value} {k : Nat} (he : ∀ x, (enc x).length = k) (hk : 0 < k) (d : Array α) : (Go.Sort.flatK enc k d).toList = d.toList.flatMap enc := by
  apply List.ext_getElem?
  intro t
  have hlen : (d.toList.flatMap enc).length = d.size * k := by rw [flatMap_length he]; simp
  by_cases ht : t < d.size * k
  · have hi : t / k < d.size := Nat.div_lt_of_lt_mul (by rw [Nat.mul_comm]; exact ht)
    have hm := Nat.mod_lt t hk
    have hx : d.toList[t / k]? = some d[t / k]! := by
      rw [getElem!_pos d (t / k) hi, List.getElem?_eq_getElem (by simpa using hi)]
      simp
    have h2 := flatMap_at he hx hm
    have e : t / k * k + t % k = t := by rw [Nat.mul_comm]; exact Nat.div_add_mod t k
    rw [e] at h2
    rw [h2]
    have h3 := Go.Sort.get_flatK enc k d t ht
    have hs : t < (Go.Sort.flatK enc k d).size := by simpa using ht
    rw [getElem!_pos _ t hs] at h3
    rw [Array.getElem?_toList, Array.getElem?_eq_getElem hs, h3]
    have hl : t % k < (enc d[t / k]!).length := by rw [he]; exact hm
    rw [getElem!_pos (enc d[t / k]!) (t % k) hl, List.getElem?_eq_getElem hl]
  · rw [List.getElem?_eq_none (l := d.toList.flatMap enc) (by omega), List.getElem?_eq_none (by simp; omega)]
abbrev RowB := { r : D.PRow // -2305843009213693952 ≤ r.s ∧ r.s ≤ 2305843009213693952 }
instance : Inhabited RowB := ⟨⟨default, by decide⟩⟩
def cfB (x y : RowB) : Int := D.PRow.cf x.1 y.1
theorem cI_spec (x y : Int) : (D.cI x y < 0 ↔ x < y) ∧ (D.cI x y = 0 ↔ x = y) := by
  unfold D.cI
  split
  · constructor <;> constructor <;> intro h <;> omega
  · split
    · constructor <;> constructor <;> intro h <;> omega
    · constructor <;> constructor <;> intro h <;> omega
theorem cV_neg (a b : Int × Int) : D.cV a b < 0 ↔ a.1 < b.1 ∨ (a.1 = b.1 ∧ a.2 < b.2) := by
  have h1 := cI_spec a.1 b.1
  have h2 := cI_spec a.2 b.2
  unfold D.cV
  split
  · rename_i h
    rw [h1.1]
    have : a.1 ≠ b.1 := fun e => h (h1.2.2 e)
    constructor
    · intro q; exact .inl q
    · intro q; rcases q with q | q
      · exact q
      · exact absurd q.1 this
  · rename_i h
    have e : a.1 = b.1 := h1.2.1 (Decidable.not_not.1 h)
    rw [h2.1]
    constructor
    · intro q; exact .inr ⟨e, q⟩
    · intro q; rcases q with q | q
      · omega
      · exact q.2
def aheadP (s : Int) (k : Int × Int) (s' : Int) (k' : Int × Int) : Prop := s < s' ∨ (s = s' ∧ (k.1 < k'.1 ∨ (k.1 = k'.1 ∧ k.2 < k'.2)))
instance (s : Int) (k : Int × Int) (s' : Int) (k' : Int × Int) : Decidable (aheadP s k s' k') := by unfold aheadP; infer_instance
theorem cf_neg (x y : D.PRow) : D.PRow.cf x y < 0 ↔ aheadP x.s x.k y.s y.k := by
  unfold D.PRow.cf aheadP
  split
  · constructor
    · intro h; left; omega
    · intro h; rcases h with h | h <;> omega
  · rename_i h
    rw [cV_neg]
    have e : x.s = y.s := Decidable.not_not.1 h
    constructor
    · intro q; exact .inr ⟨e, q⟩
    · intro q; rcases q with q | q
      · omega
      · exact q.2
theorem ltB (x y : RowB) : ltOf cfB x y = decide (aheadP x.1.s x.1.k y.1.s y.1.k) := by
  unfold ltOf cfB
  exact decide_eq_decide.2 (cf_neg x.1 y.1)
theorem swoB : Go.Sort.SWO (ltOf cfB) where
  irrefl x := by rw [ltB]; unfold aheadP; simp
  trans x y z h1 h2 := by
    rw [ltB] at *
    unfold aheadP at *
    have h1 := of_decide_eq_true h1
    have h2 := of_decide_eq_true h2
    exact decide_eq_true (by omega)
  ntrans x y z h1 h2 := by
    rw [ltB] at *
    unfold aheadP at *
    have h1 := of_decide_eq_false h1
    have h2 := of_decide_eq_false h2
    exact decide_eq_false (by omega)
theorem putC_get {cur F : Array Value} (hle : F.size ≤ cur.size) (i : Nat) : (Go.Sort.putCells id 0 F cur)[i]? = if i < F.size then F[i]? else cur[i]? := by
  unfold Go.Sort.putCells
  rw [Array.getElem?_mapIdx]
  by_cases hi : i < F.size
  · have hc : i < cur.size := by omega
    rw [if_pos hi, Array.getElem?_eq_getElem hc, Option.map_some, if_pos ⟨Nat.zero_le _, by omega⟩, Nat.sub_zero, getElem!_pos F i hi, Array.getElem?_eq_getElem hi]
    rfl
  · rw [if_neg hi]
    by_cases hc : i < cur.size
    · rw [Array.getElem?_eq_getElem hc, Option.map_some, if_neg (by omega)]
    · rw [Array.getElem?_eq_none (by omega), Option.map_none]
theorem putC_size {cur F : Array Value} : (Go.Sort.putCells id 0 F cur).size = cur.size := by
  unfold Go.Sort.putCells
  rw [Array.size_mapIdx]
theorem sortW_heap {w : World} {g m : Nat} {cur : Array Value} {T : TypeId} {d : Array RowB} {os : Array Obj} (hg : w.heap[g]? = some (.cells cur T (0, 0))) (b : Nat) (hb : b < w.heap.size) : (sortWorldK (fun x : RowB => x.1.enc) 5 w g 0 m d os).heap[b]? = if b = g then some (.cells (Go.Sort.putCells id 0 (Go.Sort.flatK (fun x : RowB => x.1.enc) 5 d) cur) T (0, 0)) else w.heap[b]? := by
  unfold sortWorldK
  rw [Go.Sort.heap_grow_old _ _ (by show b < (Go.Sort.putRow _ _ _ _ _).heap.size; rw [Go.Sort.size_putRow]; exact hb)]
  show ((w.heap.modify g _) : Array Obj)[b]? = _
  rw [Array.getElem?_modify]
  by_cases e : b = g
  · subst e
    rw [if_pos rfl, if_pos rfl, hg]
    rfl
  · rw [if_neg (fun q => e q.symm), if_neg e]
theorem sort_panes_ok {h : Hp} {a : Option Addr} {c : Nat} {R : List D.PRow} (hB : ∀ r ∈ R, -2305843009213693952 ≤ r.s ∧ r.s ≤ 2305843009213693952) (hn : R.length < 4611686018427387904) (O : OwnS h 64 5 a R.length c (R.flatMap D.PRow.enc)) {K : Value → Hp → Prop}
    (hK : ∀ (R' : List D.PRow) (h' : Hp), R'.Perm R → R'.Pairwise (fun x y => ¬ aheadP y.s y.k x.s x.k) → OwnS h' 64 5 a R'.length c (R'.flatMap D.PRow.enc) → (∀ b o, h b = some o → a ≠ some ⟨b, 0, none⟩ → h' b = some o) → (∀ b, h b = none → h' b = none) → K (vtup []) h') :
    CallOK Tryz.prog 27 [vsl a R.length c, Value.func (.func 28) #[] #[]] h K := by
  intro w hs
  obtain ⟨hlen, h1⟩ := O
  rcases h1 with ⟨ha, hn0, hc0⟩ | ⟨g, cur, ha, hg, hnc, hcm, hcs, htk⟩
  · have hR : R = [] := List.length_eq_zero_iff.1 hn0
    subst hR ha
    refine (AnyF.slices_SortFunc_none Tryz.sortPanes none c _ w).mono ?_
    rintro e w' ⟨rfl, rfl⟩
    exact ⟨_, h, rfl, hs, Fr.refl h _, hK [] h (List.Perm.refl _) List.Pairwise.nil ⟨hlen, .inl ⟨rfl, rfl, hc0⟩⟩ (fun b o ho _ => ho) (fun b hb => hb)⟩
  · subst ha
    let Rb : List RowB := R.pmap (fun r hr => (⟨r, hr⟩ : RowB)) hB
    have hRb : Rb.map (·.1) = R := by
      show (R.pmap (fun r hr => (⟨r, hr⟩ : RowB)) hB).map (fun x => x.1) = R
      rw [List.map_pmap]
      simp
    have hRl : Rb.length = R.length := by rw [← hRb, List.length_map]
    have hflat : ∀ L : List RowB, L.flatMap (fun x => x.1.enc) = (L.map (·.1)).flatMap D.PRow.enc := fun L => by rw [List.flatMap_map]
    clear_value Rb
    have hwg := hs g _ hg
    have hgl : g < w.heap.size := (Array.getElem?_eq_some_iff.1 hwg).1
    have hk : ∀ x : RowB, ((fun x : RowB => x.1.enc) x).length = 5 := fun x => rfl
    have hfl : (Go.Sort.flatK (fun x : RowB => x.1.enc) 5 Rb.toArray).toList = R.flatMap D.PRow.enc := by
      rw [flatK_list hk (by decide), hflat, List.toList_toArray, hRb]
    have hfs : (Go.Sort.flatK (fun x : RowB => x.1.enc) 5 Rb.toArray).size = R.length * 5 := by rw [Go.Sort.size_flatK]; simp [hRl]
    have hH : Go.Sort.HoldsK (fun x : RowB => x.1.enc) 5 w g 0 Rb.toArray := by
      intro j hj
      have hj' : j < R.length * 5 := by rw [← hfs]; exact hj
      constructor
      · unfold World.cell?
        simp only [hwg, Option.isSome_none, Bool.false_eq_true, if_false, Nat.zero_add]
        have e1 : cur[j]? = (cur.toList.take (R.length * 5))[j]? := by rw [List.getElem?_take_of_lt hj', Array.getElem?_toList]
        rw [e1, htk, ← hfl, Array.getElem?_toList, Array.getElem?_eq_getElem hj, getElem!_pos _ j hj]
        rfl
      · unfold World.frozen?
        simp only [hwg]
        simp
    have eg : ∀ args w, (callFunc 28 args).run Tryz.prog w = .ok (.enter 28 args) w := Go.Proofs.enters_of Tryz.func28 (by kernel_rfl) rfl
    have hcon := AnyQ.slices_SortFunc Tryz.sortPanes 5 (fun w => by kernel_rfl) (fun w => by kernel_rfl) (fun x : RowB => x.1.enc) hk (fun x v hv => by
      simp only [D.PRow.enc, List.mem_cons, List.not_mem_nil, or_false] at hv
      rcases hv with rfl | rfl | rfl | rfl | rfl <;> rfl) cfB swoB 28 #[] g 0 c Rb.toArray w eg (fun m os dk _ x y => by
        have := D.closure_world (x := x.1) (y := y.1) (by have := x.2; have := y.2; omega) (sortWorldK (fun x : RowB => x.1.enc) 5 w g 0 m dk os)
        exact this) hH hgl (by simp [hRl]; exact hn)
    have esz : Rb.toArray.size = R.length := by simp [hRl]
    rw [esz] at hcon
    refine hcon.mono ?_
    rintro e w' ⟨rfl, d', m, os, hp, hso, rfl⟩
    obtain ⟨p1, p2, p3⟩ := hp
    have p1 : d'.size = R.length := by rw [p1, esz]
    have hperm : (d'.toList.map (·.1)).Perm R := by
      have q := p3
      rw [show d'.extract 0 R.length = d' by rw [← p1]; simp, show Rb.toArray.extract 0 R.length = Rb.toArray by rw [← esz]; simp] at q
      have q2 := q.map (·.1)
      rw [List.toList_toArray, hRb] at q2
      exact q2
    have hsort : (d'.toList.map (·.1)).Pairwise (fun x y => ¬ aheadP y.s y.k x.s x.k) := by
      rw [List.pairwise_map, List.pairwise_iff_getElem]
      intro i j hi hj hij
      have hj' : j < R.length := by rw [← p1]; simpa using hj
      have q := hso i j (Nat.zero_le _) hij hj'
      rw [getElem!_pos d' j (by omega), getElem!_pos d' i (by omega), ltB] at q
      have q := of_decide_eq_false q
      simpa using q
    have hfs' : (Go.Sort.flatK (fun x : RowB => x.1.enc) 5 d').size = R.length * 5 := by rw [Go.Sort.size_flatK, p1]
    have hfl' : (Go.Sort.flatK (fun x : RowB => x.1.enc) 5 d').toList = (d'.toList.map (·.1)).flatMap D.PRow.enc := by
      rw [flatK_list hk (by decide), hflat]
    have hle : (Go.Sort.flatK (fun x : RowB => x.1.enc) 5 d').size ≤ cur.size := by
      rw [hfs', hcs]
      exact Nat.mul_le_mul_right 5 hnc
    have hl' : (d'.toList.map (·.1)).length = R.length := by simp [p1]
    refine ⟨_, h.set g (.cells (Go.Sort.putCells id 0 (Go.Sort.flatK (fun x : RowB => x.1.enc) 5 d') cur) 64 (0, 0)), rfl, ?_, ⟨rfl, rfl, rfl, ?_, ?_⟩, hK (d'.toList.map (·.1)) _ hperm hsort ?_ ?_ ?_⟩
    · intro b o ho
      unfold Hp.set at ho
      split at ho
      · rename_i e
        rw [sortW_heap hwg b (by omega), if_pos e]
        exact ho
      · rename_i e
        have hb := hs b o ho
        rw [sortW_heap hwg b (Array.getElem?_eq_some_iff.1 hb).1, if_neg e]
        exact hb
    · show w.heap.size ≤ (Go.Sort.grow (Go.Sort.putRow _ _ _ _ _) os).heap.size
      rw [Go.Sort.size_grow, Go.Sort.size_putRow]
      exact Nat.le_add_right _ _
    · intro b hb hnone
      have e : b ≠ g := by intro q; subst q; rw [hg] at hnone; cases hnone
      exact ⟨by rw [sortW_heap hwg b hb, if_neg e], by rw [Hp.set_other _ _ e]; exact hnone⟩
    · rw [hl']
      refine ⟨by rw [flatMap_length (enc := D.PRow.enc) (sz := 5) (fun x => rfl), hl'], .inr ⟨g, _, rfl, Hp.set_same _ _ _, hnc, hcm, by rw [putC_size, hcs], ?_⟩⟩
      rw [← hfl']
      apply List.ext_getElem?
      intro i
      rw [List.getElem?_take]
      by_cases hi : i < R.length * 5
      · rw [if_pos hi, Array.getElem?_toList, putC_get hle, if_pos (by rw [hfs']; exact hi), Array.getElem?_toList]
      · rw [if_neg hi, List.getElem?_eq_none (by rw [Array.length_toList, hfs']; omega)]
    · intro b o ho hne
      have e : b ≠ g := fun q => hne (by rw [q])
      rw [Hp.set_other _ _ e]; exact ho
    · intro b hb
      have e : b ≠ g := by intro q; subst q; rw [hg] at hb; cases hb
      rw [Hp.set_other _ _ e]; exact hb
end Go.Proofs.YtejefijpcggkfaaGreatDoor
namespace Go.Proofs.YtejefijpcggkfaaGreatDoor
open Go Go.Vc
set_option linter.unusedVariables false
theorem window_StartsN_ok {at_ size slide : Int} {h : Hp} {R : Value → Hp → Prop} (hs : 1 ≤ slide) (hsl2 : slide ≤ 1048576) (hz : 0 ≤ size) (hz2 : size ≤ 1048576) (ha : -1048576 ≤ at_) (ha2 : at_ ≤ 1048576)
    (hK : ∀ a n c h', h.le h' → SlI h' a n (startsOf at_ size slide) → (∀ g o, a = some ⟨g, o, none⟩ → h g = none) → R (vsl a n c) h') : CallOK Tryz.prog 20 [vi at_, vi size, vi slide] h R := by
  refine ok_window_Starts ?_
  unfold VC_window_Starts
  have h1 : at_.tdiv slide * slide + at_.tmod slide = at_ := Int.tdiv_mul_add_tmod at_ slide
  have h2 : at_.tmod slide < slide := Int.tmod_lt_of_pos at_ (by omega)
  have h3 : -slide < at_.tmod slide := Int.lt_tmod_of_pos at_ (by omega)
  have h4 : mulOf slide (at_.tdiv slide * slide) = true := mulOf_dvd.2 ⟨at_.tdiv slide, Int.mul_comm _ _⟩
  have h5 : -1048576 ≤ at_.tdiv slide ∧ at_.tdiv slide ≤ 1048576 := by
    have := Int.natAbs_tdiv_le_natAbs at_ slide
    omega
  refine ⟨⟨by omega, by unfold InR; omega⟩, _, isW (by unfold InR; omega), ?_⟩
  intro J5
  have fin : ∀ x : Int, mulOf slide x = true → x ≤ at_ → at_ < x + slide → J5 x := by
    intro x hx1 hx2 hx3
    have up : ∀ (y : Int) (k : Nat), mulOf slide y = true → y + k < y + slide → ∀ n, upto (mulOf slide) y (k + n) = upto (mulOf slide) (y + k) n := by
      intro y k hy hk n
      exact upto_skip _ k y n fun z z1 z2 => mulOf_between hs hy z1 (by omega)
    refine ⟨fun vs hh => ∃ (a : Option Addr) (n c : Nat) (x : Int), vs = [vsl a n c, vi x] ∧ mulOf slide x = true ∧ x ≤ at_ ∧ at_ - size < x + slide ∧ (SlI hh a n (upto (mulOf slide) x (at_ - x).toNat) ∧ ∀ g o, a = some ⟨g, o, none⟩ → h g = none) ∧ h.le hh ∧ -4194304 ≤ x,
      fun vs hh => (vint vs 1 - (at_ - size)).toNat, ⟨none, 0, 0, x, rfl, hx1, hx2, by omega, ?_, Hp.le_refl h, by omega⟩, ?_⟩
    · have := up x (at_ - x).toNat hx1 (by omega) 0
      rw [Nat.add_zero] at this
      rw [this]
      exact ⟨⟨rfl, .inl rfl⟩, fun g o e => by cases e⟩
    rintro vs hh ⟨a, n, c, y, rfl, hy1, hy2, hy3, ⟨S, hnew⟩, hle, hy4⟩
    refine ⟨a, n, c, y, rfl, _, isW (by unfold InR; omega), fun e => ?_, fun e => ?_⟩
    · have hlt : at_ - size < y := by simpa using e
      intro b hb h16
      have hn := S.1
      have hn2 := upto_length (mulOf slide) y (at_ - y).toNat
      refine OwnV.append (n := 1) (m := n) (c2 := c) elInt (OwnV.mk_new hle hb _ (n := 1) [vi y] rfl (by decide)) (S.2.le (Hp.le_set (Hp.le_refl hh) hb _)) (by rw [hn, List.length_map, Nat.mul_one]) (one_ints _) (by omega) (by omega) fun a' c' h' O' _ _ => ⟨_, _, _, rfl, _, isW (by unfold InR; omega), ⟨a', _, c', _, rfl, ?_, by omega, by omega, ?_, O'.le, by omega⟩, by simp [vint]; omega⟩
      · rw [mulOf_dvd] at hy1 ⊢
        exact Int.dvd_sub hy1 (Int.dvd_refl _)
      · have hm : mulOf slide (y - slide) = true := by
          rw [mulOf_dvd] at hy1 ⊢
          exact Int.dvd_sub hy1 (Int.dvd_refl _)
        have e1 := up (y - slide) (slide - 1).toNat hm (by omega) ((at_ - y).toNat + 1)
        have e2 : (slide - 1).toNat + ((at_ - y).toNat + 1) = (at_ - (y - slide)).toNat := by omega
        have e3 : y - slide + ((slide - 1).toNat : Int) = y - 1 := by omega
        have e4 : y - 1 + 1 = y := by omega
        rw [e2, e3, upto_cons, e4, hy1, if_pos rfl] at e1
        rw [e1]
        exact ⟨O'.sli (l := y :: upto (mulOf slide) y (at_ - y).toNat), fun g o e => O'.new g (by rw [e, OwnS.at0 O'.own g o e])⟩
    · have hge : y ≤ at_ - size := by simpa using e
      refine hK a n c hh hle ?_ hnew
      have e1 := up y (at_ - size - y).toNat hy1 (by omega) size.toNat
      have e2 : (at_ - size - y).toNat + size.toNat = (at_ - y).toNat := by omega
      have e3 : y + ((at_ - size - y).toNat : Int) = at_ - size := by omega
      rw [e2, e3] at e1
      rw [e1] at S
      exact S
  refine ⟨fun e => ?_, fun e => ?_⟩
  · have hlt : at_ < at_.tdiv slide * slide := by simpa using e
    refine ⟨_, isW (by unfold InR; omega), fin _ ?_ (by omega) (by omega)⟩
    rw [mulOf_dvd] at h4 ⊢
    exact Int.dvd_sub h4 (Int.dvd_refl _)
  · have hge : at_.tdiv slide * slide ≤ at_ := by simpa using e
    exact fin _ h4 hge (by omega)
theorem upto_mem {p : Int → Bool} {lo : Int} : ∀ {n : Nat} {x : Int}, x ∈ upto p lo n → lo < x ∧ x ≤ lo + n
  | 0, x, h => by cases h
  | n + 1, x, h => by
    rw [upto] at h
    rcases List.mem_append.1 h with h1 | h1
    · have := upto_mem h1; omega
    · split at h1
      · rw [List.mem_singleton.1 h1]; omega
      · cases h1
theorem starts_mem {t size slide x : Int} (hz : 0 ≤ size) (h : x ∈ startsOf t size slide) : t - size < x ∧ x ≤ t := by
  have := upto_mem h
  omega
theorem starts_len {t size slide : Int} : (startsOf t size slide).length ≤ size.toNat := upto_length _ _ _
end Go.Proofs.YtejefijpcggkfaaGreatDoor
namespace Go.Proofs.YtejefijpcggkfaaGreatDoor
open Go Go.Vc Go.Txt
set_option linter.unusedVariables false
def prT (r : PR) : PK × List AcS × Bool := (r.k, r.acs, r.t)
def StA (ks : List Int) (A : List Ad) (R : List PR) : Prop := R.map prT = (keysU A).map fun k => (k, accsOf ks (rowsOf A k), false)
section
variable {ks : List Int} {A : List Ad} {R : List PR}
theorem StA.nil : StA ks [] [] := rfl
theorem StA.keys (H : StA ks A R) : R.map (·.k) = keysU A := by
  have := congrArg (List.map Prod.fst) H
  rw [List.map_map, List.map_map] at this
  have e : (Prod.fst ∘ fun k : PK => (k, accsOf ks (rowsOf A k), false)) = id := rfl
  rw [e, List.map_id] at this
  exact this
theorem StA.at (H : StA ks A R) {i : Nat} {r : PR} (hr : R[i]? = some r) : (keysU A)[i]? = some r.k ∧ r.acs = accsOf ks (rowsOf A r.k) ∧ r.t = false := by
  have h1 : (keysU A)[i]? = some r.k := by rw [← H.keys, List.getElem?_map, hr]; rfl
  have h2 : (R.map prT)[i]? = some (prT r) := by rw [List.getElem?_map, hr]; rfl
  rw [H, List.getElem?_map, h1] at h2
  simp only [Option.map_some, Option.some.injEq, prT, Prod.mk.injEq, true_and] at h2
  exact ⟨h1, h2.1.symm, h2.2.symm⟩
theorem StA.put (H : StA ks A R) {i : Nat} {r : PR} (hr : R[i]? = some r) (v : List Vl) : StA ks (A ++ [(r.k, v)]) (R.set i { r with acs := accP r.acs v }) := by
  obtain ⟨h1, h2, h3⟩ := H.at hr
  have hm : r.k ∈ keysU A := List.mem_of_getElem? h1
  have hku : keysU (A ++ [(r.k, v)]) = keysU A := by rw [keysU_snoc, if_pos hm]
  unfold StA
  rw [hku]
  apply List.ext_getElem?
  intro j
  rw [List.getElem?_map, List.getElem?_map, List.getElem?_set]
  have hj : (R.map prT)[j]? = ((keysU A).map fun k => (k, accsOf ks (rowsOf A k), false))[j]? := by rw [H]
  rw [List.getElem?_map, List.getElem?_map] at hj
  obtain ⟨hi, _⟩ := List.getElem?_eq_some_iff.1 hr
  by_cases e : i = j
  · subst e
    rw [if_pos rfl, if_pos hi, h1]
    simp only [Option.map_some, prT]
    rw [rowsOf_snoc, if_pos rfl, accsOf_snoc, h2, h3]
  · rw [if_neg e, hj]
    cases hk : (keysU A)[j]? with
    | none => rfl
    | some k =>
      simp only [Option.map_some, Option.some.injEq]
      have hne : r.k ≠ k := by
        intro q
        obtain ⟨hi1, q1⟩ := List.getElem?_eq_some_iff.1 h1
        obtain ⟨hj1, q2⟩ := List.getElem?_eq_some_iff.1 hk
        have nd := List.pairwise_iff_getElem.1 (keysU_nodup A)
        rcases Nat.lt_trichotomy i j with h5 | h5 | h5
        · exact nd i j hi1 hj1 h5 (by rw [q1, q2, q])
        · exact e h5
        · exact nd j i hj1 hi1 h5 (by rw [q1, q2, q])
      rw [rowsOf_snoc, if_neg hne, List.append_nil]
theorem StA.new (H : StA ks A R) {k : PK} (hk : k ∉ keysU A) (v : List Vl) (a : Option Addr) (c : Nat) : StA ks (A ++ [(k, v)]) (R ++ [⟨k, a, c, accP (acc0 ks) v, false⟩]) := by
  unfold StA at H ⊢
  rw [keysU_snoc, if_neg hk, List.map_append, List.map_append, H]
  congr 1
  · apply List.map_congr_left
    intro k' hk'
    have hne : k ≠ k' := fun e => hk (e ▸ hk')
    rw [rowsOf_snoc, if_neg hne, List.append_nil]
  · simp only [List.map_cons, List.map_nil, prT]
    rw [rowsOf_snoc, if_pos rfl, rowsOf_new hk]
    rfl
end
section
variable {h0 h : Hp} {a : Option Addr} {c : Nat} {R : List PR}
theorem Pans.base {h1 : Hp} (N : Pans h0 h a c R) (l : h1.le h0) : Pans h1 h a c R := by
  obtain ⟨F, E, n1, n2⟩ := N.i
  exact ⟨OwnV.trans l N.v, F, E, fun b hb => Hp.none_of_le l (n1 b hb), n2⟩
theorem Pans.rebase (N : Pans h0 h a c R) {h1 : Hp} (l1 : h.le h1) {g : Option Addr} (hg : ∀ b o, g = some ⟨b, o, none⟩ → h b = none) : ∃ hx : Hp, h0.le hx ∧ (∀ {xs : List Value}, HasRow h1 g xs → HasRow hx g xs) ∧ Pans hx h1 a c R := by
  obtain ⟨F, E, n1, n2⟩ := N.i
  have al := (EachP.fp accH_fp R).al E
  have alo := (OwnF.fp _ _ _ _ _ _).al N.v.ownF
  have N1 := N.le l1
  cases g with
  | none =>
    refine ⟨h0, Hp.le_refl _, fun H => ?_, N1⟩
    rcases H with e | ⟨b, o, e, _⟩
    · exact .inl e
    · cases e
  | some g =>
    have hgn : g.spot = none → h g.block = none := fun hs => hg g.block g.off (by obtain ⟨x, y, z⟩ := g; simp only at hs; subst hs; rfl)
    by_cases hs : g.spot = none
    · have hgn := hgn hs
      refine ⟨fun b => if b = g.block then h1 b else h0 b, fun b o ho => ?_, fun H => ?_, ?_⟩
      · have : b ≠ g.block := fun e => by subst e; rw [N.le0 _ _ ho] at hgn; cases hgn
        simp only [if_neg this]; exact ho
      · rcases H with e | ⟨b, o, e, hr⟩
        · exact .inl e
        · refine .inr ⟨b, o, e, ?_⟩
          have hb : b = g.block := by simp only [Option.some.injEq] at e; rw [e]
          unfold Hp.row at hr ⊢
          simp only [if_pos hb]
          exact hr
      · have hle : Hp.le (fun b => if b = g.block then h1 b else h0 b) h1 := by
          intro b o ho
          simp only at ho
          split at ho
          · exact ho
          · exact N1.le0 b o ho
        have hnew : ∀ b, h b ≠ none → h0 b = none → (fun b => if b = g.block then h1 b else h0 b) b = none := by
          intro b hb hb0
          have : b ≠ g.block := fun e => by subst e; exact hb hgn
          simp only [if_neg this]; exact hb0
        obtain ⟨F1, E1, m1, m2⟩ := N1.i
        refine ⟨⟨hle, N1.v.own, fun b hb => hnew b (alo b hb) (N.v.new b hb)⟩, F, (EachP.fp accH_fp R).keep E fun b _ o ho => l1 b o ho, fun b hb => hnew b (al b hb) (n1 b hb), n2⟩
    · refine ⟨h0, Hp.le_refl _, fun H => ?_, N1⟩
      rcases H with e | ⟨b, o, e, _⟩
      · exact .inl e
      · simp only [Option.some.injEq] at e
        rw [e] at hs
        exact absurd rfl hs
theorem perm_lift {α β : Type} {f : α → β} {l : List β} {m : List α} (p : l.Perm (m.map f)) : ∃ m' : List α, m'.Perm m ∧ m'.map f = l := by
  have key : ∀ {l l' : List β}, l.Perm l' → ∀ m : List α, m.map f = l' → ∃ m' : List α, m'.Perm m ∧ m'.map f = l := by
    intro l l' q
    induction q with
    | nil => intro m e; exact ⟨m, List.Perm.refl _, e⟩
    | cons x q ih =>
      intro m e
      match m, e with
      | y :: m, e =>
        simp only [List.map_cons, List.cons.injEq] at e
        obtain ⟨m', p2, e2⟩ := ih m e.2
        exact ⟨y :: m', p2.cons y, by rw [List.map_cons, e2, e.1]⟩
    | swap x y q =>
      intro m e
      match m, e with
      | g1 :: g2 :: gs, e =>
        simp only [List.map_cons, List.cons.injEq] at e
        exact ⟨g2 :: g1 :: gs, List.Perm.swap _ _ _, by simp [e]⟩
    | trans q1 q2 ih1 ih2 =>
      intro m e
      obtain ⟨m1, p1, e1⟩ := ih2 m e
      obtain ⟨m2, p2, e2⟩ := ih1 m1 e1
      exact ⟨m2, p2.trans p1, e2⟩
  exact key p m rfl
theorem Pans.sort {A : List Ad} {ks : List Int} (N : Pans h0 h a c R) (H : StA ks A R) (hb : ∀ r ∈ R, -2305843009213693952 ≤ r.k.1 ∧ r.k.1 ≤ 2305843009213693952) (hn : R.length < 4611686018427387904) {K : Value → Hp → Prop}
    (hK : ∀ R' h', Pans h0 h' a c R' → R'.length = R.length → R'.map (fun r => (r.k, r.acs)) = (keysS A).map (fun k => (k, accsOf ks (rowsOf A k))) → K (vtup []) h') :
    CallOK Tryz.prog 27 [vsl a R.length c, Value.func (.func 28) #[] #[]] h K := by
  have hl : (R.map prRow).length = R.length := List.length_map _
  have key := sort_panes_ok (h := h) (a := a) (c := c) (R := R.map prRow) (K := K) (fun r hr => by
    obtain ⟨x, hx, rfl⟩ := List.mem_map.1 hr
    exact hb x hx) (by rw [hl]; exact hn) N.v.own (fun R' h' p hs O F _ => by
    obtain ⟨R2, p2, e2⟩ := perm_lift p
    have hl2 : R2.length = R.length := p2.length_eq
    obtain ⟨F0, E, n1, n2⟩ := N.i
    have M : Mut (fun b => a = some ⟨b, 0, none⟩) h (fun b => a = some ⟨b, 0, none⟩) h' := ⟨fun b o hb ho => F b o ho hb, fun b hb => .inl hb⟩
    obtain ⟨l', _⟩ := M.old N.le0 N.v.new
    refine hK R2 h' ⟨⟨l', by rw [← e2] at O; exact O, N.v.new⟩, F0, (EachP.fp accH_fp _).keep (E.perm p2) (fun b hb o ho => F b o ho (n2 b hb)), n1, n2⟩ hl2 ?_
    have hkeys : R2.map (·.k) = keysS A := by
      refine sorted_eq ?_ ?_
      · have := p2.map (·.k)
        rw [H.keys] at this
        exact this
      · rw [← e2, List.pairwise_map] at hs
        rw [List.pairwise_map]
        exact hs
    rw [← hkeys, List.map_map]
    apply List.map_congr_left
    intro r hr
    obtain ⟨i, hi⟩ := List.getElem?_of_mem (p2.mem_iff.1 hr)
    rw [(H.at hi).2.1]
    rfl)
  rw [hl] at key
  exact key
end
def TabC {α : Type} (enc : α → List Value) (h : Hp) (a : Option Addr) (n : Nat) (L : List (List α)) : Prop := ∃ R : List (TRow α), R.map Prod.snd = L ∧ n = L.length ∧ HasRow h a (R.map rowV) ∧ ∀ (j : Nat) (r : TRow α), R[j]? = some r → HasRow h r.1.1 (r.2.flatMap enc) ∧ r.2.length ≤ r.1.2
theorem TabC.r {α : Type} {enc : α → List Value} {h : Hp} {a : Option Addr} {n : Nat} {L : List (List α)} (T : TabC enc h a n L) : TabR enc h a n L := by
  obtain ⟨R, e, hn, H, H2⟩ := T
  exact ⟨R, e, hn, H, fun j r hr => (H2 j r hr).1⟩
theorem TabC.le {α : Type} {enc : α → List Value} {h h' : Hp} {a : Option Addr} {n : Nat} {L : List (List α)} (T : TabC enc h a n L) (hl : h.le h') : TabC enc h' a n L := by
  obtain ⟨R, e, hn, H, H2⟩ := T
  exact ⟨R, e, hn, H.le hl, fun j r hr => ⟨(H2 j r hr).1.le hl, (H2 j r hr).2⟩⟩
theorem TabC.cell {α : Type} {enc : α → List Value} {h : Hp} {a : Option Addr} {n : Nat} {L : List (List α)} (D : TabC enc h a n L) {j : Nat} {l : List α} (hl : L[j]? = some l) : ∃ b o a' c', a = some ⟨b, o, none⟩ ∧ h.cell b (o + j * 1) = some (vsl a' l.length c') ∧ SlP enc h a' l.length l ∧ l.length ≤ c' := by
  obtain ⟨R, rfl, hn, H, H2⟩ := D
  rw [List.getElem?_map, Option.map_eq_some_iff] at hl
  obtain ⟨r, hr, rfl⟩ := hl
  obtain ⟨b, o, ea, hc⟩ := H.get1 (j := j) (v := rowV r) (by rw [List.getElem?_map, hr]; rfl)
  exact ⟨b, o, r.1.1, r.1.2, ea, hc, ⟨rfl, (H2 j r hr).1⟩, (H2 j r hr).2⟩
end Go.Proofs.YtejefijpcggkfaaGreatDoor
namespace Go.Proofs.YtejefijpcggkfaaGreatDoor
open Go Go.Vc Go.Txt
set_option linter.unusedVariables false
structure AdOK (q : Qy) (x : Ad) : Prop where
  l : x.2.length = q.aggs.length
  v : ∀ v ∈ x.2, smallV v
  s : -1000 ≤ x.1.1 ∧ x.1.1 ≤ 9999
theorem addS_ok {q : Qy} (B : QOk q) {far : Int} {e : EvL} (E : EvOK e) {ss : List Int} (hs : ∀ s ∈ ss, -1000 ≤ s ∧ s ≤ 9999) : ∀ x ∈ addS q far e ss, AdOK q x := by
  intro x hx
  refine ⟨addS_len x hx, ?_, ?_⟩
  · unfold addS at hx
    obtain ⟨s, h1, rfl⟩ := List.mem_map.1 hx
    exact valsQ_small B E
  · unfold addS at hx
    obtain ⟨s, h1, rfl⟩ := List.mem_map.1 hx
    exact hs s ((List.mem_filter.1 h1).1)
theorem starts_ok {q : Qy} (B : QOk q) {e : EvL} (E : EvOK e) : ∀ s ∈ startsOf e.1 q.size q.slide, -1000 ≤ s ∧ s ≤ 9999 := by
  intro s hs
  have h1 := B.s
  have h2 := E.t
  have := starts_mem (by omega) hs
  omega
theorem addE_ok {q : Qy} (B : QOk q) {far : Int} {e : EvL} (E : EvOK e) : ∀ x ∈ addE q far e, AdOK q x := by
  intro x hx
  unfold addE at hx
  split at hx
  · exact addS_ok B E (starts_ok B E) x hx
  · cases hx
theorem addP_ok {q : Qy} (B : QOk q) : ∀ (l : List EvL) (far : Int), (∀ e ∈ l, EvOK e) → ∀ x ∈ addP q far l, AdOK q x
  | [], far, _, x, hx => by cases hx
  | e :: l, far, hl, x, hx => by
    rw [addP] at hx
    rcases List.mem_append.1 hx with h | h
    · exact addE_ok B (hl e (List.mem_cons_self ..)) x h
    · exact addP_ok B l _ (fun y hy => hl y (List.mem_cons_of_mem _ hy)) x h
theorem addA_ok {q : Qy} (B : QOk q) {ps : List (List EvL)} (hp : ∀ p ∈ ps, ∀ e ∈ p, EvOK e) : ∀ x ∈ addA q ps, AdOK q x := by
  intro x hx
  unfold addA at hx
  obtain ⟨p, h1, h2⟩ := List.mem_flatMap.1 hx
  exact addP_ok B p (-1) (hp p h1) x h2
theorem addS_many {q : Qy} {far : Int} {e : EvL} {ss : List Int} : (addS q far e ss).length ≤ ss.length := by
  unfold addS
  rw [List.length_map]
  exact List.length_filter_le _ _
theorem lateS_many {q : Qy} {far : Int} {ss : List Int} : lateS q far ss ≤ ss.length := List.length_filter_le _ _
theorem starts_many {q : Qy} (B : QOk q) {e : EvL} : (startsOf e.1 q.size q.slide).length ≤ 1000 := by
  have h1 := B.s
  have := starts_len (t := e.1) (size := q.size) (slide := q.slide)
  omega
theorem addP_many {q : Qy} (B : QOk q) : ∀ (l : List EvL) (far : Int), (addP q far l).length ≤ 1000 * l.length ∧ lateP q far l ≤ 1000 * l.length
  | [], far => ⟨Nat.le_refl _, Nat.le_refl _⟩
  | e :: l, far => by
    obtain ⟨h1, h2⟩ := addP_many B l (max far e.1)
    rw [addP, lateP, List.length_append, List.length_cons]
    have h3 := starts_many B (e := e)
    have h4 : (addE q far e).length ≤ 1000 := by
      unfold addE
      split
      · exact Nat.le_trans addS_many h3
      · exact Nat.zero_le _
    have h5 : lateE q far e ≤ 1000 := by
      unfold lateE
      split
      · exact Nat.le_trans lateS_many h3
      · exact Nat.zero_le _
    omega
theorem addA_many {q : Qy} (B : QOk q) (ps : List (List EvL)) (hp : ∀ p ∈ ps, p.length ≤ 100) : (addA q ps).length ≤ 100000 * ps.length ∧ lateA q ps ≤ 100000 * ps.length := by
  induction ps using snocInd with
  | h0 => exact ⟨Nat.le_refl _, Nat.le_refl _⟩
  | h1 ps p ih =>
    obtain ⟨h1, h2⟩ := ih fun x hx => hp x (List.mem_append_left _ hx)
    obtain ⟨h3, h4⟩ := addP_many B p (-1)
    have h5 := hp p (by simp)
    rw [addA_snoc, lateA_snoc, List.length_append, List.length_append, List.length_singleton]
    omega
theorem keysU_many (A : List Ad) : (keysU A).length ≤ A.length := by
  induction A using snocInd with
  | h0 => exact Nat.le_refl _
  | h1 A a ih =>
    rw [keysU_snoc, List.length_append, List.length_singleton]
    split
    · omega
    · rw [List.length_append, List.length_singleton]; omega
theorem kindsQ_len (q : Qy) : (kindsQ q).length = q.aggs.length := by unfold kindsQ; rw [List.length_map]
theorem accsOf_kinds {ks : List Int} {rs : List (List Vl)} (hl : ∀ r ∈ rs, r.length = ks.length) : (accsOf ks rs).map (·.1) = ks := by
  rw [acc_cols ks hl, List.map_zipWith]
  have hc := colsOf_len (n := ks.length) hl
  generalize colsOf ks.length rs = cs at hc
  clear hl
  induction ks generalizing cs with
  | nil => rfl
  | cons k ks ih =>
    match cs, hc with
    | c :: cs, hc =>
      rw [List.zipWith_cons_cons, ih cs (by simpa using hc)]
      rfl
theorem rowsOf_ok {q : Qy} {A : List Ad} (hA : ∀ x ∈ A, AdOK q x) (k : PK) : (∀ r ∈ rowsOf A k, r.length = (kindsQ q).length) ∧ (∀ r ∈ rowsOf A k, ∀ v ∈ r, smallV v) ∧ (rowsOf A k).length ≤ A.length := by
  have key : ∀ r ∈ rowsOf A k, ∃ x ∈ A, x.2 = r := by
    intro r hr
    unfold rowsOf at hr
    obtain ⟨x, h1, h2⟩ := List.mem_map.1 hr
    exact ⟨x, (List.mem_filter.1 h1).1, h2⟩
  refine ⟨fun r hr => ?_, fun r hr => ?_, ?_⟩
  · obtain ⟨x, h1, rfl⟩ := key r hr
    rw [kindsQ_len]; exact (hA x h1).l
  · obtain ⟨x, h1, rfl⟩ := key r hr
    exact (hA x h1).v
  · unfold rowsOf
    rw [List.length_map]
    exact List.length_filter_le _ _
theorem StA.facts {q : Qy} {A : List Ad} {R : List PR} (H : StA (kindsQ q) A R) (hA : ∀ x ∈ A, AdOK q x) (hn : A.length ≤ 1000000) {i : Nat} {r : PR} (hr : R[i]? = some r) : r.acs.map (·.1) = kindsQ q ∧ (∀ a ∈ r.acs, AcB a) ∧ -1000 ≤ r.k.1 ∧ r.k.1 ≤ 9999 ∧ r.t = false := by
  obtain ⟨h1, h2, h3⟩ := H.at hr
  obtain ⟨r1, r2, r3⟩ := rowsOf_ok hA r.k
  rw [h2]
  obtain ⟨x, hx, e⟩ := (keysU_mem A r.k).1 (List.mem_of_getElem? h1)
  have hs := (hA x hx).s
  rw [e] at hs
  exact ⟨accsOf_kinds r1, accsOf_small r1 r2 (by omega), hs.1, hs.2, h3⟩
theorem StA.len {ks : List Int} {A : List Ad} {R : List PR} (H : StA ks A R) : R.length = (keysU A).length := by
  have := congrArg List.length H.keys
  rw [List.length_map] at this
  exact this
theorem acc0_small (q : Qy) : (acc0 (kindsQ q)).map (·.1) = kindsQ q ∧ ∀ a ∈ acc0 (kindsQ q), AcB a := by
  constructor
  · unfold acc0
    rw [List.map_map]
    exact List.map_id _
  · intro a ha
    unfold acc0 at ha
    obtain ⟨k, _, rfl⟩ := List.mem_map.1 ha
    unfold AcB
    simp
end Go.Proofs.YtejefijpcggkfaaGreatDoor
namespace Go.Proofs.YtejefijpcggkfaaGreatDoor
open Go Go.Vc Go.Txt
set_option linter.unusedVariables false
set_option maxRecDepth 100000
theorem store_new {h : Hp} {b : Nat} {xs ys : List Value} {t : TypeId} (hl : ys.length = xs.length) {K : Hp → Prop} (hK : K (h.set b (cellsO ys t))) : Hp.store (h.set b (cellsO xs t)) b 0 ys K := by
  refine ⟨xs.toArray, t, Hp.set_same _ _ _, by simp [hl], ?_⟩
  rw [Hp.set_set]
  have e : setL xs.toArray.toList 0 ys = ys := by
    unfold setL
    rw [List.take_zero, List.nil_append, List.toList_toArray, Nat.zero_add, List.drop_of_length_le (by omega), List.append_nil]
  rw [e]
  exact hK
theorem cell_new {h : Hp} {b i : Nat} {xs : List Value} {t : TypeId} {v : Value} (hv : xs[i]? = some v) : Hp.cell (h.set b (cellsO xs t)) b i = some v := by
  unfold Hp.cell
  rw [Hp.set_same]
  simpa using hv
theorem cell_le {h h' : Hp} (l : h.le h') {b i : Nat} {v : Value} (hc : h.cell b i = some v) : h'.cell b i = some v := by
  unfold Hp.cell at hc ⊢
  cases hb : h b with
  | none => rw [hb] at hc; cases hc
  | some o => rw [l b o hb]; rw [hb] at hc; exact hc
def pkRw (k : PK) (v : Value) : List Value := [vi k.1, vi k.2.1, vi k.2.2, v]
theorem pkRw_len (k : PK) (v : Value) : (pkRw k v).length = 4 := rfl
theorem elOut : ElT Tryz.prog 36 51 4 48 := .of (by kernel_rfl) (by kernel_rfl) (by decide)
set_option maxHeartbeats 4000000 in
theorem batch_Answer_ok {q : Qy} {a1 : Option Addr} {n1 c1 : Nat} {a2 : Option Addr} {n2 c2 : Nat} {a3 : Option Addr} {n3 c3 : Nat} {h : Hp} {R' : Value → Hp → Prop} {ps : List (List EvL)} {pa : Option Addr} {pn pc : Nat} (Q : QAt h q a1 n1 a2 n2 a3 n3) (B : QOk q) (T : TabC encE h pa pn ps)
    (hp : ps.length ≤ 5) (hl : ∀ p ∈ ps, p.length ≤ 100) (hE : ∀ p ∈ ps, ∀ e ∈ p, EvOK e)
    (hK : ∀ a c h', h.le h' → GTab encV pkRw h' a (ansQ q ps).length (ansQ q ps) → R' (vtup [vsl a (ansQ q ps).length c, vi (lateA q ps : Nat)]) h') : CallOK Tryz.prog 9 [qV a1 n1 c1 a2 n2 c2 a3 n3 c3 q, vsl pa pn pc] h R' := by
  refine ok_batch_Answer ?_
  unfold VC_batch_Answer
  have hpn : pn = ps.length := T.r.choose_spec.2.1
  have s1 := B.s
  have s2 := B.l
  have s3 := B.n2
  refine ⟨fun vs hh => ∃ (i : Nat) (a : Option Addr) (c : Nat) (R : List PR), vs = [vsl a R.length c, vi (lateA q (ps.take i) : Nat), vi i] ∧ i ≤ ps.length ∧ Pans h hh a c R ∧ StA (kindsQ q) (addA q (ps.take i)) R, fun vs hh => ps.length - (vint vs 2).toNat, ⟨0, none, 0, [], rfl, Nat.zero_le _, Pans.nil (Hp.le_refl h), StA.nil⟩, ?_⟩
  rintro vs hh ⟨i, a, c, R, rfl, hi, N, S⟩
  refine ⟨a, R.length, c, _, _, rfl, fun e => ?_, fun e => ?_⟩
  · have hlt : i < ps.length := by have := of_decide_eq_true e; omega
    have hx : ps[i]? = some ps[i] := List.getElem?_eq_getElem hlt
    have tk : ps.take (i + 1) = ps.take i ++ [ps[i]] := List.take_succ_eq_append_getElem hlt
    have hmem : ps[i] ∈ ps := List.getElem_mem hlt
    have hEp := hE _ hmem
    have hlp := hl _ hmem
    have hAi := addA_ok B (ps := ps.take i) fun p hp' => hE p (List.mem_of_mem_take hp')
    have hmi := addA_many B (ps.take i) fun p hp' => hl p (List.mem_of_mem_take hp')
    have hti : (ps.take i).length = i := by rw [List.length_take]; omega
    generalize ps[i] = part at *
    obtain ⟨b, o, a', c', ea, hc, SP, hcap⟩ := T.cell hx
    refine ⟨b, o, ⟨ea, by omega, by omega⟩, a', part.length, c', by rw [Int.toNat_natCast]; exact cell_le N.le0 hc, ?_⟩
    clear e
    refine ⟨fun vs hh => ∃ (j : Nat) (a : Option Addr) (c : Nat) (R : List PR), vs = [vsl a R.length c, vi (lateA q (ps.take i) + lateP q (-1) (part.take j) : Nat), vi j] ∧ j ≤ part.length ∧ Pans h hh a c R ∧ StA (kindsQ q) (addA q (ps.take i) ++ addP q (-1) (part.take j)) R, fun vs hh => part.length - (vint vs 2).toNat, ⟨0, a, c, R, by simp [lateP], Nat.zero_le _, N, by simpa [addP] using S⟩, ?_⟩
    rintro vs hh2 ⟨j, a, c, R, rfl, hj, N, S⟩
    refine ⟨a, R.length, c, _, _, rfl, fun e => ?_, fun e => ?_⟩
    · have hltj : j < part.length := by have := of_decide_eq_true e; omega
      have hxj : part[j]? = some part[j] := List.getElem?_eq_getElem hltj
      have tkj : part.take (j + 1) = part.take j ++ [part[j]] := List.take_succ_eq_append_getElem hltj
      have hEv := hEp _ (List.getElem_mem hltj)
      have hAj := addP_ok B (part.take j) (-1) fun e he => hEp e (List.mem_of_mem_take he)
      have hmj := addP_many B (part.take j) (-1)
      have htj : (part.take j).length = j := by rw [List.length_take]; omega
      have hAA : ∀ x ∈ addA q (ps.take i) ++ addP q (-1) (part.take j), AdOK q x := by
        intro x hx
        rcases List.mem_append.1 hx with h1 | h1
        · exact hAi x h1
        · exact hAj x h1
      have hAn : (addA q (ps.take i) ++ addP q (-1) (part.take j)).length ≤ 499000 ∧ lateA q (ps.take i) + lateP q (-1) (part.take j) ≤ 499000 := by
        rw [List.length_append]
        omega
      generalize part[j] = ev at *
      intro J173
      have hJ : ∀ (a : Option Addr) (c : Nat) (R : List PR) (hh' : Hp), Pans h hh' a c R → StA (kindsQ q) ((addA q (ps.take i) ++ addP q (-1) (part.take j)) ++ addE q (farL (part.take j)) ev) R → J173 a R.length c ((lateA q (ps.take i) + lateP q (-1) (part.take j) + lateE q (farL (part.take j)) ev : Nat) : Int) hh' := by
        intro a c R hh' N S
        refine ⟨_, isW (by unfold InR; omega), ⟨j + 1, a, c, R, ?_, by omega, N, ?_⟩, by simp [vint]; omega⟩
        · rw [tkj, lateP_snoc, ← Nat.add_assoc]; rfl
        · rw [tkj, addP_snoc, ← List.append_assoc]; exact S
      clear_value J173
      have hAi2 := hAn
      generalize addA q (ps.take i) ++ addP q (-1) (part.take j) = Aj at *
      generalize lateA q (ps.take i) + lateP q (-1) (part.take j) = cj at *
      obtain ⟨b2, o2, ea2, hr2⟩ := (SP.le N.le0).get (sz := 7) (fun _ => rfl) (by decide) hxj
      refine ⟨b2, o2, ⟨ea2, by omega, by omega⟩, _, _, _, _, _, _, _, by rw [Int.toNat_natCast]; exact hr2, ?_⟩
      refine batch_is_ok (e := ev) (Q.le N.le0) B fun h34 l34 => ⟨_, rfl, fun e1 => ?_, fun e1 => ?_⟩
      · have e1 : asksQ q ev = false := by simpa using e1
        have := hJ a c R h34 (N.le l34) (by unfold addE; rw [e1]; simpa using S)
        have e2 : lateE q (farL (part.take j)) ev = 0 := by unfold lateE; rw [e1]; rfl
        rw [e2, Nat.add_zero] at this
        exact this
      · have e1 : asksQ q ev = true := by simpa using e1
        have eA : addE q (farL (part.take j)) ev = addS q (farL (part.take j)) ev (startsOf ev.1 q.size q.slide) := by unfold addE; rw [if_pos e1]
        have eL : lateE q (farL (part.take j)) ev = lateS q (farL (part.take j)) (startsOf ev.1 q.size q.slide) := by unfold lateE; rw [if_pos e1]
        rw [eA, eL] at hJ
        have ht := hEv.t
        have hsb := starts_ok B hEv
        have hsn := starts_many B (e := ev)
        refine window_StartsN_ok (by omega) (by omega) (by omega) (by omega) (by omega) (by omega) fun a40 n40 c40 h39 l39 SS hnew => ⟨_, _, _, rfl, ?_⟩
        generalize startsOf ev.1 q.size q.slide = ss at *
        have N34 := N.le l34
        obtain ⟨hx0, lx, hrow, Nx⟩ := N34.rebase l39 (g := a40) (fun b o eb => hnew b o eb)
        have SSx : SlI hx0 a40 n40 ss := ⟨SS.1, hrow SS.2⟩
        have hn40 := SS.1
        refine ⟨fun vs hh => ∃ (k : Nat) (a : Option Addr) (c : Nat) (R : List PR), vs = [vsl a R.length c, vi (cj + lateS q (farL (part.take j)) (ss.take k) : Nat), vi k] ∧ k ≤ ss.length ∧ Pans hx0 hh a c R ∧ StA (kindsQ q) (Aj ++ addS q (farL (part.take j)) ev (ss.take k)) R, fun vs hh => ss.length - (vint vs 2).toNat, ⟨0, a, c, R, by simp [lateS], Nat.zero_le _, Nx, by simpa [addS] using S⟩, ?_⟩
        clear N34 Nx N S hrow
        rintro vs hh3 ⟨k, a, c, R, rfl, hk, N, S⟩
        refine ⟨a, R.length, c, _, _, rfl, fun e => ?_, fun e => ?_⟩
        · have hltk : k < ss.length := by have := of_decide_eq_true e; omega
          have hxk : ss[k]? = some ss[k] := List.getElem?_eq_getElem hltk
          have tkk : ss.take (k + 1) = ss.take k ++ [ss[k]] := List.take_succ_eq_append_getElem hltk
          have hsk := hsb _ (List.getElem_mem hltk)
          have hgd : ss.getD k 0 = ss[k] := by rw [List.getD_eq_getElem?_getD, hxk]; rfl
          have hSk := addS_ok B hEv (far := farL (part.take j)) (ss := ss.take k) fun s hs => hsb s (List.mem_of_mem_take hs)
          have hSm := addS_many (q := q) (far := farL (part.take j)) (e := ev) (ss := ss.take k)
          have hSl := lateS_many (q := q) (far := farL (part.take j)) (ss := ss.take k)
          have htk : (ss.take k).length = k := by rw [List.length_take]; omega
          obtain ⟨b51, o51, e51, c51⟩ := SSx.get (i := k) (by omega)
          rw [hgd] at c51
          generalize ss[k] = sk at *
          have hAk : ∀ x ∈ Aj ++ addS q (farL (part.take j)) ev (ss.take k), AdOK q x := by
            intro x hx
            rcases List.mem_append.1 hx with h1 | h1
            · exact hAA x h1
            · exact hSk x h1
          have hAkn : (Aj ++ addS q (farL (part.take j)) ev (ss.take k)).length ≤ 500000 := by rw [List.length_append]; omega
          intro J163
          have hJ2 : ∀ (a : Option Addr) (c : Nat) (R : List PR) (hh' : Hp) (x : Int), Pans hx0 hh' a c R → StA (kindsQ q) ((Aj ++ addS q (farL (part.take j)) ev (ss.take k)) ++ if lateQ q (farL (part.take j)) sk then [] else [((sk, keyQ q ev), valsQ q ev)]) R → x = ((cj + lateS q (farL (part.take j)) (ss.take k) + if lateQ q (farL (part.take j)) sk then 1 else 0 : Nat) : Int) → J163 a R.length c x hh' := by
            intro a c R hh' x N S hx
            refine ⟨_, isW (by unfold InR; omega), ⟨k + 1, a, c, R, ?_, by omega, N, ?_⟩, by simp [vint]; omega⟩
            · rw [tkk, lateS_snoc, hx, ← Nat.add_assoc]; rfl
            · rw [tkk, addS_snoc, ← List.append_assoc]; exact S
          clear_value J163
          refine ⟨b51, o51, ⟨e51, by omega, by omega⟩, sk, by rw [Int.toNat_natCast]; exact cell_le N.le0 c51, ?_⟩
          intro b54 hb54 h55
          show Hp.store (Hp.set hh3 b54 (cellsO [vi 0] 3)) b54 0 [vi sk] _
          refine store_new (xs := [vi 0]) (by rfl) ?_
          refine ⟨sk, cell_new rfl, ?_⟩
          have l56 : hh3.le (hh3.set b54 (cellsO [vi sk] 3)) := Hp.le_set (Hp.le_refl _) hb54 _
          have c56 : Hp.cell (hh3.set b54 (cellsO [vi sk] 3)) b54 0 = some (vi sk) := cell_new rfl
          generalize hh3.set b54 (cellsO [vi sk] 3) = h56 at l56 c56
          have N56 := N.le l56
          have lh56 := Hp.le_trans lx N56.le0
          refine batch_late_ok (i := j) (SP.le lh56) (by omega) hcap (by omega) (fun e he => (hEp e he).t) (by omega) B ⟨_, rfl, fun e2 => ?_, fun e2 => ?_⟩
          · refine ⟨_, isW (by unfold InR; omega), hJ2 a c R h56 _ N56 (by rw [if_pos e2, List.append_nil]; exact S) ?_⟩
            rw [if_pos e2]
            push_cast
            rfl
          · have hnl : ¬ lateQ q (farL (part.take j)) sk = true := by rw [e2]; decide
            simp only [if_neg hnl, Nat.add_zero] at hJ2
            refine batch_key_ok (e := ev) (Q.le lh56) B fun h65 l65 => ⟨_, _, rfl, ?_⟩
            intro b68 hb68 h69
            show Hp.store (Hp.set h65 b68 (cellsO [vi 0, vi 0] 33)) b68 0 [vi (keyQ q ev).1, vi (keyQ q ev).2] _
            refine store_new (xs := [vi 0, vi 0]) (by rfl) ?_
            have l70 : h65.le (h65.set b68 (cellsO [vi (keyQ q ev).1, vi (keyQ q ev).2] 33)) := Hp.le_set (Hp.le_refl _) hb68 _
            have r70 : Hp.row (h65.set b68 (cellsO [vi (keyQ q ev).1, vi (keyQ q ev).2] 33)) b68 0 2 = some (encV (keyQ q ev)) := row_cells' (Hp.set_same _ _ _) (by simp)
            generalize h65.set b68 (cellsO [vi (keyQ q ev).1, vi (keyQ q ev).2] 33) = h70 at l70 r70
            have l5670 := Hp.le_trans l65 l70
            have N70 := N56.le l5670
            have c70 := cell_le l5670 c56
            have hRl := S.len
            have hRk := keysU_many (Aj ++ addS q (farL (part.take j)) ev (ss.take k))
            -- behind the pane's being there
            have hJ3 : ∀ (J146 : Option Addr → Nat → Nat → Int → Hp → Prop), (∀ (a150 : Option Addr) (n150 c150 : Nat) (x151 : Int) (h152 : Hp), J146 a150 n150 c150 x151 h152 = (∃ (b153 o154 : Nat), (a150 = some ⟨b153, o154, none⟩ ∧ (0 : Int) ≤ x151 ∧ x151 < ((n150 : Nat) : Int)) ∧ (∃ (a155 : Option Addr) (n155 c155 : Nat), (Hp.cell h152 b153 ((o154 + x151.toNat * 5) + 3) = some (vsl a155 n155 c155)) ∧ (CallOK Tryz.prog 26 [(vsl a155 n155 c155), qV a1 n1 c1 a2 n2 c2 a3 n3 c3 q, vag (encE ev)] h152 fun v156 h157 => ∃ (a158 : Option Addr) (n158 c158 : Nat), v156 = (vsl a158 n158 c158) ∧ (∃ (b159 o160 : Nat), (a150 = some ⟨b159, o160, none⟩ ∧ (0 : Int) ≤ x151 ∧ x151 < ((n150 : Nat) : Int)) ∧ (Hp.store h157 b159 ((o160 + x151.toNat * 5) + 3) [(vsl a158 n158 c158)] fun h161 => (J163 a150 n150 c150 ((cj + lateS q (farL (part.take j)) (ss.take k) : Nat) : Int) h161))))))) →
                ∀ (a : Option Addr) (c : Nat) (R : List PR) (m : Nat) (r : PR) (hh' : Hp), Pans hx0 hh' a c R → R[m]? = some r → r.acs.map (·.1) = kindsQ q → (∀ x ∈ r.acs, AcB x) → StA (kindsQ q) ((Aj ++ addS q (farL (part.take j)) ev (ss.take k)) ++ [((sk, keyQ q ev), valsQ q ev)]) (R.set m { r with acs := accP r.acs (valsQ q ev) }) → J146 a R.length c (m : Int) hh' := by
              intro J146 hdef a c R m r hh' N hr hkd hbd S'
              rw [hdef]
              obtain ⟨hm, _⟩ := List.getElem?_eq_some_iff.1 hr
              obtain ⟨b, o, ea, hrw⟩ := N.row hr
              obtain ⟨V, H⟩ := N.inner hr
              have hcl := Hp.row_cell hrw (i := 3) (x := vsl r.a r.acs.length r.c) rfl
              refine ⟨b, o, ⟨ea, by omega, by omega⟩, r.a, r.acs.length, r.c, by rw [Int.toNat_natCast]; exact hcl, ?_⟩
              refine batch_add_ok (e := ev) (Q.le lx) B hEv V hkd hbd fun h157 V' F' => ⟨_, _, _, rfl, ?_⟩
              have hlen : (valsQ q ev).length = r.acs.length := by
                have := congrArg List.length hkd
                rw [List.length_map, kindsQ_len] at this
                unfold valsQ
                rw [List.length_map, this]
              have hpl := accP_len hlen
              have N' := H h157 _ V'.le0 V' hpl F'
              have hr' : (R.set m { r with acs := accP r.acs (valsQ q ev) })[m]? = some { r with acs := accP r.acs (valsQ q ev) } := by rw [List.getElem?_set, if_pos rfl, if_pos hm]
              obtain ⟨b', o', ea', HS⟩ := N'.again hr'
              refine ⟨b', o', ⟨ea', by omega, by omega⟩, ?_⟩
              rw [Int.toNat_natCast]
              simp only [hpl] at HS
              refine HS _ fun h161 N161 l161 => ?_
              have := hJ2 a c _ h161 _ N161 S' rfl
              rw [List.length_set] at this
              exact this
            refine pane_IndexFunc_ok N70 (by omega) (K := (sk, keyQ q ev)) c70 r70 (fun m r hr hkr => ⟨_, rfl, ?_⟩) (fun hno => ⟨_, rfl, ?_⟩)
            · intro J146
              have hdef : ∀ (a150 : Option Addr) (n150 c150 : Nat) (x151 : Int) (h152 : Hp), J146 a150 n150 c150 x151 h152 = _ := fun _ _ _ _ _ => rfl
              have hJ4 := hJ3 J146 (fun _ _ _ _ _ => rfl)
              clear hdef
              clear_value J146
              refine ⟨fun e3 => absurd (of_decide_eq_true e3) (by omega), fun _ => ?_⟩
              obtain ⟨f1, f2, _⟩ := S.facts hAk (by omega) hr
              refine hJ4 a c R m r h70 N70 hr f1 f2 ?_
              have := S.put hr (valsQ q ev)
              rw [← hkr]
              exact this
            · intro J146
              have hJ4 := hJ3 J146 (fun _ _ _ _ _ => rfl)
              clear_value J146
              refine ⟨fun _ => ?_, fun e3 => absurd (of_decide_eq_false e3) (by omega)⟩
              refine ⟨sk, c70, _, _, r70, ?_⟩
              intro J107
              have hkn : (sk, keyQ q ev) ∉ keysU (Aj ++ addS q (farL (part.take j)) ev (ss.take k)) := by
                rw [← S.keys]
                intro hm
                obtain ⟨r, hr, e4⟩ := List.mem_map.1 hm
                exact hno r hr e4
              have hJ5 : ∀ (a86 : Option Addr) (c86 : Nat) (h81 : Hp), VecA h70 h81 a86 c86 (acc0 (kindsQ q)) → J107 sk (keyQ q ev).1 (keyQ q ev).2 a86 (acc0 (kindsQ q)).length c86 false h81 := by
                intro a86 c86 h81 V b139 hb139 h140
                refine N70.app V.le0 (r := ⟨(sk, keyQ q ev), a86, c86, acc0 (kindsQ q), false⟩) V (by omega) hb139 fun a' c' h' N' => ⟨_, _, _, rfl, ?_⟩
                have hr : (R ++ [(⟨(sk, keyQ q ev), a86, c86, acc0 (kindsQ q), false⟩ : PR)])[R.length]? = some ⟨(sk, keyQ q ev), a86, c86, acc0 (kindsQ q), false⟩ := by simp
                obtain ⟨g1, g2⟩ := acc0_small q
                have := hJ4 a' c' _ R.length _ h' N' hr g1 g2 (by
                  rw [List.set_append_right _ _ (Nat.le_refl _), Nat.sub_self]
                  exact S.new hkn (valsQ q ev) a86 c86)
                rw [List.length_append, List.length_singleton] at this
                exact this
              clear_value J107
              have hna := Q.g.len
              refine ⟨fun vs hh => ∃ (m : Nat) (a : Option Addr) (c : Nat), vs = [vi m, vi sk, vi (keyQ q ev).1, vi (keyQ q ev).2, vsl a (acc0 ((kindsQ q).take m)).length c, vb false] ∧ m ≤ n1 ∧ VecA h70 hh a c (acc0 ((kindsQ q).take m)), fun vs hh => n1 - (vint vs 0).toNat, ⟨0, none, 0, rfl, Nat.zero_le _, OwnV.nil (Hp.le_refl _) _ _⟩, ?_⟩
              rintro vs hh4 ⟨m, a86, c86, rfl, hm, V⟩
              refine ⟨_, _, _, _, a86, _, c86, false, rfl, fun e5 => ?_, fun e5 => ?_⟩
              · have hltm : m < n1 := by have := of_decide_eq_true e5; omega
                have hxm : q.aggs[m]? = some q.aggs[m] := List.getElem?_eq_getElem (by omega)
                have hkl := kindsQ_len q
                have tkm : (kindsQ q).take (m + 1) = (kindsQ q).take m ++ [(q.aggs[m]'(by omega)).1] := by
                  rw [List.take_succ_eq_append_getElem (by omega)]
                  congr 2
                  unfold kindsQ
                  rw [List.getElem_map]
                have hal : (acc0 ((kindsQ q).take m)).length = m := by unfold acc0; rw [List.length_map, List.length_take]; omega
                obtain ⟨b, o, a', c', ha, hrow, hS⟩ := (Q.g.le (Hp.le_trans lx (Hp.le_trans N70.le0 V.le0))).row aggRw_len (by decide) hxm
                refine ⟨b, o, ⟨ha, by omega, by omega⟩, (q.aggs[m]'(by omega)).1, a', (q.aggs[m]'(by omega)).2.length, c', by rw [Int.toNat_natCast]; exact hrow, gather_New_ok ⟨_, _, _, _, rfl, ?_⟩⟩
                intro b100 hb100 h101
                refine Vec.app elAcc encAc_len one_ac V (by rw [hal]; omega) (by rw [hal]; omega) (x := ((q.aggs[m]'(by omega)).1, (0, 0, 0))) hb100 fun a' c' h' V' => ⟨_, _, _, rfl, _, isW (by unfold InR; omega), ⟨m + 1, a', c', ?_, by omega, ?_⟩, by simp [vint]; omega⟩
                · rw [tkm]; unfold acc0; rw [List.map_append]; rfl
                · rw [tkm]; unfold acc0 at V' ⊢; rw [List.map_append]; exact V'
              · have hge : m = n1 := by have := of_decide_eq_false e5; omega
                rw [List.take_of_length_le (by rw [kindsQ_len]; omega)] at V ⊢
                exact hJ5 a86 c86 hh4 V
        · have hge : k = ss.length := by have := of_decide_eq_false e; omega
          rw [hge, List.take_length] at S ⊢
          exact hJ a c R hh3 (N.base lx) S
    · have hge : j = part.length := by have := of_decide_eq_false e; omega
      rw [hge, List.take_length] at S ⊢
      refine ⟨_, isW (by unfold InR; omega), ⟨i + 1, a, c, R, ?_, by omega, N, ?_⟩, by simp [vint]; omega⟩
      · rw [tk, lateA_snoc]; rfl
      · rw [tk, addA_snoc]; exact S
  · have hge : i = ps.length := by have := of_decide_eq_false e; omega
    rw [hge, List.take_length] at S ⊢
    have hA := addA_ok B hE
    have hm := addA_many B ps hl
    have hRl := S.len
    have hRk := keysU_many (addA q ps)
    refine N.sort S (fun r hr => ?_) (by omega) fun R2 h185 N2 hl2 hR2 => ⟨rfl, ?_⟩
    · obtain ⟨m, hr⟩ := List.getElem?_of_mem hr
      have := S.facts hA (by omega) hr
      omega
    have hans : R2.map (fun r => (r.k, r.acs.map gOut)) = ansQ q ps := by
      have := congrArg (List.map fun x : PK × List AcS => (x.1, x.2.map gOut)) hR2
      rw [List.map_map, List.map_map] at this
      exact this
    refine ⟨fun vs hh => ∃ (m : Nat) (a : Option Addr) (c : Nat), vs = [vsl a ((ansQ q ps).take m).length c, vi m] ∧ m ≤ R.length ∧ GTabB encV pkRw 4 51 (fun _ => False) h185 hh a c ((ansQ q ps).take m), fun vs hh => R.length - (vint vs 1).toNat, ⟨0, none, 0, rfl, Nat.zero_le _, GTabB.nil (Hp.le_refl _)⟩, ?_⟩
    rintro vs hh5 ⟨m, a5, c5, rfl, hm5, G⟩
    have hal : (ansQ q ps).length = R.length := by rw [← hans, List.length_map, hl2]
    refine ⟨a5, _, c5, _, rfl, fun e => ?_, fun e => ?_⟩
    · have hltm : m < R.length := by have := of_decide_eq_true e; omega
      have hxm : R2[m]? = some R2[m] := List.getElem?_eq_getElem (by omega)
      have hxa : (ansQ q ps)[m]? = some ((R2[m]'(by omega)).k, (R2[m]'(by omega)).acs.map gOut) := by rw [← hans, List.getElem?_map, hxm]; rfl
      have tkm : (ansQ q ps).take (m + 1) = (ansQ q ps).take m ++ [((R2[m]'(by omega)).k, (R2[m]'(by omega)).acs.map gOut)] := by
        rw [List.take_add_one, hxa]; rfl
      have htm : ((ansQ q ps).take m).length = m := by rw [List.length_take]; omega
      have N5 := N2.le G.le0
      obtain ⟨b, o, ea, hrw⟩ := N5.row hxm
      obtain ⟨V, _⟩ := N5.inner hxm
      have hacs : (R2[m]'(by omega)).acs.length ≤ 1000 := by
        have h1 : (R2.map fun r => (r.k, r.acs))[m]? = some ((R2[m]'(by omega)).k, (R2[m]'(by omega)).acs) := by rw [List.getElem?_map, hxm]; rfl
        rw [hR2, List.getElem?_map] at h1
        cases hkk : (keysS (addA q ps))[m]? with
        | none => rw [hkk] at h1; cases h1
        | some kk =>
          rw [hkk] at h1
          simp only [Option.map_some, Option.some.injEq, Prod.mk.injEq] at h1
          have := congrArg List.length (accsOf_kinds (rowsOf_ok hA kk).1)
          rw [List.length_map, h1.2, kindsQ_len] at this
          omega
      refine ⟨b, o, ⟨ea, by omega, by omega⟩, _, _, _, _, _, _, _, by rw [Int.toNat_natCast]; exact hrw, ?_⟩
      refine pane_Out_ok (r := R2[m]'(by omega)) (V.slp encAc_len (by decide)) hacs fun a2' c2' h203 V2 => ⟨_, _, _, _, _, _, rfl, ?_⟩
      intro b208 hb208 h209
      refine GTabB.app elOut G (hB := hh5) (h1 := h203) V2.le0 (fun _ hf => hf.elim) (fun g hg => G.al hg) (x := (R2[m]'(by omega)).k) (a2 := a2') (c2 := c2') (l := (R2[m]'(by omega)).acs.map gOut) (OwnV.row V2) (fun b o eb => V2.new b (by rw [eb, OwnS.at0 (OwnV.own V2) b o eb])) ?_ rfl (fun _ hf => hf.elim) (by rw [htm]; omega) (by rw [htm]; omega) hb208 fun a' c' h' G' _ => ⟨_, _, _, rfl, _, isW (by unfold InR; omega), ⟨m + 1, a', c', ?_, by omega, ?_⟩, by simp [vint]; omega⟩
      · intro u hu
        simp only [pkRw, List.mem_cons, List.not_mem_nil, or_false] at hu
        rcases hu with rfl | rfl | rfl | rfl <;> rfl
      · rw [tkm, List.length_append, List.length_singleton]; rfl
      · rw [tkm]; exact G'
    · have hge5 : m = R.length := by have := of_decide_eq_false e; omega
      rw [List.take_of_length_le (by omega)] at G ⊢
      exact hK a5 c5 hh5 (Hp.le_trans N2.le0 G.le0) G.tab
end Go.Proofs.YtejefijpcggkfaaGreatDoor
namespace Go.Proofs.YtejefijpcggkfaaGreatDoor
open Go Go.Vc
set_option maxRecDepth 100000
set_option linter.unusedVariables false
def VC_R_SameValues (u_aa : Option Addr) (u_an u_ac : Nat) (u_ba : Option Addr) (u_bn u_bc : Nat) (h : Hp) (R : Value → Hp → Prop) : Prop :=
  (((decide ((((u_an : Nat) : Int) : Int) ≠ ((u_bn : Nat) : Int))) = true → R (vb false) h) ∧ ((decide ((((u_an : Nat) : Int) : Int) ≠ ((u_bn : Nat) : Int))) = false → (∃ (I3 : List Value → Hp → Prop) (m4 : List Value → Hp → Nat), I3 [(vi 0)] h ∧ ∀ (vs5 : List Value) (h6 : Hp), I3 vs5 h6 → ∃ (x7 : Int), vs5 = [(vi x7)] ∧ (((decide ((x7 : Int) < ((u_an : Nat) : Int))) = true → (∃ (b10 o11 : Nat), (u_aa = some ⟨b10, o11, none⟩ ∧ (0 : Int) ≤ x7 ∧ x7 < ((u_an : Nat) : Int)) ∧ (∃ (x12 : Int) (x13 : Int), (Hp.row h6 b10 (o11 + x7.toNat * 2) 2 = some [(vi x12), (vi x13)]) ∧ (∃ (b14 o15 : Nat), (u_ba = some ⟨b14, o15, none⟩ ∧ (0 : Int) ≤ x7 ∧ x7 < ((u_bn : Nat) : Int)) ∧ (∃ (x16 : Int) (x17 : Int), (Hp.row h6 b14 (o15 + x7.toNat * 2) 2 = some [(vi x16), (vi x17)]) ∧ (∃ (p18 : Bool), (Rd Tryz.prog ((eqGuard .neq 33 (.tmp 20) (.tmp 24) (vag [(vi x12), (vi x13)]) (vag [(vi x16), (vi x17)]) >>= fun _ => binOp .neq 33 (vag [(vi x12), (vi x13)]) (vag [(vi x16), (vi x17)]))) h6 (vb p18)) ∧ ((p18 = true → R (vb false) h6) ∧ (p18 = false → (∃ (x20 : Int), (IsW x20 (x7 + 1)) ∧ (I3 [(vi x20)] h6 ∧ m4 [(vi x20)] h6 < m4 vs5 h6)))))))))) ∧ ((decide ((x7 : Int) < ((u_an : Nat) : Int))) = false → R (vb true) h6)))))
theorem ok_R_SameValues {u_aa : Option Addr} {u_an u_ac : Nat} {u_ba : Option Addr} {u_bn u_bc : Nat} {h : Hp} {R : Value → Hp → Prop} (H : VC_R_SameValues u_aa u_an u_ac u_ba u_bn u_bc h R) : CallOK Tryz.prog 66 [(vsl u_aa u_an u_ac), (vsl u_ba u_bn u_bc)] h R :=
  call_of (cfg := ⟨[], [(4, ([5], [.one (.int .i64)], []))], [(6, [0, 1, 2, 3, 4, 5, 6, 7, 8])]⟩) noNG mixed Tryz.func66 [.one (.v (vsl u_aa u_an u_ac)), .one (.v (vsl u_ba u_bn u_bc))] (by kernel_rfl) rfl (by kernel_rfl) H
def VC_R_SamePane (u_aStart : Int) (u_aKeyKind : Int) (u_aKeyN : Int) (u_aValsa : Option Addr) (u_aValsn u_aValsc : Nat) (u_bStart : Int) (u_bKeyKind : Int) (u_bKeyN : Int) (u_bValsa : Option Addr) (u_bValsn u_bValsc : Nat) (h : Hp) (R : Value → Hp → Prop) : Prop :=
  (CallOK Tryz.prog 66 [(vsl u_aValsa u_aValsn u_aValsc), (vsl u_bValsa u_bValsn u_bValsc)] h fun v1 h2 => ∃ (p3 : Bool), v1 = (vb p3) ∧ (∃ (p4 : Bool), ((decide ((u_aStart : Int) = u_bStart)) = true → Rd Tryz.prog ((eqGuard .eql 33 (.tmp 18) (.tmp 20) (vag [(vi u_aKeyKind), (vi u_aKeyN)]) (vag [(vi u_bKeyKind), (vi u_bKeyN)]) >>= fun _ => binOp .eql 33 (vag [(vi u_aKeyKind), (vi u_aKeyN)]) (vag [(vi u_bKeyKind), (vi u_bKeyN)]))) h2 (vb p4)) ∧ R (vb (bif (bif (decide ((u_aStart : Int) = u_bStart)) then p4 else false) then p3 else false)) h2))
theorem ok_R_SamePane {u_aStart : Int} {u_aKeyKind : Int} {u_aKeyN : Int} {u_aValsa : Option Addr} {u_aValsn u_aValsc : Nat} {u_bStart : Int} {u_bKeyKind : Int} {u_bKeyN : Int} {u_bValsa : Option Addr} {u_bValsn u_bValsc : Nat} {h : Hp} {R : Value → Hp → Prop} (H : VC_R_SamePane u_aStart u_aKeyKind u_aKeyN u_aValsa u_aValsn u_aValsc u_bStart u_bKeyKind u_bKeyN u_bValsa u_bValsn u_bValsc h R) : CallOK Tryz.prog 37 [(vag [(vi u_aStart), (vi u_aKeyKind), (vi u_aKeyN), (vsl u_aValsa u_aValsn u_aValsc)]), (vag [(vi u_bStart), (vi u_bKeyKind), (vi u_bKeyN), (vsl u_bValsa u_bValsn u_bValsc)])] h R :=
  call_of (cfg := ⟨[], [], []⟩) noNG mixed Tryz.func37 [.ag [.v (vi u_aStart), .v (vi u_aKeyKind), .v (vi u_aKeyN), .v (vsl u_aValsa u_aValsn u_aValsc)], .ag [.v (vi u_bStart), .v (vi u_bKeyKind), .v (vi u_bKeyN), .v (vsl u_bValsa u_bValsn u_bValsc)]] (by kernel_rfl) rfl (by kernel_rfl) H
def VC_R_SamePanes (u_aa : Option Addr) (u_an u_ac : Nat) (u_ba : Option Addr) (u_bn u_bc : Nat) (h : Hp) (R : Value → Hp → Prop) : Prop :=
  (((decide ((((u_an : Nat) : Int) : Int) ≠ ((u_bn : Nat) : Int))) = true → R (vb false) h) ∧ ((decide ((((u_an : Nat) : Int) : Int) ≠ ((u_bn : Nat) : Int))) = false → (∃ (I3 : List Value → Hp → Prop) (m4 : List Value → Hp → Nat), I3 [(vi 0)] h ∧ ∀ (vs5 : List Value) (h6 : Hp), I3 vs5 h6 → ∃ (x7 : Int), vs5 = [(vi x7)] ∧ (((decide ((x7 : Int) < ((u_an : Nat) : Int))) = true → (∃ (b10 o11 : Nat), (u_aa = some ⟨b10, o11, none⟩ ∧ (0 : Int) ≤ x7 ∧ x7 < ((u_an : Nat) : Int)) ∧ (∃ (x12 : Int) (x13 : Int) (x14 : Int) (a15 : Option Addr) (n15 c15 : Nat), (Hp.row h6 b10 (o11 + x7.toNat * 4) 4 = some [(vi x12), (vi x13), (vi x14), (vsl a15 n15 c15)]) ∧ (∃ (b16 o17 : Nat), (u_ba = some ⟨b16, o17, none⟩ ∧ (0 : Int) ≤ x7 ∧ x7 < ((u_bn : Nat) : Int)) ∧ (∃ (x18 : Int) (x19 : Int) (x20 : Int) (a21 : Option Addr) (n21 c21 : Nat), (Hp.row h6 b16 (o17 + x7.toNat * 4) 4 = some [(vi x18), (vi x19), (vi x20), (vsl a21 n21 c21)]) ∧ (CallOK Tryz.prog 37 [(vag [(vi x12), (vi x13), (vi x14), (vsl a15 n15 c15)]), (vag [(vi x18), (vi x19), (vi x20), (vsl a21 n21 c21)])] h6 fun v22 h23 => ∃ (p24 : Bool), v22 = (vb p24) ∧ (((!p24) = true → R (vb false) h23) ∧ ((!p24) = false → (∃ (x26 : Int), (IsW x26 (x7 + 1)) ∧ (I3 [(vi x26)] h23 ∧ m4 [(vi x26)] h23 < m4 vs5 h6)))))))))) ∧ ((decide ((x7 : Int) < ((u_an : Nat) : Int))) = false → R (vb true) h6)))))
theorem ok_R_SamePanes {u_aa : Option Addr} {u_an u_ac : Nat} {u_ba : Option Addr} {u_bn u_bc : Nat} {h : Hp} {R : Value → Hp → Prop} (H : VC_R_SamePanes u_aa u_an u_ac u_ba u_bn u_bc h R) : CallOK Tryz.prog 11 [(vsl u_aa u_an u_ac), (vsl u_ba u_bn u_bc)] h R :=
  call_of (cfg := ⟨[], [(4, ([5], [.one (.int .i64)], []))], [(6, [0, 1, 2, 3, 4, 5, 6, 7, 8, 9])]⟩) noNG mixed Tryz.func11 [.one (.v (vsl u_aa u_an u_ac)), .one (.v (vsl u_ba u_bn u_bc))] (by kernel_rfl) rfl (by kernel_rfl) H
end Go.Proofs.YtejefijpcggkfaaGreatDoor
namespace Go.Proofs.YtejefijpcggkfaaGreatDoor
open Go Go.Vc
set_option linter.unusedVariables false
section
variable {h : Hp} {R' : Value → Hp → Prop}
theorem R_SameValues_ok {l : List Vl} {a b : Option Addr} {c d : Nat} (S : SlP encV h a l.length l) (S2 : SlP encV h b l.length l) (hn : l.length ≤ 1000000) (hK : R' (vb true) h) : CallOK Tryz.prog 66 [vsl a l.length c, vsl b l.length d] h R' := by
  refine ok_R_SameValues ?_
  unfold VC_R_SameValues
  refine ⟨fun e => absurd rfl (of_decide_eq_true e), fun _ => ?_⟩
  refine ⟨fun vs hh => hh = h ∧ ∃ i : Nat, vs = [vi i] ∧ i ≤ l.length, fun vs hh => l.length - (vint vs 0).toNat, ⟨rfl, 0, rfl, Nat.zero_le _⟩, ?_⟩
  rintro vs hh ⟨rfl, i, rfl, hi⟩
  refine ⟨i, rfl, fun e => ?_, fun _ => hK⟩
  have hlt : i < l.length := by have := of_decide_eq_true e; omega
  have hx : l[i]? = some l[i] := List.getElem?_eq_getElem hlt
  obtain ⟨b1, o1, e1, r1⟩ := S.get (sz := 2) (fun _ => rfl) (by decide) hx
  obtain ⟨b2, o2, e2, r2⟩ := S2.get (sz := 2) (fun _ => rfl) (by decide) hx
  refine ⟨b1, o1, ⟨e1, by omega, by omega⟩, _, _, by rw [Int.toNat_natCast]; exact r1, b2, o2, ⟨e2, by omega, by omega⟩, _, _, by rw [Int.toNat_natCast]; exact r2, !decide (l[i] = l[i]), rd_neqV, fun e3 => (by simp at e3), fun _ => ⟨_, isW (by unfold InR; omega), ⟨rfl, i + 1, rfl, by omega⟩, by simp [vint]; omega⟩⟩
theorem R_SamePane_ok {k : PK} {l : List Vl} {a b : Option Addr} {c d : Nat} (S : SlP encV h a l.length l) (S2 : SlP encV h b l.length l) (hn : l.length ≤ 1000000) (hK : R' (vb true) h) : CallOK Tryz.prog 37 [vag (pkRw k (vsl a l.length c)), vag (pkRw k (vsl b l.length d))] h R' := by
  refine ok_R_SamePane ?_
  unfold VC_R_SamePane
  refine R_SameValues_ok S S2 hn ⟨_, rfl, decide (k.2 = k.2), fun _ => rd_eqV, ?_⟩
  rw [decide_eq_true (rfl : k.1 = k.1), decide_eq_true (rfl : k.2 = k.2)]
  exact hK
theorem R_SamePanes_ok {L : List (PK × List Vl)} {a b : Option Addr} {c d : Nat} (T : GTab encV pkRw h a L.length L) (T2 : GTab encV pkRw h b L.length L) (hn : L.length ≤ 1000000) (hl : ∀ x ∈ L, x.2.length ≤ 1000000) (hK : R' (vb true) h) : CallOK Tryz.prog 11 [vsl a L.length c, vsl b L.length d] h R' := by
  refine ok_R_SamePanes ?_
  unfold VC_R_SamePanes
  refine ⟨fun e => absurd rfl (of_decide_eq_true e), fun _ => ?_⟩
  refine ⟨fun vs hh => hh = h ∧ ∃ i : Nat, vs = [vi i] ∧ i ≤ L.length, fun vs hh => L.length - (vint vs 0).toNat, ⟨rfl, 0, rfl, Nat.zero_le _⟩, ?_⟩
  rintro vs hh ⟨rfl, i, rfl, hi⟩
  refine ⟨i, rfl, fun e => ?_, fun _ => hK⟩
  have hlt : i < L.length := by have := of_decide_eq_true e; omega
  have hx : L[i]? = some L[i] := List.getElem?_eq_getElem hlt
  have hm := hl _ (List.getElem_mem hlt)
  generalize L[i] = x at hx hm
  obtain ⟨k, l⟩ := x
  obtain ⟨b1, o1, a1, c1, e1, r1, S1⟩ := T.row pkRw_len (by decide) hx
  obtain ⟨b2, o2, a2, c2, e2, r2, S2⟩ := T2.row pkRw_len (by decide) hx
  refine ⟨b1, o1, ⟨e1, by omega, by omega⟩, _, _, _, _, _, _, by rw [Int.toNat_natCast]; exact r1, b2, o2, ⟨e2, by omega, by omega⟩, _, _, _, _, _, _, by rw [Int.toNat_natCast]; exact r2, R_SamePane_ok S1 S2 hm ⟨_, rfl, fun e3 => (by cases e3), fun _ => ⟨_, isW (by unfold InR; omega), ⟨rfl, i + 1, rfl, by omega⟩, by simp [vint]; omega⟩⟩⟩
end
theorem outV_len {q : Qy} {A : List Ad} (hA : ∀ x ∈ A, AdOK q x) (k : PK) : (outV (kindsQ q) (rowsOf A k)).length = q.aggs.length := by
  unfold outV
  rw [List.length_map, ← kindsQ_len]
  have := congrArg List.length (accsOf_kinds (rowsOf_ok hA k).1)
  rw [List.length_map] at this
  exact this
theorem ansQ_many {q : Qy} (B : QOk q) {ps : List (List EvL)} (hp : ps.length ≤ 5) (hl : ∀ p ∈ ps, p.length ≤ 100) (hE : ∀ p ∈ ps, ∀ e ∈ p, EvOK e) : (ansQ q ps).length ≤ 500000 ∧ ∀ x ∈ ansQ q ps, x.2.length ≤ 1000000 := by
  have h1 := addA_many B ps hl
  have h2 := keysU_many (addA q ps)
  have h3 := (keys_perm (addA q ps)).length_eq
  have h4 := B.n2
  constructor
  · unfold ansQ ansA
    rw [List.length_map]
    omega
  · intro x hx
    unfold ansQ ansA at hx
    obtain ⟨k, _, rfl⟩ := List.mem_map.1 hx
    simp only
    rw [outV_len (addA_ok B hE)]
    omega
end Go.Proofs.YtejefijpcggkfaaGreatDoor
namespace Go.Proofs.YtejefijpcggkfaaGreatDoor
open Go Go.Vc
set_option maxRecDepth 100000
set_option linter.unusedVariables false
def VC_source_Check (u_eTime : Int) (u_eKKind : Int) (u_eKN : Int) (u_eAKind : Int) (u_eAN : Int) (u_eBKind : Int) (u_eBN : Int) (h : Hp) (R : Value → Hp → Prop) : Prop :=
  (((bif (decide ((u_eTime : Int) < 0)) then true else (decide ((u_eTime : Int) > 9999))) = true → R (ifv (some (95, (vi 1)))) h) ∧ ((bif (decide ((u_eTime : Int) < 0)) then true else (decide ((u_eTime : Int) > 9999))) = false → (∀ (b2 : Nat), h b2 = none → let h3 : Hp := Hp.set h b2 (cellsO [(vi u_eKKind), (vi u_eKN), (vi u_eAKind), (vi u_eAN), (vi u_eBKind), (vi u_eBN)] 33); (∃ (I5 : List Value → Hp → Prop) (m6 : List Value → Hp → Nat), I5 [(vi 0)] h3 ∧ ∀ (vs7 : List Value) (h8 : Hp), I5 vs7 h8 → ∃ (x9 : Int), vs7 = [(vi x9)] ∧ (((decide ((x9 : Int) < ((3 : Nat) : Int))) = true → (∃ (b12 o13 : Nat), ((some (⟨b2, 0, none⟩ : Addr)) = some ⟨b12, o13, none⟩ ∧ (0 : Int) ≤ x9 ∧ x9 < ((3 : Nat) : Int)) ∧ (∃ (x14 : Int) (x15 : Int), (Hp.row h8 b12 (o13 + x9.toNat * 2) 2 = some [(vi x14), (vi x15)]) ∧ (CallOK Tryz.prog 77 [(vag [(vi x14), (vi x15)])] h8 fun v16 h17 => ∃ (e18 : Option (TypeId × Value)), v16 = (ifv e18) ∧ (((Option.isSome e18) = true → R (ifv e18) h17) ∧ ((Option.isSome e18) = false → (((decide ((x14 : Int) = 2)) = true → R (ifv (some (95, (vi 3)))) h17) ∧ ((decide ((x14 : Int) = 2)) = false → (((bif (decide ((x15 : Int) < (-1000))) then true else (decide ((x15 : Int) > 1000))) = true → R (ifv (some (95, (vi 1)))) h17) ∧ ((bif (decide ((x15 : Int) < (-1000))) then true else (decide ((x15 : Int) > 1000))) = false → (∃ (x22 : Int), (IsW x22 (x9 + 1)) ∧ (I5 [(vi x22)] h17 ∧ m6 [(vi x22)] h17 < m6 vs7 h8)))))))))))) ∧ ((decide ((x9 : Int) < ((3 : Nat) : Int))) = false → R (ifv none) h8))))))
theorem ok_source_Check {u_eTime : Int} {u_eKKind : Int} {u_eKN : Int} {u_eAKind : Int} {u_eAN : Int} {u_eBKind : Int} {u_eBN : Int} {h : Hp} {R : Value → Hp → Prop} (H : VC_source_Check u_eTime u_eKKind u_eKN u_eAKind u_eAN u_eBKind u_eBN h R) : CallOK Tryz.prog 46 [(vag [(vi u_eTime), (vi u_eKKind), (vi u_eKN), (vi u_eAKind), (vi u_eAN), (vi u_eBKind), (vi u_eBN)])] h R :=
  call_of (cfg := ⟨[], [(4, ([23], [.one (.int .i64)], []))], []⟩) noNG mixed Tryz.func46 [.ag [.v (vi u_eTime), .v (vi u_eKKind), .v (vi u_eKN), .v (vi u_eAKind), .v (vi u_eAN), .v (vi u_eBKind), .v (vi u_eBN)]] (by kernel_rfl) rfl (by kernel_rfl) H
end Go.Proofs.YtejefijpcggkfaaGreatDoor
namespace Go.Proofs.YtejefijpcggkfaaGreatDoor
open Go Go.Vc
set_option maxRecDepth 100000
set_option linter.unusedVariables false
end Go.Proofs.YtejefijpcggkfaaGreatDoor
namespace Go.Proofs.YtejefijpcggkfaaGreatDoor
open Go Go.Vc
set_option linter.unusedVariables false
set_option maxRecDepth 100000
end Go.Proofs.YtejefijpcggkfaaGreatDoor
namespace Go.Proofs.YtejefijpcggkfaaGreatDoor
open Go Go.Vc
set_option linter.unusedVariables false
set_option maxRecDepth 100000
abbrev EvT := TabAt encE 7 35 30
theorem source_Check_ok {e : EvL} {h : Hp} {R : Value → Hp → Prop} (hK : ∀ h', h.le h' → R (ifv (errV (chkE e))) h') : CallOK Tryz.prog 46 [vag (encE e)] h R := by
  refine ok_source_Check ?_
  unfold VC_source_Check
  refine ⟨fun q => ?_, fun q => ?_⟩
  · have : chkE e = 1 := by unfold chkE; rw [if_pos (by simp [Bool.cond_eq_ite] at q; omega)]
    rw [this] at hK; exact hK h (Hp.le_refl h)
  have e1 : chkE e = chkL [e.2.1, e.2.2.1, e.2.2.2] := by unfold chkE; rw [if_neg (by simp [Bool.cond_eq_ite] at q; omega)]
  rw [e1] at hK
  clear e1 q
  intro b2 hb2 h3
  have l3 : h.le h3 := Hp.le_set (Hp.le_refl h) hb2 _
  have S : SlP encV h3 (some ⟨b2, 0, none⟩) 3 [e.2.1, e.2.2.1, e.2.2.2] := ⟨rfl, HasRow.new _ _ [vi e.2.1.1, vi e.2.1.2, vi e.2.2.1.1, vi e.2.2.1.2, vi e.2.2.2.1, vi e.2.2.2.2] _⟩
  clear_value h3
  have hl : [e.2.1, e.2.2.1, e.2.2.2].length = 3 := rfl
  generalize [e.2.1, e.2.2.1, e.2.2.2] = l at *
  refine ⟨fun vs hh => hh = h3 ∧ ∃ i : Nat, vs = [vi i] ∧ i ≤ 3 ∧ chkL l = chkL (l.drop i), fun vs hh => 3 - (vint vs 0).toNat, ⟨rfl, 0, rfl, by decide, rfl⟩, ?_⟩
  rintro vs hh ⟨rfl, i, rfl, hi, hc⟩
  refine ⟨i, rfl, fun q => ?_, fun q => ?_⟩
  · have hlt : i < 3 := by have := of_decide_eq_true q; omega
    have hx : l[i]? = some (l[i]'(by omega)) := List.getElem?_eq_getElem (by omega)
    rw [drop_get (by omega : i < l.length), chkL] at hc
    obtain ⟨b, o, ha, hr⟩ := S.get encV_len (by decide) hx
    generalize l[i]'(by omega) = v at *
    have A : (some ⟨b2, 0, none⟩ : Option Addr) = some ⟨b, o, none⟩ ∧ (0 : Int) ≤ i ∧ (i : Int) < (3 : Nat) := ⟨ha, by omega, by omega⟩
    refine ⟨b, o, A, _, _, hr, value_Check_ok (v := v) ⟨_, rfl, fun q2 => ?_, fun q2 => ⟨fun q3 => ?_, fun q3 => ⟨fun q4 => ?_, fun q4 => ?_⟩⟩⟩⟩
    · rw [errV_some] at q2
      have hg : ¬ goodV v := fun hg => by simp [hg] at q2
      have : chkV v = 3 := by unfold chkV; rw [if_pos (.inl hg)]
      rw [this, if_neg (by decide)] at hc
      rw [if_neg hg]
      rw [hc] at hK; exact hK hh l3
    · have : chkV v = 3 := by unfold chkV; rw [if_pos (.inr (of_decide_eq_true q3))]
      rw [this, if_neg (by decide)] at hc
      rw [hc] at hK; exact hK hh l3
    · rw [errV_some] at q2
      have hg : goodV v := by
        by_cases hg : goodV v
        · exact hg
        · simp [hg] at q2
      have h2 : ¬ v.1 = 2 := of_decide_eq_false q3
      have : chkV v = 1 := by unfold chkV; rw [if_neg (by simp [hg, h2]), if_pos (by simp [Bool.cond_eq_ite] at q4; omega)]
      rw [this, if_neg (by decide)] at hc
      rw [hc] at hK; exact hK hh l3
    · rw [errV_some] at q2
      have hg : goodV v := by
        by_cases hg : goodV v
        · exact hg
        · simp [hg] at q2
      have h2 : ¬ v.1 = 2 := of_decide_eq_false q3
      have : chkV v = 0 := by unfold chkV; rw [if_neg (by simp [hg, h2]), if_neg (by simp [Bool.cond_eq_ite] at q4; omega)]
      rw [this, if_pos rfl] at hc
      exact ⟨_, isW (by unfold InR; omega), ⟨rfl, i + 1, rfl, by omega, hc⟩, by simp [vint]; omega⟩
  · have hge : i = 3 := by have := of_decide_eq_false q; omega
    subst hge
    rw [List.drop_eq_nil_of_le (by omega)] at hc
    rw [hc] at hK; exact hK hh l3
section
variable {h : Hp} {F : Nat → Prop} {g : Nat} {L : List (List EvL)}
def putE (L : List (List EvL)) (p : Int) (e : EvL) : List (List EvL) × Int :=
  if p < 0 ∨ p ≥ L.length then (L, 5) else if chkE e ≠ 0 then (L, chkE e) else if (L.getD p.toNat []).length = 40 then (L, 6) else (L.set p.toNat (L.getD p.toNat [] ++ [e]), 0)
def getE (L : List (List EvL)) (p n : Int) : EvL × Bool :=
  if p < 0 ∨ p ≥ L.length ∨ n < 0 ∨ n ≥ (L.getD p.toNat []).length then ((0, (0, 0), (0, 0), (0, 0)), false) else ((L.getD p.toNat []).getD n.toNat (0, (0, 0), (0, 0), (0, 0)), true)
end
end Go.Proofs.YtejefijpcggkfaaGreatDoor
namespace Go.Proofs.YtejefijpcggkfaaGreatDoor
open Go Go.Vc
set_option maxRecDepth 100000
set_option linter.unusedVariables false
end Go.Proofs.YtejefijpcggkfaaGreatDoor
namespace Go.Proofs.YtejefijpcggkfaaGreatDoor
open Go Go.Vc Go.Txt
set_option linter.unusedVariables false
section
variable {q : Qy} {a1 : Option Addr} {n1 c1 : Nat} {a2 : Option Addr} {n2 c2 : Nat} {a3 : Option Addr} {n3 c3 : Nat} {h : Hp} {R : Value → Hp → Prop}
end
structure PN where
  k : PK
  b : Nat
  t : Nat
  cs : List (List Vl)
  told : Bool
abbrev TabV := TabAt encV 2 33 49
def pnCells (x : PN) : List Value := [vi x.k.1, vi x.k.2.1, vi x.k.2.2, vsl (some ⟨x.t, 0, none⟩) x.cs.length x.cs.length, vb x.told]
def paneH (x : PN) (h : Hp) (F : Nat → Prop) : Prop := h x.b = some (cellsO (pnCells x) 118) ∧ ∃ G, TabV h G x.t x.cs ∧ ¬ G x.b ∧ F = fun b => b = x.b ∨ G b
theorem paneH_fp (x : PN) : Fp (paneH x) where
  al := by
    rintro h F ⟨h1, G, D, hd, rfl⟩ b (rfl | hb)
    · rw [h1]; simp
    · exact D.al b hb
  keep := by
    rintro h h' F ⟨h1, G, D, hd, rfl⟩ hk
    exact ⟨hk x.b (.inl rfl) _ h1, G, D.keep fun b hb => hk b (.inr hb), hd, rfl⟩
structure PanR (h0 h : Hp) (a : Option Addr) (c : Nat) (R : List PN) : Prop where
  v : OwnV h0 h 77 1 a R.length c (R.map fun r => vhp r.b 0)
  i : ∃ F, EachP paneH R h F ∧ (∀ b, F b → h0 b = none) ∧ ∀ b, F b → a ≠ some ⟨b, 0, none⟩
section
variable {h0 h : Hp} {a : Option Addr} {c : Nat} {R : List PN}
theorem PanR.le0 (N : PanR h0 h a c R) : h0.le h := N.v.le
theorem PanR.le (N : PanR h0 h a c R) {h' : Hp} (l : h.le h') : PanR h0 h' a c R := by
  obtain ⟨F, E, n1, n2⟩ := N.i
  exact ⟨N.v.mono l, F, (EachP.fp paneH_fp R).keep E fun b _ o ho => l b o ho, n1, n2⟩
end
end Go.Proofs.YtejefijpcggkfaaGreatDoor
namespace Go.Proofs.YtejefijpcggkfaaGreatDoor
open Go Go.Vc Go.Txt
set_option linter.unusedVariables false
set_option maxRecDepth 100000
section
variable {q : Qy} {a1 : Option Addr} {n1 c1 : Nat} {a2 : Option Addr} {n2 c2 : Nat} {a3 : Option Addr} {n3 c3 : Nat} {h0 h : Hp} {a : Option Addr} {c : Nat} {R : List PN} {R' : Value → Hp → Prop}
end
end Go.Proofs.YtejefijpcggkfaaGreatDoor
namespace Go.Proofs.YtejefijpcggkfaaGreatDoor
open Go Go.Vc Go.Txt
set_option linter.unusedVariables false
set_option maxRecDepth 100000
def ptrV (r : PN) : Value := vhp r.b 0
section
variable {h0 h : Hp} {a : Option Addr} {c : Nat} {R : List PN} {R' : Value → Hp → Prop}
end
end Go.Proofs.YtejefijpcggkfaaGreatDoor
namespace Go.Proofs.YtejefijpcggkfaaGreatDoor
open Go Go.Vc Go.Txt
set_option linter.unusedVariables false
set_option maxRecDepth 100000
theorem PanR.base {h0 h h1 : Hp} {a : Option Addr} {c : Nat} {R : List PN} (N : PanR h0 h a c R) (l : h1.le h0) : PanR h1 h a c R := by
  obtain ⟨F, E, n1, n2⟩ := N.i
  exact ⟨OwnV.trans l N.v, F, E, fun b hb => Hp.none_of_le l (n1 b hb), n2⟩
end Go.Proofs.YtejefijpcggkfaaGreatDoor
namespace Go.Proofs.YtejefijpcggkfaaGreatDoor
open Go Go.Vc Go.Txt
set_option linter.unusedVariables false
set_option maxRecDepth 100000
def StR (n : Nat) (A : List Ad) (R : List PN) : Prop := R.map (·.k) = keysS A ∧ ∀ r ∈ R, r.cs = colsOf n (rowsOf A r.k) ∧ r.told = false
theorem StR.new {n : Nat} {A : List Ad} {R : List PN} (H : StR n A R) {j : Nat} {x : PN} (hj : j ≤ R.length) (hxc : x.cs = List.replicate n []) (hxt : x.told = false) (v : List Vl) (hk : insK x.k (R.map (·.k)) = (R.take j ++ x :: R.drop j).map (·.k)) : StR n (A ++ [(x.k, v)]) ((R.take j ++ x :: R.drop j).set j { x with cs := colP x.cs v }) := by
  obtain ⟨h1, h2⟩ := H
  have htl : (R.take j).length = j := by rw [List.length_take]; omega
  have hset : (R.take j ++ x :: R.drop j).set j { x with cs := colP x.cs v } = R.take j ++ { x with cs := colP x.cs v } :: R.drop j := by
    rw [List.set_append_right _ _ (by omega), htl, Nat.sub_self, List.set_cons_zero]
  rw [hset]
  have hnd : ((R.take j ++ x :: R.drop j).map (·.k)).Nodup := by
    rw [← hk, h1]
    exact sorted_nodup (insK_sorted _ (keysS_sorted A))
  have hkn : ∀ r ∈ R, r.k ≠ x.k := by
    intro r hr e
    have p := (List.perm_middle (a := x) (l₁ := R.take j) (l₂ := R.drop j)).map (·.k)
    have nd2 := (p.nodup_iff).1 hnd
    rw [List.take_append_drop, List.map_cons] at nd2
    exact (List.nodup_cons.1 nd2).1 (List.mem_map.2 ⟨r, hr, e⟩)
  constructor
  · rw [keysS_snoc, ← h1, hk, List.map_append, List.map_append, List.map_cons, List.map_cons]
  · intro r2 hr2
    rcases List.mem_append.1 hr2 with h3 | h3
    · have hm := List.mem_of_mem_take h3
      obtain ⟨q1, q2⟩ := h2 r2 hm
      rw [rowsOf_snoc, if_neg (fun q => hkn r2 hm q.symm), List.append_nil]
      exact ⟨q1, q2⟩
    · rcases List.mem_cons.1 h3 with rfl | h3
      · simp only
        have h0 : rowsOf A x.k = [] := rowsOf_new fun hm => by
          rw [keysU_mem, ← keysS_mem, ← h1] at hm
          obtain ⟨r, hr, e⟩ := List.mem_map.1 hm
          exact hkn r hr e
        rw [rowsOf_snoc, if_pos rfl, h0, hxc]
        exact ⟨rfl, hxt⟩
      · have hm := List.mem_of_mem_drop h3
        obtain ⟨q1, q2⟩ := h2 r2 hm
        rw [rowsOf_snoc, if_neg (fun q => hkn r2 hm q.symm), List.append_nil]
        exact ⟨q1, q2⟩
theorem StR.len {n : Nat} {A : List Ad} {R : List PN} (H : StR n A R) : R.length ≤ A.length := by
  have h1 := congrArg List.length H.1
  rw [List.length_map, (keys_perm A).length_eq] at h1
  have := keysU_many A
  omega
end Go.Proofs.YtejefijpcggkfaaGreatDoor
namespace Go.Proofs.YtejefijpcggkfaaGreatDoor
open Go Go.Vc Go.Txt
set_option linter.unusedVariables false
set_option maxRecDepth 100000
end Go.Proofs.YtejefijpcggkfaaGreatDoor
namespace Go.Proofs.YtejefijpcggkfaaGreatDoor
open Go Go.Vc
set_option linter.unusedVariables false
def GEq (k : Int) (s s' : Int × Int × Int) : Prop := s.1 = s'.1 ∧ s.2.1 = s'.2.1 ∧ ((k = 4 ∨ k = 5) → s.2.2 = s'.2.2)
theorem GEq.refl (k : Int) (s : Int × Int × Int) : GEq k s s := ⟨rfl, rfl, fun _ => rfl⟩
theorem GEq.trans {k : Int} {a b c : Int × Int × Int} (h : GEq k a b) (h2 : GEq k b c) : GEq k a c := ⟨h.1.trans h2.1, h.2.1.trans h2.2.1, fun q => (h.2.2 q).trans (h2.2.2 q)⟩
theorem GEq.step {k : Int} {s s' : Int × Int × Int} (h : GEq k s s') (v : Int × Int) : GEq k (gStep k s v) (gStep k s' v) := by
  obtain ⟨h1, h2, h3⟩ := h
  unfold gStep
  split
  · exact ⟨h1, h2, h3⟩
  · refine ⟨by simp only; omega, by simp only; omega, fun q => ?_⟩
    simp only
    rw [h1, h3 q]
theorem gStep_le {k : Int} {s : Int × Int × Int} (h : 0 ≤ s.1) (v : Int × Int) : 0 ≤ (gStep k s v).1 := by
  unfold gStep
  split
  · exact h
  · simp only; omega
theorem gStep_swap {k : Int} {s : Int × Int × Int} (h : 0 ≤ s.1) (u v : Int × Int) : GEq k (gStep k (gStep k s u) v) (gStep k (gStep k s v) u) := by
  unfold gStep
  by_cases hu : k ≠ 1 ∧ u.1 = 0
  · by_cases hv : k ≠ 1 ∧ v.1 = 0
    · simp only [if_pos hu, if_pos hv]; exact .refl _ _
    · simp only [if_pos hu, if_neg hv]; exact .refl _ _
  · by_cases hv : k ≠ 1 ∧ v.1 = 0
    · simp only [if_neg hu, if_pos hv]; exact .refl _ _
    · simp only [if_neg hu, if_neg hv]
      refine ⟨rfl, by simp only; omega, fun q => ?_⟩
      simp only
      rcases q with rfl | rfl
      · repeat' split
        all_goals omega
      · repeat' split
        all_goals omega
theorem gfold_perm {k : Int} {l l' : List Vl} (p : l.Perm l') : ∀ {s s' : Int × Int × Int}, 0 ≤ s.1 → GEq k s s' → GEq k (l.foldl (gStep k) s) (l'.foldl (gStep k) s') := by
  induction p with
  | nil => intro s s' _ h; exact h
  | cons x _ ih => intro s s' h0 h; exact ih (gStep_le h0 x) (h.step x)
  | swap x y l =>
    intro s s' h0 h
    have e := (gStep_swap (k := k) h0 y x).trans ((h.step x).step y)
    rw [List.foldl_cons, List.foldl_cons, List.foldl_cons, List.foldl_cons]
    generalize gStep k (gStep k s y) x = a at e ⊢
    generalize gStep k (gStep k s' x) y = b at e ⊢
    clear h h0
    induction l generalizing a b with
    | nil => exact e
    | cons z l ih => exact ih _ _ (e.step z)
  | trans _ _ ih1 ih2 =>
    intro s s' h0 h
    exact (ih1 h0 h).trans (ih2 (by rw [← h.1]; exact h0) (.refl _ _))
theorem gVal_eq {k : Int} (h1 : 1 ≤ k) (h5 : k ≤ 5) {s s' : Int × Int × Int} (h : GEq k s s') : gVal k s = gVal k s' := by
  obtain ⟨e1, e2, e3⟩ := h
  unfold gVal
  rw [e1, e2]
  split
  · rfl
  · split
    · rfl
    · split
      · rfl
      · rw [e3 (by omega)]
theorem accsOf_at (ks : List Int) {rs : List (List Vl)} (h : ∀ r ∈ rs, r.length = ks.length) (i : Nat) : (accsOf ks rs)[i]? = (ks[i]?).map fun k => (k, (rs.filterMap fun r => r[i]?).foldl (gStep k) (0, 0, 0)) := by
  induction rs using snocInd with
  | h0 => show (acc0 ks)[i]? = _; unfold acc0; rw [List.getElem?_map]; rfl
  | h1 rs r ih =>
    have h2 := ih fun x hx => h x (List.mem_append_left _ hx)
    have hr := h r (by simp)
    rw [accsOf_snoc]
    unfold accP
    rw [List.getElem?_zipWith, h2]
    cases hk : ks[i]? with
    | none => rfl
    | some k =>
      have hi := (List.getElem?_eq_some_iff.1 hk).1
      have hv : r[i]? = some r[i] := List.getElem?_eq_getElem (by omega)
      rw [hv]
      simp only [Option.map_some, List.filterMap_append, List.filterMap_cons, hv, List.filterMap_nil, List.foldl_append, List.foldl_cons, List.foldl_nil]
theorem outV_perm {ks : List Int} (hk : ∀ k ∈ ks, 1 ≤ k ∧ k ≤ 5) {rs rs' : List (List Vl)} (p : rs.Perm rs') (h : ∀ r ∈ rs, r.length = ks.length) : outV ks rs = outV ks rs' := by
  unfold outV
  refine List.ext_getElem? fun i => ?_
  rw [List.getElem?_map, List.getElem?_map, accsOf_at ks h, accsOf_at ks fun r hr => h r (p.mem_iff.2 hr)]
  cases hki : ks[i]? with
  | none => rfl
  | some k =>
    obtain ⟨h1, h5⟩ := hk k (List.mem_of_getElem? hki)
    simp only [Option.map_some]
    congr 1
    exact gVal_eq h1 h5 (gfold_perm (p.filterMap _) (by decide) (.refl _ _))
theorem sorted_ext {l l' : List PK} (h : l.Pairwise aheadK) (h' : l'.Pairwise aheadK) (e : ∀ k, k ∈ l ↔ k ∈ l') : l = l' := by
  have p := (List.perm_ext_iff_of_nodup (sorted_nodup h) (sorted_nodup h')).2 e
  exact p.eq_of_pairwise (fun a b _ _ h1 h2 => absurd (aheadK_trans h1 h2) (aheadK_irr a)) h h'
theorem rowsOf_perm {A A' : List Ad} (p : A.Perm A') (k : PK) : (rowsOf A k).Perm (rowsOf A' k) := (p.filter _).map _
theorem rowsOf_len {n : Nat} {A : List Ad} (h : ∀ a ∈ A, a.2.length = n) (k : PK) : ∀ r ∈ rowsOf A k, r.length = n := by
  intro r hr
  unfold rowsOf at hr
  obtain ⟨a, ha, rfl⟩ := List.mem_map.1 hr
  exact h a (List.mem_filter.1 ha).1
theorem keysS_perm {A A' : List Ad} (p : A.Perm A') : keysS A = keysS A' := sorted_ext (keysS_sorted A) (keysS_sorted A') fun k => by
  rw [keysS_mem, keysS_mem]
  constructor
  · rintro ⟨a, ha, e⟩; exact ⟨a, p.mem_iff.1 ha, e⟩
  · rintro ⟨a, ha, e⟩; exact ⟨a, p.mem_iff.2 ha, e⟩
theorem kinds_ok {q : Qy} (B : ∀ a ∈ q.aggs, 1 ≤ a.1 ∧ a.1 ≤ 5) : ∀ k ∈ kindsQ q, 1 ≤ k ∧ k ≤ 5 := by
  intro k hk
  unfold kindsQ at hk
  obtain ⟨a, ha, rfl⟩ := List.mem_map.1 hk
  exact B a ha
theorem ansA_perm {q : Qy} (B : ∀ a ∈ q.aggs, 1 ≤ a.1 ∧ a.1 ≤ 5) {A A' : List Ad} (p : A.Perm A') (h : ∀ a ∈ A, a.2.length = q.aggs.length) : ansA q A = ansA q A' := by
  unfold ansA
  rw [keysS_perm p]
  refine List.map_congr_left fun k hk => ?_
  rw [outV_perm (kinds_ok B) (rowsOf_perm p k) (fun r hr => by rw [rowsOf_len h k r hr]; unfold kindsQ; rw [List.length_map])]
theorem addE_len {q : Qy} {far : Int} {e : EvL} : ∀ a ∈ addE q far e, a.2.length = q.aggs.length := by
  intro a ha
  unfold addE at ha
  split at ha
  · exact addS_len a ha
  · cases ha
theorem addP_len {q : Qy} : ∀ {l : List EvL} {far : Int}, ∀ a ∈ addP q far l, a.2.length = q.aggs.length
  | [], far, a, ha => by cases ha
  | e :: l, far, a, ha => by
    rw [addP] at ha
    rcases List.mem_append.1 ha with h | h
    · exact addE_len a h
    · exact addP_len a h
theorem addA_len {q : Qy} {ps : List (List EvL)} : ∀ a ∈ addA q ps, a.2.length = q.aggs.length := by
  intro a ha
  unfold addA at ha
  obtain ⟨p, _, h⟩ := List.mem_flatMap.1 ha
  exact addP_len a h
theorem ansQ_perm {q : Qy} (B : ∀ a ∈ q.aggs, 1 ≤ a.1 ∧ a.1 ≤ 5) {ps ps' : List (List EvL)} (p : ps.Perm ps') : ansQ q ps = ansQ q ps' := ansA_perm B (p.flatMap_right _) addA_len
theorem lateA_perm {q : Qy} {ps ps' : List (List EvL)} (p : ps.Perm ps') : lateA q ps = lateA q ps' := by
  unfold lateA
  induction p with
  | nil => rfl
  | cons x _ ih => simp only [List.map_cons, List.sum_cons, ih]
  | swap x y l => simp only [List.map_cons, List.sum_cons]; omega
  | trans _ _ ih1 ih2 => exact ih1.trans ih2
theorem lateA_one {q : Qy} (p : List EvL) : lateA q [p] = lateP q (-1) p := by simp [lateA]
def known (q : Qy) (far : Int) (k : PK) : Bool := decide (k.1 + (q.size + q.late) ≤ far - q.delay)
end Go.Proofs.YtejefijpcggkfaaGreatDoor
namespace Go.Proofs.YtejefijpcggkfaaGreatDoor
open Go Go.Vc
set_option maxRecDepth 100000
set_option linter.unusedVariables false
def VC_top_light (u_partsa : Option Addr) (u_partsn u_partsc : Nat) (h : Hp) (R : Value → Hp → Prop) : Prop :=
  (((decide ((((u_partsn : Nat) : Int) : Int) > 3)) = true → R (vb false) h) ∧ ((decide ((((u_partsn : Nat) : Int) : Int) > 3)) = false → (∃ (I3 : List Value → Hp → Prop) (m4 : List Value → Hp → Nat), I3 [(vi 0)] h ∧ ∀ (vs5 : List Value) (h6 : Hp), I3 vs5 h6 → ∃ (x7 : Int), vs5 = [(vi x7)] ∧ (((decide ((x7 : Int) < ((u_partsn : Nat) : Int))) = true → (∃ (b10 o11 : Nat), (u_partsa = some ⟨b10, o11, none⟩ ∧ (0 : Int) ≤ x7 ∧ x7 < ((u_partsn : Nat) : Int)) ∧ (∃ (a12 : Option Addr) (n12 c12 : Nat), (Hp.cell h6 b10 (o11 + x7.toNat * 1) = some (vsl a12 n12 c12)) ∧ (((decide ((((n12 : Nat) : Int) : Int) > 40)) = true → R (vb false) h6) ∧ ((decide ((((n12 : Nat) : Int) : Int) > 40)) = false → (∃ (I15 : List Value → Hp → Prop) (m16 : List Value → Hp → Nat), I15 [(vi 0)] h6 ∧ ∀ (vs17 : List Value) (h18 : Hp), I15 vs17 h18 → ∃ (x19 : Int), vs17 = [(vi x19)] ∧ (∃ (b20 o21 : Nat), (u_partsa = some ⟨b20, o21, none⟩ ∧ (0 : Int) ≤ x7 ∧ x7 < ((u_partsn : Nat) : Int)) ∧ (∃ (a22 : Option Addr) (n22 c22 : Nat), (Hp.cell h18 b20 (o21 + x7.toNat * 1) = some (vsl a22 n22 c22)) ∧ (((decide ((x19 : Int) < ((n22 : Nat) : Int))) = true → (∃ (b25 o26 : Nat), (u_partsa = some ⟨b25, o26, none⟩ ∧ (0 : Int) ≤ x7 ∧ x7 < ((u_partsn : Nat) : Int)) ∧ (∃ (a27 : Option Addr) (n27 c27 : Nat), (Hp.cell h18 b25 (o26 + x7.toNat * 1) = some (vsl a27 n27 c27)) ∧ (∃ (b28 o29 : Nat), (a27 = some ⟨b28, o29, none⟩ ∧ (0 : Int) ≤ x19 ∧ x19 < ((n27 : Nat) : Int)) ∧ (∃ (x30 : Int) (x31 : Int) (x32 : Int) (x33 : Int) (x34 : Int) (x35 : Int) (x36 : Int), (Hp.row h18 b28 (o29 + x19.toNat * 7) 7 = some [(vi x30), (vi x31), (vi x32), (vi x33), (vi x34), (vi x35), (vi x36)]) ∧ (CallOK Tryz.prog 46 [(vag [(vi x30), (vi x31), (vi x32), (vi x33), (vi x34), (vi x35), (vi x36)])] h18 fun v37 h38 => ∃ (e39 : Option (TypeId × Value)), v37 = (ifv e39) ∧ (((Option.isSome e39) = true → R (vb false) h38) ∧ ((Option.isSome e39) = false → (∃ (x41 : Int), (IsW x41 (x19 + 1)) ∧ (I15 [(vi x41)] h38 ∧ m16 [(vi x41)] h38 < m16 vs17 h18)))))))))) ∧ ((decide ((x19 : Int) < ((n22 : Nat) : Int))) = false → (∃ (x42 : Int), (IsW x42 (x7 + 1)) ∧ (I3 [(vi x42)] h18 ∧ m4 [(vi x42)] h18 < m4 vs5 h6)))))))))))) ∧ ((decide ((x7 : Int) < ((u_partsn : Nat) : Int))) = false → R (vb true) h6)))))
theorem ok_top_light {u_partsa : Option Addr} {u_partsn u_partsc : Nat} {h : Hp} {R : Value → Hp → Prop} (H : VC_top_light u_partsa u_partsn u_partsc h R) : CallOK Tryz.prog 14 [(vsl u_partsa u_partsn u_partsc)] h R :=
  call_of (cfg := ⟨[], [(9, ([4], [.one (.int .i64)], [])), (4, ([3], [.one (.int .i64)], []))], []⟩) noNG mixed Tryz.func14 [.one (.v (vsl u_partsa u_partsn u_partsc))] (by kernel_rfl) rfl (by kernel_rfl) H
def VC_top_turned (u_la : Option Addr) (u_ln u_lc : Nat) (h : Hp) (R : Value → Hp → Prop) : Prop :=
  (∃ (x1 : Int), (IsW x1 (((u_ln : Nat) : Int) - 1)) ∧ (∃ (I3 : List Value → Hp → Prop) (m4 : List Value → Hp → Nat), I3 [(vsl none 0 0), (vi x1)] h ∧ ∀ (vs5 : List Value) (h6 : Hp), I3 vs5 h6 → ∃ (a7 : Option Addr) (n7 c7 : Nat) (x8 : Int), vs5 = [(vsl a7 n7 c7), (vi x8)] ∧ (((decide ((x8 : Int) ≥ 0)) = true → (∃ (b11 o12 : Nat), (u_la = some ⟨b11, o12, none⟩ ∧ (0 : Int) ≤ x8 ∧ x8 < ((u_ln : Nat) : Int)) ∧ (∃ (a13 : Option Addr) (n13 c13 : Nat), (Hp.cell h6 b11 (o12 + x8.toNat * 1) = some (vsl a13 n13 c13)) ∧ (∀ (b14 : Nat), h6 b14 = none → let h15 : Hp := Hp.set h6 b14 (cellsO [(vsl a13 n13 c13)] 30); (SemOK Tryz.prog (Builtin.append_ #[22, 22] 22 #[(vsl a7 n7 c7), (vsl (some (⟨b14, 0, none⟩ : Addr)) 1 1)]) h15 fun v16 h17 => ∃ (a18 : Option Addr) (n18 c18 : Nat), v16 = (vsl a18 n18 c18) ∧ (∃ (x20 : Int), (IsW x20 (x8 - 1)) ∧ (I3 [(vsl a18 n18 c18), (vi x20)] h17 ∧ m4 [(vsl a18 n18 c18), (vi x20)] h17 < m4 vs5 h6))))))) ∧ ((decide ((x8 : Int) ≥ 0)) = false → R (vsl a7 n7 c7) h6))))
theorem ok_top_turned {u_la : Option Addr} {u_ln u_lc : Nat} {h : Hp} {R : Value → Hp → Prop} (H : VC_top_turned u_la u_ln u_lc h R) : CallOK Tryz.prog 15 [(vsl u_la u_ln u_lc)] h R :=
  call_of (cfg := ⟨[], [(3, ([3, 4], [.one (.slice), .one (.int .i64)], []))], []⟩) noNG mixed Tryz.func15 [.one (.v (vsl u_la u_ln u_lc))] (by kernel_rfl) rfl (by kernel_rfl) H
def VC_top_TopParts (u_s : ByteArray) (u_partsa : Option Addr) (u_partsn u_partsc : Nat) (h : Hp) (R : Value → Hp → Prop) : Prop :=
  (CallOK Tryz.prog 12 [(vs ⟨#[115, 101, 108, 101, 99, 116, 32, 99, 111, 117, 110, 116, 40, 42, 41, 32, 102, 114, 111, 109, 32, 101, 118, 101, 110, 116, 115, 32, 119, 105, 110, 100, 111, 119, 32, 55]⟩)] h fun v1 h2 => ∃ (a3 : Option Addr) (n3 c3 : Nat) (a4 : Option Addr) (n4 c4 : Nat) (a5 : Option Addr) (n5 c5 : Nat) (x6 : Int) (x7 : Int) (x8 : Int) (x9 : Int) (e10 : Option (TypeId × Value)), v1 = (vtup [(vag [(vsl a3 n3 c3), (vsl a4 n4 c4), (vsl a5 n5 c5), (vi x6), (vi x7), (vi x8), (vi x9)]), (ifv e10)]) ∧ (((Option.isSome e10) = true → R (vb false) h2) ∧ ((Option.isSome e10) = false → (CallOK Tryz.prog 9 [(vag [(vsl a3 n3 c3), (vsl a4 n4 c4), (vsl a5 n5 c5), (vi x6), (vi x7), (vi x8), (vi x9)]), (vsl none 0 0)] h2 fun v12 h13 => ∃ (a14 : Option Addr) (n14 c14 : Nat) (x15 : Int), v12 = (vtup [(vsl a14 n14 c14), (vi x15)]) ∧ (∀ (b16 : Nat), h13 b16 = none → let h17 : Hp := Hp.set h13 b16 (cellsO [(vi 3), (vi 0), (vi 0), (vi 0), (vi 0), (vi 0), (vi 0)] 35); (∀ (b18 : Nat), h17 b18 = none → let h19 : Hp := Hp.set h17 b18 (cellsO [(vsl (some (⟨b16, 0, none⟩ : Addr)) 1 1)] 30); (CallOK Tryz.prog 9 [(vag [(vsl a3 n3 c3), (vsl a4 n4 c4), (vsl a5 n5 c5), (vi x6), (vi x7), (vi x8), (vi x9)]), (vsl (some (⟨b18, 0, none⟩ : Addr)) 1 1)] h19 fun v20 h21 => ∃ (a22 : Option Addr) (n22 c22 : Nat) (x23 : Int), v20 = (vtup [(vsl a22 n22 c22), (vi x23)]) ∧ (((bif (bif (decide ((((n14 : Nat) : Int) : Int) ≠ 0)) then true else (decide ((x15 : Int) ≠ 0))) then true else (decide ((((n22 : Nat) : Int) : Int) ≠ 1))) = true → R (vb false) h21) ∧ ((bif (bif (decide ((((n14 : Nat) : Int) : Int) ≠ 0)) then true else (decide ((x15 : Int) ≠ 0))) then true else (decide ((((n22 : Nat) : Int) : Int) ≠ 1))) = false → (CallOK Tryz.prog 13 [(vs u_s)] h21 fun v25 h26 => ∃ (a27 : Option Addr) (n27 c27 : Nat) (a28 : Option Addr) (n28 c28 : Nat) (a29 : Option Addr) (n29 c29 : Nat) (x30 : Int) (x31 : Int) (x32 : Int) (x33 : Int) (p34 : Bool), v25 = (vtup [(vag [(vsl a27 n27 c27), (vsl a28 n28 c28), (vsl a29 n29 c29), (vi x30), (vi x31), (vi x32), (vi x33)]), (vb p34)]) ∧ (∃ (J35 : SV → Hp → Prop), ((!p34) = false → (CallOK Tryz.prog 14 [(vsl u_partsa u_partsn u_partsc)] h26 fun v36 h37 => ∃ (p38 : Bool), v36 = (vb p38) ∧ J35 (.t (.one (.v (vb p38)))) h37)) ∧ (¬ ((!p34) = false) → J35 (.t (.one (.v (vb false)))) h26) ∧ ∀ (h39 : Hp) (p40 : Bool), J35 (.t (.one (.v (vb p40)))) h39 → (((bif (!p34) then true else (!p40)) = true → R (vb true) h39) ∧ ((bif (!p34) then true else (!p40)) = false → (CallOK Tryz.prog 9 [(vag [(vsl a27 n27 c27), (vsl a28 n28 c28), (vsl a29 n29 c29), (vi x30), (vi x31), (vi x32), (vi x33)]), (vsl u_partsa u_partsn u_partsc)] h39 fun v42 h43 => ∃ (a44 : Option Addr) (n44 c44 : Nat) (x45 : Int), v42 = (vtup [(vsl a44 n44 c44), (vi x45)]) ∧ (CallOK Tryz.prog 15 [(vsl u_partsa u_partsn u_partsc)] h43 fun v46 h47 => ∃ (a48 : Option Addr) (n48 c48 : Nat), v46 = (vsl a48 n48 c48) ∧ (CallOK Tryz.prog 9 [(vag [(vsl a27 n27 c27), (vsl a28 n28 c28), (vsl a29 n29 c29), (vi x30), (vi x31), (vi x32), (vi x33)]), (vsl a48 n48 c48)] h47 fun v49 h50 => ∃ (a51 : Option Addr) (n51 c51 : Nat) (x52 : Int), v49 = (vtup [(vsl a51 n51 c51), (vi x52)]) ∧ (∃ (J53 : SV → Hp → Prop), ((decide ((x45 : Int) ≠ x52)) = false → (CallOK Tryz.prog 11 [(vsl a44 n44 c44), (vsl a51 n51 c51)] h50 fun v54 h55 => ∃ (p56 : Bool), v54 = (vb p56) ∧ J53 (.t (.one (.v (vb p56)))) h55)) ∧ (¬ ((decide ((x45 : Int) ≠ x52)) = false) → J53 (.t (.one (.v (vb false)))) h50) ∧ ∀ (h57 : Hp) (p58 : Bool), J53 (.t (.one (.v (vb p58)))) h57 → (((bif (decide ((x45 : Int) ≠ x52)) then true else (!p58)) = true → R (vb false) h57) ∧ ((bif (decide ((x45 : Int) ≠ x52)) then true else (!p58)) = false → (∃ (I61 : List Value → Hp → Prop) (m62 : List Value → Hp → Nat), I61 [(vi x52), (vi 0)] h57 ∧ ∀ (vs63 : List Value) (h64 : Hp), I61 vs63 h64 → ∃ (x65 : Int) (x66 : Int), vs63 = [(vi x65), (vi x66)] ∧ (((decide ((x66 : Int) < ((u_partsn : Nat) : Int))) = true → (∃ (x69 : Int), (IsW x69 (x66 + 1)) ∧ (∃ (a70 : Option Addr) (n70 c70 : Nat), (Rd Tryz.prog (Instr.sliceAt 22 (vsl u_partsa u_partsn u_partsc) (some (vi x66)) (some (vi x69)) none) h64 (vsl a70 n70 c70)) ∧ (CallOK Tryz.prog 9 [(vag [(vsl a27 n27 c27), (vsl a28 n28 c28), (vsl a29 n29 c29), (vi x30), (vi x31), (vi x32), (vi x33)]), (vsl a70 n70 c70)] h64 fun v71 h72 => ∃ (a73 : Option Addr) (n73 c73 : Nat) (x74 : Int), v71 = (vtup [(vsl a73 n73 c73), (vi x74)]) ∧ (∃ (x75 : Int), (IsW x75 (x65 - x74)) ∧ (∃ (x77 : Int), (IsW x77 (x66 + 1)) ∧ (I61 [(vi x75), (vi x77)] h72 ∧ m62 [(vi x75), (vi x77)] h72 < m62 vs63 h64))))))) ∧ ((decide ((x66 : Int) < ((u_partsn : Nat) : Int))) = false → R (vb (decide ((x65 : Int) = 0))) h64))))))))))))))))))))))
theorem ok_top_TopParts {u_s : ByteArray} {u_partsa : Option Addr} {u_partsn u_partsc : Nat} {h : Hp} {R : Value → Hp → Prop} (H : VC_top_TopParts u_s u_partsa u_partsn u_partsc h R) : CallOK Tryz.prog 4 [(vs u_s), (vsl u_partsa u_partsn u_partsc)] h R :=
  call_of (cfg := ⟨[], [(16, ([13, 14], [.one (.int .i64), .one (.int .i64)], []))], [(12, [0, 1, 2, 3, 4, 5, 6, 7, 8]), (18, [0, 1, 2, 3, 4, 5, 6, 7, 8, 9, 10, 11])]⟩) noNG mixed Tryz.func4 [.one (.v (vs u_s)), .one (.v (vsl u_partsa u_partsn u_partsc))] (by kernel_rfl) rfl (by kernel_rfl) H
end Go.Proofs.YtejefijpcggkfaaGreatDoor
namespace Go.Proofs.YtejefijpcggkfaaGreatDoor
open Go Go.Vc
set_option linter.unusedVariables false
set_option maxRecDepth 100000
section
variable {h : Hp} {R' : Value → Hp → Prop}
theorem top_light_ok {ps : List (List EvL)} {pa : Option Addr} {pn pc : Nat} (TP : TabC encE h pa pn ps) (hK : ∀ p h', h.le h' → (p = true → ps.length ≤ 3 ∧ ∀ x ∈ ps, x.length ≤ 40 ∧ ∀ e ∈ x, EvOK e) → R' (vb p) h') : CallOK Tryz.prog 14 [vsl pa pn pc] h R' := by
  refine ok_top_light ?_
  unfold VC_top_light
  have hpn : pn = ps.length := TP.r.choose_spec.2.1
  refine ⟨fun e => hK false h (Hp.le_refl h) (fun q => by cases q), fun e => ?_⟩
  have h3 : ps.length ≤ 3 := by have := of_decide_eq_false e; omega
  refine ⟨fun vs hh => ∃ i : Nat, vs = [vi i] ∧ i ≤ ps.length ∧ h.le hh ∧ ∀ x ∈ ps.take i, x.length ≤ 40 ∧ ∀ e ∈ x, EvOK e, fun vs hh => ps.length - (vint vs 0).toNat, ⟨0, rfl, Nat.zero_le _, Hp.le_refl h, by simp⟩, ?_⟩
  rintro vs hh ⟨i, rfl, hi, lh, hz⟩
  refine ⟨i, rfl, fun e1 => ?_, fun e1 => ?_⟩
  · have hlt : i < ps.length := by have := of_decide_eq_true e1; omega
    have hx : ps[i]? = some ps[i] := List.getElem?_eq_getElem hlt
    have tk : ps.take (i + 1) = ps.take i ++ [ps[i]] := List.take_succ_eq_append_getElem hlt
    generalize ps[i] = part at *
    obtain ⟨b, o, a', c', ea, hcl, SP, _⟩ := TP.cell hx
    have hb1 : pa = some ⟨b, o, none⟩ ∧ (0 : Int) ≤ i ∧ (i : Int) < ((pn : Nat) : Int) := ⟨ea, by omega, by omega⟩
    refine ⟨b, o, hb1, a', part.length, c', by rw [Int.toNat_natCast]; exact cell_le lh hcl, fun e2 => hK false hh lh (fun q => by cases q), fun e2 => ?_⟩
    have h40 : part.length ≤ 40 := by have := of_decide_eq_false e2; omega
    refine ⟨fun vs hh' => ∃ j : Nat, vs = [vi j] ∧ j ≤ part.length ∧ hh.le hh' ∧ ∀ e ∈ part.take j, EvOK e, fun vs hh => part.length - (vint vs 0).toNat, ⟨0, rfl, Nat.zero_le _, Hp.le_refl _, by simp⟩, ?_⟩
    rintro vs hh3 ⟨j, rfl, hj, lh3, hc3⟩
    have lh3' := Hp.le_trans lh lh3
    have hc1 := cell_le lh3' hcl
    refine ⟨j, rfl, b, o, hb1, a', part.length, c', by rw [Int.toNat_natCast]; exact hc1, fun e3 => ?_, fun e3 => ?_⟩
    · have hltj : j < part.length := by have := of_decide_eq_true e3; omega
      have hxj : part[j]? = some part[j] := List.getElem?_eq_getElem hltj
      have tkj : part.take (j + 1) = part.take j ++ [part[j]] := List.take_succ_eq_append_getElem hltj
      obtain ⟨b2, o2, ea2, hr2⟩ := (SP.le lh3').get (sz := 7) (fun _ => rfl) (by decide) hxj
      generalize part[j] = ev at *
      refine ⟨b, o, hb1, a', part.length, c', by rw [Int.toNat_natCast]; exact hc1, b2, o2, ⟨ea2, by omega, by omega⟩, _, _, _, _, _, _, _, by rw [Int.toNat_natCast]; exact hr2, ?_⟩
      refine source_Check_ok (e := ev) fun h54 l54 => ⟨_, rfl, fun e4 => hK false h54 (Hp.le_trans lh3' l54) (fun q => by cases q), fun e4 => ?_⟩
      rw [errV_some] at e4
      have hev : chkE ev = 0 := by simpa using e4
      refine ⟨_, isW (by unfold InR; omega), ⟨j + 1, rfl, by omega, Hp.le_trans lh3 l54, fun e he => ?_⟩, by simp [vint]; omega⟩
      rw [tkj] at he
      rcases List.mem_append.1 he with h1 | h1
      · exact hc3 e h1
      · rw [List.mem_singleton.1 h1]; exact chkE_ok hev
    · have hge : j = part.length := by have := of_decide_eq_false e3; omega
      rw [hge, List.take_length] at hc3
      refine ⟨_, isW (by unfold InR; omega), ⟨i + 1, rfl, by omega, lh3', fun x hx => ?_⟩, by simp [vint]; omega⟩
      rw [tk] at hx
      rcases List.mem_append.1 hx with h1 | h1
      · exact hz x h1
      · rw [List.mem_singleton.1 h1]; exact ⟨h40, hc3⟩
  · have hge : i = ps.length := by have := of_decide_eq_false e1; omega
    rw [hge, List.take_length] at hz
    exact hK true hh lh fun _ => ⟨h3, hz⟩
theorem elParts : ElT Tryz.prog 22 30 1 24 := .of (by kernel_rfl) (by kernel_rfl) (by decide)
theorem top_turned_ok {ps : List (List EvL)} {pa : Option Addr} {pn pc : Nat} (TP : TabC encE h pa pn ps) (hp : ps.length ≤ 1000000) (hK : ∀ a c h', h.le h' → TabC encE h' a ps.reverse.length ps.reverse → R' (vsl a ps.reverse.length c) h') : CallOK Tryz.prog 15 [vsl pa pn pc] h R' := by
  obtain ⟨R, rfl, hn, H, H2⟩ := TP
  rw [List.length_map] at hn hp
  subst hn
  refine ok_top_turned ?_
  unfold VC_top_turned
  refine ⟨_, isW (by unfold InR; omega), ?_⟩
  refine ⟨fun vs hh => ∃ (k : Nat) (a : Option Addr) (c : Nat), vs = [vsl a k c, vi ((R.length : Int) - 1 - k)] ∧ k ≤ R.length ∧ OwnV h hh 30 1 a k c ((R.reverse.take k).map rowV), fun vs hh => (vint vs 1 + 1).toNat, ⟨0, none, 0, by simp, Nat.zero_le _, OwnV.nil (Hp.le_refl h) _ _⟩, ?_⟩
  rintro vs hh ⟨k, a, c, rfl, hk, O⟩
  refine ⟨a, k, c, _, rfl, fun e => ?_, fun e => ?_⟩
  · have hlt : k < R.length := by have := of_decide_eq_true e; omega
    have hi : ((R.length : Int) - 1 - k).toNat = R.length - 1 - k := by omega
    have hx : R[R.length - 1 - k]? = some R[R.length - 1 - k] := List.getElem?_eq_getElem (by omega)
    have hrl : k < R.reverse.length := by rw [List.length_reverse]; exact hlt
    have tk : R.reverse.take (k + 1) = R.reverse.take k ++ [R[R.length - 1 - k]] := by
      rw [List.take_succ_eq_append_getElem hrl, List.getElem_reverse]
    generalize R[R.length - 1 - k] = r at *
    obtain ⟨b, o, ea, hc⟩ := H.get1 (j := R.length - 1 - k) (v := rowV r) (by rw [List.getElem?_map, hx]; rfl)
    refine ⟨b, o, ⟨ea, by omega, by omega⟩, r.1.1, r.2.length, r.1.2, by rw [hi]; exact cell_le O.le hc, ?_⟩
    intro b14 hb14 h15
    refine OwnV.append elParts (OwnV.set hb14 _ O) (HasRow.new _ _ [rowV r] _) (m := 1) rfl (by intro u hu; rw [List.mem_singleton.1 hu]; rfl) (by omega) (by omega) fun a' c' h' O' _ _ => ⟨_, _, _, rfl, _, isW (by unfold InR; omega), ⟨k + 1, a', c', ?_, by omega, ?_⟩, by simp [vint]; omega⟩
    · simp; omega
    · rw [tk, List.map_append]; exact O'
  · have hge : k = R.length := by have := of_decide_eq_false e; omega
    subst hge
    rw [List.take_of_length_le (by rw [List.length_reverse]; exact Nat.le_refl _)] at O
    have e2 : (R.map Prod.snd).reverse = R.reverse.map Prod.snd := by rw [List.map_reverse]
    have := hK a c hh O.le ⟨R.reverse, by rw [e2], rfl, by exact O.row, fun j r hr => ?_⟩
    · rw [List.length_reverse, List.length_map] at this
      exact this
    · obtain ⟨j', hj'⟩ := List.getElem?_of_mem (List.mem_reverse.1 (List.mem_of_getElem? hr))
      obtain ⟨q1, q2⟩ := H2 j' r hj'
      exact ⟨q1.le O.le, q2⟩
def uptoL (size far : Int) (L : List (PK × List Vl)) : List (PK × List Vl) := L.filter fun x => decide (x.1.1 + size ≤ far)
theorem TabC.sub {ps : List (List EvL)} {pa : Option Addr} {pn pc : Nat} (TP : TabC encE h pa pn ps) (hc : pn ≤ pc) {i : Nat} {p : List EvL} (hi : ps[i]? = some p) : TabC encE h (cutA pa i pc 1) 1 [p] := by
  obtain ⟨R, rfl, hn, H, H2⟩ := TP
  rw [List.length_map] at hn
  subst hn
  rw [List.getElem?_map, Option.map_eq_some_iff] at hi
  obtain ⟨r, hr, rfl⟩ := hi
  have hlt : i < R.length := (List.getElem?_eq_some_iff.1 hr).1
  have e : ∀ R : List (TRow EvL), (R.flatMap fun r => [rowV r]) = R.map rowV := by
    intro R
    induction R with
    | nil => rfl
    | cons r R ih => rw [List.flatMap_cons, ih]; rfl
  have S : SlP (fun r => [rowV r]) h pa R.length R := ⟨rfl, by rw [e]; exact H⟩
  have S2 := (S.drop (sz := 1) (fun _ => rfl) (Nat.le_of_lt hlt) hc).take (sz := 1) (fun _ => rfl) (i := 1) (by omega)
  have e2 : (R.drop i).take 1 = [r] := by
    rw [List.drop_eq_getElem_cons hlt]
    simp only [List.take_succ_cons, List.take_zero, List.cons.injEq, and_true]
    exact (List.getElem?_eq_some_iff.1 hr).2
  rw [e2] at S2
  refine ⟨[r], rfl, rfl, S2.2, fun j r' hr' => ?_⟩
  match j, hr' with
  | 0, hr' => cases hr'; exact H2 i r hr
end
end Go.Proofs.YtejefijpcggkfaaGreatDoor
namespace Go.Proofs.YtejefijpcggkfaaGreatDoor
open Go Go.Vc Go.Txt
set_option linter.unusedVariables false
set_option maxRecDepth 100000
theorem slb_lit (h : Hp) (b : Nat) (l : List Wd) (hl : l.length ≤ maxLen) : SlB (h.set b (cellsO (l.flatMap encB) 9)) (some ⟨b, 0, none⟩) l.length l := ⟨rfl, (OwnS.new h b 9 (sz := 1) (n := l.length) (l.flatMap encB) (by induction l with
  | nil => rfl
  | cons w l ih => have := ih (by simp at hl; omega); simp [encB] at this ⊢; omega) hl).row⟩
theorem number_range {s : RS} {most : Int} (hm : 0 ≤ most) : 0 ≤ (s.number most).1 ∧ (s.number most).1 ≤ most := by
  unfold RS.number
  split
  · exact ⟨Int.le_refl _, hm⟩
  · split
    · exact ⟨Int.le_refl _, hm⟩
    · rename_i h
      exact ⟨by omega, (natF_low hm).2⟩
theorem joinP_le (op : Int) (x y : List Nd) (s : RS) : (joinP op x y s).1.length ≤ 40 := by
  unfold joinP
  split
  · simp
  · rw [joinL_length]; omega
theorem read_const {w : Wd} (h : w ∈ constW) : (readV w).1 = constV w := by
  have h2 : w = wNull ∨ w = wTrue ∨ w = wFalse := by simpa [constW] using h
  rcases h2 with rfl | rfl | rfl <;> rfl
theorem reader_atom_ok {P : Ps} {n : Nat} (F : Reads 42 P n) (kp : KP P n) : Reads 152 (atomP P) (n + 1) := by
  intro h0 h g s D E S R hK
  refine ok_query_reader_atom ?_
  unfold VC_query_reader_atom
  intro b1 hb1 h2
  have hl : h.le h2 := Hp.le_set (Hp.le_refl h) hb1 _
  have hb := S.big
  have tk := @taken s ([wOpen] ++ constW ++ fieldW)
  have sp := s.is_spec ([wOpen] ++ constW ++ fieldW)
  have gi := goes_is S.good ([wOpen] ++ constW ++ fieldW)
  have nr := @number_range
  unfold atomP at hK
  simp only at hK
  refine reader_is_ok (D.le hl) (l := [wOpen] ++ constW ++ fieldW) (slb_lit h b1 ([wOpen] ++ constW ++ fieldW) (by decide)) (by decide) (by omega) fun h4 D4 M4 => ⟨_, rfl, ?_⟩
  have M04 : Mut (At g) h (At g) h4 := (Mut.of_le hl).trans M4
  generalize s.is ([wOpen] ++ constW ++ fieldW) = A at *
  obtain ⟨w, s1⟩ := A
  simp -zeta only at hK D4 tk sp gi ⊢
  have hS1 := S.goes gi
  have E4 := E.mut M04
  refine ⟨_, rd_eqBs (b := wOpen), fun e => ?_, fun e1 => ?_⟩
  · have ew : w = wOpen := of_decide_eq_true e
    have tk := tk (by rw [ew]; decide)
    rw [if_pos ew] at hK
    have d1 := S.d1
    have hdp := gi.deep
    have Sn : SOk n s1 := ⟨hS1.good, by have := S.len; omega, hS1.big, hS1.d0, hS1.d1⟩
    have kd := keeps_down kp (Goes.refl hS1.good) (Nat.le_of_lt Sn.len)
    refine reader_down_ok ⟨_, Tryz.func42, by kernel_rfl, by kernel_rfl⟩ F kp D4 E4 Sn (by omega) fun a c h8 D8 N8 M8 => ⟨_, _, _, rfl, ?_⟩
    refine reader_must_ok D8 (by have := kd.len; have := hS1.big; omega) fun h11 D11 M11 => ⟨rfl, ?_⟩
    exact hK a c h11 D11 ((N8.base (M04.up D4.al)).mut D.al M11) ((M04.trans M8).trans M11)
  have e1 : ¬ w = wOpen := of_decide_eq_false e1
  rw [if_neg e1] at hK
  have hwc : w ∈ constW ↔ w = wNull ∨ w = wTrue ∨ w = wFalse := by simp [constW]
  refine ⟨_, rd_eqBs (b := wNull), ?_⟩
  intro J18
  have yes : w ∈ constW → J18 true := by
    intro hw
    rw [if_pos hw] at hK
    have hwl : w.length ≤ 1000000 := by
      have : w = wNull ∨ w = wTrue ∨ w = wFalse := hwc.1 hw
      rcases this with rfl | rfl | rfl <;> decide
    refine ⟨fun _ => ?_, fun e => by cases e⟩
    refine value_Parse_ok hwl E4.now.p E4.now.e ⟨_, _, _, rfl, ?_⟩
    rw [read_const hw]
    refine query_leaf_ok ⟨1, 0, 0, 0, constV w⟩ fun a c h26 N26 _ l26 => ⟨_, _, _, rfl, ?_⟩
    exact hK a c h26 (D4.le l26) (N26.base (M04.up D4.al)) (M04.trans (Mut.of_le l26))
  have no : ¬ w ∈ constW → J18 false := by
    intro hw
    rw [if_neg hw] at hK
    refine ⟨fun e => by (cases e), fun _ => ⟨_, rd_eqBs (b := []), fun e => ?_, fun e => ?_⟩⟩
    · rw [if_pos (of_decide_eq_true e)] at hK
      have nr1 := nr (s := s1) (most := 1000000000) (by decide)
      refine reader_number_ok D4 E4 (by have := hS1.big; omega) (by decide) (by decide) fun h30 D30 M30 => ⟨_, rfl, value_Number_ok ⟨_, _, rfl, ?_⟩⟩
      have en : numV (s1.number 1000000000).1 = (1, (s1.number 1000000000).1) := by unfold numV; rw [if_neg (by omega)]
      rw [en]
      refine query_leaf_ok ⟨1, 0, 0, 0, (1, (s1.number 1000000000).1)⟩ fun a c h37 N37 _ l37 => ⟨_, _, _, rfl, ?_⟩
      exact hK a c h37 (D30.le l37) (N37.base ((M04.trans M30).up D30.al)) ((M04.trans M30).trans (Mut.of_le l37))
    · have e3 := of_decide_eq_false e
      rw [if_neg e3] at hK
      have hm : w ∈ fieldW := by
        rcases sp with ⟨q, _⟩ | ⟨w', r, _, hm, q, _⟩
        · exact absurd q e3
        · rw [← q] at hm
          rcases List.mem_append.1 hm with h4 | h4
          · rcases List.mem_append.1 h4 with h5 | h5
            · exact absurd (by simpa using h5) e1
            · exact absurd h5 hw
          · exact h4
      obtain ⟨fa, fc, hf, hfs⟩ := E4.now.f
      refine ⟨_, _, _, hf, slices_Index_ok hfs (by decide) ⟨_, rfl, ?_⟩⟩
      rw [if_pos hm]
      refine query_leaf_ok ⟨2, 0, 0, fieldW.idxOf w, (0, 0)⟩ fun a c h44 N44 _ l44 => ⟨_, _, _, rfl, ?_⟩
      exact hK a c h44 (D4.le l44) (N44.base (M04.up D4.al)) (M04.trans (Mut.of_le l44))
  clear_value J18
  refine ⟨fun e => ?_, fun e2 => ⟨_, rd_eqBs (b := wTrue), fun e => ?_, fun e3 => ⟨_, rd_eqBs (b := wFalse), ?_⟩⟩⟩
  · rw [e]; exact yes (hwc.2 (.inl (of_decide_eq_true e)))
  · rw [e]; exact yes (hwc.2 (.inr (.inl (of_decide_eq_true e))))
  · have e2 := of_decide_eq_false e2
    have e3 := of_decide_eq_false e3
    by_cases hf : w = wFalse
    · rw [decide_eq_true hf]; exact yes (hwc.2 (.inr (.inr hf)))
    · rw [decide_eq_false hf]
      refine no fun h => ?_
      rcases hwc.1 h with h | h | h
      · exact e2 h
      · exact e3 h
      · exact hf h
theorem reader_unary_ok {U A : Ps} {n : Nat} (F : Reads 150 U n) (ku : KP U n) (FA : Reads 152 A (n + 1)) : Reads 150 (unaryP U A) (n + 1) := by
  intro h0 h g s D E S R hK
  refine ok_query_reader_unary ?_
  unfold VC_query_reader_unary
  intro b1 hb1 h2
  have hl : h.le h2 := Hp.le_set (Hp.le_refl h) hb1 _
  have hb := S.big
  have tk := @taken s [wMinus]
  have gi := goes_is S.good [wMinus]
  unfold unaryP at hK
  have hi := @RS.is_spec s [wMinus]
  refine reader_is_ok (D.le hl) (slb_one h b1 wMinus) (by decide) (by omega) fun h4 D4 M4 => ⟨_, rfl, ?_⟩
  have M04 : Mut (At g) h (At g) h4 := (Mut.of_le hl).trans M4
  generalize s.is [wMinus] = B at *
  obtain ⟨w, s1⟩ := B
  simp -zeta only at hK D4 tk gi hi ⊢
  have hS1 := S.goes gi
  have E4 := E.mut M04
  refine ⟨_, rd_eqBs (b := []), fun e => ?_, fun e => ?_⟩
  · have ew := of_decide_eq_true e
    rw [if_pos ew] at hK
    have es : s1 = s := by
      rcases hi with ⟨_, q⟩ | ⟨w', r, _, hm, q, _⟩
      · exact q
      · rw [ew] at q; rw [← q] at hm; exact absurd hm (by decide)
    subst es
    exact FA D4 E4 hS1 fun a c h8 D8 N8 M8 => ⟨_, _, _, rfl, hK a c h8 D8 (N8.base (M04.up D4.al)) (M04.trans M8)⟩
  · have ew := of_decide_eq_false e
    rw [if_neg ew] at hK
    have tk := tk ew
    have d1 := S.d1
    have hdp := gi.deep
    have Sn : SOk n s1 := ⟨hS1.good, by have := S.len; omega, hS1.big, hS1.d0, hS1.d1⟩
    have kd := keeps_down ku (Goes.refl hS1.good) (Nat.le_of_lt Sn.len)
    refine reader_down_ok ⟨_, Tryz.func150, by kernel_rfl, by kernel_rfl⟩ F ku D4 E4 Sn (by omega) fun a c h8 D8 N8 M8 => ⟨_, _, _, rfl, ?_⟩
    refine reader_join_ok D8 N8.s (nd_nil h8 h8).s wf_nil (by have := kd.le; omega) (by simp) fun a c h15 D15 N15 M15 => ⟨_, _, _, rfl, ?_⟩
    exact hK a c h15 D15 (N15.base ((M04.trans M8).up D8.al)) ((M04.trans M8).trans M15)
theorem reader_not_ok {U A : Ps} {n : Nat} (F : Reads 106 U n) (ku : KP U n) (FA : Reads 127 A (n + 1)) : Reads 106 (notP U A) (n + 1) := by
  intro h0 h g s D E S R hK
  refine ok_query_reader_not ?_
  unfold VC_query_reader_not
  intro b1 hb1 h2
  have hl : h.le h2 := Hp.le_set (Hp.le_refl h) hb1 _
  have hb := S.big
  have tk := @taken s [wNot]
  have gi := goes_is S.good [wNot]
  unfold notP at hK
  have hi := @RS.is_spec s [wNot]
  refine reader_is_ok (D.le hl) (slb_one h b1 wNot) (by decide) (by omega) fun h4 D4 M4 => ⟨_, rfl, ?_⟩
  have M04 : Mut (At g) h (At g) h4 := (Mut.of_le hl).trans M4
  generalize s.is [wNot] = B at *
  obtain ⟨w, s1⟩ := B
  simp -zeta only at hK D4 tk gi hi ⊢
  have hS1 := S.goes gi
  have E4 := E.mut M04
  refine ⟨_, rd_eqBs (b := []), fun e => ?_, fun e => ?_⟩
  · have ew := of_decide_eq_true e
    rw [if_pos ew] at hK
    have es : s1 = s := by
      rcases hi with ⟨_, q⟩ | ⟨w', r, _, hm, q, _⟩
      · exact q
      · rw [ew] at q; rw [← q] at hm; exact absurd hm (by decide)
    subst es
    exact FA D4 E4 hS1 fun a c h8 D8 N8 M8 => ⟨_, _, _, rfl, hK a c h8 D8 (N8.base (M04.up D4.al)) (M04.trans M8)⟩
  · have ew := of_decide_eq_false e
    rw [if_neg ew] at hK
    have tk := tk ew
    have d1 := S.d1
    have hdp := gi.deep
    have Sn : SOk n s1 := ⟨hS1.good, by have := S.len; omega, hS1.big, hS1.d0, hS1.d1⟩
    have kd := keeps_down ku (Goes.refl hS1.good) (Nat.le_of_lt Sn.len)
    refine reader_down_ok ⟨_, Tryz.func106, by kernel_rfl, by kernel_rfl⟩ F ku D4 E4 Sn (by omega) fun a c h8 D8 N8 M8 => ⟨_, _, _, rfl, ?_⟩
    refine reader_join_ok D8 N8.s (nd_nil h8 h8).s wf_nil (by have := kd.le; omega) (by simp) fun a c h15 D15 N15 M15 => ⟨_, _, _, rfl, ?_⟩
    exact hK a c h15 D15 (N15.base ((M04.trans M8).up D8.al)) ((M04.trans M8).trans M15)
theorem reader_compare_ok {P : Ps} {n : Nat} (F : Reads 141 P n) (kp : KP P n) : Reads 127 (cmpP P) n := by
  intro h0 h g s D E S R hK
  refine ok_query_reader_compare ?_
  unfold VC_query_reader_compare
  have k := kp s S.good (Nat.le_of_lt S.len)
  unfold cmpP at hK
  simp only at hK
  refine F D E S fun a3 c3 h2 D2 N2 M2 => ⟨_, _, _, rfl, ?_⟩
  intro b4 hb4 h5
  have l5 : h2.le h5 := Hp.le_set (Hp.le_refl h2) hb4 _
  have S2 := S.goes k.goes
  have G0 := k.goes
  have k0 := k.le
  generalize P s = X at *
  obtain ⟨x, s0⟩ := X
  simp only at hK D2 N2 S2 G0 k0
  have gi := goes_is S2.good [wLt, wGt, wLe, wGe, wEq, wNe, wIs]
  refine reader_is_ok (D2.le l5) (slb_lit h2 b4 [wLt, wGt, wLe, wGe, wEq, wNe, wIs] (by decide)) (by decide) (by have := S2.big; omega) fun h7 D7 M7 => ⟨_, rfl, ?_⟩
  have M57 : Mut (At g) h2 (At g) h7 := (Mut.of_le l5).trans M7
  have M07 : Mut (At g) h (At g) h7 := M2.trans M57
  have N7 := N2.mut D.al M57
  generalize s0.is [wLt, wGt, wLe, wGe, wEq, wNe, wIs] = B at *
  obtain ⟨w, s1⟩ := B
  simp -zeta only at hK D7 gi ⊢
  have S7 := S2.goes gi
  have k2 := kp s1 S7.good (Nat.le_of_lt S7.len)
  have kw := k2.wf
  have kl := k2.le
  have E7 := E.mut M07
  have sumK : ∀ {R2 : Value → Hp → Prop}, (∀ a c h', RdAt h0 h' g (P s1).2 → NdAt h7 h' a (P s1).1.length (P s1).1 → Mut (At g) h7 (At g) h' → R2 (vsl a (P s1).1.length c) h') → CallOK Tryz.prog 141 [vhp g 0] h7 R2 := fun H => F D7 E7 S7 H
  have kx := k.wf
  intro J78
  generalize P s1 = Y at *
  obtain ⟨y, s2⟩ := Y
  simp -zeta only at hK sumK kw kl ⊢
  refine ⟨_, rd_eqBs (b := wLt), fun e => ?_, fun e1 => ⟨_, rd_eqBs (b := wGt), fun e => ?_, fun e2 => ⟨_, rd_eqBs (b := wLe), fun e => ?_, fun e3 => ⟨_, rd_eqBs (b := wGe), fun e => ?_, fun e4 => ⟨_, rd_eqBs (b := wEq), fun e => ?_, fun e5 => ⟨_, rd_eqBs (b := wNe), fun e => ?_, fun e6 => ⟨_, rd_eqBs (b := wIs), fun e => ?_, fun e7 => ?_⟩⟩⟩⟩⟩⟩⟩
  · rw [if_pos (of_decide_eq_true e)] at hK
    exact sumK fun a c h11 D11 N11 M11 => ⟨_, _, _, rfl, reader_join_ok D11 (N7.mut D.al M11).s N11.s kw (by omega) (by omega) fun a c h14 D14 N14 M14 => ⟨_, _, _, rfl, hK a c h14 D14 (N14.base ((M07.trans M11).up D11.al)) ((M07.trans M11).trans M14)⟩⟩
  · rw [if_neg (of_decide_eq_false e1), if_pos (of_decide_eq_true e)] at hK
    exact sumK fun a c h11 D11 N11 M11 => ⟨_, _, _, rfl, reader_join_ok D11 N11.s (N7.mut D.al M11).s kx (by omega) (by omega) fun a c h14 D14 N14 M14 => ⟨_, _, _, rfl, hK a c h14 D14 (N14.base ((M07.trans M11).up D11.al)) ((M07.trans M11).trans M14)⟩⟩
  · rw [if_neg (of_decide_eq_false e1), if_neg (of_decide_eq_false e2), if_pos (of_decide_eq_true e)] at hK
    have jl := joinP_le 11 y x s2
    exact sumK fun a c h11 D11 N11 M11 => ⟨_, _, _, rfl, reader_join_ok D11 N11.s (N7.mut D.al M11).s kx (by omega) (by omega) fun a c h14 D14 N14 M14 => ⟨_, _, _, rfl, reader_join_ok D14 N14.s (nd_nil h14 h14).s wf_nil (by omega) (by simp) fun a c h17 D17 N17 M17 => ⟨_, _, _, rfl, hK a c h17 D17 (N17.base (((M07.trans M11).trans M14).up D14.al)) (((M07.trans M11).trans M14).trans M17)⟩⟩⟩
  · rw [if_neg (of_decide_eq_false e1), if_neg (of_decide_eq_false e2), if_neg (of_decide_eq_false e3), if_pos (of_decide_eq_true e)] at hK
    have jl := joinP_le 11 x y s2
    exact sumK fun a c h11 D11 N11 M11 => ⟨_, _, _, rfl, reader_join_ok D11 (N7.mut D.al M11).s N11.s kw (by omega) (by omega) fun a c h14 D14 N14 M14 => ⟨_, _, _, rfl, reader_join_ok D14 N14.s (nd_nil h14 h14).s wf_nil (by omega) (by simp) fun a c h17 D17 N17 M17 => ⟨_, _, _, rfl, hK a c h17 D17 (N17.base (((M07.trans M11).trans M14).up D14.al)) (((M07.trans M11).trans M14).trans M17)⟩⟩⟩
  · rw [if_neg (of_decide_eq_false e1), if_neg (of_decide_eq_false e2), if_neg (of_decide_eq_false e3), if_neg (of_decide_eq_false e4), if_pos (of_decide_eq_true e)] at hK
    exact sumK fun a c h11 D11 N11 M11 => ⟨_, _, _, rfl, reader_join_ok D11 (N7.mut D.al M11).s N11.s kw (by omega) (by omega) fun a c h14 D14 N14 M14 => ⟨_, _, _, rfl, hK a c h14 D14 (N14.base ((M07.trans M11).up D11.al)) ((M07.trans M11).trans M14)⟩⟩
  · rw [if_neg (of_decide_eq_false e1), if_neg (of_decide_eq_false e2), if_neg (of_decide_eq_false e3), if_neg (of_decide_eq_false e4), if_neg (of_decide_eq_false e5), if_pos (of_decide_eq_true e)] at hK
    have jl := joinP_le 12 x y s2
    exact sumK fun a c h11 D11 N11 M11 => ⟨_, _, _, rfl, reader_join_ok D11 (N7.mut D.al M11).s N11.s kw (by omega) (by omega) fun a c h14 D14 N14 M14 => ⟨_, _, _, rfl, reader_join_ok D14 N14.s (nd_nil h14 h14).s wf_nil (by omega) (by simp) fun a c h17 D17 N17 M17 => ⟨_, _, _, rfl, hK a c h17 D17 (N17.base (((M07.trans M11).trans M14).up D14.al)) (((M07.trans M11).trans M14).trans M17)⟩⟩⟩
  · rw [if_neg (of_decide_eq_false e1), if_neg (of_decide_eq_false e2), if_neg (of_decide_eq_false e3), if_neg (of_decide_eq_false e4), if_neg (of_decide_eq_false e5), if_neg (of_decide_eq_false e6), if_pos (of_decide_eq_true e)] at hK
    intro b61 hb61 h62
    have l62 : h7.le h62 := Hp.le_set (Hp.le_refl h7) hb61 _
    have g3 := goes_is S7.good [wNot]
    refine reader_is_ok (D7.le l62) (slb_one h7 b61 wNot) (by decide) (by have := S7.big; omega) fun h64 D64 M64 => ⟨_, rfl, ?_⟩
    have M64' : Mut (At g) h7 (At g) h64 := (Mut.of_le l62).trans M64
    have S8 := S7.goes g3
    generalize s1.is [wNot] = C at *
    obtain ⟨v, s3⟩ := C
    simp -zeta only at hK D64 S8 ⊢
    refine reader_must_ok D64 (by have := S8.big; omega) fun h67 D67 M67 => ⟨rfl, ?_⟩
    have M67' := M64'.trans M67
    refine reader_join_ok D67 (N7.mut D.al M67').s (nd_nil h67 h67).s wf_nil (by omega) (by simp) fun a c h69 D69 N69 M69 => ⟨_, _, _, rfl, ?_⟩
    have jl := joinP_le 5 x [] (s3.must wNull)
    refine ⟨_, rd_neBs (b := []), fun q => ?_, fun q => ?_⟩
    · have q : v ≠ [] := by simpa using q
      rw [if_pos q] at hK
      exact reader_join_ok D69 N69.s (nd_nil h69 h69).s wf_nil (Nat.le_trans jl (by decide)) (by simp) fun a c h73 D73 N73 M73 => ⟨_, _, _, rfl, hK a c h73 D73 (N73.base (((M07.trans M67').trans M69).up D69.al)) (((M07.trans M67').trans M69).trans M73)⟩
    · have q : ¬ v ≠ [] := by simpa using q
      rw [if_neg q] at hK
      exact hK a c h69 D69 (N69.base ((M07.trans M67').up D67.al)) ((M07.trans M67').trans M69)
  · rw [if_neg (of_decide_eq_false e1), if_neg (of_decide_eq_false e2), if_neg (of_decide_eq_false e3), if_neg (of_decide_eq_false e4), if_neg (of_decide_eq_false e5), if_neg (of_decide_eq_false e6), if_neg (of_decide_eq_false e7)] at hK
    exact hK _ _ h7 D7 N7 M07
def wordsN (h : Hp) (g : Nat) : Nat := match h.cell g 0 with | some (.slice _ n _) => n | _ => 0
theorem RdAt.wn {h0 h : Hp} {g : Nat} {s : RS} (D : RdAt h0 h g s) : wordsN h g = s.ws.length := by
  obtain ⟨a, c, e⟩ := D.c0
  unfold wordsN
  rw [e]
theorem reader_row_ok {f : FuncId} {P : Ps} {n : Nat} (B : Bodied f) (F : Reads f P n) (kp : KP P n) {ops : List (Wd × Int)} (ho : ∀ q ∈ ops, Opr q.2) (hne : ∀ q ∈ ops, q.1 ≠ []) (hol : ops.length ≤ 100) {h0 h : Hp} {g : Nat} {s : RS} (D : RdAt h0 h g s) (E : EnvQ h0 h g) (S : SOk n s) {y : Value} {wa : Option Addr} {wn wc : Nat} (W : ElAt encB h g wa wn (ops.map (·.1)))
    (hop : ∀ h', Mut (At g) h (At g) h' → ∀ w ∈ ops.map (·.1), Rd Tryz.prog (Instr.lookup 127 y (vs (bs w)) false) h' (vi (opOf ops w)))
    {R : Value → Hp → Prop} (hK : ∀ a c h', RdAt h0 h' g (rowP P ops s).2 → NdAt h h' a (rowP P ops s).1.length (rowP P ops s).1 → Mut (At g) h (At g) h' → R (vsl a (rowP P ops s).1.length c) h') : CallOK Tryz.prog 72 [vhp g 0, .func (.func f) #[vhp g 0] #[], y, vsl wa wn wc] h R := by
  refine ok_query_reader_row ?_
  unfold VC_query_reader_row
  have k := kp s S.good (Nat.le_of_lt S.len)
  have Sx := S.goes k.goes
  have kx := k.wf
  have kl := k.le
  have kp1 := k.pos
  unfold rowP at hK
  have hwn : wn = ops.length := by have := W.s.1; simpa using this
  refine inv_of B (F D E S fun a3 c3 h2 D2 N2 M2 => ⟨_, _, _, rfl, ?_⟩)
  generalize P s = X at *
  obtain ⟨x0, s0⟩ := X
  simp -zeta only at hK D2 N2 Sx kx kl kp1 ⊢
  intro J26
  refine ⟨fun vs' hh => ∃ (k : Nat) (x : List Nd) (t : RS) (a : Option Addr) (c : Nat), vs' = [vsl a x.length c] ∧ RdAt h0 hh g t ∧ NdAt h hh a x.length x ∧ Mut (At g) h (At g) hh ∧ SOk n t ∧ 1 ≤ x.length ∧ x.length ≤ 40 ∧ WfL x ∧ t.ws.length < k ∧ rowL P ops k x t = rowL P ops (s0.ws.length + 1) x0 s0, fun _ hh => wordsN hh g, ⟨_, x0, s0, a3, c3, rfl, D2, N2, M2, Sx, kp1, kl, kx, Nat.lt_succ_self _, rfl⟩, ?_⟩
  rintro vs' hh ⟨k, x, t, a, c, rfl, Dt, Nt, Mt, St, hx1, hx, Wx, hk, hrow⟩
  obtain ⟨k, rfl⟩ : ∃ j, k = j + 1 := ⟨k - 1, by omega⟩
  rw [rowL] at hrow
  refine ⟨_, _, _, rfl, _, Dt.c2, fun e => ?_, fun e => ?_⟩
  · have f0 : ¬ t.f ≠ 0 := by rw [errV_none] at e; simpa using e
    rw [if_neg f0] at hrow
    have gi := goes_is St.good (ops.map (·.1))
    have gm := @is_mem t (ops.map (·.1))
    have tk := @taken t (ops.map (·.1))
    have hDt := Dt.wn
    refine reader_is_ok Dt (W.mut Mt).s (by omega) (by have := St.big; omega) fun h14 D14 M14 => ⟨_, rfl, ?_⟩
    have M014 := Mt.trans M14
    simp only at hrow
    generalize t.is (ops.map (·.1)) = A at *
    obtain ⟨w, s1⟩ := A
    simp -zeta only at hrow D14 gi gm tk ⊢
    have S1 := St.goes gi
    refine ⟨_, rd_eqBs (b := []), fun e => ?_, fun e => ?_⟩
    · rw [if_pos (of_decide_eq_true e)] at hrow
      rw [← hrow] at hK
      exact hK _ _ h14 D14 (Nt.mut D.al M14) M014
    · have ew := of_decide_eq_false e
      rw [if_neg ew] at hrow
      have hop' := opOf_opr ho (gm ew)
      have kn := kp s1 S1.good (Nat.le_of_lt S1.len)
      have tk := tk ew
      refine ⟨_, hop h14 M014 w (gm ew), inv_of B (F D14 (E.mut M014) S1 fun a22 c22 h21 D21 N21 M21 => ⟨_, _, _, rfl, hop h21 (M014.trans M21) w (gm ew), ?_⟩)⟩
      generalize opOf ops w = op at *
      have kj : Keeps (joinP op x (P s1).1 (P s1).2) t := keeps_join hop' (gi.trans kn.goes) Wx kn.wf hx1 (fun _ => kn.pos)
      have kn1 := kn.wf
      have kn2 := kn.le
      have kn3 := kn.len
      have kj2 : (joinP op x (P s1).1 (P s1).2).2.ws.length ≤ (P s1).2.ws.length := by
        unfold joinP
        split
        · exact Nat.zero_le _
        · exact Nat.le_refl _
      generalize P s1 = Y at *
      obtain ⟨y1, s2⟩ := Y
      simp -zeta only at hrow D21 N21 kj kn1 kn2 kn3 kj2 ⊢
      refine reader_join_ok D21 ((Nt.mut D.al M14).mut D.al M21).s N21.s kn1 (by omega) (by omega) fun a25 c25 h24 D24 N24 M24 => ⟨_, _, _, rfl, ⟨k, _, _, a25, c25, rfl, D24, N24.base ((M014.trans M21).up D21.al), (M014.trans M21).trans M24, St.goes kj.goes, kj.pos, kj.le, kj.wf, by omega, hrow⟩, ?_⟩
      have h24n := D24.wn
      show wordsN h24 g < wordsN hh g
      omega
  · have f0 : t.f ≠ 0 := by rw [errV_none] at e; simpa using e
    rw [if_pos f0] at hrow
    rw [← hrow] at hK
    exact hK _ _ hh Dt Nt Mt
end Go.Proofs.YtejefijpcggkfaaGreatDoor
namespace Go.Proofs.YtejefijpcggkfaaGreatDoor
open Go Go.Vc Go.Txt
set_option linter.unusedVariables false
set_option maxRecDepth 100000
theorem rd_mapS {h : Hp} {b : Nat} {es : Array MapEntry} {clock : Nat} (hb : h b = some (.map es clock)) {w : Wd} {x : Int} {i : Nat} (hf : Instr.findNow .string (vs (bs w)) es.toList 0 = some (some (i, vi x))) : Rd Tryz.prog (Instr.lookup 127 (.map (some b)) (vs (bs w)) false) h (vi x) :=
  rd_lookup (k := 9) (e := 3) (d := .string) (by kernel_rfl) (by kernel_rfl) hb trivial hf
theorem sem_mapS {h : Hp} {b : Nat} {es : Array MapEntry} {clock : Nat} (hb : h b = some (.map es clock)) {w : Wd} {x : Int} (hf : Instr.findNow .string (vs (bs w)) es.toList 0 = some none) {K : Hp → Prop} (hK : K (h.set b (.map (es.push { key := vs (bs w), val := vi x, born := clock }) (clock + 1)))) : SemOKu Tryz.prog (Instr.mapUpdate 127 (.map (some b)) (vs (bs w)) (vi x)) h K :=
  sem_mapNew (k := 9) (e := 3) (d := .string) (key := vs (bs w)) (by kernel_rfl) (by kernel_rfl) hb trivial hf hK
theorem reader_one_ok {f : FuncId} {P : Ps} {n : Nat} (B : Bodied f) (F : Reads f P n) (kp : KP P n) {w : Wd} {op : Int} (ho : Opr op) (hw : w ≠ []) {h0 h : Hp} {g : Nat} {s : RS} (D : RdAt h0 h g s) (E : EnvQ h0 h g) (S : SOk n s) {R : Value → Hp → Prop} (hK : ∀ a c h', RdAt h0 h' g (rowP P [(w, op)] s).2 → NdAt h h' a (rowP P [(w, op)] s).1.length (rowP P [(w, op)] s).1 → Mut (At g) h (At g) h' → R (vsl a (rowP P [(w, op)] s).1.length c) h') :
    SemOK Tryz.prog (Instr.makeMap 127 none) h fun v1 h2 => ∃ (y3 : Value), v1 = y3 ∧ (SemOKu Tryz.prog (Instr.mapUpdate 127 y3 (vs (bs w)) (vi op)) h2 fun h4 => (∀ (b5 : Nat), h4 b5 = none → let h6 : Hp := Hp.set h4 b5 (cellsO [(vs (bs w))] 9); (CallOK Tryz.prog 72 [(vhp g 0), (Value.func (.func f) #[(vhp g 0)] #[]), y3, (vsl (some (⟨b5, 0, none⟩ : Addr)) 1 1)] h6 fun v7 h8 => ∃ (a9 : Option Addr) (n9 c9 : Nat), v7 = (vsl a9 n9 c9) ∧ R (vsl a9 n9 c9) h8))) := by
  refine sem_makeMap fun b hb => ⟨_, rfl, ?_⟩
  refine sem_mapS (Hp.set_same _ _ _) rfl ?_
  intro b5 hb5 h6
  have hbg : b ≠ g := fun e => by rw [e] at hb; exact D.al hb
  have l1 : h.le (h.set b (.map #[] 0)) := Hp.le_set (Hp.le_refl h) hb _
  rw [Hp.set_set] at hb5
  have l2 : h.le h6 := by
    have : h6 = (h.set b (.map (#[].push { key := vs (bs w), val := vi op, born := 0 }) (0 + 1))).set b5 (cellsO [vs (bs w)] 9) := by
      show ((h.set b _).set b _).set b5 _ = _
      rw [Hp.set_set]
    rw [this]
    exact Hp.le_trans (Hp.le_set (Hp.le_refl h) hb _) (Hp.le_set (Hp.le_refl _) hb5 _)
  have hb6 : h6 b = some (.map (#[].push { key := vs (bs w), val := vi op, born := 0 }) (0 + 1)) := by
    have hne : b ≠ b5 := fun e => by rw [e, Hp.set_same] at hb5; cases hb5
    show (((h.set b _).set b _).set b5 _) b = _
    rw [Hp.set_other _ _ hne, Hp.set_same]
  have D6 := D.le l2
  have hb5g : b5 ≠ g := fun e => by
    subst e
    have : (h.set b (.map (#[].push { key := vs (bs w), val := vi op, born := 0 }) (0 + 1))) b5 ≠ none := by rw [Hp.set_other _ _ hbg.symm]; exact D.al
    exact this hb5
  refine reader_row_ok B F kp (ops := [(w, op)]) (by simpa using ho) (by simpa using hw) (by simp) D6 (E.mut (Mut.of_le l2)) S ⟨slb_one _ b5 w, fun b' o e => by cases e; exact hb5g⟩ (fun h' M w' hw' => ?_) fun a c h' D' N' M' => ⟨_, _, _, rfl, ?_⟩
  · have e : w' = w := by simpa using hw'
    subst e
    have ho : opOf [(w', op)] w' = op := by simp [opOf]
    rw [ho]
    have hm : h' b = _ := M.keep b _ (fun e => hbg e) hb6
    refine rd_mapS hm (i := 0) ?_
    show Instr.findNow .string (vs (bs w')) [{ key := vs (bs w'), val := vi op, born := 0 }] 0 = _
    simp [Instr.findNow, Instr.sameNow, (Go.MapKept.bytes_beq (bs w') (bs w')).2 rfl]
  · exact hK a c h' D' (N'.base (le_up l2)) ((Mut.of_le l2).trans M')
theorem reader_product_ok {P : Ps} {n : Nat} (F : Reads 150 P n) (kp : KP P n) : Reads 146 (rowP P [(wStar, 8)]) n := by
  intro h0 h g s D E S R hK
  refine ok_query_reader_product ?_
  unfold VC_query_reader_product
  exact reader_one_ok ⟨_, Tryz.func150, by kernel_rfl, by kernel_rfl⟩ F kp (by decide) (by decide) D E S hK
theorem reader_and_ok {P : Ps} {n : Nat} (F : Reads 106 P n) (kp : KP P n) : Reads 73 (rowP P [(wAnd, 9)]) n := by
  intro h0 h g s D E S R hK
  refine ok_query_reader_and ?_
  unfold VC_query_reader_and
  exact reader_one_ok ⟨_, Tryz.func106, by kernel_rfl, by kernel_rfl⟩ F kp (by decide) (by decide) D E S hK
theorem reader_or_ok {P : Ps} {n : Nat} (F : Reads 73 P n) (kp : KP P n) : Reads 42 (rowP P [(wOr, 10)]) n := by
  intro h0 h g s D E S R hK
  refine ok_query_reader_or ?_
  unfold VC_query_reader_or
  exact reader_one_ok ⟨_, Tryz.func73, by kernel_rfl, by kernel_rfl⟩ F kp (by decide) (by decide) D E S hK
theorem reader_sum_ok {P : Ps} {n : Nat} (F : Reads 146 P n) (kp : KP P n) : Reads 141 (rowP P [(wPlus, 6), (wMinus, 7)]) n := by
  intro h0 h g s D E S R hK
  refine ok_query_reader_sum ?_
  unfold VC_query_reader_sum
  refine sem_makeMap fun b hb => ⟨_, rfl, ?_⟩
  refine sem_mapS (w := wPlus) (Hp.set_same _ _ _) rfl ?_
  refine sem_mapS (w := wMinus) (Hp.set_same _ _ _) rfl ?_
  rw [Hp.set_set, Hp.set_set]
  generalize hM : Obj.map _ _ = ob
  intro b5 hb5 h6
  have hbg : b ≠ g := fun e => by rw [e] at hb; exact D.al hb
  have l2 : h.le h6 := Hp.le_trans (Hp.le_set (Hp.le_refl h) hb _) (Hp.le_set (Hp.le_refl _) hb5 _)
  have hb6 : h6 b = some ob := by
    have hne : b ≠ b5 := fun e => by rw [e, Hp.set_same] at hb5; cases hb5
    show ((h.set b _).set b5 _) b = _
    rw [Hp.set_other _ _ hne, Hp.set_same]
  have D6 := D.le l2
  have hb5g : b5 ≠ g := fun e => by
    subst e
    have : (h.set b ob) b5 ≠ none := by rw [Hp.set_other _ _ hbg.symm]; exact D.al
    exact this hb5
  refine reader_row_ok ⟨_, Tryz.func146, by kernel_rfl, by kernel_rfl⟩ F kp (ops := [(wPlus, 6), (wMinus, 7)]) (by decide) (by decide) (by simp) D6 (E.mut (Mut.of_le l2)) S ⟨slb_lit _ b5 [wPlus, wMinus] (by decide), fun b' o e => by cases e; exact hb5g⟩ (fun h' M w' hw' => ?_) fun a c h' D' N' M' => ⟨_, _, _, rfl, ?_⟩
  · have hm : h' b = some ob := M.keep b _ (fun e => hbg e) hb6
    rw [← hM] at hm
    have e : w' = wPlus ∨ w' = wMinus := by simpa using hw'
    rcases e with rfl | rfl
    · exact rd_mapS hm (i := 0) rfl
    · exact rd_mapS hm (i := 1) rfl
  · exact hK a c h' D' (N'.base (le_up l2)) ((Mut.of_le l2).trans M')
theorem reads_step {t : Three} {n : Nat} (h : KP t.o n ∧ KP t.n n ∧ KP t.u n) (H : Reads 42 t.o n ∧ Reads 106 t.n n ∧ Reads 150 t.u n) : Reads 42 (orS t) (n + 1) ∧ Reads 106 (notS t) (n + 1) ∧ Reads 150 (unS t) (n + 1) := by
  obtain ⟨k1, k2, k3, k4, k5, k6, k7⟩ := keeps_S h
  have h1 : Reads 150 (unS t) (n + 1) := reader_unary_ok H.2.2 h.2.2 (reader_atom_ok H.1 h.1)
  have h2 : Reads 146 (prodS t) (n + 1) := reader_product_ok h1 k3
  have h3 : Reads 141 (sumS t) (n + 1) := reader_sum_ok h2 k4
  have h4 : Reads 127 (cmpS t) (n + 1) := reader_compare_ok h3 k5
  have h5 : Reads 106 (notS t) (n + 1) := reader_not_ok H.2.1 h.2.1 h4
  have h6 : Reads 73 (andS t) (n + 1) := reader_and_ok h5 k2
  exact ⟨reader_or_ok h6 k7, h5, h1⟩
theorem reads_none (f : FuncId) (P : Ps) : Reads f P 0 := by
  intro h0 h g s D E S R hK
  exact absurd S.len (Nat.not_lt_zero _)
theorem reads_all (n : Nat) : Reads 42 (allP n).o n ∧ Reads 106 (allP n).n n ∧ Reads 150 (allP n).u n := by
  induction n with
  | zero => exact ⟨reads_none _ _, reads_none _ _, reads_none _ _⟩
  | succ n ih => rw [allP_succ]; exact reads_step (keeps_all n) ih
end Go.Proofs.YtejefijpcggkfaaGreatDoor
namespace Go.Proofs.YtejefijpcggkfaaGreatDoor
open Go Go.Vc Go.Txt
set_option linter.unusedVariables false
set_option maxRecDepth 100000
theorem is_one {s : RS} {w : Wd} (hw : w ≠ []) (h : (s.is [w]).1 = []) : (s.is [w]).2 = s := by
  rcases s.is_spec [w] with ⟨_, q⟩ | ⟨w', r, _, hm, q, _⟩
  · exact q
  · rw [h] at q
    rw [← q] at hm
    exact absurd (List.mem_singleton.1 hm).symm hw
theorem reader_optional_ok {n : Nat} {h0 h : Hp} {g : Nat} {s : RS} (D : RdAt h0 h g s) (E : EnvQ h0 h g) (S : SOk n s) {w : Wd} (hw : w ≠ []) {d : Int} {R : Value → Hp → Prop} (hK : ∀ h', RdAt h0 h' g (optN w d s).2 → Mut (At g) h (At g) h' → R (vi (optN w d s).1) h') : CallOK Tryz.prog 44 [vhp g 0, vs (bs w), vi d] h R := by
  refine ok_query_reader_optional ?_
  unfold VC_query_reader_optional
  intro b1 hb1 h2
  have hl : h.le h2 := Hp.le_set (Hp.le_refl h) hb1 _
  have hb := S.big
  have io := @is_one s w hw
  have gi := goes_is S.good [w]
  unfold optN at hK
  refine reader_is_ok (D.le hl) (slb_one h b1 w) (by decide) (by omega) fun h4 D4 M4 => ⟨_, rfl, ?_⟩
  have M04 : Mut (At g) h (At g) h4 := (Mut.of_le hl).trans M4
  refine ⟨_, rd_eqBs (b := []), fun e => ?_, fun e => ?_⟩
  · have e := of_decide_eq_true e
    rw [if_pos e] at hK
    rw [io e] at D4
    exact hK h4 D4 M04
  · have e := of_decide_eq_false e
    rw [if_neg e] at hK
    exact reader_number_ok D4 (E.mut M04) (by have := gi.len; omega) (by decide) (by decide) fun h9 D9 M9 => ⟨_, rfl, hK h9 D9 (M04.trans M9)⟩
theorem idx_aggs {w : Wd} (h : w ∈ [[], wCount, wSum, wMin, wMax]) : w ∈ aggsW ∧ (aggsW.idxOf w : Int) = aggKind w := by
  have h2 : w = [] ∨ w = wCount ∨ w = wSum ∨ w = wMin ∨ w = wMax := by simpa using h
  rcases h2 with rfl | rfl | rfl | rfl | rfl <;> exact ⟨by decide, by decide⟩
theorem reader_agg_ok {P : Ps} {n : Nat} (F : Reads 42 P n) (kp : KP P n) {h0 h : Hp} {g : Nat} {s : RS} (D : RdAt h0 h g s) (E : EnvQ h0 h g) (S : SOk n s) {R : Value → Hp → Prop} (hK : ∀ a c h', RdAt h0 h' g (aggP P s).2 → NdAt h h' a (aggP P s).1.2.length (aggP P s).1.2 → Mut (At g) h (At g) h' → R (vag [vi (aggP P s).1.1, vsl a (aggP P s).1.2.length c]) h') : CallOK Tryz.prog 40 [vhp g 0] h R := by
  refine ok_query_reader_agg ?_
  unfold VC_query_reader_agg
  intro b1 hb1 h2
  have hl : h.le h2 := Hp.le_set (Hp.le_refl h) hb1 _
  have hb := S.big
  have gi := goes_is S.good [wCount, wSum, wMin, wMax]
  have gm := @is_mem s [wCount, wSum, wMin, wMax]
  unfold aggP at hK
  simp only at hK
  refine reader_is_ok (D.le hl) (slb_lit h b1 [wCount, wSum, wMin, wMax] (by decide)) (by decide) (by omega) fun h4 D4 M4 => ⟨_, rfl, ?_⟩
  have M04 : Mut (At g) h (At g) h4 := (Mut.of_le hl).trans M4
  generalize s.is [wCount, wSum, wMin, wMax] = B at *
  obtain ⟨w, s1⟩ := B
  simp -zeta only at hK D4 gi gm ⊢
  have S1 := S.goes gi
  have hwm : w ∈ [[], wCount, wSum, wMin, wMax] := by
    by_cases e : w = []
    · rw [e]; simp
    · exact List.mem_cons_of_mem _ (gm e)
  obtain ⟨hwa, hwi⟩ := idx_aggs hwm
  refine ⟨_, rd_eqBs (b := []), ?_⟩
  intro J11
  have hJ : ∀ (h12 : Hp) (t : RS), t = (if w = [] then s1.fail 4 else s1) → RdAt h0 h12 g t → Mut (At g) h (At g) h12 → Goes t s → J11 h12 := by
    intro h12 t ht D12 M12 Gt
    rw [← ht] at hK
    clear ht
    have St := S.goes Gt
    refine reader_must_ok D12 (by have := St.big; omega) fun h14 D14 M14 => ⟨rfl, ?_⟩
    have M014 := M12.trans M14
    have E14 := E.mut M014
    have G2 := Gt.trans (goes_must Gt.ok wOpen)
    obtain ⟨qa, qc, hq, hqs⟩ := E14.now.a
    refine ⟨_, _, _, hq, slices_Index_ok hqs (by decide) ⟨_, rfl, ?_⟩⟩
    rw [if_pos hwa, hwi]
    have D14 : RdAt h0 h14 g (t.must wOpen) := D14
    generalize t.must wOpen = s2 at *
    have S2 := S.goes G2
    intro J56
    have fin : ∀ (k : Int) (a : Option Addr) (c : Nat) (h66 : Hp) (l : List Nd) (u : RS), RdAt h0 h66 g u → NdAt h h66 a l.length l → Mut (At g) h (At g) h66 → SOk n u → (∀ a c h', RdAt h0 h' g (u.must wClose) → NdAt h h' a l.length l → Mut (At g) h (At g) h' → R (vag [vi k, vsl a l.length c]) h') → J56 k a l.length c h66 := by
      intro k a c h66 l u D66 N66 M66 Su hR
      exact reader_must_ok D66 (by have := Su.big; omega) fun h68 D68 M68 => ⟨rfl, hR a c h68 D68 (N66.mut D.al M68) (M66.trans M68)⟩
    clear_value J56
    have orK : ∀ {h26 : Hp} (k : Int), RdAt h0 h26 g s2 → Mut (At g) h (At g) h26 → (∀ a c h', RdAt h0 h' g ((P s2).2.must wClose) → NdAt h h' a (P s2).1.length (P s2).1 → Mut (At g) h (At g) h' → R (vag [vi k, vsl a (P s2).1.length c]) h') → CallOK Tryz.prog 42 [vhp g 0] h26 fun v31 h32 => ∃ (a33 : Option Addr) (n33 c33 : Nat), v31 = vsl a33 n33 c33 ∧ J56 k a33 n33 c33 h32 := by
      intro h26 k D26 M26 hR
      have k2 := kp s2 S2.good (Nat.le_of_lt S2.len)
      exact F D26 (E.mut M26) S2 fun a c h' D' N' M' => ⟨_, _, _, rfl, fin k a c h' _ _ D' (N'.base (M26.up D26.al)) (M26.trans M') (S2.goes k2.goes) hR⟩
    refine ⟨_, rd_eqBs (b := wCount), fun e => ?_, fun e => ?_⟩
    · have ew : w = wCount := of_decide_eq_true e
      have hk1 : aggKind w = 1 := by rw [ew]; rfl
      intro b20 hb20 h21
      have l21 : h14.le h21 := Hp.le_set (Hp.le_refl h14) hb20 _
      have M21 := M014.trans (Mut.of_le l21)
      have gi2 := goes_is S2.good [wStar]
      have io := @is_one s2 wStar (by decide)
      refine ⟨fun x hh => x = .t (.one (.v (vs (bs (s2.is [wStar]).1)))) ∧ RdAt h0 hh g (s2.is [wStar]).2 ∧ Mut (At g) h (At g) hh, fun _ => reader_is_ok (D14.le l21) (slb_one h14 b20 wStar) (by decide) (by have := S2.big; omega) fun h24 D24 M24 => ⟨_, rfl, rfl, D24, M21.trans M24⟩, fun q => absurd e q, ?_⟩
      rintro h26 s27 ⟨e27, D26, M26⟩
      cases e27
      generalize s2.is [wStar] = C at *
      obtain ⟨v, s3⟩ := C
      simp only at hK D26 gi2 io ⊢
      refine ⟨_, fun _ => rd_neBs (b := []), fun q => ?_, fun q => ?_⟩
      · have q2 : v ≠ [] := by simpa [ew] using q
        rw [if_pos ⟨ew, q2⟩] at hK
        rw [hk1]
        exact fin 1 none 0 h26 [] s3 D26 (nd_nil _ _) M26 (S2.goes gi2) hK
      · have q2 : v = [] := by simpa [ew] using q
        rw [if_neg (by rintro ⟨_, h⟩; exact h q2), if_pos ew] at hK
        rw [io q2] at D26
        refine ⟨_, rd_eqBs (b := wCount), fun q3 => orK 2 D26 M26 hK, fun q3 => absurd ew (of_decide_eq_false q3)⟩
    · have e0 : ¬ w = wCount := fun h => e (decide_eq_true h)
      rw [if_neg (by rintro ⟨h, _⟩; exact e0 h), if_neg e0] at hK
      refine ⟨fun x hh => x = .t (.one (.v (vs ⟨#[]⟩))) ∧ hh = h14, fun q => absurd q e, fun _ => ⟨rfl, rfl⟩, ?_⟩
      rintro h43 s44 ⟨e43, rfl⟩
      cases e43
      refine ⟨false, fun q => absurd q e, fun q => by simp at q, fun _ => ?_⟩
      refine ⟨_, rd_eqBs (b := wCount), fun q3 => absurd (of_decide_eq_true q3) e0, fun q3 => orK (aggKind w) D14 M014 hK⟩
  clear_value J11
  refine ⟨fun e => ?_, fun e => ?_⟩
  · have e := of_decide_eq_true e
    exact reader_fail_ok D4 (by decide) fun h8 D8 M8 => ⟨rfl, hJ h8 _ (by rw [if_pos e]) D8 (M04.trans M8) (gi.trans (goes_fail _ _))⟩
  · have e := of_decide_eq_false e
    exact hJ h4 _ (by rw [if_neg e]) D4 M04 gi
end Go.Proofs.YtejefijpcggkfaaGreatDoor
