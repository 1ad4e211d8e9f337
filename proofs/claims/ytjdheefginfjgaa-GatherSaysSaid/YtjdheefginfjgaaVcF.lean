/-
  The framework of this prover's proofs, part F: each operation that may change the heap, each region without a draw. Conditions: none.
-/
import Derived.Test.YtjdheefginfjgaaVcE
set_option linter.unusedVariables false
namespace Go.Vc
open Go

section
variable {P : Program} {cfg : Cfg} {ρ : Nat → Option Nat} {w0 : World} {h0 : Hp} {st : St} {h : Hp} {a : Act} {w : World} {ch : List (Nat × Bool)}
variable {K : SV → List Box → Hp → Prop} {next : Act → World → Prop} {Q : Exit → Act → World → Prop}

theorem run_alloc_T {T : TypeId} {z : List TV} (hz : zeroL P T = some z) : (Instr.alloc T true (.tuple #[])).run P w = .ok (.pointer (some ⟨w.heap.size, 0, none⟩)) (w.alloc (.cells (tvals z).toArray T)) := by
  obtain ⟨i, zv, hi, hz1, hz2⟩ := zeroL_run hz
  have : (tvals z).toArray = zv.cells := by rw [hz2]
  rw [this]
  simp [Instr.alloc, zeroValue, typeInfo, hi, hz1, newVar, newRow]
theorem run_box_T {T : TypeId} {v : Value} : (Instr.box T v).run P w = .ok (.pointer (some ⟨w.heap.size, 0, none⟩)) (w.alloc (.cells v.cells T)) := by
  simp [Instr.box, newVar, newRow]

theorem flat_zero (z : Array Value) (n : Nat) (hz : 0 < z.size) : ((Array.range (n * z.size)).map fun i => z[i % z.size]!) = ((List.replicate n z.toList).flatten).toArray := by
  apply Array.ext
  · simp
  · intro i h1 h2
    simp at h1
    have hm : i % z.size < z.size := Nat.mod_lt _ hz
    simp only [Array.getElem_map, Array.getElem_range, List.getElem_toArray]
    rw [getElem!_pos z _ hm]
    have : ∀ (n i : Nat) (hi : i < n * z.size), ((List.replicate n z.toList).flatten)[i]? = z.toList[i % z.size]? := by
      intro n
      induction n with
      | zero => intro i hi; omega
      | succ n ih =>
        intro i hi
        simp only [List.replicate_succ, List.flatten_cons, List.getElem?_append, Array.length_toList]
        split
        · rename_i hlt; rw [Nat.mod_eq_of_lt hlt]
        · rename_i hge
          rw [ih (i - z.size) (by rw [Nat.succ_mul] at hi; omega)]
          have : i = i - z.size + z.size := by omega
          conv => rhs; rw [this, Nat.add_mod_right]
    have e := this n i h1
    have h3 : i < ((List.replicate n z.toList).flatten).length := by simpa using h2
    rw [List.getElem?_eq_getElem h3] at e
    rw [List.getElem?_eq_getElem (by simpa using hm)] at e
    simpa using e.symm

theorem tvals_flatten_replicate (n : Nat) (z : List TV) : tvals ((List.replicate n z).flatten) = (List.replicate n (tvals z)).flatten := by
  induction n with
  | zero => simp [tvals]
  | succ n ih => simp [List.replicate_succ, tvals_append, ih]

theorem run_buildSlice_T {T e : TypeId} {n : Nat} (hu : P.underlying T = some (.slice e)) {z cs : List TV} (hz : zeroL P e = some z) (h1 : 1 ≤ szT P e) (h2 : z.length = szT P e) (h3 : n * szT P e ≤ 4096)
    {ps : List (Nat × TW)} (hp : ∀ q ∈ ps, plainW q.2 = true) (hf : fillL (fun i => some (i * szT P e, szT P e)) ((List.replicate n z).flatten) ps = some cs) :
    (Instr.buildSlice T n (ps.map fun q => (q.1, q.2.val)).toArray).run P w = .ok (.slice (some ⟨w.heap.size, 0, none⟩) n n) (w.alloc (.cells (tvals cs).toArray e)) := by
  obtain ⟨i, zv, hi, hz1, hz2⟩ := zeroL_run hz
  have hfill := fill_fillL hf hp
  have hsz := run_sizeOf_szT (P := P) h1 w
  have hzs : zv.cells.size = szT P e := by rw [← Array.length_toList, ← hz2, tvals_length, h2]
  have hcells : ((Array.range (n * szT P e)).map fun i => zv.cells[i % zv.cells.size]!) = (tvals ((List.replicate n z).flatten)).toArray := by
    rw [tvals_flatten_replicate, hz2, ← hzs]
    exact flat_zero zv.cells n (by omega)
  rw [← hcells] at hfill
  have hle : ¬ (n * szT P e > 2 ^ 24) := by omega
  by_cases hn : n = 0
  · subst hn
    simp at hfill
    simp [Instr.buildSlice, run_underlying hu, hsz, newRow]
    rw [show (Array.map (fun (_ : Nat) => (default : Value)) (Array.range 0)) = Array.map (fun i => zv.cells[i % zv.cells.size]!) (Array.range 0) from by simp, hfill]
    simp
  · have hne : ¬ (n * szT P e = 0) := by
      intro h0
      rcases Nat.mul_eq_zero.1 h0 with h0 | h0 <;> omega
    simp [Instr.buildSlice, run_underlying hu, hsz, newRow, hle, hne, zeroValue, typeInfo, hi, hz1]
    rw [hfill]
    simp

theorem vcE_ok (hP : NoNG P) (R : RelR ρ w0 h0 st h a w) (hch : ∀ s p, (s, p) ∈ ch → a.tmps.getD s undef = .bool p) {o : Oper} (H : vcE P cfg o ch st h K) (hn : Nxt w0 h0 st K o a next) :
    o.upon P a next Q ((execOp a.eval o).run P w) := by
  obtain ⟨d, op, ty, pos, af, gd⟩ := o
  have hev := fun x => ev_ok R hch x
  have hval := fun {x : Operand} {v : Value} (hv : (st.ev ch x).val? = some v) => val_ok R hch hv
  cases op with
  | alloc T =>
    simp only [vcE] at H
    split at H
    · rename_i z hz
      exact upon_newBox R H hn (by rw [exec_v (m := Instr.alloc T true (.tuple #[])) rfl, run_alloc_T hz]; rfl)
    · exact H.elim
  | box T x =>
    simp only [vcE] at H
    have hx := hev x
    split at H
    · rename_i y e
      rw [e] at hx
      cases ho : allOneT y.cells with
      | false => unfold newBox at H; rw [ho] at H; exact H.elim
      | true =>
        have hpl : plainW y = true := by
          cases y with
          | one v => simp [TW.cells, allOneT] at ho; exact ho
          | ag l => rfl
        have hc := plainW_cells hpl
        refine upon_newBox R H hn ?_
        rw [exec_v (m := Instr.box T (a.eval x)) rfl, run_box_T, show a.eval x = y.val from hx]
        rw [hc]
        rfl
    · exact H.elim
  | buildSlice T n parts =>
    simp only [vcE] at H
    split at H
    · rename_i e ps hu hps
      split at H
      · rename_i z hz
        cases hc : (Nat.ble 1 (szT P e) && Nat.beq z.length (szT P e) && Nat.ble (n * szT P e) 4096) with
        | false => rw [hc] at H; exact H.elim
        | true =>
          rw [hc] at H
          simp only [Bool.and_eq_true] at hc
          simp only [cond_true] at H
          split at H
          · rename_i cs hf
            cases ho : allOneT cs with
            | false => rw [ho] at H; exact H.elim
            | true =>
              rw [ho] at H
              simp only [cond_true] at H
              have hE : (execOp a.eval ⟨d, .buildSlice T n parts, ty, pos, af, gd⟩).run P w = ((Instr.buildSlice T n (ps.map fun q => (q.1, q.2.val)).toArray).run P w).andThen fun v w' => .ok (.value v) w' := by
                have e := partsL_ok R hch hps
                have : parts.map (fun (q : Nat × Operand) => (q.1, a.eval q.2)) = (ps.map fun q => (q.1, q.2.val)).toArray := by
                  apply Array.ext'
                  simpa using e
                rw [← this]
                exact exec_v rfl
              rw [hE, run_buildSlice_T hu hz (Nat.le_of_ble_eq_true hc.1.1) (Nat.eq_of_beq_eq_true hc.1.2) (Nat.le_of_ble_eq_true hc.2) (partsL_plain hps) hf, Result.andThen_ok, Oper.upon_value]
              exact hn _ _ _ ρ _ _ (H w.heap.size R.sub.none) (R.step (R.sub.pushSet _) (Fr.pushSet h w _)) rfl (BoxMono.refl _)
          · exact H.elim
      · exact H.elim
    · exact H.elim
  | store T x y =>
    simp only [vcE] at H
    have hx := hev x
    have hy := hev y
    have hE : ∀ b o', a.eval x = .pointer (some ⟨b, o', none⟩) → (execOp a.eval ⟨d, .store T x y, ty, pos, af, gd⟩).run P w = ((storeVar T ⟨b, o', none⟩ (a.eval y)).run P w).andThen fun _ w' => .ok .skip w' := by
      intro b o' hb
      simp [execOp, hb, Instr.storeAt, Instr.sureAddr]
    split at H
    · rename_i i o' y' e1 e2
      rw [e1] at hx; rw [e2] at hy
      obtain ⟨b, hb, hx⟩ := hx
      split at H
      · rename_i bx hbx
        cases hc : (Nat.ble 1 (szT P T) && Nat.beq y'.cells.length (szT P T) && Nat.ble (o' + y'.cells.length) bx.c.length && allOneT y'.cells) with
        | false => rw [hc] at H; exact H.elim
        | true =>
          rw [hc] at H
          simp only [Bool.and_eq_true] at hc
          simp only [cond_true] at H
          have hpl : plainW y' = true := by
            cases y' with
            | one v => simp [TW.cells, allOneT] at hc; exact hc.2
            | ag l => rfl
          obtain ⟨b', k1, k2, k3, k4⟩ := R.box i bx hbx
          rw [hb] at k1; obtain rfl := Option.some.inj k1
          have hfit := Nat.le_of_ble_eq_true hc.1.2
          have hrun := run_storeVar_T (P := P) (w := w) (T := T) (b := b) (o := o') (v := y'.val) (vs := tvals y'.cells) (Nat.le_of_ble_eq_true hc.1.1.1) (plainW_cells hpl).symm
            (by rw [tvals_length]; exact Nat.eq_of_beq_eq_true hc.1.1.2) (allOneT_cells hc.2) k2 (by simpa [tvals_length] using hfit)
          rw [hE _ _ hx, show a.eval y = y'.val from hy, hrun, Result.andThen_ok, Oper.upon_skip]
          have hset := R.setBox hbx hb (setL bx.c o' y'.cells)
          rw [setL_tvals] at hset
          exact hn .any _ _ ρ undef _ H (by simpa using hset) trivial (boxMono_set hbx _)
      · exact H.elim
    · rename_i b o' y' e1 e2
      rw [e1] at hx; rw [e2] at hy
      have hx' : a.eval x = .pointer (some ⟨b, o', none⟩) := hx
      cases hc : (Nat.ble 1 (szT P T) && Nat.beq y'.cells.length (szT P T) && allOneT y'.cells) with
      | false => rw [hc] at H; exact H.elim
      | true =>
        rw [hc] at H
        simp only [Bool.and_eq_true] at hc
        simp only [cond_true] at H
        obtain ⟨c, t, hb, hfit, hk⟩ := H
        have hpl : plainW y' = true := by
          cases y' with
          | one v => simp [TW.cells, allOneT] at hc; exact hc.2
          | ag l => rfl
        have hwb := R.sub b _ hb
        have hrun := run_storeVar_T (P := P) (w := w) (T := T) (b := b) (o := o') (v := y'.val) (vs := tvals y'.cells) (Nat.le_of_ble_eq_true hc.1.1) (plainW_cells hpl).symm
          (by rw [tvals_length]; exact Nat.eq_of_beq_eq_true hc.1.2) (allOneT_cells hc.2) hwb hfit
        rw [hE _ _ hx', show a.eval y = y'.val from hy, hrun, Result.andThen_ok, Oper.upon_skip]
        refine hn .any _ _ ρ undef _ hk (R.step ?_ ?_) trivial (BoxMono.refl _)
        · intro k o hk
          rw [setRow_get w b _ _ _ _ hwb]
          by_cases e : k = b
          · subst e; rw [Hp.set_same] at hk; rw [if_pos rfl, hk]
          · rw [Hp.set_other _ _ e] at hk; rw [if_neg e]; exact R.sub k o hk
        · refine ⟨rfl, rfl, rfl, by simp [World.setRow], fun k hk hkn => ?_⟩
          have e : k ≠ b := by intro e; subst e; simp [hb] at hkn
          exact ⟨by rw [setRow_get w b _ _ _ _ hwb, if_neg e], by rw [Hp.set_other _ _ e]; exact hkn⟩
    · exact H.elim
  | call c =>
    obtain ⟨callee, args, ts⟩ := c
    have hargs : ∀ vs, st.evs ch args.toList = some vs → args.map a.eval = vs.toArray := by
      intro vs hvs
      have e := evs_ok R hch hvs
      apply Array.ext'; simpa using e
    cases callee with
    | invoke r m => exact H.elim
    | value f =>
      cases f with
      | func g =>
        simp only [vcE] at H
        split at H
        · rename_i vs hvs
          have hE : (execOp a.eval ⟨d, .call ⟨.value (.func g), args, ts⟩, ty, pos, af, gd⟩).run P w = (callFunc g vs.toArray).run P w := by
            simp [execOp, resolve, invoke, Act.eval, Deferred.ofValue, hargs vs hvs]
          split at H
          · rename_i hb
            obtain ⟨fn, hf, hbody⟩ := Option.map_eq_some_iff.1 hb
            exact upon_call R H hn (by rw [hE, run_callFunc_body hf (hP g fn hf) hbody])
          · rename_i hb
            obtain ⟨v, w', h', k1, k2, k3, k4⟩ := H w R.sub
            obtain ⟨x, ⟨rfl, hk⟩, hx⟩ := exS_elim (show exS _ _ from k4)
            rw [hE, k1, Oper.upon_value]
            exact hn _ _ _ ρ _ _ hk (R.step k2 k3) (SV.ok_val hx) (BoxMono.refl _)
          · exact H.elim
        · exact H.elim
      | tmp t =>
        simp only [vcE] at H
        split at H
        · rename_i vs fv hvs hfv
          obtain ⟨g, pre, post, rfl, ⟨fn, hf, hname, hb⟩, hc⟩ := H
          have hE : (execOp a.eval ⟨d, .call ⟨.value (.tmp t), args, ts⟩, ty, pos, af, gd⟩).run P w = (callFunc g (pre.toList ++ vs ++ post.toList).toArray).run P w := by
            have e : (pre.toList ++ vs ++ post.toList).toArray = pre ++ vs.toArray ++ post := by apply Array.ext'; simp
            rw [e]
            simp [execOp, resolve, invoke, hval hfv, Deferred.ofValue, hargs vs hvs]
          have hb' : fn.body.isSome = true := by cases hq : fn.body <;> simp_all
          exact upon_call R hc hn (by rw [hE, run_callFunc_body hf hname hb'])
        · exact H.elim
      | _ => exact H.elim
    | builtin b =>
      have hE : ∀ (m : Sem Value) (vs : List Value), st.evs ch args.toList = some vs → (∀ cs, builtin b ts ty cs vs.toArray = (do pure (.value (← m)))) →
          (execOp a.eval ⟨d, .call ⟨.builtin b, args, ts⟩, ty, pos, af, gd⟩).run P w = (m.run P w).andThen fun v w' => .ok (.value v) w' := by
        intro m vs hvs hm
        simp [execOp, resolve, invoke, hargs vs hvs, hm]
      simp only [vcE] at H
      split at H
      · rename_i vs hvs
        split at H
        · exact upon_sem R H hn (hE _ vs hvs (fun _ => rfl))
        · exact upon_sem R H hn (hE _ vs hvs (fun _ => rfl))
        · exact upon_sem R H hn (hE _ vs hvs (fun _ => rfl))
        · exact upon_sem R H hn (hE _ vs hvs (fun _ => rfl))
        · exact H.elim
      · exact H.elim
  | makeMap T r =>
    cases r with
    | some r => exact H.elim
    | none => exact upon_sem R (show SemOK P _ h _ from H) hn (exec_v (by simp [execOp]))
  | makeSlice T l c =>
    simp only [vcE] at H
    split at H
    · rename_i u v e1 e2
      exact upon_sem R H hn (exec_v (by simp [execOp, hval e1, hval e2]))
    · exact H.elim
  | mapUpdate T m k x =>
    simp only [vcE] at H
    split at H
    · rename_i m' k' x' e1 e2 e3
      obtain ⟨w', h', k1, k2, k3, k4⟩ := H w R.sub
      have hE : (execOp a.eval ⟨d, .mapUpdate T m k x, ty, pos, af, gd⟩).run P w = ((Instr.mapUpdate T m' k' x').run P w).andThen fun _ w' => .ok .skip w' := by
        simp [execOp, hval e1, hval e2, hval e3]
      rw [hE, k1, Result.andThen_ok, Oper.upon_skip]
      exact hn .any _ _ ρ undef _ k4 (R.step k2 k3) trivial (BoxMono.refl _)
    · exact H.elim
  | range T x =>
    simp only [vcE] at H
    split at H
    · rename_i u e1
      obtain ⟨v, w', h', k1, k2, k3, k4⟩ := H w R.sub
      have hE : (execOp a.eval ⟨d, .range T x, ty, pos, af, gd⟩).run P w = ((Instr.range T u).run P w).andThen fun v w' => .ok (.value v) w' := exec_v (by simp [execOp, hval e1])
      rw [hE, k1, Result.andThen_ok, Oper.upon_value]
      exact hn _ _ _ ρ _ _ k4 (R.step k2 k3) rfl (BoxMono.refl _)
    · exact H.elim
  | next it s =>
    simp only [vcE] at H
    split at H
    · rename_i u e1
      exact upon_sem R H hn (exec_v (by simp [execOp, hval e1]))
    · exact H.elim
  | _ => exact H.elim
end
end Go.Vc
