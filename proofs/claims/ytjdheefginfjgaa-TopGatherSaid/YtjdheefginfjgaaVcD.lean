/-
  The framework of this prover's proofs, part D: each operation that does not change the heap runs as part A says. Conditions: none.
-/
import Derived.Test.YtjdheefginfjgaaVcC
set_option linter.unusedVariables false
namespace Go.Vc
open Go

section
variable {P : Program} {ρ : Nat → Option Nat} {w0 : World} {h0 : Hp} {st : St} {h : Hp} {a : Act} {w : World} {ch : List (Nat × Bool)} {G : Prop → Prop} {K : SV → Prop}

theorem exec_v {d : Option Tmp} {op : Op} {ty : TypeId} {pos : String} {af : Array Edge} {gd : Option (Nat × Bool)} {m : Sem Value}
    (hm : execOp a.eval ⟨d, op, ty, pos, af, gd⟩ = (do pure (.value (← m)))) : (execOp a.eval ⟨d, op, ty, pos, af, gd⟩).run P w = (m.run P w).andThen fun v w' => .ok (.value v) w' := by
  rw [hm]; simp

theorem vrun_of {o : Oper} {sv : SV} {v : Value} (hr : (execOp a.eval o).run P w = .ok (.value v) w) (hv : sv.ok ρ v) : VRun P o ρ a w sv := ⟨v, hr, hv⟩

theorem run_fieldAt {T : TypeId} {f off : Nat} (hf : offT P T f = some off) {x : Value} {b o : Nat} (hx : x = .pointer (some ⟨b, o, none⟩)) :
    (Instr.fieldAt T x f).run P w = .ok (.pointer (some ⟨b, o + off, none⟩)) w := by
  subst hx
  unfold offT at hf
  split at hf
  · rename_i fs hu
    cases hg : fs[f]? with
    | none => simp [hg] at hf
    | some fd =>
      simp only [hg, Option.bind_some] at hf
      cases hz : Nat.beq (szT P fd.type) 0 with
      | true => simp [hz] at hf
      | false =>
        simp only [hz, cond_false, Option.some.injEq] at hf
        subst hf
        have h1 : 1 ≤ szT P fd.type := by have := Nat.ne_of_beq_eq_false hz; omega
        have hs := run_sizeOf_szT (P := P) h1 w
        simp [Instr.fieldAt, run_underlying hu, hg, Instr.sureAddr, fieldPlace, hs, addr_add, show ¬ szT P fd.type = 0 by omega]
  · simp at hf

theorem run_places_T (w : World) : ∀ (fs : List Field), sizesOK P fs = true → (fs.mapM fun f => Functor.map (Prod.mk f.offset) (sizeOf f.type)).run P w = .ok (fs.map fun f => (f.offset, szT P f.type)) w
  | [], _ => by simp
  | f :: fs, h1 => by
    simp only [sizesOK, Bool.and_eq_true] at h1
    have hs := run_sizeOf_szT (P := P) (Nat.le_of_ble_eq_true h1.1) w
    simp [List.mapM_cons, hs, run_places_T w fs h1.2]

theorem run_build_struct {T : TypeId} {fs : Array Field} (hu : P.underlying T = some (.struct fs)) {z cs : List TV} (hz : zeroL P T = some z) (hs : sizesOK P fs.toList = true) {ps : List (Nat × TW)} (hp : ∀ q ∈ ps, plainW q.2 = true)
    (hf : fillL (fun i => (fs[i]?).map fun f => (f.offset, szT P f.type)) z ps = some cs) :
    (Instr.build T (ps.map fun q => (q.1, q.2.val)).toArray).run P w = .ok (.agg (tvals cs).toArray) w := by
  obtain ⟨it, zv, hi, hz1, hz2⟩ := zeroL_run hz
  have hfill := fill_fillL hf hp
  have hzc : zv.cells = (tvals z).toArray := by rw [hz2]
  have hpl := run_places_T (P := P) w fs.toList hs
  have e : (fun (i : Nat) => (fs.toList.map fun f => (f.offset, szT P f.type)).toArray[i]?) = fun i => (fs[i]?).map fun f => (f.offset, szT P f.type) := by
    funext i; simp
  simp [Instr.build, zeroValue, typeInfo, hi, hz1, run_underlying hu, Array.mapM_eq_mapM_toList, hpl, hzc]
  have e' : (fun (i : Nat) => Option.map (fun f => (f.offset, szT P f.type)) fs[i]?) = fun i => (fs[i]?).map fun f => (f.offset, szT P f.type) := rfl
  rw [show (fun (x : Nat) => Option.map (fun f => (f.offset, szT P f.type)) fs[x]?) = fun i => (fs[i]?).map fun f => (f.offset, szT P f.type) from rfl, hfill]
  simp
theorem run_build_array {T e : TypeId} {n : Nat} (hu : P.underlying T = some (.array n e)) {z cs : List TV} (hz : zeroL P T = some z) (hs : 1 ≤ szT P e) {ps : List (Nat × TW)} (hp : ∀ q ∈ ps, plainW q.2 = true)
    (hf : fillL (fun i => some (i * szT P e, szT P e)) z ps = some cs) :
    (Instr.build T (ps.map fun q => (q.1, q.2.val)).toArray).run P w = .ok (.agg (tvals cs).toArray) w := by
  obtain ⟨it, zv, hi, hz1, hz2⟩ := zeroL_run hz
  have hfill := fill_fillL hf hp
  have hzc : zv.cells = (tvals z).toArray := by rw [hz2]
  have hsz := run_sizeOf_szT (P := P) hs w
  simp [Instr.build, zeroValue, typeInfo, hi, hz1, run_underlying hu, hzc, hsz, hfill]

theorem vcV_ok (R : RelR ρ w0 h0 st h a w) (hch : ∀ s p, (s, p) ∈ ch → a.tmps.getD s undef = .bool p) (hG : ∀ p, G p → p) {o : Oper} (H : vcV P o ch G st h K) :
    ∃ sv, K sv ∧ VRun P o ρ a w sv := by
  obtain ⟨d, op, ty, pos, af, gd⟩ := o
  have hev := fun x => ev_ok R hch x
  have hval := fun {x : Operand} {v : Value} (hv : (st.ev ch x).val? = some v) => val_ok R hch hv
  cases op with
  | move x => exact ⟨_, H, _, rfl, hev x⟩
  | assign x => exact ⟨_, H, _, rfl, hev x⟩
  | pick c x y =>
    simp only [vcV, vcVd] at H
    cases c with
    | tmp s =>
      simp only at H
      split at H
      · rename_i c' x' y' hc hx hy
        refine ⟨_, H, .bool (bif c' then x' else y'), ?_, rfl⟩
        have ec : a.eval (.tmp s) = .bool c' := sv_cases_t hc (hev _)
        have hs : a.tmps.getD s undef = .bool c' := ec
        cases c' with
        | true =>
          have ex : a.eval x = .bool x' := sv_cases_t hx (ev_ok R (by
            intro s' p' hm
            simp only [List.mem_cons, Prod.mk.injEq] at hm
            rcases hm with ⟨rfl, rfl⟩ | hm
            · exact hs
            · exact hch _ _ hm) x)
          simp [execOp, ec, ex, asBool]
        | false =>
          have ey : a.eval y = .bool y' := sv_cases_t hy (ev_ok R (by
            intro s' p' hm
            simp only [List.mem_cons, Prod.mk.injEq] at hm
            rcases hm with ⟨rfl, rfl⟩ | hm
            · exact hs
            · exact hch _ _ hm) y)
          simp [execOp, ec, ey, asBool]
      · exact H.elim
    | _ => exact H.elim
  | nilCheck x =>
    simp only [vcV, vcVd] at H
    have hx := hev x
    split at H
    · rename_i i o' e; rw [e] at hx; obtain ⟨b', hb', hx⟩ := hx; exact ⟨_, H, _, by simp [execOp, hx], b', hb', rfl⟩
    · rename_i b o' e; rw [e] at hx; exact ⟨_, H, _, by simp [execOp, show a.eval x = _ from hx, TW.val, TV.val], rfl⟩
    · rename_i p e
      rw [e] at hx
      obtain ⟨b, o', hp, hk⟩ := H
      have hp := hG _ hp
      subst hp
      exact ⟨_, hk, _, by simp [execOp, show a.eval x = _ from hx, TW.val, TV.val], rfl⟩
    · exact H.elim
  | binOp op T x y T' =>
    simp only [vcV, vcVd] at H
    have hx := hev x
    have hy := hev y
    split at H
    · rename_i m n e
      obtain ⟨e1, e2⟩ := two_i64 e
      rw [e1] at hx; rw [e2] at hy
      have hrun := run_binOp_op (P := P) (a := a) (w := w) (op := op) (T := T) (T' := T') (d := d) (ty := ty) (pos := pos) (af := af) (gd := gd) (show a.eval x = .int .i64 m from hx) (show a.eval y = .int .i64 n from hy)
      rw [Sem.run_bind, eqGuard_int, Result.andThen_ok] at hrun
      cases hop : isIntOp op with
      | true =>
        rw [hop] at H
        obtain ⟨v, hk, hr⟩ := vcInt_ok (P := P) (w := w) (T := T) hG H
        exact ⟨_, hk, v.val, by rw [hrun, hr]; rfl, rfl⟩
      | false =>
        rw [hop] at H
        exact vcRd_ok R.sub hG (show vcRd P G _ _ h K from H) hrun
    · rename_i k m n e
      obtain ⟨e1, e2⟩ := two_ik e
      rw [e1] at hx; rw [e2] at hy
      have hrun := run_binOp_op (P := P) (a := a) (w := w) (op := op) (T := T) (T' := T') (d := d) (ty := ty) (pos := pos) (af := af) (gd := gd) (show a.eval x = .int k m from hx) (show a.eval y = .int k n from hy)
      rw [Sem.run_bind, eqGuard_int, Result.andThen_ok] at hrun
      cases hop : isCmpOp op with
      | true =>
        rw [hop] at H
        obtain ⟨v, hk, hr⟩ := vcCmp_ok (P := P) (w := w) (T := T) (k := k) H
        exact ⟨_, hk, v.val, by rw [hrun, hr]; rfl, rfl⟩
      | false =>
        rw [hop] at H
        exact vcRd_ok R.sub hG (show vcRd P G _ _ h K from H) hrun
    · rename_i m e
      obtain ⟨e1, e2⟩ := two_nilR e
      rw [e1] at hx; rw [e2] at hy
      cases hc : (isNilC y && isIfc P T) with
      | false => rw [hc] at H; exact H.elim
      | true =>
        rw [hc] at H
        simp only [Bool.and_eq_true] at hc
        obtain ⟨ms, hT⟩ := isIfc_und hc.2
        have hrun := run_binOp_op (P := P) (a := a) (w := w) (op := op) (T := T) (T' := T') (d := d) (ty := ty) (pos := pos) (af := af) (gd := gd) (show a.eval x = ifv m from hx) (show a.eval y = .nilIface from hy)
        rw [Sem.run_bind, eqGuard_nil (.inr (isNilC_eq hc.1)) (.inr rfl), Result.andThen_ok] at hrun
        simp only [cond_true] at H
        split at H
        · exact ⟨_, H, _, by rw [hrun, binOp_nil_right hT m _ (.inl ⟨rfl, rfl⟩)]; rfl, rfl⟩
        · exact ⟨_, H, _, by rw [hrun, binOp_nil_right hT m _ (.inr ⟨rfl, rfl⟩)]; rfl, rfl⟩
        · exact H.elim
    · rename_i m e
      obtain ⟨e1, e2⟩ := two_nilL e
      rw [e1] at hx; rw [e2] at hy
      cases hc : (isNilC x && isIfc P T) with
      | false => rw [hc] at H; exact H.elim
      | true =>
        rw [hc] at H
        simp only [Bool.and_eq_true] at hc
        obtain ⟨ms, hT⟩ := isIfc_und hc.2
        have hrun := run_binOp_op (P := P) (a := a) (w := w) (op := op) (T := T) (T' := T') (d := d) (ty := ty) (pos := pos) (af := af) (gd := gd) (show a.eval x = .nilIface from hx) (show a.eval y = ifv m from hy)
        rw [Sem.run_bind, eqGuard_nil (.inl (isNilC_eq hc.1)) (.inl rfl), Result.andThen_ok] at hrun
        simp only [cond_true] at H
        split at H
        · exact ⟨_, H, _, by rw [hrun, binOp_nil_left hT m _ (.inl ⟨rfl, rfl⟩)]; rfl, rfl⟩
        · exact ⟨_, H, _, by rw [hrun, binOp_nil_left hT m _ (.inr ⟨rfl, rfl⟩)]; rfl, rfl⟩
        · exact H.elim
    · split at H
      · rename_i u v e1 e2
        exact vcRd_ok R.sub hG H (run_binOp_op (hval e1) (hval e2))
      · exact H.elim
  | unOp op T x =>
    simp only [vcV, vcVd] at H
    have hx := hev x
    split at H
    · rename_i b e; rw [e] at hx; exact ⟨_, H, .bool (!b), by simp [execOp, show a.eval x = .bool b from hx, Op.unary], rfl⟩
    · rename_i m e
      rw [e] at hx
      obtain ⟨z, hz, hk⟩ := H
      have hw : IntKind.i64.wrap (0 - m) = z := by
        have := hG _ hz
        unfold IsW at this
        rw [Int.zero_sub, this]
      exact ⟨_, hk, .int .i64 z, by simp only [execOp, show a.eval x = .int .i64 m from hx, Op.unary, Op.intArith, hw]; rfl, rfl⟩
    · split at H
      · rename_i u e
        refine vcRd_ok R.sub hG H (exec_v ?_)
        simp [execOp, hval e]
      · exact H.elim
  | convert src dst x =>
    simp only [vcV, vcVd] at H
    have hx := hev x
    split at H
    · rename_i k k' m hs hu e
      rw [e] at hx
      have hx' : a.eval x = .int k' m := hx
      obtain ⟨sd, hsd⟩ := Option.isSome_iff_exists.1 hs
      refine ⟨_, H, .int k (k.wrap m), ?_, rfl⟩
      simp [execOp, hx', convert, run_underlying hsd, run_underlying hu, Conv.intToInt]
    · split at H
      · rename_i u e
        refine vcRd_ok R.sub hG H (exec_v ?_)
        simp [execOp, hval e]
      · exact H.elim
  | makeInterface T x =>
    simp only [vcV, vcVd] at H
    cases hd : P.underlying T with
    | none => rw [hd] at H; exact H.elim
    | some dd =>
      cases hv : (st.ev ch x).val? with
      | none => rw [hd, hv] at H; cases dd <;> exact H.elim
      | some u =>
        rw [hd, hv] at H
        have hE : (execOp a.eval ⟨d, .makeInterface T x, ty, pos, af, gd⟩).run P w = ((Instr.makeInterface T u).run P w).andThen fun v w' => .ok (.value v) w' := exec_v (by simp [execOp, hval hv])
        cases dd <;> first | exact H.elim | exact ⟨_, H, .iface T u, by rw [hE]; simp [Instr.makeInterface, run_underlying hd], rfl⟩
  | fieldAddr T x f =>
    simp only [vcV, vcVd] at H
    have hx := hev x
    split at H
    · rename_i off i o' hf e; rw [e] at hx
      obtain ⟨b', hb', hx⟩ := hx
      exact ⟨_, H, _, by simp only [execOp, Sem.run_bind]; rw [run_fieldAt hf hx]; rfl, b', hb', rfl⟩
    · rename_i off b o' hf e; rw [e] at hx
      exact ⟨_, H, _, by simp only [execOp, Sem.run_bind]; rw [run_fieldAt hf hx]; rfl, rfl⟩
    · exact H.elim
  | field T x f =>
    simp only [vcV, vcVd] at H
    have hx := hev x
    split at H
    · rename_i fs l hu e
      rw [e] at hx
      have hx' : a.eval x = .agg (tvals l).toArray := hx
      split at H
      · rename_i fd hf
        have hE : (execOp a.eval ⟨d, .field T x f, ty, pos, af, gd⟩).run P w = ((part fd.type (tvals l).toArray fd.offset).run P w).andThen fun v w' => .ok (.value v) w' := by
          rw [exec_v (m := Instr.field T (a.eval x) f) rfl]
          simp [hx', Instr.field, run_underlying hu, hf, asAgg]
        cases hA : isAggT P fd.type with
        | true =>
          rw [hA] at H
          obtain ⟨dd, hdd, _⟩ := isAggT_und hA
          refine ⟨_, H, _, by rw [hE]; simp [part, run_isAgg_true hA, run_sizeOf_und hdd]; rfl, ?_⟩
          simp [SV.ok, TW.val, tvals_take, tvals_drop, List.take_drop]
        | false =>
          rw [hA] at H
          cases hS : (P.underlying fd.type).isSome with
          | false => rw [hS] at H; exact H.elim
          | true =>
            rw [hS] at H
            obtain ⟨dd, hdd⟩ := Option.isSome_iff_exists.1 hS
            simp only [cond_true, cond_false] at H
            split at H
            · rename_i v rest hv
              have hc : (tvals l)[fd.offset]? = some v.val := by
                have : (tvals l).drop fd.offset = v.val :: tvals rest := by rw [← tvals_drop, hv]; rfl
                rw [← List.head?_drop, this]; rfl
              exact ⟨_, H, _, by rw [hE]; simp [part, run_isAgg_false hdd hA, hc]; rfl, rfl⟩
            · exact H.elim
      · exact H.elim
    · exact H.elim
  | indexAddr T x ix =>
    simp only [vcV, vcVd] at H
    have hx := hev x
    have hi := hev ix
    split at H
    · rename_i e s n c i hu e1 e2
      rw [e1] at hx; rw [e2] at hi
      have hx' : a.eval x = .slice s n c := hx
      have hi' : a.eval ix = .int .i64 i := hi
      cases hz : Nat.ble 1 (szT P e) with
      | false => rw [hz] at H; exact H.elim
      | true =>
        rw [hz] at H
        obtain ⟨b, o', hb, hk⟩ := H
        obtain ⟨rfl, h1, h2⟩ := hG _ hb
        have hs := run_sizeOf_szT (P := P) (Nat.le_of_ble_eq_true hz) w
        refine ⟨_, hk, _, ?_, rfl⟩
        rw [exec_v (m := Instr.indexAt T (a.eval x) (a.eval ix)) rfl]
        simp [hx', hi', Instr.indexAt, asIntOf, run_underlying hu, h1, h2, hs, addr_add, TW.val, TV.val]
    · rename_i n e b o' i hu e1 e2
      rw [e1] at hx; rw [e2] at hi
      have hx' : a.eval x = .pointer (some ⟨b, o', none⟩) := hx
      have hi' : a.eval ix = .int .i64 i := hi
      cases hz : (Nat.ble 1 (szT P e) && Nat.ble 2 n) with
      | false => rw [hz] at H; exact H.elim
      | true =>
        rw [hz] at H
        simp only [Bool.and_eq_true] at hz
        obtain ⟨hb, hk⟩ := H
        obtain ⟨h1, h2⟩ := hG _ hb
        have hs := run_sizeOf_szT (P := P) (Nat.le_of_ble_eq_true hz.1) w
        refine ⟨_, hk, _, ?_, rfl⟩
        rw [exec_v (m := Instr.indexAt T (a.eval x) (a.eval ix)) rfl]
        simp [hx', hi', Instr.indexAt, asIntOf, run_underlying hu, h1, h2, hs, addr_add, Instr.sureAddr, TW.val, TV.val]
    · exact H.elim
  | load T x =>
    simp only [vcV, vcVd] at H
    have hx := hev x
    have hE : ∀ b o', a.eval x = .pointer (some ⟨b, o', none⟩) → (execOp a.eval ⟨d, .load T x, ty, pos, af, gd⟩).run P w = ((loadVar T ⟨b, o', none⟩).run P w).andThen fun v w' => .ok (.value v) w' := by
      intro b o' hb
      rw [exec_v (m := Instr.loadAt T (a.eval x)) rfl]
      simp [hb, Instr.loadAt, Instr.sureAddr]
    split at H
    · rename_i i o' e
      rw [e] at hx
      obtain ⟨bb, hbb, hx⟩ := hx
      split at H
      · rename_i bx hbx
        obtain ⟨bb', hbb', hb1, hb2, hb3⟩ := R.box i bx hbx
        obtain rfl : bb = bb' := by rw [hbb] at hbb'; exact Option.some.inj hbb'
        cases hl : Nat.ble (o' + szT P T) bx.c.length with
        | false => rw [hl] at H; exact H.elim
        | true =>
          rw [hl] at H
          have hl' := Nat.le_of_ble_eq_true hl
          have hc : ∀ j, w.cell? ((⟨bb, o', none⟩ : Addr).add j) = (tvals bx.c)[o' + j]? := by
            intro j
            rw [addr_add]
            simp [World.cell?, hb1]
          cases hA : isAggT P T with
          | true =>
            rw [hA] at H
            refine ⟨_, H, _, ?_, rfl⟩
            rw [hE _ _ hx, run_loadVar_agg (l := tvals ((bx.c.drop o').take (szT P T))) hA (by simp [tvals_length]; omega)]
            · rfl
            · intro j v hj
              rw [hc, ← hj, tvals_take, tvals_drop]
              have : j < szT P T := by
                have := (List.getElem?_eq_some_iff.1 hj).1
                simp [tvals_length] at this
                omega
              simp [this]
          | false =>
            rw [hA] at H
            simp only [cond_true, cond_false] at H
            cases hS : (Nat.beq (szT P T) 1 && (P.underlying T).isSome) with
            | false => rw [hS] at H; exact H.elim
            | true =>
              rw [hS] at H
              simp only [Bool.and_eq_true] at hS
              obtain ⟨dd, hdd⟩ := Option.isSome_iff_exists.1 hS.2
              simp only [cond_true] at H
              split at H
              · rename_i v rest hv
                refine ⟨_, H, _, ?_, rfl⟩
                have hcc : w.cell? ⟨bb, o', none⟩ = some v.val := by
                  have := hc 0
                  rw [addr_add] at this
                  simp only [Nat.add_zero] at this
                  rw [this, ← List.head?_drop, ← tvals_drop, hv]; rfl
                rw [hE _ _ hx, run_loadVar_one hA hdd hcc]
                rfl
              · exact H.elim
      · exact H.elim
    · rename_i b o' e
      rw [e] at hx
      cases hA : isAggT P T with
      | true =>
        rw [hA] at H
        obtain ⟨xs, ⟨hr, hk⟩, _⟩ := exL_elim (show exL _ _ from H)
        obtain ⟨hl, hc⟩ := row_cells (hG _ hr) R.sub
        exact ⟨_, hk, _, by rw [hE _ _ hx, run_loadVar_agg hA hl hc]; rfl, rfl⟩
      | false =>
        rw [hA] at H
        simp only [cond_false] at H
        cases hS : (P.underlying T).isSome with
        | false => rw [hS] at H; exact H.elim
        | true =>
          rw [hS] at H
          obtain ⟨dd, hdd⟩ := Option.isSome_iff_exists.1 hS
          obtain ⟨x', hr, hk⟩ := ex1_elim (show ex1 _ _ from H)
          exact ⟨_, hk, _, by rw [hE _ _ hx, run_loadVar_one hA hdd (cell_cell (hG _ hr) R.sub)]; rfl, rfl⟩
    · exact H.elim
  | extract x i =>
    simp only [vcV, vcVd] at H
    have hx := hev x
    split at H
    · rename_i l e
      rw [e] at hx
      have hx' : a.eval x = .tuple (twals l).toArray := hx
      split at H
      · rename_i v hv
        have : (twals l)[i]? = some v.val := by
          clear H hx hx' e
          induction l generalizing i with
          | nil => simp at hv
          | cons y l ih => cases i <;> simp_all [twals]
        exact ⟨_, H, _, by rw [exec_v (m := Instr.extract (a.eval x) i) rfl]; simp [hx', Instr.extract, this], rfl⟩
      · exact H.elim
    · exact H.elim
  | build T parts =>
    simp only [vcV, vcVd] at H
    have hE : ∀ ps, partsL st ch parts.toList = some ps → (execOp a.eval ⟨d, .build T parts, ty, pos, af, gd⟩).run P w = ((Instr.build T (ps.map fun q => (q.1, q.2.val)).toArray).run P w).andThen fun v w' => .ok (.value v) w' := by
      intro ps hps
      have e := partsL_ok R hch hps
      have : parts.map (fun (q : Nat × Operand) => (q.1, a.eval q.2)) = (ps.map fun q => (q.1, q.2.val)).toArray := by
        apply Array.ext'
        simpa using e
      rw [← this]
      exact exec_v rfl
    split at H
    · rename_i fs z ps hu hz hps
      cases hs : sizesOK P fs.toList with
      | false => rw [hs] at H; exact H.elim
      | true =>
        rw [hs] at H
        simp only [Bool.not_true, cond_false] at H
        split at H
        · rename_i cs hf
          exact ⟨_, H, _, by rw [hE ps hps, run_build_struct hu hz hs (partsL_plain hps) hf]; rfl, rfl⟩
        · exact H.elim
    · rename_i n e z ps hu hz hps
      cases hs : Nat.ble 1 (szT P e) with
      | false => rw [hs] at H; exact H.elim
      | true =>
        rw [hs] at H
        simp only [cond_true] at H
        split at H
        · rename_i cs hf
          exact ⟨_, H, _, by rw [hE ps hps, run_build_array hu hz (Nat.le_of_ble_eq_true hs) (partsL_plain hps) hf]; rfl, rfl⟩
        · exact H.elim
    · exact H.elim
  | index T x ix =>
    simp only [vcV, vcVd] at H
    split at H
    · rename_i u v e1 e2
      refine vcRd_ok R.sub hG H (exec_v ?_)
      simp [execOp, hval e1, hval e2]
    · exact H.elim
  | lookup T x ix ok =>
    simp only [vcV, vcVd] at H
    split at H
    · rename_i u v e1 e2
      refine vcRd_ok R.sub hG H (exec_v ?_)
      simp [execOp, hval e1, hval e2]
    · exact H.elim
  | typeAssert x T U ok =>
    simp only [vcV, vcVd] at H
    split at H
    · rename_i u e1
      refine vcRd_ok R.sub hG H (exec_v ?_)
      simp [execOp, hval e1]
    · exact H.elim
  | slice T x lo hi mx =>
    simp only [vcV, vcVd] at H
    split at H
    · rename_i u l v m e1 e2 e3 e4
      refine vcRd_ok R.sub hG H (exec_v ?_)
      simp [execOp, hval e1, optV_ok R hch e2, optV_ok R hch e3, optV_ok R hch e4]
    · exact H.elim
  | call c =>
    obtain ⟨callee, args, ts⟩ := c
    have hE : ∀ (b : Builtin) (m : Sem Value) (vs : List Value), st.evs ch args.toList = some vs → (∀ cs, builtin b ts ty cs vs.toArray = (do pure (.value (← m)))) →
        (execOp a.eval ⟨d, .call ⟨.builtin b, args, ts⟩, ty, pos, af, gd⟩).run P w = (m.run P w).andThen fun v w' => .ok (.value v) w' := by
      intro b m vs hvs hm
      have e := evs_ok R hch hvs
      have : args.map a.eval = vs.toArray := by apply Array.ext'; simpa using e
      simp [execOp, resolve, invoke, this, hm]
    cases callee with
    | value f => exact H.elim
    | invoke r m => exact H.elim
    | builtin b =>
      cases b with
      | len =>
        simp only [vcV, vcVd] at H
        split at H
        · rename_i x hargs
          have hx := hev x
          split at H
          · rename_i e s n cp hu hxe
            rw [hxe] at hx
            have hx' : a.eval x = .slice s n cp := hx
            have hvs : st.evs ch args.toList = some [.slice s n cp] := by rw [hargs]; simp [St.evs, hxe, SV.val?, TW.val, TV.val]
            refine ⟨_, H, _, ?_, rfl⟩
            rw [hE .len (Builtin.len_ ts ty #[.slice s n cp]) _ hvs (fun _ => rfl)]
            obtain ⟨t0, ht0, hu0⟩ := Option.bind_eq_some_iff.1 hu
            simp [Builtin.len_, ht0, run_underlying hu0, goInt, TW.val, TV.val]
          · rename_i s hu hxe
            rw [hxe] at hx
            have hvs : st.evs ch args.toList = some [.string s] := by rw [hargs]; simp [St.evs, hxe, SV.val?, TW.val, TV.val]
            refine ⟨_, H, _, ?_, rfl⟩
            rw [hE .len (Builtin.len_ ts ty #[.string s]) _ hvs (fun _ => rfl)]
            obtain ⟨t0, ht0, hu0⟩ := Option.bind_eq_some_iff.1 hu
            simp [Builtin.len_, ht0, run_underlying hu0, goInt, TW.val, TV.val]
          · split at H
            · rename_i u hv
              have hvs : st.evs ch args.toList = some [u] := by rw [hargs]; simp [St.evs, hv]
              exact vcRd_ok R.sub hG H (hE .len (Builtin.len_ ts ty #[u]) _ hvs (fun _ => rfl))
            · exact H.elim
        · exact H.elim
      | cap =>
        simp only [vcV, vcVd] at H
        split at H
        · rename_i vs hvs; exact vcRd_ok R.sub hG H (hE .cap _ _ hvs (fun _ => rfl))
        · exact H.elim
      | max =>
        simp only [vcV, vcVd] at H
        split at H
        · rename_i vs hvs; exact vcRd_ok R.sub hG H (hE .max _ _ hvs (fun _ => rfl))
        · exact H.elim
      | min =>
        simp only [vcV, vcVd] at H
        split at H
        · rename_i vs hvs; exact vcRd_ok R.sub hG H (hE .min _ _ hvs (fun _ => rfl))
        · exact H.elim
      | _ => exact H.elim
  | _ => exact H.elim

/-- What it gives is some value; of that alone it could be told. -/
theorem VD.pick {v : VD} (H : v.sem P G h K) : ∃ x, v.sem P G h (fun y => y = x) ∧ K x := by
  cases v <;> simp only [VD.sem] at H ⊢
  case pt x => exact ⟨x, rfl, H⟩
  case ob p x => exact ⟨x, ⟨H.1, rfl⟩, H.2⟩
  case wr e => obtain ⟨z, h1, h2⟩ := H; exact ⟨_, ⟨z, h1, rfl⟩, h2⟩
  case nilc p => obtain ⟨b, o, h1, h2⟩ := H; exact ⟨_, ⟨b, o, h1, rfl⟩, h2⟩
  case idx a n i sz => obtain ⟨b, o, h1, h2⟩ := H; exact ⟨_, ⟨b, o, h1, rfl⟩, h2⟩
  case rd m s => exact exS_pick (p := fun x => G (Rd P m h x.val)) H
  case ldA b o n l => obtain ⟨x, e, hk⟩ := exL_pick (p := fun xs => G (h.row b o n = some (tvals xs))) (K := fun xs => K (.t (.ag xs))) H; exact ⟨_, exL_mono (fun xs hx => ⟨hx.1, by rw [hx.2]⟩) e, hk⟩
  case ld1 b o s => obtain ⟨x, e, hk⟩ := ex1_pick (p := fun x => G (h.cell b o = some x.val)) (K := fun x => K (.t (.one x))) H; exact ⟨_, ex1_mono (fun xs hx => ⟨hx.1, by rw [hx.2]⟩) e, hk⟩
theorem VD.mono {v : VD} {K' : SV → Prop} {h' : Hp} (hh : v.hr = true → h.le h') (hG : ∀ p q : Prop, (p → q) → G p → G q) (hk : ∀ x, K x → K' x) (H : v.sem P G h K) : v.sem P G h' K' := by
  have hs : v.hr = true → ∀ w, Sub h' w → Sub h w := fun e w hw b o hb => hw b o (hh e b o hb)
  cases v <;> simp only [VD.sem] at H ⊢
  case pt x => exact hk _ H
  case ob p x => exact ⟨H.1, hk _ H.2⟩
  case wr e => obtain ⟨z, h1, h2⟩ := H; exact ⟨z, h1, hk _ h2⟩
  case nilc p => obtain ⟨b, o, h1, h2⟩ := H; exact ⟨b, o, h1, hk _ h2⟩
  case idx a n i sz => obtain ⟨b, o, h1, h2⟩ := H; exact ⟨b, o, h1, hk _ h2⟩
  case rd m s => exact exS_mono (fun x hx => ⟨hG _ _ (fun hr w hw => hr w (hs rfl w hw)) hx.1, hk _ hx.2⟩) H
  case ldA b o n l =>
    refine exL_mono (fun x hx => ⟨hG _ _ (fun hr => ?_) hx.1, hk _ hx.2⟩) H
    unfold Hp.row at hr ⊢
    split at hr
    · rename_i c e fz hb; rw [hh rfl b _ hb]; exact hr
    · simp at hr
  case ld1 b o s =>
    refine ex1_mono (fun x hx => ⟨hG _ _ (fun hr => ?_) hx.1, hk _ hx.2⟩) H
    unfold Hp.cell at hr ⊢
    split at hr
    · rename_i c e fz hb; rw [hh rfl b _ hb]; exact hr
    · simp at hr

/-- Where the operation is passed over, what follows is still told of some value. -/
theorem vcV_any {o : Oper} (H : vcV P o ch G st h K) : ∃ sv, K sv :=
  let ⟨x, _, hk⟩ := VD.pick H
  ⟨x, hk⟩
end
end Go.Vc
