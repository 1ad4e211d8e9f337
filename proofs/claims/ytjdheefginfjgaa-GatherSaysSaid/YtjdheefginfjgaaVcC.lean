/-
  The framework of this prover's proofs, part C: operations that do not change the heap run as part A says. Conditions: none.
-/
import Derived.Test.YtjdheefginfjgaaVcB
set_option linter.unusedVariables false
namespace Go.Vc
open Go

def VRun (P : Program) (o : Oper) (ρ : Nat → Option Nat) (a : Act) (w : World) (sv : SV) : Prop := ∃ v, (execOp a.eval o).run P w = .ok (.value v) w ∧ sv.ok ρ v

section
variable {P : Program} {ρ : Nat → Option Nat} {w0 : World} {h0 : Hp} {st : St} {h : Hp} {a : Act} {w : World} {ch : List (Nat × Bool)} {G : Prop → Prop} {K : SV → Prop} {o : Oper}

theorem vcRd_ok (hs : Sub h w) (hG : ∀ p, G p → p) {m : Sem Value} {s : Sh} (H : vcRd P G m s h K) (hm : (execOp a.eval o).run P w = (m.run P w).andThen fun v w' => .ok (.value v) w') : ∃ sv, K sv ∧ VRun P o ρ a w sv := by
  obtain ⟨x, ⟨hx, hk⟩, hv⟩ := exS_elim H
  refine ⟨x, hk, x.val, ?_, SV.ok_val hv⟩
  rw [hm, hG _ hx w hs]
  rfl

theorem sv_cases_t {x : SV} {y : TW} (h : x = .t y) {ρ : Nat → Option Nat} {v : Value} (hv : x.ok ρ v) : v = y.val := by subst h; exact hv

theorem vcInt_ok {T : TypeId} (hG : ∀ p, G p → p) {op : BinOp} {x y : Int} (H : (vcInt op x y).sem P G h K) :
    ∃ v, K (.t (.one v)) ∧ (binOp op T (.int .i64 x) (.int .i64 y)).run P w = .ok v.val w := by
  have hw : ∀ z, InR z → IntKind.i64.wrap z = z := by
    intro z hz
    unfold InR at hz
    exact IntWalk.i64_in _ hz
  cases op <;> simp only [vcInt, VD.sem] at H
  case add => obtain ⟨z, hz, hk⟩ := H; have e : z = _ := hG _ hz; exact ⟨_, hk, by simp [binOp, Op.intArith, e, TV.val]⟩
  case sub => obtain ⟨z, hz, hk⟩ := H; have e : z = _ := hG _ hz; exact ⟨_, hk, by simp [binOp, Op.intArith, e, TV.val]⟩
  case mul => obtain ⟨z, hz, hk⟩ := H; have e : z = _ := hG _ hz; exact ⟨_, hk, by simp [binOp, Op.intArith, e, TV.val]⟩
  case quo => exact ⟨_, H.2, by simp [binOp, Op.intDiv, hw _ (hG _ H.1).2, (hG _ H.1).1, TV.val]⟩
  case rem => exact ⟨_, H.2, by simp [binOp, Op.intDiv, (hG _ H.1), TV.val]⟩
  case eql => exact ⟨_, H, by simp [binOp, Op.intCmp, TV.val]; rfl⟩
  case neq => exact ⟨_, H, by simp [binOp, Op.intCmp, TV.val, bne]; rfl⟩
  all_goals exact ⟨_, H, by simp [binOp, Op.intCmp, TV.val]⟩

theorem vcCmp_ok {T : TypeId} {op : BinOp} {k : IntKind} {x y : Int} (H : (vcCmp op x y).sem P G h K) :
    ∃ v, K (.t (.one v)) ∧ (binOp op T (.int k x) (.int k y)).run P w = .ok v.val w := by
  cases op <;> simp only [vcCmp, VD.sem] at H
  case eql => exact ⟨_, H, by simp [binOp, Op.intCmp, TV.val]; rfl⟩
  case neq => exact ⟨_, H, by simp [binOp, Op.intCmp, TV.val, bne]; rfl⟩
  all_goals exact ⟨_, H, by simp [binOp, Op.intCmp, TV.val]⟩

theorem eqGuard_int (op : BinOp) (T : TypeId) (x y : Operand) (j k : IntKind) (m n : Int) : (eqGuard op T x y (.int j m) (.int k n)).run P w = .ok () w := by
  unfold eqGuard
  split <;> simp

theorem run_binOp_op {op : BinOp} {T T' : TypeId} {x y : Operand} {d : Option Tmp} {ty : TypeId} {pos : String} {af : Array Edge} {gd : Option (Nat × Bool)} {u v : Value} (hx : a.eval x = u) (hy : a.eval y = v) :
    (execOp a.eval ⟨d, .binOp op T x y T', ty, pos, af, gd⟩).run P w = ((eqGuard op T x y u v >>= fun _ => binOp op T u v).run P w).andThen fun v w' => .ok (.value v) w' := by
  subst hx; subst hy
  simp only [execOp, Sem.run_bind]
  cases (eqGuard op T x y (a.eval x) (a.eval y)).run P w <;> simp [Result.andThen]

theorem two_i64 {x y : SV} {m n : Int} (e : twoOf x y = .i64 m n) : x = .t (.one (.v (.int .i64 m))) ∧ y = .t (.one (.v (.int .i64 n))) := by
  unfold twoOf at e; split at e <;> simp_all
theorem two_ik {x y : SV} {k : IntKind} {m n : Int} (e : twoOf x y = .ik k m n) : x = .t (.one (.v (.int k m))) ∧ y = .t (.one (.v (.int k n))) := by
  unfold twoOf at e; split at e <;> simp_all
theorem two_nilR {x y : SV} {m} (e : twoOf x y = .nilR m) : x = .t (.one (.ifc m)) ∧ y = .t (.one (.ifc none)) := by
  unfold twoOf at e; split at e <;> simp_all
theorem two_nilL {x y : SV} {m} (e : twoOf x y = .nilL m) : x = .t (.one (.ifc none)) ∧ y = .t (.one (.ifc m)) := by
  unfold twoOf at e; split at e <;> simp_all

theorem ifv_nil (e : Option (TypeId × Value)) : (∃ T v, ifv e = .iface T v ∧ e.isNone = false ∧ e.isSome = true) ∨ (ifv e = .nilIface ∧ e.isNone = true ∧ e.isSome = false) := by
  cases e with
  | none => right; simp [ifv]
  | some q => obtain ⟨t, v⟩ := q; left; exact ⟨t, v, rfl, rfl, rfl⟩

theorem run_equalIn_nil_left (d : Nat) {T : TypeId} {ms} (hT : P.underlying T = some (.interface ms)) (e : Option (TypeId × Value)) : (Op.equalIn (d + 1) T .nilIface (ifv e)).run P w = .ok e.isNone w := by
  rcases ifv_nil e with ⟨t, v, h1, h2, _⟩ | ⟨h1, h2, _⟩ <;> rw [h1, h2] <;> simp [Op.equalIn, run_underlying hT]
theorem run_equalIn_nil_right (d : Nat) {T : TypeId} {ms} (hT : P.underlying T = some (.interface ms)) (e : Option (TypeId × Value)) : (Op.equalIn (d + 1) T (ifv e) .nilIface).run P w = .ok e.isNone w := by
  rcases ifv_nil e with ⟨t, v, h1, h2, _⟩ | ⟨h1, h2, _⟩ <;> rw [h1, h2] <;> simp [Op.equalIn, run_underlying hT]
theorem run_equal_nil_left {T : TypeId} {ms} (hT : P.underlying T = some (.interface ms)) (e : Option (TypeId × Value)) : (Op.equal T .nilIface (ifv e)).run P w = .ok e.isNone w :=
  run_equalIn_nil_left 9999 hT e
theorem run_equal_nil_right {T : TypeId} {ms} (hT : P.underlying T = some (.interface ms)) (e : Option (TypeId × Value)) : (Op.equal T (ifv e) .nilIface).run P w = .ok e.isNone w :=
  run_equalIn_nil_right 9999 hT e

theorem isIfc_und {T : TypeId} (h : isIfc P T = true) : ∃ ms, P.underlying T = some (.interface ms) := by
  unfold isIfc at h
  split at h
  · rename_i ms hm; exact ⟨ms, hm⟩
  · simp at h

theorem isNilC_eq {x : Operand} (h : isNilC x = true) : x = .const .nilIface := by
  unfold isNilC at h; split at h <;> simp_all

theorem eqGuard_nil {op : BinOp} {T : TypeId} {x y : Operand} {u v : Value} (hx : x = .const .nilIface ∨ y = .const .nilIface) (hu : u = .nilIface ∨ v = .nilIface) : (eqGuard op T x y u v).run P w = .ok () w := by
  unfold eqGuard
  rcases hx with rfl | rfl <;> rcases hu with rfl | rfl <;> (repeat' split) <;> simp_all

theorem binOp_nil_left {op : BinOp} {T : TypeId} {ms} (hT : P.underlying T = some (.interface ms)) (e : Option (TypeId × Value)) (b : Bool) (hop : op = .eql ∧ b = e.isNone ∨ op = .neq ∧ b = e.isSome) : (binOp op T .nilIface (ifv e)).run P w = .ok (.bool b) w := by
  have hE := run_equal_nil_left (P := P) (w := w) hT e
  rcases ifv_nil e with ⟨t, v, h1, h2, h3⟩ | ⟨h1, h2, h3⟩ <;> rw [h1] at hE ⊢ <;> rcases hop with ⟨rfl, rfl⟩ | ⟨rfl, rfl⟩ <;> simp [binOp, hE, h2, h3]
theorem binOp_nil_right {op : BinOp} {T : TypeId} {ms} (hT : P.underlying T = some (.interface ms)) (e : Option (TypeId × Value)) (b : Bool) (hop : op = .eql ∧ b = e.isNone ∨ op = .neq ∧ b = e.isSome) : (binOp op T (ifv e) .nilIface).run P w = .ok (.bool b) w := by
  have hE := run_equal_nil_right (P := P) (w := w) hT e
  rcases ifv_nil e with ⟨t, v, h1, h2, h3⟩ | ⟨h1, h2, h3⟩ <;> rw [h1] at hE ⊢ <;> rcases hop with ⟨rfl, rfl⟩ | ⟨rfl, rfl⟩ <;> simp [binOp, hE, h2, h3]

/-- Reading a row of the heap. -/
theorem row_cells {b o n : Nat} {l : List Value} (h1 : Hp.row h b o n = some l) (hs : Sub h w) : l.length = n ∧ ∀ j v, l[j]? = some v → w.cell? ((⟨b, o, none⟩ : Addr).add j) = some v := by
  unfold Hp.row at h1
  split at h1
  · rename_i c e fz hb
    have hw := hs _ _ hb
    split at h1
    · rename_i hle
      simp only [Option.some.injEq] at h1
      subst h1
      refine ⟨by simp; omega, fun j v hj => ?_⟩
      rw [addr_add]
      simp only [World.cell?, hw]
      simp only [List.getElem?_take, List.getElem?_drop] at hj
      split at hj
      · simpa using hj
      · simp at hj
    · simp at h1
  · simp at h1
theorem cell_cell {b o : Nat} {v : Value} (h1 : Hp.cell h b o = some v) (hs : Sub h w) : w.cell? ⟨b, o, none⟩ = some v := by
  unfold Hp.cell at h1
  split at h1
  · rename_i c e fz hb
    have hw := hs _ _ hb
    simp [World.cell?, hw, h1]
  · simp at h1

theorem run_loadVar_agg {T : TypeId} (hT : isAggT P T = true) {b o : Nat} {l : List Value} (hl : l.length = szT P T) (hc : ∀ j v, l[j]? = some v → w.cell? ((⟨b, o, none⟩ : Addr).add j) = some v) :
    (loadVar T ⟨b, o, none⟩).run P w = .ok (.agg l.toArray) w := by
  obtain ⟨d, hd, _⟩ := isAggT_und hT
  have := run_loadCells_list (P := P) w ⟨b, o, none⟩ l hc
  rw [hl] at this
  simp [loadVar, run_isAgg_true hT, run_sizeOf_und hd, this]
theorem run_loadVar_one {T : TypeId} (hT : isAggT P T = false) {d : TypeDesc} (hd : P.underlying T = some d) {b o : Nat} {v : Value} (hc : w.cell? ⟨b, o, none⟩ = some v) :
    (loadVar T ⟨b, o, none⟩).run P w = .ok v w := by
  simp [loadVar, run_isAgg_false hd hT, hc]

/-- Building a struct or an array: the model's own filling, over lists. -/
theorem splice_fold (off : Nat) : ∀ (vs : List Value) (k : Nat) (cs : Array Value), off + k + vs.length ≤ cs.size →
    ((vs.zipIdx k).foldl (fun (cs : Array Value) (q : Value × Nat) => cs.setIfInBounds (off + q.2) q.1) cs).toList = setL cs.toList (off + k) vs
  | [], k, cs, _ => by simp [setL]
  | v :: vs, k, cs, hl => by
    simp only [List.length_cons] at hl
    simp only [List.zipIdx_cons, List.foldl_cons]
    rw [splice_fold off vs (k + 1) _ (by simp; omega)]
    simp only [setL, Array.toList_setIfInBounds]
    have e : off + (k + 1) = (off + k) + 1 := by omega
    rw [e]
    have hlt : off + k < cs.toList.length := by simp; omega
    apply List.ext_getElem?
    intro j
    simp only [List.append_assoc, List.getElem?_append, List.length_take, List.length_set, List.getElem?_take, List.getElem?_set, List.getElem?_drop, List.length_cons, List.getElem?_cons]
    have m1 : min (off + k + 1) cs.toList.length = off + k + 1 := by omega
    have m2 : min (off + k) cs.toList.length = off + k := by omega
    rw [m1, m2]
    by_cases h1 : j < off + k
    · simp [h1, show j < off + k + 1 by omega, show ¬ off + k = j by omega]
    · by_cases h2 : j = off + k
      · subst h2; simp; omega
      · have h3 : ¬ j < off + k + 1 := by omega
        simp only [h1, h3, if_false, show ¬ (off + k = j) by omega]
        have h4 : ¬ (j - (off + k) = 0) := by omega
        simp only [h4, if_false]
        have e1 : j - (off + k) - 1 = j - (off + k + 1) := by omega
        rw [e1]
        by_cases h5 : j - (off + k + 1) < vs.length
        · simp [h5, show j - (off + k) < vs.length + 1 by omega]
        · simp only [h5, if_false, show ¬ (j - (off + k) < vs.length + 1) by omega]
          have e2 : off + k + 1 + vs.length + (j - (off + k + 1) - vs.length) = j := by omega
          have e3 : off + k + (vs.length + 1) + (j - (off + k) - (vs.length + 1)) = j := by omega
          rw [e2, e3]
          simp [show ¬ (off + k = j) by omega]

theorem setL_tvals (cs vs : List TV) (off : Nat) : tvals (setL cs off vs) = setL (tvals cs) off (tvals vs) := by
  simp [setL, tvals_append, tvals_take, tvals_drop, tvals_length]

theorem fill_fillL {pl : Nat → Option (Nat × Nat)} : ∀ {ps : List (Nat × TW)} {z cs : List TV}, fillL pl z ps = some cs → (∀ q ∈ ps, plainW q.2 = true) →
    Instr.fill pl (tvals z).toArray (ps.map fun q => (q.1, q.2.val)) = some (tvals cs).toArray
  | [], z, cs, H, _ => by simp [fillL] at H; simp [Instr.fill, H]
  | (i, v) :: ps, z, cs, H, hp => by
    simp only [fillL] at H
    cases hpl : pl i with
    | none => simp [hpl] at H
    | some q =>
      obtain ⟨off, size⟩ := q
      simp only [hpl] at H
      cases hc : (Nat.beq v.cells.length size && Nat.ble (off + size) z.length) with
      | false => simp [hc] at H
      | true =>
        simp only [hc, cond_true] at H
        simp only [Bool.and_eq_true] at hc
        have h1 := Nat.eq_of_beq_eq_true hc.1
        have h2 := Nat.le_of_ble_eq_true hc.2
        have hv := plainW_cells (hp (i, v) (by simp))
        have hsz : v.val.cells.size = size := by rw [← Array.length_toList, ← hv, tvals_length, h1]
        have ih := fill_fillL H (fun q hq => hp q (by simp [hq]))
        simp only [List.map_cons, Instr.fill, hpl]
        rw [if_neg (by simp [hsz, tvals_length]; omega)]
        have e : (v.val.cells.zipIdx.foldl (fun cs x => cs.setIfInBounds (off + x.2) x.1) (tvals z).toArray) = (tvals (setL z off v.cells)).toArray := by
          apply Array.ext'
          have := splice_fold off (v.val.cells.toList) 0 (tvals z).toArray (by simp [tvals_length, hsz]; omega)
          simp only [Nat.add_zero] at this
          rw [setL_tvals, hv]
          rw [← Array.foldl_toList, Array.toList_zipIdx]
          simpa using this
        rw [show (fun (cs : Array Value) (x : Value × Nat) => match x with | (c, j) => cs.setIfInBounds (off + j) c) = (fun cs x => cs.setIfInBounds (off + x.2) x.1) from rfl]
        rw [e]
        exact ih

theorem zeroL_run {T : TypeId} {z : List TV} (h1 : zeroL P T = some z) : ∃ i zv, P.info? T = some i ∧ i.zero = some zv ∧ tvals z = zv.cells.toList := by
  unfold zeroL at h1
  simp only [Option.map_eq_some_iff, Option.bind_eq_some_iff] at h1
  obtain ⟨zv, ⟨i, hi, hz⟩, rfl⟩ := h1
  exact ⟨i, zv, hi, hz, by rw [tvals_tvsOf]⟩
end
end Go.Vc
