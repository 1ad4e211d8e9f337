/-
  The statement that the last part names, proved; and all that it stands on that is not in the parts ahead. Conditions: those stated at each.
-/
import Derived.RangeFuncNested
import Derived.RangeFuncBound
import Derived.RangeFuncCalls
import Derived.RangeFuncLeaves
import Derived.Shelf.Abstract
import Derived.Shelf.RegionOpen
import Derived.WalkKit
import Derived.OwnWalkIn
import Derived.TacticsInMore
import Derived.LoopNIn
import Derived.LoopIn
import Derived.Lib.ConvBytes
import Derived.Laws.Small
import Derived.Test.YtgonnpleihbklaaRows
import Derived.ProofKit
import Derived.OpenShut
import Derived.Test.YtgonnpleihbklaaVt2
/-
  Contracts: the pieces of a row of bytes, handed over one after the other. Conditions: that the row is not too long.
-/
namespace Go.Proofs.Ytgonnpleihbklaa
open Go Go.Vc Go.RowKit Go.Shelf
set_option linter.unusedVariables false
set_option maxRecDepth 100000
attribute [local go_sem] Oper.semAt_some

/-- A piece of a row: within it, not longer than asked. -/
def PieceOf (b off len n : Nat) (v : Value) : Prop := ∃ o m, v = vsl (some ⟨b, off + o, none⟩) m m ∧ o + m ≤ len ∧ m ≤ n
def pieceV (b off len n k : Nat) : Value := vsl (some ⟨b, off + min (k * n) len, none⟩) (min n (len - k * n)) (min n (len - k * n))
theorem pieceV_ok (b off len n k : Nat) : PieceOf b off len n (pieceV b off len n k) := ⟨_, _, rfl, by omega, by omega⟩
def pieceP (b off len n k : Nat) : { v : Value // PieceOf b off len n v } := ⟨_, pieceV_ok b off len n k⟩
def piecesTo (b off len n k : Nat) : List { v : Value // PieceOf b off len n v } := (List.range k).map (pieceP b off len n)
theorem piecesTo_succ (b off len n k : Nat) : piecesTo b off len n (k + 1) = piecesTo b off len n k ++ [pieceP b off len n k] := by simp [piecesTo, List.range_succ]
theorem piecesTo_length (b off len n k : Nat) : (piecesTo b off len n k).length = k := by simp [piecesTo]
def pieces (b off len n : Nat) : List Value := (List.range ((len + n - 1) / n)).map (pieceV b off len n)
theorem pieces_length (b off len n : Nat) : (pieces b off len n).length = (len + n - 1) / n := by simp [pieces]

theorem pieces_pre (b off len n : Nat) {k : Nat} (hk : k < (len + n - 1) / n) : (piecesTo b off len n k ++ [pieceP b off len n k]).map (·.1) <+: pieces b off len n := by
  rw [← piecesTo_succ]
  have e : (piecesTo b off len n (k + 1)).map (·.1) = (pieces b off len n).take (k + 1) := by
    unfold piecesTo pieces
    rw [List.map_map, ← List.map_take, List.take_range, Nat.min_eq_left (by omega)]
    rfl
  rw [e]
  exact List.take_prefix _ _
set_option maxHeartbeats 2000000 in
theorem chunk1_in (l Bs Bn b off len cap n : Nat) (hn : 1 ≤ n) (hle : len ≤ cap) (hreach : len + n ≤ 140737488351232) (hc : Hp) (hB1 : hc.cell Bs 0 = some (vsl (some ⟨b, off, none⟩) len cap)) (hB2 : hc.cell Bn 0 = some (vi n)) (J Jx : List { v : Value // PieceOf b off len n v } → World → Prop) (hJ : ∀ s W, J s W → J s W.drew)
    (hY : ∀ pre x W, J pre W → pre.length < (len + n - 1) / n → YieldAt Fence.wide 1 Try.prog l #[x.1] W fun e W' =>
      (e = .returned (.bool true) ∧ J (pre ++ [x]) W' ∧ (Sub hc W → Sub hc W')) ∨ (e = .returned (.bool false) ∧ Jx (pre ++ [x]) W'))
    (W : World) (hs : Sub hc W) (h0 : J [] W) :
    CallsIn Fence.wide 2 Try.prog 67 #[.func (.yield l) #[] #[], vhp Bs 0, vhp Bn 0] W fun e W' => (∃ v, e = .returned v) ∧
      ((∃ ys, ys.map (·.1) = pieces b off len n ∧ J ys W') ∨ (∃ pre, pre.map (·.1) <+: pieces b off len n ∧ Jx pre W')) := by
  refine callsIn_of_wp Try.func67 rfl trivial ?_ rfl
  simp only [Try.ntmps67, List.size_toArray, List.length_cons, List.length_nil, Nat.reduceAdd, Nat.reduceSub, Array.replicate_succ, Array.replicate_zero, List.push_toArray, List.append_toArray, List.nil_append, List.cons_append]
  gi_wp2
  gi_loopw [4] (fun i wr => ∃ k : Nat, k ≤ (len + n - 1) / n ∧ i = .int .i64 ((k * n : Nat) : Int) ∧ J (piecesTo b off len n k) wr ∧ Sub hc wr)
    (fun i _ => len + n - (intOf i).toNat)
  case atStart => exact ⟨0, Nat.zero_le _, by simp, h0, hs⟩
  case round =>
    obtain ⟨k, hk, rfl, hJs, hss⟩ := hrel
    have hc1 := cell_cell hB1 hss
    have hc2 := cell_cell hB2 hss
    by_cases hlt : k * n < len
    · have hk1 : k < (len + n - 1) / n := by
        rw [Nat.lt_iff_add_one_le, Nat.le_div_iff_mul_le (by omega)]
        rw [Nat.add_mul]; omega
      gi_wp2
      refine wpIn_wide.2 ?_
      go_region
      have hJ2 := hJ _ _ hJs
      have hs2 : Vc.Sub hc wr.drew := fun b o h => hss b o h
      have hd1 := cell_cell hB1 hs2
      have hd2 := cell_cell hB2 hs2
      generalize wr.drew = W1 at *
      obtain ⟨fn, tmps, assign, body, hy, hR⟩ := hY _ (pieceP b off len n k) W1 hJ2 (by rw [piecesTo_length]; exact hk1)
      have hm : (if len - k * n < n then ((len - k * n : Nat) : Int) else (n : Int)) = ((min n (len - k * n) : Nat) : Int) := by split <;> omega
      rw [hm]
      have hpv : (pieceP b off len n k).val = vsl (some ⟨b, off + k * n, none⟩) (min n (len - k * n)) (min n (len - k * n)) := by
        show pieceV b off len n k = _
        unfold pieceV
        rw [Nat.min_eq_left (Nat.le_of_lt hlt)]
      rw [hpv] at hy
      obtain ⟨m, hmm⟩ : ∃ m, m = min n (len - k * n) := ⟨_, rfl⟩
      rw [← hmm] at hy ⊢
      have hm1 : 1 ≤ m := by omega
      have hm2 : k * n + m ≤ len := by omega
      have hm3 : m ≤ n := by omega
      clear hmm hm hpv
      have hmk : k * n + m - k * n = m := by omega
      have hy' := hy
      rw [← hmk] at hy'
      gi_wp2
      refine hR.mono ?_
      rintro e W3 (⟨rfl, hJ3, hk3⟩ | ⟨rfl, hJx3⟩)
      · have hs3 := hk3 hs2
        have he2 := cell_cell hB2 hs3
        gi_wp2
        go_roundw
        case rel => exact ⟨k + 1, by omega, by rw [Nat.add_mul, Nat.one_mul]; simp, by rw [piecesTo_succ]; exact hJ3, hs3⟩
        case measure => simp [intOf]; omega
      · gi_wp2
        refine bodyPost_ret (results_none rfl _ _ _) rfl ?_
        exact ⟨⟨_, rfl⟩, .inr ⟨_, pieces_pre b off len n hk1, hJx3⟩⟩
    · gi_wp2
      have hkK : k = (len + n - 1) / n := by
        refine Nat.le_antisymm hk ?_
        have : (len + n - 1) / n < k + 1 := by
          rw [Nat.div_lt_iff_lt_mul (by omega), Nat.add_mul]
          omega
        omega
      go_end0
      exact ⟨⟨_, rfl⟩, .inl ⟨_, by rw [hkK]; simp [piecesTo, pieces, pieceP], hJs⟩⟩

/-- WHAT slices.Chunk HANDS BACK: an iterator over the pieces. -/
theorem chunk_seq (Bs Bn b off len cap n : Nat) (hn : 1 ≤ n) (hle : len ≤ cap) (hreach : len + n ≤ 140737488351232) (hc : Hp) (hcell : ∀ b o, hc b = some o → o.isCells = true) (hB1 : hc.cell Bs 0 = some (vsl (some ⟨b, off, none⟩) len cap)) (hB2 : hc.cell Bn 0 = some (vi n)) :
    SeqOK Try.prog (Value.func (.func 67) #[] #[vhp Bs 0, vhp Bn 0]) hc (PieceOf b off len n) (pieces b off len n) := by
  refine ⟨hcell, _, _, _, rfl, Try.func67, by kernel_rfl, by kernel_rfl, fun w hs => ?_⟩
  intro l J Jx W hW hJ hJx hY h0
  have hsW : Vc.Sub hc W := fun b o hb => by
    have h1 := hs b o hb
    exact (hW.block b (Array.getElem?_eq_some_iff.1 h1).1).trans h1
  refine chunk1_in l Bs Bn b off len cap n hn hle hreach hc hB1 hB2 J Jx (fun s W1 hj => hJ s W1 W1.drew none hj ⟨rfl, rfl, rfl, Nat.le_refl _, fun _ _ _ => rfl⟩ (by intro r e; cases e)) (fun pre x W1 hj hl => ?_) W hsW h0
  exact hY pre x W1 hj (by rw [pieces_length]; exact hl)
theorem chunk_ok {b off len cap n : Nat} (hn : 1 ≤ n) (hn2 : n ≤ 1000000) (hle : len ≤ cap) (hreach : len ≤ 140737487351232) {h : Hp} {R : Value → Hp → Prop}
    (hK : ∀ Bs Bn h' hc, h Bs = none → h Bn = none → Bn ≠ Bs → h' = (h.set Bs (cellsO [vsl (some ⟨b, off, none⟩) len cap] 100)).set Bn (cellsO [vi n] 3) → hc.le h' → (∀ b, b ≠ Bs → b ≠ Bn → hc b = none) →
      SeqOK Try.prog (Value.func (.func 67) #[] #[vhp Bs 0, vhp Bn 0]) hc (PieceOf b off len n) (pieces b off len n) →
      R (Value.func (.func 67) #[] #[vhp Bs 0, vhp Bn 0]) h') :
    CallOK Try.prog 41 [vsl (some ⟨b, off, none⟩) len cap, vi n] h R := by
  refine ok_slices_Chunk_byte_byte ?_
  unfold VC_slices_Chunk_byte_byte
  intro Bs hBs h2 Bn hBn h4
  have hne : Bn ≠ Bs := fun e => by subst e; simp [h2, Hp.set] at hBn
  have hBn' : h Bn = none := by rw [← hBn]; exact (Hp.set_other _ _ hne).symm
  refine ⟨(n : Int), by simp [h4, Hp.cell, Hp.set, cellsO], fun e => ?_, fun _ => ?_⟩
  · simp at e; omega
  · let hc : Hp := fun i => if i = Bn then some (cellsO [vi n] 3) else if i = Bs then some (cellsO [vsl (some ⟨b, off, none⟩) len cap] 100) else none
    refine hK Bs Bn h4 hc hBs hBn' hne rfl (fun b' o hb' => ?_) (fun b' e1 e2 => by simp [hc, e1, e2]) (chunk_seq Bs Bn b off len cap n hn hle (by omega) hc (fun b' o hb' => ?_) ?_ ?_)
    · simp only [hc] at hb'
      simp only [h4, h2, Hp.set]
      split
      · rename_i e; rw [if_pos e] at hb'; exact hb'
      · rename_i e
        rw [if_neg e] at hb'
        split
        · rename_i e; rw [if_pos e] at hb'; exact hb'
        · rename_i e; rw [if_neg e] at hb'; cases hb'
    · simp only [hc] at hb'
      split at hb'
      · cases hb'; rfl
      · split at hb'
        · cases hb'; rfl
        · cases hb'
    · simp [Hp.cell, hc, cellsO, Ne.symm hne]
    · simp [Hp.cell, hc, cellsO]
end Go.Proofs.Ytgonnpleihbklaa
/-
  The framework, part Z: a text's bytes as a slice; calls of which less is told; what is kept beside a thing that changes. No program in sight. Conditions: none.
-/
namespace Go.Vc
open Go
set_option linter.unusedVariables false

section
variable {P : Program}
theorem CallOK.less {f : FuncId} {vs : List Value} {h : Hp} {R R' : Value → Hp → Prop} (H : CallOK P f vs h R) (hr : ∀ v h', R v h' → ∃ h2, h2.le h' ∧ R' v h2) : CallOK P f vs h R' :=
  fun w hs => (H w hs).mono fun e w' ⟨v, h', h1, h2, h3, h4⟩ => by
    obtain ⟨k, hk, hR⟩ := hr v h' h4
    refine ⟨v, k, h1, fun b o ho => h2 b o (hk b o ho), ⟨h3.os, h3.tape, h3.output, h3.size, fun b hb hn => ⟨(h3.keep b hb hn).1, ?_⟩⟩, hR⟩
    cases e : k b with
    | none => rfl
    | some o => have := hk b o e; rw [(h3.keep b hb hn).2] at this; cases this

theorem row_bytes {h : Hp} {b : Nat} {l : List UInt8} {tail : Array Value} {e : TypeId} {fz : Nat × Nat} (hb : h b = some (.cells ((l.map fun x => vk .u8 (x.toNat : Nat)).toArray ++ tail) e fz)) {i m : Nat} (him : i + m ≤ l.length) :
    h.row b (0 + i) ((l.drop i).take m).length = some (((l.drop i).take m).map fun x => vk .u8 (x.toNat : Nat)) := by
  have hl : ((l.drop i).take m).length = m := by simp; omega
  have hs : ((l.map fun x => vk .u8 (x.toNat : Nat)).toArray ++ tail).size = l.length + tail.size := by simp
  unfold Hp.row
  rw [hb, hl, Nat.zero_add]
  simp only
  rw [if_pos (by rw [hs]; omega), Array.toList_append, List.drop_append_of_le_length (by simp; omega), List.take_append_of_le_length (by simp; omega), List.map_take, List.map_drop]
theorem sem_fromStr {h : Hp} {src dst e : TypeId} (hs : P.underlying src = some .string) (hd : P.underlying dst = some (.slice e)) (he : P.underlying e = some (.int .u8)) {l : List UInt8} {K : Value → Hp → Prop}
    (hK : ∀ b cap tail fz, h b = none → l.length ≤ cap → K (vsl (some ⟨b, 0, none⟩) l.length cap) (h.set b (.cells ((l.map fun x => vk .u8 (x.toNat : Nat)).toArray ++ tail) e fz))) : SemOK P (convert src dst (vs (bs l))) h K := by
  intro w hsub
  have hr := Lib.run_convert_string_bytes (P := P) w src dst e (bs l) hs hd he
  rw [bs_size] at hr
  have e1 : Lib.bytesCells w e (bs l) = (l.map fun x => vk .u8 (x.toNat : Nat)).toArray ++ Array.replicate (grownCap w l.length 0 e - l.length) (.int .u8 0) := by
    unfold Lib.bytesCells
    rw [bs_size]
    simp [bs]
  have hnew := Lib.bytesWorld_at_new w e (bs l)
  rw [e1] at hnew
  have hn : h w.heap.size = none := hsub.none
  obtain ⟨fz, hnew⟩ : ∃ fz, (Lib.bytesWorld w e (bs l)).heap[w.heap.size]? = some (.cells ((l.map fun x => vk .u8 (x.toNat : Nat)).toArray ++ Array.replicate (grownCap w l.length 0 e - l.length) (.int .u8 0)) e fz) := ⟨_, hnew⟩
  refine ⟨_, _, _, hr, ?_, ⟨rfl, rfl, rfl, by rw [Lib.bytesWorld_size]; omega, fun b hb hnb => ⟨Lib.bytesWorld_at_old w e (bs l) b hb, ?_⟩⟩, hK w.heap.size _ (Array.replicate (grownCap w l.length 0 e - l.length) (.int .u8 0)) fz hn (grownCap_ge w l.length 0 e)⟩
  · intro b o hb
    by_cases hbe : b = w.heap.size
    · subst hbe
      rw [Hp.set_same] at hb
      cases hb
      exact hnew
    · rw [Hp.set_other _ _ hbe] at hb
      have := hsub b o hb
      rw [Lib.bytesWorld_at_old w e (bs l) b (Array.getElem?_eq_some_iff.1 this).1]
      exact this
  · rw [Hp.set_other _ _ (by omega)]
    exact hnb
end

/-- Boxes of the call's own (bx) beside what changes (F). -/
structure Bes (F : Nat → Prop) (h : Hp) (F' : Nat → Prop) (h' bx : Hp) : Prop where
  m : Mut F h F' h'
  al : ∀ b, F' b → h' b ≠ none
  x : bx.le h'
  n : ∀ b o, bx b = some o → (h b = none ∨ F b) ∧ ¬ F' b
section
variable {F F' F2 : Nat → Prop} {h h' h2 bx : Hp}
theorem Bes.start (al : ∀ b, F b → h b ≠ none) : Bes F h F h (fun _ => none) := ⟨Mut.of_le (Hp.le_refl h), al, (fun b o ho => by cases ho), (fun b o ho => by cases ho)⟩
theorem Bes.call (S : Bes F h F' h' bx) (M : Mut F' h' F2 h2) (al : ∀ b, F2 b → h2 b ≠ none) : Bes F h F2 h2 bx :=
  ⟨S.m.trans M, al, (fun b o ho => M.keep b o (S.n b o ho).2 (S.x b o ho)), (fun b o ho => ⟨(S.n b o ho).1, fun hf => by
    rcases M.new b hf with h1 | h1
    · exact (S.n b o ho).2 h1
    · rw [S.x b o ho] at h1; cases h1⟩)⟩
theorem Bes.grow (S : Bes F h F' h' bx) (l : h'.le h2) : Bes F h F' h2 bx := S.call (Mut.of_le l) (fun b hb e => by
  cases e2 : h' b with
  | none => exact S.al b hb e2
  | some o => rw [l b o e2] at e; cases e)
theorem Bes.fresh (S : Bes F h F' h' bx) {b : Nat} (hb : h' b = none) : h b = none ∨ F b := by
  by_cases hf : F b
  · exact .inr hf
  · left
    cases e : h b with
    | none => rfl
    | some o => rw [S.m.keep b o hf e] at hb; cases hb
theorem Bes.alloc (S : Bes F h F' h' bx) {b : Nat} (hb : h' b = none) (o : Obj) : Bes F h F' (h'.set b o) (bx.set b o) := by
  refine ⟨(S.grow (Hp.le_set (Hp.le_refl h') hb o)).m, (S.grow (Hp.le_set (Hp.le_refl h') hb o)).al, ?_, ?_⟩
  · intro b2 o2 h2
    by_cases e : b2 = b
    · subst e; rw [Hp.set_same] at h2 ⊢; exact h2
    · rw [Hp.set_other _ _ e] at h2 ⊢; exact S.x b2 o2 h2
  · intro b2 o2 h2
    by_cases e : b2 = b
    · subst e; exact ⟨S.fresh hb, fun hf => S.al _ hf hb⟩
    · rw [Hp.set_other _ _ e] at h2; exact S.n b2 o2 h2
theorem Bes.keepA (S : Bes F h F' h' bx) {b b2 : Nat} {o o2 : Obj} (hx : bx b2 = some o2) (hb : h' b = none) : (bx.set b o) b2 = some o2 := by
  rw [Hp.set_other]
  · exact hx
  · intro e; subst e; rw [S.x _ _ hx] at hb; cases hb
theorem Bes.put (S : Bes F h F' h' bx) {b : Nat} {u v : Value} {t : TypeId} (hx : bx b = some (cellsO [u] t)) {K : Hp → Prop} (hK : Bes F h F' (h'.set b (cellsO [v] t)) (bx.set b (cellsO [v] t)) → K (h'.set b (cellsO [v] t))) : h'.store b 0 [v] K := by
  have hb := S.x b _ hx
  refine store_cells hb (by simp) ?_
  have e : setL [u] 0 [v] = [v] := rfl
  rw [e]
  have hn := S.n b _ hx
  refine hK ⟨⟨fun b2 o hf ho => ?_, S.m.new⟩, fun b2 hf => ?_, ?_, ?_⟩
  · rw [Hp.set_other]
    · exact S.m.keep b2 o hf ho
    · intro e; subst e
      rcases hn.1 with h1 | h1
      · rw [h1] at ho; cases ho
      · exact hf h1
  · by_cases e : b2 = b
    · subst e; rw [Hp.set_same]; simp
    · rw [Hp.set_other _ _ e]; exact S.al b2 hf
  · intro b2 o2 h2
    by_cases e : b2 = b
    · subst e; rw [Hp.set_same] at h2 ⊢; exact h2
    · rw [Hp.set_other _ _ e] at h2 ⊢; exact S.x b2 o2 h2
  · intro b2 o2 h2
    by_cases e : b2 = b
    · subst e; exact hn
    · rw [Hp.set_other _ _ e] at h2; exact S.n b2 o2 h2
theorem Bes.get (S : Bes F h F' h' bx) {b : Nat} {u : Value} {t : TypeId} (hx : bx b = some (cellsO [u] t)) : h'.cell b 0 = some u := cell_cells (S.x b _ hx) rfl
/-- What a change of F leaves: only what is told of, and what was there. -/
theorem Mut.trim (M : Mut F h F' h') : ∃ h2 : Hp, h2.le h' ∧ Mut F h F' h2 ∧ (∀ b, F' b → ∀ o, h' b = some o → h2 b = some o) ∧ ∀ b o, h2 b = some o → (¬ F b ∧ h b = some o) ∨ F' b := by
  classical
  refine ⟨fun b => if (¬ F b ∧ h b ≠ none) ∨ F' b then h' b else none, fun b o ho => ?_, ⟨fun b o hf ho => ?_, M.new⟩, fun b hf o ho => ?_, fun b o ho => ?_⟩
  · simp only at ho; split at ho
    · exact ho
    · cases ho
  · rw [if_pos (.inl ⟨hf, by rw [ho]; simp⟩)]; exact M.keep b o hf ho
  · show (if (¬ F b ∧ h b ≠ none) ∨ F' b then h' b else none) = some o
    rw [if_pos (Or.inr hf)]; exact ho
  · simp only at ho; split at ho
    · rename_i hc
      rcases hc with ⟨h1, h2⟩ | h1
      · left
        refine ⟨h1, ?_⟩
        cases e : h b with
        | none => exact absurd e h2
        | some o2 => rw [M.keep b o2 h1 e] at ho; exact ho
      · exact .inr h1
    · cases ho
theorem Rec.cells {h : Hp} {g : Nat} {t : TypeId} {fs : List Fld} (R : Rec h g t fs) {b : Nat} (hb : ftR g fs b) {o : Obj} (ho : h b = some o) : o.isCells = true := by
  rcases hb with rfl | ⟨j, f, hf, hb⟩
  · rw [R.blk] at ho; cases ho; rfl
  · have O := R.own j f hf
    cases f with
    | v x => exact hb.elim
    | s e sz a n c xs =>
      rcases O.2 with ⟨h1, _⟩ | ⟨g', cur, h1, h2, _⟩
      · have hb' : a = some ⟨b, 0, none⟩ := hb
        rw [h1] at hb'; cases hb'
      · have hb' : a = some ⟨b, 0, none⟩ := hb
        rw [h1] at hb'; cases hb'; rw [h2] at ho; cases ho; rfl
end
end Go.Vc
/-
  Contracts: package save: a text is written. Conditions: those stated.
-/
namespace Go.Proofs.Ytgonnpleihbklaa
open Go Go.Vc
set_option linter.unusedVariables false
set_option maxRecDepth 100000

theorem pd_cells {h : Hp} {F : Nat → Prop} {g : Nat} {s : DK} (D : PD h F g s) {b : Nat} (hb : F b) {o : Obj} (ho : h b = some o) : o.isCells = true := by
  obtain ⟨aK, cK, aN, cN, aW, cW, rfl, R⟩ := D
  exact R.cells hb ho
/-- The bytes of a piece of t, that lies at off. -/
def contV (t : List UInt8) : Value → List UInt8
  | .slice (some a) m _ => (t.drop a.off).take m
  | _ => []
theorem contV_pieces (b : Nat) (t : List UInt8) : (pieces b 0 t.length 256).map (contV t) = chunksB t := by
  unfold pieces chunksB
  rw [List.map_map]
  refine List.map_congr_left fun k hk => ?_
  simp only [List.mem_range] at hk
  have h1 : k * 256 < t.length := by omega
  show (t.drop (0 + min (k * 256) t.length)).take (min 256 (t.length - k * 256)) = (t.drop (k * 256)).take 256
  rw [Nat.zero_add, Nat.min_eq_left (Nat.le_of_lt h1)]
  rcases Nat.le_total 256 (t.length - k * 256) with h2 | h2
  · rw [Nat.min_eq_left h2]
  · rw [Nat.min_eq_right h2, List.take_of_length_le (by simp), List.take_of_length_le (by simp; omega)]
/-- The boxes that a round finds: the error, the place; beside them what stays. -/
def bxF (B : Hp) (b18 b41 : Nat) (e : Option (TypeId × Value)) (i : Int) : Hp := (B.set b18 (cellsO [ifv e] 27)).set b41 (cellsO [vi i] 3)
theorem bxF_18 (B : Hp) {b18 b41 : Nat} (hne : b18 ≠ b41) (e : Option (TypeId × Value)) (i : Int) : bxF B b18 b41 e i b18 = some (cellsO [ifv e] 27) := by
  unfold bxF; rw [Hp.set_other _ _ hne, Hp.set_same]
theorem bxF_41 (B : Hp) {b18 b41 : Nat} (e : Option (TypeId × Value)) (i : Int) : bxF B b18 b41 e i b41 = some (cellsO [vi i] 3) := by
  unfold bxF; rw [Hp.set_same]
theorem bxF_o (B : Hp) {b18 b41 b : Nat} (h1 : b ≠ b18) (h2 : b ≠ b41) (e : Option (TypeId × Value)) (i : Int) : bxF B b18 b41 e i b = B b := by
  unfold bxF; rw [Hp.set_other _ _ h2, Hp.set_other _ _ h1]
theorem bxF_set18 (B : Hp) {b18 b41 : Nat} (hne : b18 ≠ b41) (e e2 : Option (TypeId × Value)) (i : Int) : (bxF B b18 b41 e i).set b18 (cellsO [ifv e2] 27) = bxF B b18 b41 e2 i := by
  funext b
  unfold bxF Hp.set
  by_cases h1 : b = b18
  · subst h1; simp [hne]
  · simp [h1]
theorem bxF_set41 (B : Hp) {b18 b41 : Nat} (e : Option (TypeId × Value)) (i i2 : Int) : (bxF B b18 b41 e i).set b41 (cellsO [vi i2] 3) = bxF B b18 b41 e i2 := by
  funext b
  unfold bxF Hp.set
  by_cases h1 : b = b41
  · simp [h1]
  · simp [h1]
theorem newCells_refl (h : Hp) : newCells h h := fun b o h1 h2 => by rw [h1] at h2; cases h2
theorem newCells_set {h0 h : Hp} (N : newCells h0 h) (b : Nat) (l : List Value) (t : TypeId) : newCells h0 (h.set b (cellsO l t)) := by
  intro b2 o h1 h2
  by_cases e : b2 = b
  · subst e; rw [Hp.set_same] at h1; cases h1; rfl
  · rw [Hp.set_other _ _ e] at h1; exact N b2 o h1 h2
/-- One piece is written: what is told of it is so that all that is new are cells. -/
theorem disk_Write_less {h0 h : Hp} {F : Nat → Prop} {g : Nat} {s : DK} (D : PD h F g s) {n : Nat} (W : s.wf n) (hw : s.wait.length ≤ 1000000) (N : newCells h0 h) {i : Int} {d : List UInt8} {R : Value → Hp → Prop} (hK : ∀ h' F', PD h' F' g (dWrite s i d).1 → Mut F h F' h' → newCells h0 h' → R (ifv (errV (dWrite s i d).2)) h') :
    CallOK Try.prog 42 [vhp g 0, vi i, vs (bs d)] h R := by
  refine CallOK.less (disk_Write_ok D W hw (R := fun v h' => ∃ F', PD h' F' g (dWrite s i d).1 ∧ Mut F h F' h' ∧ v = ifv (errV (dWrite s i d).2)) fun h' F' D' M' => ⟨F', D', M', rfl⟩) ?_
  rintro v h' ⟨F', D', M', rfl⟩
  obtain ⟨h2, l, M2, k, hc⟩ := M'.trim
  have D2 := D'.keep k
  refine ⟨h2, l, hK h2 F' D2 M2 fun b o h1 h3 => ?_⟩
  rcases hc b o h1 with ⟨_, h4⟩ | h4
  · exact N b o h4 h3
  · exact pd_cells D2 h4 h1

theorem save_tail {F F' : Nat → Prop} {h hX bx : Hp} (S : Bes F h F' hX bx) {g : Nat} {s : DK} (D : PD hX F' g s) {b18 b3 : Nat} {t18 t3 : TypeId} {e : Option (TypeId × Value)} {u : Value} (x18 : bx b18 = some (cellsO [ifv e] t18)) (x3 : bx b3 = some (cellsO [u] t3)) {R : Value → Hp → Prop} (hR : ∀ h2, PD h2 F' g s → Mut F h F' h2 → R (ifv e) h2) :
    ∃ (e1 : Option (TypeId × Value)), Hp.cell hX b18 0 = some (ifv e1) ∧ Hp.store hX b3 0 [ifv e1] fun h1 => ∃ (e2 : Option (TypeId × Value)), Hp.cell h1 b3 0 = some (ifv e2) ∧ R (ifv e2) h1 := by
  refine ⟨e, S.get x18, S.put x3 fun S2 => ⟨e, S2.get (Hp.set_same _ _ _), hR _ (D.keep fun b hb o ho => ?_) S2.m⟩⟩
  rw [Hp.set_other]
  · exact ho
  · intro e2; subst e2; exact (S.n _ _ x3).2 hb
theorem put_PD {h bx hX : Hp} {F F' : Nat → Prop} (S : Bes F h F' hX bx) {g : Nat} {s : DK} (D : PD hX F' g s) {b : Nat} {o o2 : Obj} (hx : bx b = some o) : PD (hX.set b o2) F' g s := by
  refine D.keep fun b2 hb o3 ho => ?_
  rw [Hp.set_other]
  · exact ho
  · intro e; subst e; exact (S.n _ _ hx).2 hb

theorem save_Write_ok {h : Hp} {F : Nat → Prop} {g : Nat} {s : DK} {n : Nat} (D : PD h F g s) (hD : DOK s n) (hw : s.wait.length ≤ 900000) {t : List UInt8} (ht : t.length ≤ 1000000) {R : Value → Hp → Prop} (hK : ∀ h' F', PD h' F' g (dSave s t).1 → Mut F h F' h' → R (ifv (errV (dSave s t).2)) h') : CallOK Try.prog 12 [vhp g 0, vs (bs t)] h R := by
  refine ok_save_Write ?_
  unfold VC_save_Write
  rw [bs_size]
  unfold dSave at hK
  have S0 := Bes.start D.al
  intro b1 hb1 h2 b3 hb3 h4
  have S1 := S0.alloc hb1 (cellsO [vhp g 0] 25)
  have S2 := S1.alloc hb3 (cellsO [ifv none] 27)
  have x1 := S1.keepA (o := cellsO [ifv none] 27) (Hp.set_same _ _ _) hb3
  have x3 := Hp.set_same (Hp.set (fun _ => none) b1 (cellsO [vhp g 0] 25)) b3 (cellsO [ifv none] 27)
  have D2 : PD h4 F g s := D.le (Hp.le_trans (Hp.le_set (Hp.le_refl h) hb1 _) (Hp.le_set (Hp.le_refl h2) hb3 _))
  change Bes F h F h4 _ at S2
  generalize hbx : Hp.set (Hp.set (fun _ => none) b1 (cellsO [vhp g 0] 25)) b3 (cellsO [ifv none] 27) = bx at S2 x1 x3
  refine ⟨some ⟨g, 0, none⟩, S2.get x1, disk_Down_ok D2 ⟨_, rfl, fun e => ?_, fun e => ?_⟩⟩
  · rw [if_pos e] at hK
    refine S2.put x3 fun S3 => ⟨_, S3.get (Hp.set_same _ _ _), ?_⟩
    have := hK _ F (put_PD S2 D2 x3) S3.m
    change R (ifv (errV 7)) _ at this
    rw [errV_pos (by decide)] at this
    exact this
  rw [if_neg (by rw [e]; decide)] at hK
  refine ⟨some ⟨g, 0, none⟩, S2.get x1, save_last_ok D2 hD ⟨_, _, _, rfl, ?_⟩⟩
  intro b18 hb18 h19
  have S3 := S2.alloc hb18 (cellsO [ifv none] 27)
  have y1 := S2.keepA (o := cellsO [ifv none] 27) x1 hb18
  have y3 := S2.keepA (o := cellsO [ifv none] 27) x3 hb18
  have n1 : b1 ≠ b18 := fun e => by subst e; rw [S2.x _ _ x1] at hb18; cases hb18
  have n3 : b3 ≠ b18 := fun e => by subst e; rw [S2.x _ _ x3] at hb18; cases hb18
  have D3 : PD h19 F g s := D2.le (Hp.le_set (Hp.le_refl h4) hb18 _)
  refine S3.put (Hp.set_same _ _ _) fun S4 => ?_
  have D4 := put_PD S3 D3 (o2 := cellsO [ifv (errV (dLast s).2)] 27) (Hp.set_same bx b18 (cellsO [ifv none] 27))
  have z1 : ((bx.set b18 (cellsO [ifv none] 27)).set b18 (cellsO [ifv (errV (dLast s).2)] 27)) b1 = some (cellsO [vhp g 0] 25) := by rw [Hp.set_other _ _ n1]; exact y1
  have z3 : ((bx.set b18 (cellsO [ifv none] 27)).set b18 (cellsO [ifv (errV (dLast s).2)] 27)) b3 = some (cellsO [ifv none] 27) := by rw [Hp.set_other _ _ n3]; exact y3
  have z18 := Hp.set_same (bx.set b18 (cellsO [ifv none] 27)) b18 (cellsO [ifv (errV (dLast s).2)] 27)
  refine ⟨_, S4.get z18, fun e1 => ?_, fun e1 => ?_⟩
  · rw [errV_isSome] at e1
    have e1' : (dLast s).2 ≠ 0 := by simpa using e1
    rw [if_pos e1'] at hK
    exact save_tail S4 D4 z18 z3 fun h2 k1 k2 => hK h2 F k1 k2
  rw [errV_isSome] at e1
  have e0 : (dLast s).2 = 0 := by simpa using e1
  rw [if_neg (by rw [e0]; decide)] at hK
  obtain ⟨r1, r2, r3, r4, r5, r6⟩ := dLast_room e0
  clear r5 r6 r1
  generalize (dLast s).1.1 = ep at hK r4 ⊢
  have hwf := hD.wf.w
  have hn2 := hD.wf.n2
  have hh : dHalf s ≤ 80 := by unfold dHalf; omega
  refine ⟨some ⟨g, 0, none⟩, S4.get z1, save_half_ok D4 (by omega) ⟨_, rfl, _, isW (by unfold InR; omega), fun e2 => ?_, fun e2 => ?_⟩⟩
  · simp only [decide_eq_true_eq] at e2
    rw [if_pos (by omega)] at hK
    refine S4.put z3 fun S5 => ⟨_, S5.get (Hp.set_same _ _ _), ?_⟩
    have := hK _ F (put_PD S4 D4 z3) S5.m
    change R (ifv (errV 6)) _ at this
    rw [errV_pos (by decide)] at this
    exact this
  simp only [decide_eq_false_iff_not] at e2
  rw [if_neg (by omega)] at hK
  have htm : Int.tmod ((ep : Int) + 1) 2 = (((ep + 1) % 2 : Nat) : Int) := by rw [Int.tmod_eq_emod_of_nonneg (by omega)]; omega
  have hmul : (((ep + 1) % 2 : Nat) : Int) * (dHalf s : Int) = (((ep + 1) % 2 * dHalf s : Nat) : Int) := by rw [Int.natCast_mul]
  have hlt := Nat.mod_lt (ep + 1) (show 0 < 2 by decide)
  have hml : (ep + 1) % 2 * dHalf s ≤ 80 := by
    rcases Nat.lt_or_ge ((ep + 1) % 2) 1 with k | k
    · rw [show (ep + 1) % 2 = 0 by omega]; omega
    · rw [show (ep + 1) % 2 = 1 by omega]; omega
  refine ⟨(ep : Int) + 1, isW (by unfold InR; omega), by decide, some ⟨g, 0, none⟩, S4.get z1, save_half_ok D4 (by omega) ⟨_, rfl, (((ep + 1) % 2 * dHalf s : Nat) : Int), ?_, ((2 + (ep + 1) % 2 * dHalf s : Nat) : Int), ?_, ?_⟩⟩
  · rw [htm, hmul]; exact isW (by unfold InR; omega)
  · have := isW (e := 2 + (((ep + 1) % 2 * dHalf s : Nat) : Int)) (by unfold InR; omega)
    rw [show ((2 + (ep + 1) % 2 * dHalf s : Nat) : Int) = 2 + (((ep + 1) % 2 * dHalf s : Nat) : Int) by omega]
    exact this
  generalize hi0 : 2 + (ep + 1) % 2 * dHalf s = i0 at hK ⊢
  rw [e0] at z1 z3 z18 S4 D4 ⊢
  change _ at S4
  generalize hbx4 : (bx.set b18 (cellsO [ifv none] 27)).set b18 (cellsO [ifv (errV 0)] 27) = bx4 at S4 z1 z3 z18
  generalize hh4 : (h19.set b18 (cellsO [ifv (errV 0)] 27)) = hh4 at S4 D4 ⊢
  intro b41 hb41 h42
  have S5 := S4.alloc hb41 (cellsO [vi 0] 3)
  have D5 : PD h42 F g s := D4.le (Hp.le_set (Hp.le_refl _) hb41 _)
  have m1 : b1 ≠ b41 := fun e => by subst e; rw [S4.x _ _ z1] at hb41; cases hb41
  have m3 : b3 ≠ b41 := fun e => by subst e; rw [S4.x _ _ z3] at hb41; cases hb41
  have m18 : b18 ≠ b41 := fun e => by subst e; rw [S4.x _ _ z18] at hb41; cases hb41
  refine S5.put (Hp.set_same _ _ _) fun S6 => ?_
  have D6 := put_PD S5 D5 (o2 := cellsO [vi i0] 3) (Hp.set_same bx4 b41 (cellsO [vi 0] 3))
  have u1 : ((bx4.set b41 (cellsO [vi 0] 3)).set b41 (cellsO [vi i0] 3)) b1 = some (cellsO [vhp g 0] 25) := by rw [Hp.set_other _ _ m1, Hp.set_other _ _ m1]; exact z1
  have u3 : ((bx4.set b41 (cellsO [vi 0] 3)).set b41 (cellsO [vi i0] 3)) b3 = some (cellsO [ifv none] 27) := by rw [Hp.set_other _ _ m3, Hp.set_other _ _ m3]; exact z3
  have u18 : ((bx4.set b41 (cellsO [vi 0] 3)).set b41 (cellsO [vi i0] 3)) b18 = some (cellsO [ifv (errV 0)] 27) := by rw [Hp.set_other _ _ m18, Hp.set_other _ _ m18]; exact z18
  have u41 := Hp.set_same (bx4.set b41 (cellsO [vi 0] 3)) b41 (cellsO [vi i0] 3)
  generalize (bx4.set b41 (cellsO [vi 0] 3)).set b41 (cellsO [vi i0] 3) = bx6 at S6 u1 u3 u18 u41
  generalize h42.set b41 (cellsO [vi i0] 3) = h43 at S6 D6 ⊢
  refine sem_fromStr (P := Try.prog) (e := 5) (by kernel_rfl) (by kernel_rfl) (by kernel_rfl) fun bb cap tail fz hbb hcap => ⟨_, _, _, rfl, ?_⟩
  generalize hob : Obj.cells ((t.map fun x => vk .u8 (x.toNat : Nat)).toArray ++ tail) 5 fz = ob
  have S7 := S6.alloc hbb ob
  have D7 : PD (h43.set bb ob) F g s := D6.le (Hp.le_set (Hp.le_refl _) hbb _)
  have v1 := S6.keepA (o := ob) u1 hbb
  have v3 := S6.keepA (o := ob) u3 hbb
  have v18 := S6.keepA (o := ob) u18 hbb
  have v41 := S6.keepA (o := ob) u41 hbb
  have vb := Hp.set_same bx6 bb ob
  generalize bx6.set bb ob = bx7 at S7 v1 v3 v18 v41 vb
  generalize h43.set bb ob = h45 at S7 D7 ⊢
  refine chunk_ok (n := 256) (by decide) (by decide) hcap (by omega) ?_
  intro Bs Bn h48 hc hBs hBn hne hh48 hle hother hseq
  have S8 := (S7.alloc hBs (cellsO [vsl (some ⟨bb, 0, none⟩) t.length cap] 100))
  have hBn2 : (h45.set Bs (cellsO [vsl (some ⟨bb, 0, none⟩) t.length cap] 100)) Bn = none := by rw [Hp.set_other _ _ hne]; exact hBn
  have S9 := S8.alloc hBn2 (cellsO [vi (256 : Nat)] 3)
  rw [← hh48] at S9
  have D9 : PD h48 F g s := D7.le (by rw [hh48]; exact Hp.le_trans (Hp.le_set (Hp.le_refl _) hBs _) (Hp.le_set (Hp.le_refl _) hBn2 _))
  have w1 := S8.keepA (o := cellsO [vi (256 : Nat)] 3) (S7.keepA (o := cellsO [vsl (some ⟨bb, 0, none⟩) t.length cap] 100) v1 hBs) hBn2
  have w3 := S8.keepA (o := cellsO [vi (256 : Nat)] 3) (S7.keepA (o := cellsO [vsl (some ⟨bb, 0, none⟩) t.length cap] 100) v3 hBs) hBn2
  have w18 := S8.keepA (o := cellsO [vi (256 : Nat)] 3) (S7.keepA (o := cellsO [vsl (some ⟨bb, 0, none⟩) t.length cap] 100) v18 hBs) hBn2
  have w41 := S8.keepA (o := cellsO [vi (256 : Nat)] 3) (S7.keepA (o := cellsO [vsl (some ⟨bb, 0, none⟩) t.length cap] 100) v41 hBs) hBn2
  have wb := S8.keepA (o := cellsO [vi (256 : Nat)] 3) (S7.keepA (o := cellsO [vsl (some ⟨bb, 0, none⟩) t.length cap] 100) vb hBs) hBn2
  have ws := S8.keepA (o := cellsO [vi (256 : Nat)] 3) (Hp.set_same bx7 Bs (cellsO [vsl (some ⟨bb, 0, none⟩) t.length cap] 100)) hBn2
  have wn := Hp.set_same (bx7.set Bs (cellsO [vsl (some ⟨bb, 0, none⟩) t.length cap] 100)) Bn (cellsO [vi (256 : Nat)] 3)
  have p1 : bb ≠ b18 := fun e => by subst e; rw [S6.x _ _ u18] at hbb; cases hbb
  have p2 : bb ≠ b41 := fun e => by subst e; rw [S6.x _ _ u41] at hbb; cases hbb
  have p3 : Bs ≠ b18 := fun e => by subst e; rw [S7.x _ _ v18] at hBs; cases hBs
  have p4 : Bs ≠ b41 := fun e => by subst e; rw [S7.x _ _ v41] at hBs; cases hBs
  have p5 : Bn ≠ b18 := fun e => by subst e; rw [S7.x _ _ v18] at hBn; cases hBn
  have p6 : Bn ≠ b41 := fun e => by subst e; rw [S7.x _ _ v41] at hBn; cases hBn
  generalize (bx7.set Bs (cellsO [vsl (some ⟨bb, 0, none⟩) t.length cap] 100)).set Bn (cellsO [vi (256 : Nat)] 3) = bx9 at S9 w1 w3 w18 w41 wb ws wn
  have hcb : hc.le bx9 := by
    intro b o ho
    have h1 := hle b o ho
    by_cases e1 : b = Bs
    · subst e1; rw [S9.x _ _ ws] at h1; rw [← h1]; exact ws
    · by_cases e2 : b = Bn
      · subst e2; rw [S9.x _ _ wn] at h1; rw [← h1]; exact wn
      · rw [hother b e1 e2] at ho; cases ho
  obtain ⟨B, hB⟩ : ∃ B : Hp, B = fun b => if b = b18 ∨ b = b41 then none else bx9 b := ⟨_, rfl⟩
  have hBo : ∀ b, b ≠ b18 → b ≠ b41 → B b = bx9 b := fun b k1 k2 => by rw [hB]; simp [k1, k2]
  have hb9 : bx9 = bxF B b18 b41 none (i0 : Int) := by
    funext b
    by_cases e1 : b = b41
    · subst e1; rw [bxF_41]; exact w41
    · by_cases e2 : b = b18
      · subst e2; rw [bxF_18 _ m18]; exact w18
      · rw [bxF_o _ e2 e1, hBo b e2 e1]
  have hcB : ∀ e i, hc.le (bxF B b18 b41 e i) := by
    intro e i b o ho
    have e1 : b ≠ b18 := fun e => by
      subst e
      rw [hother _ (Ne.symm p3) (Ne.symm p5)] at ho; cases ho
    have e2 : b ≠ b41 := fun e => by
      subst e
      rw [hother _ (Ne.symm p4) (Ne.symm p6)] at ho; cases ho
    rw [bxF_o _ e1 e2, hBo b e1 e2]
    exact hcb b o ho
  have q1 : ∀ e i, bxF B b18 b41 e i b1 = some (cellsO [vhp g 0] 25) := fun e i => by rw [bxF_o _ n1 m1, hBo _ n1 m1]; exact w1
  have q3 : ∀ e i, bxF B b18 b41 e i b3 = some (cellsO [ifv none] 27) := fun e i => by rw [bxF_o _ n3 m3, hBo _ n3 m3]; exact w3
  have qb : ∀ e i, bxF B b18 b41 e i bb = some ob := fun e i => by rw [bxF_o _ p1 p2, hBo _ p1 p2]; exact wb
  rw [hb9] at S9
  have hWn : ∀ cs : List (List UInt8), cs.length ≤ 4000 → (dWrites s i0 cs).1.wait.length ≤ 1000000 := fun cs hcs => by
    have := dWrites_wait cs s i0
    omega
  refine ⟨_, rfl, hc, PieceOf bb 0 t.length 256, pieces bb 0 t.length 256, fun l h' => (dWrites s i0 (l.map (contV t))).2 = 0 ∧ ∃ F' e, PD h' F' g (dWrites s i0 (l.map (contV t))).1 ∧ Bes F h F' h' (bxF B b18 b41 e ((i0 + l.length : Nat) : Int)) ∧ newCells h48 h', hseq, ⟨rfl, F, none, D9, S9, newCells_refl h48⟩, ?_, ?_, ?_⟩
  · rintro l h' ⟨_, F', e, _, S', N'⟩
    exact ⟨fun b o ho => S'.x b o (hcB _ _ b o ho), N'⟩
  · rintro l h55 x ⟨o, m, rfl, hom, hm⟩ hl ⟨hz, F', e, D', S', N'⟩
    have hl2 : l.length ≤ 4000 := by
      rw [pieces_length] at hl
      omega
    refine ⟨_, _, _, rfl, some ⟨g, 0, none⟩, S'.get (q1 _ _), _, S'.get (bxF_41 _ _ _), bs ((t.drop o).take m), ?_, ?_⟩
    · have hbb2 := S'.x _ _ (qb e ((i0 + l.length : Nat) : Int))
      rw [← hob] at hbb2
      have hr := rd_toStr (P := Try.prog) (src := 100) (dst := 9) (e := 5) (by kernel_rfl) (by kernel_rfl) (by kernel_rfl) (c := m) (row_bytes hbb2 (i := o) (m := m) hom)
      rw [show ((t.drop o).take m).length = m by simp; omega] at hr
      exact hr
    · have hDD := (DOK.writes (l.map (contV t)) i0 hD)
      have hcont : contV t (vsl (some ⟨bb, 0 + o, none⟩) m m) = (t.drop o).take m := by
        show (t.drop (0 + o)).take m = _
        rw [Nat.zero_add]
      have hsn := dWrites_snoc (l.map (contV t)) s i0 ((t.drop o).take m) hz
      rw [List.length_map] at hsn
      have hmap : (l ++ [vsl (some ⟨bb, 0 + o, none⟩) m m]).map (contV t) = l.map (contV t) ++ [(t.drop o).take m] := by rw [List.map_append, List.map_singleton, hcont]
      refine disk_Write_less D' hDD.wf (hWn _ (by simpa using hl2)) N' fun h62 F2 D2 M2 N2 => ⟨_, rfl, ?_⟩
      have S2 := S'.call M2 D2.al
      refine S2.put (bxF_18 _ m18 _ _) fun S3 => ?_
      have D3 := put_PD S2 D2 (o2 := cellsO [ifv (errV (dWrite (dWrites s i0 (l.map (contV t))).1 ((i0 + l.length : Nat) : Int) ((t.drop o).take m)).2)] 27) (bxF_18 _ m18 _ _)
      have N3 := newCells_set N2 b18 [ifv (errV (dWrite (dWrites s i0 (l.map (contV t))).1 ((i0 + l.length : Nat) : Int) ((t.drop o).take m)).2)] 27
      rw [bxF_set18 _ m18] at S3
      refine ⟨_, S3.get (bxF_18 _ m18 _ _), fun e1 => ?_, fun e1 => ?_⟩
      · rw [errV_isSome] at e1
        have e1' : (dWrite (dWrites s i0 (l.map (contV t))).1 ((i0 + l.length : Nat) : Int) ((t.drop o).take m)).2 ≠ 0 := by simpa using e1
        refine ⟨_, S3.get (bxF_18 _ m18 _ _), S3.put (q3 _ _) fun S4 => ⟨newCells_set N3 _ _ _, fun hpre => ⟨_, S4.get (Hp.set_same _ _ _), ?_⟩⟩⟩
        obtain ⟨rest, hrest⟩ := hpre
        have hch : chunksB t = (l.map (contV t) ++ [(t.drop o).take m]) ++ rest.map (contV t) := by
          rw [← contV_pieces bb t, ← hrest, List.map_append, hmap]
        have hfin : dWrites s i0 (chunksB t) = dWrite (dWrites s i0 (l.map (contV t))).1 ((i0 + l.length : Nat) : Int) ((t.drop o).take m) := by
          rw [hch, dWrites_fail _ _ _ _ (by rw [hsn]; exact e1'), hsn]
        rw [hfin, if_pos e1'] at hK
        exact hK _ F2 (put_PD S3 D3 (q3 _ _)) S4.m
      · rw [errV_isSome] at e1
        have e1' : (dWrite (dWrites s i0 (l.map (contV t))).1 ((i0 + l.length : Nat) : Int) ((t.drop o).take m)).2 = 0 := by simpa using e1
        refine ⟨_, S3.get (bxF_41 _ _ _), _, isW (by unfold InR; omega), S3.put (bxF_41 _ _ _) fun S4 => ?_⟩
        have D4 := put_PD S3 D3 (o2 := cellsO [vi (((i0 + l.length : Nat) : Int) + 1)] 3) (bxF_41 _ _ _)
        rw [bxF_set41] at S4
        refine ⟨by rw [hmap, hsn]; exact e1', F2, errV (dWrite (dWrites s i0 (l.map (contV t))).1 ((i0 + l.length : Nat) : Int) ((t.drop o).take m)).2, by rw [hmap, hsn]; exact D4, ?_, newCells_set N3 _ _ _⟩
        rw [List.length_append, List.length_singleton]
        exact S4
  · rintro h73 ⟨hz, F', e, D', S', N'⟩
    rw [contV_pieces] at hz D'
    rw [if_neg (by rw [hz]; decide)] at hK
    unfold dSave2 at hK
    have hDD := (DOK.writes (chunksB t) i0 hD)
    have hlen : (chunksB t).length ≤ 4000 := by unfold chunksB; simp; omega
    have hW0 := hWn (chunksB t) hlen
    have hW1 : (dWrites s i0 (chunksB t)).1.wait.length ≤ 904000 := by have := dWrites_wait (chunksB t) s i0; omega
    generalize (dWrites s i0 (chunksB t)).1 = sa at *
    have hf := dFlush_wl sa
    refine ⟨some ⟨g, 0, none⟩, S'.get (q1 _ _), disk_Flush_ok D' hDD.wf fun h77 F2 D2 M2 => ⟨_, rfl, ?_⟩⟩
    have T2 := S'.call M2 D2.al
    refine T2.put (bxF_18 _ m18 _ _) fun T3 => ?_
    have E3 := put_PD T2 D2 (o2 := cellsO [ifv (errV (dFlush sa).2)] 27) (bxF_18 _ m18 _ _)
    rw [bxF_set18 _ m18] at T3
    refine ⟨_, T3.get (bxF_18 _ m18 _ _), ?_⟩
    intro J91
    refine ⟨fun e1 => ?_, fun e1 => ?_⟩
    · have e1' := none_of e1
      rw [if_neg (by rw [e1']; decide)] at hK
      refine ⟨some ⟨g, 0, none⟩, T3.get (q1 _ _), by decide, save_head_ok (e := ep + 1) (k := t.length) (by omega) (by omega) fun h83 l83 => ⟨_, rfl, ?_⟩⟩
      have T4 := T3.grow l83
      have E4 := E3.le l83
      rw [htm]
      refine ⟨T4.get (q1 _ _), disk_Write_ok E4 hDD.flush.wf (by omega) fun h86 F5 D5 M5 => ⟨_, rfl, ?_⟩⟩
      have T5 := T4.call M5 D5.al
      refine T5.put (bxF_18 _ m18 _ _) fun T6 => ?_
      have E6 := put_PD T5 D5 (o2 := cellsO [ifv (errV (dWrite (dFlush sa).1 (((ep + 1) % 2 : Nat) : Int) (headB (ep + 1) t.length)).2)] 27) (bxF_18 _ m18 _ _)
      rw [bxF_set18 _ m18] at T6
      refine ⟨_, T6.get (bxF_18 _ m18 _ _), ?_⟩
      show And _ _
      refine ⟨fun e2 => ?_, fun e2 => ?_⟩
      · have e2' := none_of e2
        rw [if_neg (by rw [e2']; decide)] at hK
        refine ⟨some ⟨g, 0, none⟩, T6.get (q1 _ _), disk_Flush_ok E6 (hDD.flush.write _ _).wf fun h96 F7 D7 M7 => ⟨_, rfl, ?_⟩⟩
        have T7 := T6.call M7 D7.al
        refine T7.put (bxF_18 _ m18 _ _) fun T8 => ?_
        have E8 := put_PD T7 D7 (o2 := cellsO [ifv (errV (dFlush (dWrite (dFlush sa).1 (((ep + 1) % 2 : Nat) : Int) (headB (ep + 1) t.length)).1).2)] 27) (bxF_18 _ m18 _ _)
        rw [bxF_set18 _ m18] at T8
        exact save_tail T8 E8 (bxF_18 _ m18 _ _) (q3 _ _) fun h2 k1 k2 => hK h2 F7 k1 k2
      · have e2' := some_of e2
        rw [if_pos e2'] at hK
        exact save_tail T6 E6 (bxF_18 _ m18 _ _) (q3 _ _) fun h2 k1 k2 => hK h2 F5 k1 k2
    · have e1' := some_of e1
      rw [if_pos e1'] at hK
      refine ⟨_, T3.get (bxF_18 _ m18 _ _), ?_⟩
      show And _ _
      exact ⟨fun e2 => absurd (none_of e2) e1', fun _ => save_tail T3 E3 (bxF_18 _ m18 _ _) (q3 _ _) fun h2 k1 k2 => hK h2 F2 k1 k2⟩
end Go.Proofs.Ytgonnpleihbklaa
/-
  Plain law: what was saved is read; a fall takes nothing. Conditions: none.
-/
namespace Go.Proofs.Ytgonnpleihbklaa
open Go Go.Vc
set_option linter.unusedVariables false
set_option maxRecDepth 100000

/-- Sectors that hold the text t, as the e-th. -/
structure Sv (l : List (List UInt8)) (n e : Nat) (t : List UInt8) : Prop where
  len : l.length = n
  n4 : 4 ≤ n
  e1 : 1 ≤ e
  e2 : e < 4294967296
  room : t.length ≤ (n - 2) / 2 * 256
  hd : l.getD (e % 2) [] = fullB (headB e t.length)
  oth : (l.getD ((e + 1) % 2) []).getD 0 0 = 84 → un4 (((l.getD ((e + 1) % 2) []).drop 1).take 4) < e
  dat : ∀ k, k < (t.length + 255) / 256 → l.getD (2 + e % 2 * ((n - 2) / 2) + k) [] = fullB (chunkB t k)
theorem head_facts (e k : Nat) (he : e < 4294967296) (hk : k < 4294967296) : (fullB (headB e k)).getD 0 0 = 84 ∧ un4 (((fullB (headB e k)).drop 1).take 4) = e ∧ un4 (((fullB (headB e k)).drop 5).take 4) = k := by
  have h1 : ((fullB (headB e k)).drop 1).take 4 = le4 e := rfl
  have h2 : ((fullB (headB e k)).drop 5).take 4 = le4 k := rfl
  rw [h1, h2, un4_le4 he, un4_le4 hk]
  exact ⟨rfl, rfl, rfl⟩
theorem parity (e : Nat) : (e % 2 = 0 ∧ (e + 1) % 2 = 1) ∨ (e % 2 = 1 ∧ (e + 1) % 2 = 0) := by omega
theorem Sv.last {s : DK} {n e : Nat} {t : List UInt8} (h : Sv s.now n e t) (hn : n ≤ 160) (hd : s.down = false) : dLast s = ((e, t.length), 0) := by
  have hH : dHalf s = (n - 2) / 2 := by unfold dHalf; rw [h.len]
  have hr := h.room
  obtain ⟨f1, f2, f3⟩ := head_facts e t.length h.e2 (by omega)
  have h4 := h.n4
  have e1 := h.e1
  have key : lastP s = (e, t.length) := by
    unfold lastP
    rw [hH]
    rcases parity e with ⟨p1, p2⟩ | ⟨p1, p2⟩
    · have hd0 := h.hd
      have ho := h.oth
      rw [p1] at hd0
      rw [p2] at ho
      rw [hd0]
      have k1 : lastStep ((n - 2) / 2 * 256) (0, 0) (fullB (headB e t.length)) = (e, t.length) := by
        unfold lastStep
        rw [f1, f2, f3, if_pos ⟨⟨rfl, by show e > 0; omega⟩, hr⟩]
      rw [k1]
      unfold lastStep
      rw [if_neg]
      rintro ⟨⟨k2, k3⟩, _⟩
      have := ho k2
      simp only at k3
      omega
    · have hd0 := h.hd
      have ho := h.oth
      rw [p1] at hd0
      rw [p2] at ho
      rw [hd0]
      have k1 : (lastStep ((n - 2) / 2 * 256) (0, 0) (s.now.getD 0 [])).1 < e := by
        unfold lastStep
        split
        · rename_i hh; exact ho hh.1.1
        · show 0 < e; omega
      generalize lastStep ((n - 2) / 2 * 256) (0, 0) (s.now.getD 0 []) = p at k1
      unfold lastStep
      rw [f1, f2, f3, if_pos ⟨⟨rfl, k1⟩, hr⟩]
  unfold dLast
  rw [h.len, if_neg (by omega), if_neg (by rw [hd]; decide), key, if_neg (by show ¬ e = 0; omega)]
theorem chunk_full (t : List UInt8) {k : Nat} (h : (k + 1) * 256 ≤ t.length) : fullB (chunkB t k) = (t.drop (k * 256)).take 256 := by
  have : (chunkB t k).length = 256 := by unfold chunkB; simp; omega
  unfold fullB
  rw [this]
  simp [chunkB]
theorem flat_chunks (t : List UInt8) : ∀ m, m * 256 ≤ t.length → (List.range m).flatMap (fun k => fullB (chunkB t k)) = t.take (m * 256)
  | 0, _ => by simp
  | m + 1, h => by
    rw [List.range_succ, List.flatMap_append, flat_chunks t m (by omega), List.flatMap_singleton, chunk_full t h, Nat.add_mul, Nat.one_mul, List.take_add]
theorem flat_all (t : List UInt8) : ((List.range ((t.length + 255) / 256)).flatMap (fun k => fullB (chunkB t k))).take t.length = t := by
  rcases Nat.eq_zero_or_pos (t.length % 256) with h | h
  · have e : (t.length + 255) / 256 * 256 = t.length := by omega
    rw [flat_chunks t _ (by omega), e, List.take_take, Nat.min_self, List.take_length]
  · obtain ⟨m, hm⟩ : ∃ m, m = t.length / 256 := ⟨_, rfl⟩
    have e : (t.length + 255) / 256 = m + 1 := by omega
    rw [e, List.range_succ, List.flatMap_append, flat_chunks t m (by omega), List.flatMap_singleton]
    have h3 : fullB (chunkB t m) = t.drop (m * 256) ++ List.replicate (256 - (chunkB t m).length) 0 := by
      unfold fullB
      congr 1
      unfold chunkB
      rw [List.take_of_length_le (by simp; omega)]
    rw [h3, ← List.append_assoc, List.take_append_drop, List.take_append_of_le_length (Nat.le_refl _), List.take_length]
theorem Sv.load {s : DK} {n e : Nat} {t : List UInt8} (h : Sv s.now n e t) (hn : n ≤ 160) (hd : s.down = false) : dLoad s = (t, 0) := by
  unfold dLoad
  rw [if_neg (by rw [hd]; decide), h.last hn hd, if_neg (by simp)]
  have e1 : loadB s e ((t.length + 255) / 256) = (List.range ((t.length + 255) / 256)).flatMap (fun k => fullB (chunkB t k)) := by
    unfold loadB
    rw [List.flatMap_def, List.flatMap_def]
    congr 1
    refine List.map_congr_left fun k hk => ?_
    simp only [List.mem_range] at hk
    have := h.dat k hk
    unfold sectB dHalf
    rw [h.len]
    exact this
  show ((loadB s e ((t.length + 255) / 256)).take t.length, (0 : Int)) = _
  rw [e1, flat_all]
theorem getD_set_ne {l : List (List UInt8)} {i j : Nat} (h : i ≠ j) (x : List UInt8) : (l.set i x).getD j [] = l.getD j [] := by
  rw [List.getD_eq_getElem?_getD, List.getElem?_set_ne h, List.getD_eq_getElem?_getD]
theorem getD_set_eq {l : List (List UInt8)} {i : Nat} (h : i < l.length) (x : List UInt8) : (l.set i x).getD i [] = x := by
  rw [List.getD_eq_getElem?_getD, List.getElem?_set_self h]; rfl
/-- In the other half. -/
def Oth (n e j : Nat) : Prop := 2 + (e + 1) % 2 * ((n - 2) / 2) ≤ j ∧ j < 2 + (e + 1) % 2 * ((n - 2) / 2) + (n - 2) / 2
theorem oth_ne {n e j : Nat} (ho : Oth n e j) : j ≠ e % 2 ∧ j ≠ (e + 1) % 2 ∧ ∀ k, k < (n - 2) / 2 → j ≠ 2 + e % 2 * ((n - 2) / 2) + k := by
  unfold Oth at ho
  rcases parity e with ⟨p1, p2⟩ | ⟨p1, p2⟩
  · rw [p2] at ho ⊢; rw [p1]
    refine ⟨by omega, by omega, fun k hk => by omega⟩
  · rw [p2] at ho ⊢; rw [p1]
    refine ⟨by omega, by omega, fun k hk => by omega⟩
theorem Sv.set {l : List (List UInt8)} {n e : Nat} {t : List UInt8} (h : Sv l n e t) {j : Nat} (ho : Oth n e j) (x : List UInt8) : Sv (l.set j x) n e t := by
  obtain ⟨h1, h2, h3⟩ := oth_ne ho
  have hr := h.room
  exact ⟨by rw [List.length_set]; exact h.len, h.n4, h.e1, h.e2, h.room, by rw [getD_set_ne h1]; exact h.hd, by rw [getD_set_ne h2]; exact h.oth, fun k hk => by rw [getD_set_ne (h3 k (by omega))]; exact h.dat k hk⟩
theorem Sv.keep {n e : Nat} {t : List UInt8} (k : Int) : ∀ (w : List (Int × List UInt8)) (i : Nat) {l : List (List UInt8)}, Sv l n e t → (∀ x ∈ w, Oth n e x.1.toNat) → Sv (dKeep k i w l) n e t
  | [], i, l, h, _ => h
  | x :: w, i, l, h, hw => by
    rw [dKeep]
    refine Sv.keep k w (i + 1) ?_ (fun y hy => hw y (List.mem_cons_of_mem _ hy))
    split
    · exact h.set (hw x List.mem_cons_self) _
    · exact h
theorem dStep_cases (s : DK) (hd : s.down = false) : ((dStep s).2 = 0 ∧ (dStep s).1.down = false ∧ (s.fuse = -1 → (dStep s).1.fuse = -1)) ∨ ((dStep s).2 = 7 ∧ (dStep s).1.down = true ∧ s.fuse ≠ -1) := by
  unfold dStep
  rw [if_neg (by rw [hd]; decide)]
  split
  · rename_i h; right; exact ⟨rfl, rfl, by omega⟩
  · left; refine ⟨rfl, hd, fun h => ?_⟩
    show max (s.fuse - 1) (-1) = -1
    omega
structure Stays (s s' : DK) : Prop where
  now : s'.now = s.now
  kept : s'.kept = s.kept
  wait : s'.wait = s.wait
theorem dWrite_cases {s : DK} (hd : s.down = false) {i : Int} {d : List UInt8} (hi : 0 ≤ i ∧ i < s.now.length) (hl : d.length ≤ 256) :
    ((dWrite s i d).2 = 0 ∧ (dWrite s i d).1.down = false ∧ (s.fuse = -1 → (dWrite s i d).1.fuse = -1) ∧ (dWrite s i d).1.now = s.now.set i.toNat (fullB d) ∧ (dWrite s i d).1.kept = s.kept ∧ (dWrite s i d).1.wait = s.wait ++ [(i, fullB d)]) ∨
    ((dWrite s i d).2 = 7 ∧ (dWrite s i d).1.down = true ∧ s.fuse ≠ -1 ∧ Stays s (dWrite s i d).1) := by
  have e := dStep_now s
  unfold dWrite
  rw [if_neg (by omega)]
  rcases dStep_cases s hd with ⟨h1, h2, h3⟩ | ⟨h1, h2, h3⟩
  · left
    rw [if_neg (by rw [h1]; decide)]
    exact ⟨rfl, h2, h3, rfl, e.2.1, rfl⟩
  · right
    rw [if_pos (by rw [h1]; decide)]
    exact ⟨h1, h2, h3, ⟨e.1, e.2.1, e.2.2⟩⟩
theorem dFlush_cases {s : DK} (hd : s.down = false) :
    ((dFlush s).2 = 0 ∧ (dFlush s).1.down = false ∧ (s.fuse = -1 → (dFlush s).1.fuse = -1) ∧ (dFlush s).1.now = s.now ∧ (dFlush s).1.kept = s.now ∧ (dFlush s).1.wait = []) ∨
    ((dFlush s).2 = 7 ∧ (dFlush s).1.down = true ∧ s.fuse ≠ -1 ∧ Stays s (dFlush s).1) := by
  have e := dStep_now s
  unfold dFlush
  rcases dStep_cases s hd with ⟨h1, h2, h3⟩ | ⟨h1, h2, h3⟩
  · left
    rw [if_neg (by rw [h1]; decide)]
    exact ⟨rfl, h2, h3, e.1, rfl, rfl⟩
  · right
    rw [if_pos (by rw [h1]; decide)]
    exact ⟨h1, h2, h3, ⟨e.1, e.2.1, e.2.2⟩⟩
/-- A disk at rest. -/
structure Good (s : DK) (n e : Nat) (t : List UInt8) : Prop where
  now : Sv s.now n e t
  kept : Sv s.kept n e t
  wait : s.wait = []
/-- What a fall leaves: one or the other. -/
def Saf (s : DK) (n e : Nat) (t : List UInt8) (t' : List UInt8) : Prop := ∀ k, Sv (dKeep k 0 s.wait s.kept) n e t ∨ Sv (dKeep k 0 s.wait s.kept) n (e + 1) t'
theorem Saf.stays {s s' : DK} {n e : Nat} {t t' : List UInt8} (h : Saf s n e t t') (S : Stays s s') : Saf s' n e t t' := by
  intro k
  have := h k
  rw [S.wait, S.kept]
  exact this
/-- While the pieces are written. -/
structure Mid (s : DK) (n e : Nat) (t : List UInt8) : Prop where
  now : Sv s.now n e t
  kept : Sv s.kept n e t
  wait : ∀ x ∈ s.wait, Oth n e x.1.toNat
theorem Mid.saf {s : DK} {n e : Nat} {t : List UInt8} (h : Mid s n e t) (t' : List UInt8) : Saf s n e t t' := fun k => .inl (h.kept.keep k s.wait 0 h.wait)
theorem chunkB_len (t : List UInt8) (k : Nat) : (chunkB t k).length ≤ 256 := by unfold chunkB; simp; omega
theorem chunksB_succ (t : List UInt8) : chunksB t = (List.range ((t.length + 255) / 256)).map (chunkB t) := rfl
theorem writes_law {n e : Nat} {t t' : List UInt8} (hr : t'.length ≤ (n - 2) / 2 * 256) : ∀ (m : Nat) {s : DK}, Mid s n e t → s.down = false → m ≤ (t'.length + 255) / 256 →
    (let w := dWrites s (2 + (e + 1) % 2 * ((n - 2) / 2)) ((List.range m).map (chunkB t'))
     (w.2 = 0 ∧ w.1.down = false ∧ (s.fuse = -1 → w.1.fuse = -1) ∧ Mid w.1 n e t ∧ ∀ k, k < m → w.1.now.getD (2 + (e + 1) % 2 * ((n - 2) / 2) + k) [] = fullB (chunkB t' k)) ∨ (w.2 = 7 ∧ w.1.down = true ∧ s.fuse ≠ -1 ∧ Mid w.1 n e t))
  | 0, s, M, hd, _ => .inl ⟨rfl, hd, fun h => h, M, fun k hk => by omega⟩
  | m + 1, s, M, hd, hm => by
    intro w
    have ih := writes_law hr m M hd (by omega)
    have hw : w = dWrites s (2 + (e + 1) % 2 * ((n - 2) / 2)) ((List.range m).map (chunkB t') ++ [chunkB t' m]) := by
      show dWrites _ _ _ = _
      rw [List.range_succ, List.map_append]
      rfl
    generalize hb : 2 + (e + 1) % 2 * ((n - 2) / 2) = b at ih hw ⊢
    simp only at ih
    rcases ih with ⟨i1, i2, i3, i4, i5⟩ | ⟨i1, i2, i3, i4⟩
    · rw [dWrites_snoc _ _ _ _ i1, List.length_map, List.length_range] at hw
      generalize (dWrites s b ((List.range m).map (chunkB t'))).1 = sm at i2 i3 i4 i5 hw
      have ho : Oth n e (b + m) := by unfold Oth; rw [hb]; omega
      have hlen := i4.now.len
      have hlt : b + m < n := by
        have := oth_ne ho
        unfold Oth at ho
        have h4 := i4.now.n4
        have : (e + 1) % 2 * ((n - 2) / 2) ≤ (n - 2) / 2 := by
          rcases parity e with ⟨p1, p2⟩ | ⟨p1, p2⟩ <;> rw [p2] <;> omega
        omega
      rcases dWrite_cases i2 (i := ((b + m : Nat) : Int)) (d := chunkB t' m) (by omega) (chunkB_len t' m) with ⟨c1, c2, c3, c4, c5, c6⟩ | ⟨c1, c2, c3, c4⟩
      · left
        rw [hw]
        rw [Int.toNat_natCast] at c4
        refine ⟨c1, c2, fun h => c3 (i3 h), ⟨by rw [c4]; exact i4.now.set ho _, by rw [c5]; exact i4.kept, fun x hx => ?_⟩, fun k hk => ?_⟩
        · rw [c6] at hx
          rcases List.mem_append.1 hx with h1 | h1
          · exact i4.wait x h1
          · simp only [List.mem_singleton] at h1
            subst h1
            exact ho
        · rw [c4]
          by_cases hkm : k = m
          · subst hkm
            exact getD_set_eq (by omega) _
          · rw [getD_set_ne (by omega)]
            exact i5 k (by omega)
      · right
        rw [hw]
        exact ⟨c1, c2, fun h => c3 (i3 h), ⟨by rw [c4.now]; exact i4.now, by rw [c4.kept]; exact i4.kept, fun x hx => i4.wait x (by rw [← c4.wait]; exact hx)⟩⟩
    · right
      rw [dWrites_fail _ _ _ _ (by rw [i1]; decide)] at hw
      rw [hw]
      exact ⟨i1, i2, i3, i4⟩
theorem Sv.next {l : List (List UInt8)} {n e : Nat} {t t' : List UInt8} (h : Sv l n e t) (he : e + 1 < 4294967296) (hr : t'.length ≤ (n - 2) / 2 * 256) (hn : n ≤ 160) (hd : ∀ k, k < (t'.length + 255) / 256 → l.getD (2 + (e + 1) % 2 * ((n - 2) / 2) + k) [] = fullB (chunkB t' k)) :
    Sv (l.set ((e + 1) % 2) (fullB (headB (e + 1) t'.length))) n (e + 1) t' := by
  have h4 := h.n4
  have hlen := h.len
  have hr0 := h.room
  obtain ⟨f1, f2, f3⟩ := head_facts e t.length h.e2 (by omega)
  have hp : (e + 1 + 1) % 2 = e % 2 := by omega
  have hne : (e + 1) % 2 ≠ e % 2 := by omega
  refine ⟨by rw [List.length_set]; exact h.len, h4, by omega, he, hr, getD_set_eq (by omega) _, ?_, ?_⟩
  · rw [hp, getD_set_ne hne, h.hd, f2]
    intro _
    omega
  · intro k hk
    rw [getD_set_ne (by omega)]
    exact hd k hk
theorem save_law {s : DK} {n e : Nat} {t t' : List UInt8} (G : Good s n e t) (hd : s.down = false) (hn : n ≤ 160) (he : e + 1 < 4294967296) (hr : t'.length ≤ (n - 2) / 2 * 256) :
    ((dSave s t').2 = 0 ∧ (dSave s t').1.down = false ∧ (s.fuse = -1 → (dSave s t').1.fuse = -1) ∧ Good (dSave s t').1 n (e + 1) t') ∨ ((dSave s t').2 = 7 ∧ (dSave s t').1.down = true ∧ s.fuse ≠ -1 ∧ Saf (dSave s t').1 n e t t') := by
  have hH : dHalf s = (n - 2) / 2 := by unfold dHalf; rw [G.now.len]
  have M : Mid s n e t := ⟨G.now, G.kept, by rw [G.wait]; intro x hx; exact absurd hx List.not_mem_nil⟩
  have W := writes_law hr _ M hd (Nat.le_refl _)
  rw [← chunksB_succ] at W
  have h4 := G.now.n4
  unfold dSave
  rw [if_neg (by rw [hd]; decide), G.now.last hn hd, if_neg (by simp), hH, if_neg (by omega)]
  simp only at W ⊢
  generalize dWrites s (2 + (e + 1) % 2 * ((n - 2) / 2)) (chunksB t') = w at W ⊢
  obtain ⟨sa, fa⟩ := w
  simp only at W ⊢
  rcases W with ⟨w1, w2, w3, w4, w5⟩ | ⟨w1, w2, w3, w4⟩
  · rw [if_neg (by omega)]
    unfold dSave2
    rcases dFlush_cases w2 with ⟨a1, a2, a3, a4, a5, a6⟩ | ⟨a1, a2, a3, a4⟩
    · rw [if_neg (by omega)]
      generalize (dFlush sa).1 = sb at a2 a3 a4 a5 a6 ⊢
      have hlt : (e + 1) % 2 < 2 := Nat.mod_lt _ (by decide)
      have hNb : Sv sb.now n e t := by rw [a4]; exact w4.now
      have hlen := hNb.len
      have nx : Sv (sb.now.set ((e + 1) % 2) (fullB (headB (e + 1) t'.length))) n (e + 1) t' := hNb.next he hr hn (by rw [a4]; exact w5)
      have hS : Saf sb n e t t' := by
        intro k
        rw [a6, dKeep, a5]
        exact .inl w4.now
      rcases dWrite_cases a2 (i := (((e + 1) % 2 : Nat) : Int)) (d := headB (e + 1) t'.length) (by omega) (by rw [headB_len]; decide) with ⟨b1, b2, b3, b4, b5, b6⟩ | ⟨b1, b2, b3, b4⟩
      · rw [if_neg (by omega)]
        generalize (dWrite sb (((e + 1) % 2 : Nat) : Int) (headB (e + 1) t'.length)).1 = sc at b2 b3 b4 b5 b6 ⊢
        rw [Int.toNat_natCast] at b4
        have hSc : Saf sc n e t t' := by
          intro k
          rw [b6, a6, b5, List.nil_append, dKeep, dKeep, Int.toNat_natCast]
          split
          · right; rw [a5, ← a4]; exact nx
          · left; rw [a5]; exact w4.now
        rcases dFlush_cases b2 with ⟨c1, c2, c3, c4, c5, c6⟩ | ⟨c1, c2, c3, c4⟩
        · left
          exact ⟨c1, c2, fun h => c3 (b3 (a3 (w3 h))), ⟨by rw [c4, b4]; exact nx, by rw [c5, b4]; exact nx, c6⟩⟩
        · right
          exact ⟨c1, c2, fun h => c3 (b3 (a3 (w3 h))), hSc.stays c4⟩
      · rw [if_pos (by omega)]
        right
        exact ⟨b1, b2, fun h => b3 (a3 (w3 h)), hS.stays b4⟩
    · rw [if_pos (by omega)]
      right
      exact ⟨a1, a2, fun h => a3 (w3 h), (w4.saf t').stays a4⟩
  · rw [if_pos (by omega)]
    right
    exact ⟨w1, w2, w3, w4.saf t'⟩
theorem save_big {s : DK} {n e : Nat} {t t' : List UInt8} (G : Good s n e t) (hd : s.down = false) (hn : n ≤ 160) (hr : ¬ t'.length ≤ (n - 2) / 2 * 256) : dSave s t' = (s, 6) := by
  have hH : dHalf s = (n - 2) / 2 := by unfold dHalf; rw [G.now.len]
  unfold dSave
  rw [if_neg (by rw [hd]; decide), G.now.last hn hd, if_neg (by simp), hH, if_pos (by omega)]
/-- A fall, and on: the text is one or the other. -/
theorem restart_law {s : DK} {n e : Nat} {t t' : List UInt8} (h : Saf s n e t t') (k : Int) : Good (dRestart s k) n e t ∨ Good (dRestart s k) n (e + 1) t' := by
  rcases h k with h1 | h1
  · exact .inl ⟨h1, h1, rfl⟩
  · exact .inr ⟨h1, h1, rfl⟩
theorem Good.restart {s : DK} {n e : Nat} {t : List UInt8} (h : Good s n e t) (k : Int) : Good (dRestart s k) n e t := by
  have : dKeep k 0 s.wait s.kept = s.kept := by rw [h.wait]; rfl
  exact ⟨by show Sv (dKeep k 0 s.wait s.kept) n e t; rw [this]; exact h.kept, by show Sv (dKeep k 0 s.wait s.kept) n e t; rw [this]; exact h.kept, rfl⟩
theorem format_law {s : DK} {n : Nat} (D : DOK s n) (hd : s.down = false) (hf : s.fuse = -1) (h4 : 4 ≤ n) : (dFormat s).2 = 0 ∧ (dFormat s).1.down = false ∧ (dFormat s).1.fuse = -1 ∧ Good (dFormat s).1 n 2 [] := by
  have hw := D.wf.w
  have hw2 := D.wf.n2
  unfold dFormat
  rw [if_neg (by omega)]
  rcases dWrite_cases hd (i := 1) (d := []) (by omega) (by decide) with ⟨a1, a2, a3, a4, a5, a6⟩ | ⟨_, _, h, _⟩
  · rw [if_neg (by omega)]
    generalize (dWrite s 1 []).1 = sa at *
    rcases dFlush_cases a2 with ⟨b1, b2, b3, b4, b5, b6⟩ | ⟨_, _, h, _⟩
    · rw [if_neg (by omega)]
      generalize (dFlush sa).1 = sb at *
      rcases dWrite_cases b2 (i := 0) (d := headB 2 0) (by rw [b4, a4, List.length_set]; omega) (by decide) with ⟨c1, c2, c3, c4, c5, c6⟩ | ⟨_, _, h, _⟩
      · rw [if_neg (by omega)]
        generalize (dWrite sb 0 (headB 2 0)).1 = sc at *
        rcases dFlush_cases c2 with ⟨e1, e2, e3, e4, e5, e6⟩ | ⟨_, _, h, _⟩
        · refine ⟨e1, e2, e3 (c3 (b3 (a3 hf))), ?_⟩
          have hnow : sc.now = (s.now.set 1 (fullB [])).set 0 (fullB (headB 2 0)) := by rw [c4, b4, a4]; rfl
          have key : Sv sc.now n 2 [] := by
            rw [hnow]
            refine ⟨by rw [List.length_set, List.length_set]; exact hw, h4, by decide, by decide, by simp, getD_set_eq (by rw [List.length_set]; omega) _, ?_, fun k hk => absurd hk (by simp)⟩
            rw [show (2 + 1) % 2 = 1 from rfl, getD_set_ne (by decide), getD_set_eq (by omega)]
            intro h; exact absurd h (by decide)
          exact ⟨by rw [e4]; exact key, by rw [e5]; exact key, e6⟩
        · exact absurd (c3 (b3 (a3 hf))) h
      · exact absurd (b3 (a3 hf)) h
    · exact absurd (a3 hf) h
  · exact absurd hf h
/-- A disk of noughts holds no text. -/
theorem fresh_last {s : DK} {n : Nat} (hs : s.now = List.replicate n (List.replicate 256 0)) (hd : s.down = false) : (dLast s).2 = 4 := by
  have hl : s.now.length = n := by rw [hs, List.length_replicate]
  have hst : ∀ r p i, lastStep r p (s.now.getD i []) = p := by
    intro r p i
    unfold lastStep
    rw [if_neg]
    rintro ⟨⟨h, _⟩, _⟩
    have e : (List.replicate n (List.replicate 256 (0 : UInt8))).getD i [] = List.replicate 256 0 ∨ (List.replicate n (List.replicate 256 (0 : UInt8))).getD i [] = [] := by
      rw [List.getD_eq_getElem?_getD, List.getElem?_replicate]
      split
      · exact .inl rfl
      · exact .inr rfl
    rw [hs] at h
    rcases e with e | e
    · rw [e] at h; exact absurd h (by decide)
    · rw [e] at h; exact absurd h (by decide)
  unfold dLast
  split
  · rfl
  · rw [if_neg (by rw [hd]; decide)]
    unfold lastP
    rw [hst, hst, if_pos rfl]
end Go.Proofs.Ytgonnpleihbklaa
/-
  Contracts of package save, on a disk at rest. Conditions: those stated.
-/
namespace Go.Proofs.Ytgonnpleihbklaa
open Go Go.Vc
set_option linter.unusedVariables false
set_option maxRecDepth 100000

theorem DOK.save {s : DK} {n : Nat} (D : DOK s n) (t : List UInt8) : DOK (dSave s t).1 n := by
  unfold dSave
  split
  · exact D
  · split
    · exact D
    · split
      · exact D
      · have h := DOK.writes (chunksB t) (2 + ((dLast s).1.1 + 1) % 2 * dHalf s) D
        split
        · exact h
        · unfold dSave2
          split
          · exact h.flush
          · split
            · exact h.flush.write _ _
            · exact (h.flush.write _ _).flush
theorem DOK.format {s : DK} {n : Nat} (D : DOK s n) : DOK (dFormat s).1 n := by
  unfold dFormat
  split
  · exact D
  · have h := D.write 1 []
    split
    · exact h
    · split
      · exact h.flush
      · split
        · exact h.flush.write _ _
        · exact (h.flush.write _ _).flush
theorem newDK_DOK {n : Nat} (h1 : 1 ≤ n) (h2 : n ≤ 160) : DOK (newDK n) n := DOK.newD h1 h2 (z := noughtsB 256) (by simp [noughtsB])
/-- A disk of the call's own, at rest, that holds t. -/
structure SavD (h0 h : Hp) (F : Nat → Prop) (g : Nat) (s : DK) (n e : Nat) (t : List UInt8) : Prop where
  le : h0.le h
  nw : ∀ b, F b → h0 b = none
  p : PD h F g s
  D : DOK s n
  G : Good s n e t
  d : s.down = false
theorem SavD.grow {h0 h h' : Hp} {F : Nat → Prop} {g : Nat} {s : DK} {n e : Nat} {t : List UInt8} (S : SavD h0 h F g s n e t) (l : h.le h') : SavD h0 h' F g s n e t :=
  ⟨Hp.le_trans S.le l, S.nw, S.p.le l, S.D, S.G, S.d⟩
theorem SavD.read {h0 h : Hp} {F : Nat → Prop} {g : Nat} {s : DK} {n e : Nat} {t : List UInt8} (S : SavD h0 h F g s n e t) {R : Value → Hp → Prop} (hK : R (vtup [vs (bs t), ifv none]) h) : CallOK Try.prog 11 [vhp g 0] h R := by
  refine save_Read_ok S.p S.D ?_
  rw [S.G.now.load S.D.wf.n2 S.d]
  exact hK
theorem SavD.writeBig {h0 h : Hp} {F : Nat → Prop} {g : Nat} {s : DK} {n e : Nat} {t : List UInt8} (S : SavD h0 h F g s n e t) {t' : List UInt8} (h1 : t'.length ≤ 1000000) (hr : ¬ t'.length ≤ (n - 2) / 2 * 256) {R : Value → Hp → Prop} (hK : ∀ h' F', SavD h0 h' F' g s n e t → R (ifv (errV 6)) h') : CallOK Try.prog 12 [vhp g 0, vs (bs t')] h R := by
  refine save_Write_ok S.p S.D (by rw [S.G.wait]; exact Nat.zero_le _) h1 fun h' F' D' M' => ?_
  rw [save_big S.G S.d S.D.wf.n2 hr] at D' ⊢
  exact hK h' F' ⟨(M'.old S.le S.nw).1, (M'.old S.le S.nw).2, D', S.D, S.G, S.d⟩
/-- A disk that has fallen. -/
structure FalD (h0 h : Hp) (F : Nat → Prop) (g : Nat) (s : DK) (n e : Nat) (t t' : List UInt8) : Prop where
  le : h0.le h
  nw : ∀ b, F b → h0 b = none
  p : PD h F g s
  D : DOK s n
  S : Saf s n e t t'
theorem SavD.write {h0 h : Hp} {F : Nat → Prop} {g : Nat} {s : DK} {n e : Nat} {t : List UInt8} (S : SavD h0 h F g s n e t) (he : e + 1 < 4294967296) {t' : List UInt8} (h1 : t'.length ≤ 1000000) (hr : t'.length ≤ (n - 2) / 2 * 256) {R : Value → Hp → Prop}
    (hK : ∀ h' F' s', SavD h0 h' F' g s' n (e + 1) t' → (s.fuse = -1 → s'.fuse = -1) → R (ifv (errV 0)) h') (hF : ∀ h' F' s', FalD h0 h' F' g s' n e t t' → s'.wait.length ≤ 900000 → s.fuse ≠ -1 → R (ifv (errV 7)) h') : CallOK Try.prog 12 [vhp g 0, vs (bs t')] h R := by
  refine save_Write_ok S.p S.D (by rw [S.G.wait]; exact Nat.zero_le _) h1 fun h' F' D' M' => ?_
  have O := M'.old S.le S.nw
  rcases save_law S.G S.d S.D.wf.n2 he hr with ⟨k1, k2, k3, k4⟩ | ⟨k1, k2, k3, k4⟩
  · rw [k1]
    exact hK h' F' _ ⟨O.1, O.2, D', S.D.save _, k4, k2⟩ k3
  · rw [k1]
    refine hF h' F' _ ⟨O.1, O.2, D', S.D.save _, k4⟩ ?_ k3
    have hw0 := S.G.wait
    have hh : (dSave s t').1.wait.length ≤ 900000 := by
      have hl : (chunksB t').length ≤ 4000 := by unfold chunksB; simp; omega
      have hc := dWrites_wait (chunksB t') s (2 + ((dLast s).1.1 + 1) % 2 * dHalf s)
      rw [hw0, List.length_nil] at hc
      unfold dSave
      split
      · rw [hw0]; exact Nat.zero_le _
      · split
        · rw [hw0]; exact Nat.zero_le _
        · split
          · rw [hw0]; exact Nat.zero_le _
          · split
            · omega
            · unfold dSave2
              have f1 := dFlush_wl (dWrites s (2 + ((dLast s).1.1 + 1) % 2 * dHalf s) (chunksB t')).1
              have f2 := dWrite_wl (dFlush (dWrites s (2 + ((dLast s).1.1 + 1) % 2 * dHalf s) (chunksB t')).1).1 ((((dLast s).1.1 + 1) % 2 : Nat) : Int) (headB ((dLast s).1.1 + 1) t'.length)
              have f3 := dFlush_wl (dWrite (dFlush (dWrites s (2 + ((dLast s).1.1 + 1) % 2 * dHalf s) (chunksB t')).1).1 ((((dLast s).1.1 + 1) % 2 : Nat) : Int) (headB ((dLast s).1.1 + 1) t'.length)).1
              split
              · omega
              · split <;> omega
    exact hh
theorem format_new {h0 h : Hp} {F : Nat → Prop} {g n : Nat} (hl : h0.le h) (hn : ∀ b, F b → h0 b = none) (D : PD h F g (newDK n)) (h1 : 1 ≤ n) (h2 : n ≤ 160) (h4 : 4 ≤ n) {R : Value → Hp → Prop} (hK : ∀ h' F' s', SavD h0 h' F' g s' n 2 [] → s'.fuse = -1 → R (ifv (errV 0)) h') : CallOK Try.prog 13 [vhp g 0] h R := by
  have hD := newDK_DOK h1 h2
  refine save_Format_ok D hD (by simp [newDK]) fun h' F' D' M' => ?_
  obtain ⟨k1, k2, k3, k4⟩ := format_law hD rfl rfl h4
  rw [k1]
  exact hK h' F' _ ⟨(M'.old hl hn).1, (M'.old hl hn).2, D', hD.format, k4, k2⟩ k3
theorem bs_hay : (⟨#[104, 97, 121]⟩ : ByteArray) = bs [104, 97, 121] := rfl
end Go.Proofs.Ytgonnpleihbklaa
/-
  What functions of the program ask, in words: each is what the framework reckons from the loaded code (the kernel holds the two together), and gives the function's call. Conditions: none.
-/
namespace Go.Proofs.Ytgonnpleihbklaa
open Go Go.Vc
set_option maxRecDepth 100000
set_option linter.unusedVariables false
/-- What 'penstock/penstocklaw.same' asks. -/
def VC_law_same (u_err : Option (TypeId × Value)) (u_f : Int) (h : Hp) (R : Value → Hp → Prop) : Prop :=
  (((Option.isNone u_err) = true → R (vb (decide ((u_f : Int) = 0))) h) ∧ ((Option.isNone u_err) = false → (∃ (x2 : Int) (p3 : Bool), (Rd Try.prog (Instr.typeAssert (ifv u_err) 27 85 true) h (vtup [(vi x2), (vb p3)])) ∧ R (vb (bif (bif p3 then (decide ((u_f : Int) > 0)) else false) then (decide ((x2 : Int) = u_f)) else false)) h)))
theorem ok_law_same {u_err : Option (TypeId × Value)} {u_f : Int} {h : Hp} {R : Value → Hp → Prop} (H : VC_law_same u_err u_f h R) : CallOK Try.prog 10 [(ifv u_err), (vi u_f)] h R :=
  call_of (cfg := ⟨[], [], []⟩) noNG mixed Try.func10 [.one (.ifc u_err), .one (.v (vi u_f))] (by kernel_rfl) rfl (by kernel_rfl) H

end Go.Proofs.Ytgonnpleihbklaa
/-
  A contract: an error, told by its number. Conditions: that the number is not below nought.
-/
namespace Go.Proofs.Ytgonnpleihbklaa
open Go Go.Vc
set_option linter.unusedVariables false

theorem assertErrno (v : Value) (w : World) : (Instr.typeAssert (.iface 85 v) 27 85 true).run Try.prog w = .ok (.tuple #[v, .bool true]) w := by kernel_rfl
theorem law_same_ok {f g : Int} (hf : 0 ≤ f) {h : Hp} {R : Value → Hp → Prop} (hK : R (vb (decide (f = g))) h) : CallOK Try.prog 10 [ifv (errV f), vi g] h R := by
  refine ok_law_same ?_
  unfold VC_law_same
  by_cases h0 : f = 0
  · have e : errV f = none := by simp [errV, h0]
    rw [e]
    refine ⟨fun _ => ?_, fun e => by simp at e⟩
    have : decide (g = 0) = decide (f = g) := by rw [h0]; exact decide_eq_decide.2 eq_comm
    rw [this]; exact hK
  · have e : errV f = some (85, vi f) := by simp [errV, h0]
    rw [e]
    refine ⟨fun e => by simp at e, fun _ => ⟨f, true, fun w _ => assertErrno _ w, ?_⟩⟩
    have : (bif (bif true then (decide (g > 0)) else false) then (decide (f = g)) else false) = decide (f = g) := by
      by_cases hg : f = g
      · simp [hg]; omega
      · simp [hg]
    rw [this]; exact hK
end Go.Proofs.Ytgonnpleihbklaa
/-
  What functions of the program ask, in words: each is what the framework reckons from the loaded code (the kernel holds the two together), and gives the function's call. Conditions: none.
-/
namespace Go.Proofs.Ytgonnpleihbklaa
open Go Go.Vc
set_option maxRecDepth 100000
set_option linter.unusedVariables false
/-- What 'penstock/penstocktop.number' asks. -/
def VC_top_number (u_err : Option (TypeId × Value)) (h : Hp) (R : Value → Hp → Prop) : Prop :=
  (((Option.isNone u_err) = true → R (vi 0) h) ∧ ((Option.isNone u_err) = false → (∃ (x2 : Int) (p3 : Bool), (Rd Try.prog (Instr.typeAssert (ifv u_err) 27 85 true) h (vtup [(vi x2), (vb p3)])) ∧ (((!p3) = true → R (vi (-1)) h) ∧ ((!p3) = false → R (vi x2) h)))))
theorem ok_top_number {u_err : Option (TypeId × Value)} {h : Hp} {R : Value → Hp → Prop} (H : VC_top_number u_err h R) : CallOK Try.prog 32 [(ifv u_err)] h R :=
  call_of (cfg := ⟨[], [], []⟩) noNG mixed Try.func32 [.one (.ifc u_err)] (by kernel_rfl) rfl (by kernel_rfl) H

/-- What 'penstock/penstocktop.TopCrash' asks. -/
def VC_top_TopCrash (u_textsa : Option Addr) (u_textsn u_textsc : Nat) (u_fuse : Int) (u_keep : Int) (h : Hp) (R : Value → Hp → Prop) : Prop :=
  (CallOK Try.prog 9 [(vi 30)] h fun v1 h2 => ∃ (q3 : Option Addr) (e4 : Option (TypeId × Value)), v1 = (vtup [(vp q3), (ifv e4)]) ∧ (∃ (J5 : SV → Hp → Prop), ((Option.isSome e4) = false → (CallOK Try.prog 13 [(vp q3)] h2 fun v6 h7 => ∃ (e8 : Option (TypeId × Value)), v6 = (ifv e8) ∧ J5 (.t (.one (.ifc e8))) h7)) ∧ (¬ ((Option.isSome e4) = false) → J5 (.t (.one (.ifc none))) h2) ∧ ∀ (h9 : Hp) (e10 : Option (TypeId × Value)), J5 (.t (.one (.ifc e10))) h9 → (∃ (J11 : SV → Hp → Prop), ((bif (Option.isSome e4) then true else (Option.isSome e10)) = false → (CallOK Try.prog 12 [(vp q3), (vs ⟨#[104, 97, 121]⟩)] h9 fun v12 h13 => ∃ (e14 : Option (TypeId × Value)), v12 = (ifv e14) ∧ J11 (.t (.one (.ifc e14))) h13)) ∧ (¬ ((bif (Option.isSome e4) then true else (Option.isSome e10)) = false) → J11 (.t (.one (.ifc none))) h9) ∧ ∀ (h15 : Hp) (e16 : Option (TypeId × Value)), J11 (.t (.one (.ifc e16))) h15 → (((bif (bif (Option.isSome e4) then true else (Option.isSome e10)) then true else (Option.isSome e16)) = true → R (vb false) h15) ∧ ((bif (bif (Option.isSome e4) then true else (Option.isSome e10)) then true else (Option.isSome e16)) = false → (((decide ((((u_textsn : Nat) : Int) : Int) > 10)) = true → R (vb true) h15) ∧ ((decide ((((u_textsn : Nat) : Int) : Int) > 10)) = false → (∃ (x19 : Int), (Rd Try.prog (Builtin.max_ #[3, 3] 3 #[(vi u_fuse), (vi (-1))]) h15 (vi x19)) ∧ (∃ (x20 : Int), (Rd Try.prog (Builtin.min_ #[3, 3] 3 #[(vi x19), (vi 500)]) h15 (vi x20)) ∧ (CallOK Try.prog 31 [(vp q3), (vi x20)] h15 fun v21 h22 => v21 = (vtup []) ∧ (let J51 : ByteArray → ByteArray → Hp → Prop := fun (s68 : ByteArray) (s69 : ByteArray) (h70 : Hp) => (CallOK Try.prog 33 [(vp q3), (vk .u64 u_keep)] h70 fun v71 h72 => v71 = (vtup []) ∧ (CallOK Try.prog 11 [(vp q3)] h72 fun v73 h74 => ∃ (s75 : ByteArray) (e76 : Option (TypeId × Value)), v73 = (vtup [(vs s75), (ifv e76)]) ∧ (∃ (p77 : Bool), ((Option.isSome e76) = false → Rd Try.prog ((eqGuard .neq 9 (.tmp 75) (.tmp 76) (vs s75) (vs s68) >>= fun _ => binOp .neq 9 (vs s75) (vs s68))) h74 (vb p77)) ∧ (∃ (p78 : Bool), (((Option.isSome e76) = false ∧ p77 = true) → Rd Try.prog ((eqGuard .neq 9 (.tmp 79) (.tmp 80) (vs s75) (vs s69) >>= fun _ => binOp .neq 9 (vs s75) (vs s69))) h74 (vb p78)) ∧ (((bif (Option.isSome e76) then true else (bif p77 then p78 else false)) = true → R (vb false) h74) ∧ ((bif (Option.isSome e76) then true else (bif p77 then p78 else false)) = false → (CallOK Try.prog 12 [(vp q3), (vs ⟨#[111, 97, 116, 115]⟩)] h74 fun v80 h81 => ∃ (e82 : Option (TypeId × Value)), v80 = (ifv e82) ∧ (((Option.isSome e82) = true → R (vb false) h81) ∧ ((Option.isSome e82) = false → (CallOK Try.prog 11 [(vp q3)] h81 fun v84 h85 => ∃ (s86 : ByteArray) (e87 : Option (TypeId × Value)), v84 = (vtup [(vs s86), (ifv e87)]) ∧ (∃ (p88 : Bool), ((Option.isNone e87) = true → Rd Try.prog ((eqGuard .eql 9 (.tmp 95) (.const (vs ⟨#[111, 97, 116, 115]⟩)) (vs s86) (vs ⟨#[111, 97, 116, 115]⟩) >>= fun _ => binOp .eql 9 (vs s86) (vs ⟨#[111, 97, 116, 115]⟩))) h85 (vb p88)) ∧ R (vb (bif (Option.isNone e87) then p88 else false)) h85))))))))))); (∃ (I24 : List Value → Hp → Prop) (m25 : List Value → Hp → Nat), I24 [(vs ⟨#[104, 97, 121]⟩), (vs ⟨#[104, 97, 121]⟩), (vi 0)] h22 ∧ ∀ (vs26 : List Value) (h27 : Hp), I24 vs26 h27 → ∃ (s28 : ByteArray) (s29 : ByteArray) (x30 : Int), vs26 = [(vs s28), (vs s29), (vi x30)] ∧ (((decide ((x30 : Int) < ((u_textsn : Nat) : Int))) = true → (∃ (b33 o34 : Nat), (u_textsa = some ⟨b33, o34, none⟩ ∧ (0 : Int) ≤ x30 ∧ x30 < ((u_textsn : Nat) : Int)) ∧ (∃ (s35 : ByteArray), (Hp.cell h27 b33 (o34 + x30.toNat * 1) = some (vs s35)) ∧ (((decide ((((ByteArray.size s35 : Nat) : Int) : Int) > 3000)) = true → R (vb true) h27) ∧ ((decide ((((ByteArray.size s35 : Nat) : Int) : Int) > 3000)) = false → (∃ (b37 o38 : Nat), (u_textsa = some ⟨b37, o38, none⟩ ∧ (0 : Int) ≤ x30 ∧ x30 < ((u_textsn : Nat) : Int)) ∧ (∃ (s39 : ByteArray), (Hp.cell h27 b37 (o38 + x30.toNat * 1) = some (vs s39)) ∧ (CallOK Try.prog 12 [(vp q3), (vs s39)] h27 fun v40 h41 => ∃ (e42 : Option (TypeId × Value)), v40 = (ifv e42) ∧ (CallOK Try.prog 32 [(ifv e42)] h41 fun v43 h44 => ∃ (x45 : Int), v43 = (vi x45) ∧ (((decide ((x45 : Int) = 7)) = true → (J51 s28 s39 h44)) ∧ ((decide ((x45 : Int) = 7)) = false → (((Option.isSome e42) = true → R (vb false) h44) ∧ ((Option.isSome e42) = false → (∃ (x50 : Int), (IsW x50 (x30 + 1)) ∧ (I24 [(vs s39), (vs s39), (vi x50)] h44 ∧ m25 [(vs s39), (vs s39), (vi x50)] h44 < m25 vs26 h27))))))))))))))) ∧ ((decide ((x30 : Int) < ((u_textsn : Nat) : Int))) = false → (J51 s28 s29 h27)))))))))))))))
theorem ok_top_TopCrash {u_textsa : Option Addr} {u_textsn u_textsc : Nat} {u_fuse : Int} {u_keep : Int} {h : Hp} {R : Value → Hp → Prop} (H : VC_top_TopCrash u_textsa u_textsn u_textsc u_fuse u_keep h R) : CallOK Try.prog 6 [(vsl u_textsa u_textsn u_textsc), (vi u_fuse), (vk .u64 u_keep)] h R :=
  call_of (cfg := ⟨[], [(10, ([9, 10, 11], [.one (.str), .one (.str), .one (.int .i64)], []))], []⟩) noNG mixed Try.func6 [.one (.v (vsl u_textsa u_textsn u_textsc)), .one (.v (vi u_fuse)), .one (.v (vk .u64 u_keep))] (by kernel_rfl) rfl (by kernel_rfl) H

end Go.Proofs.Ytgonnpleihbklaa
/-
  What the law TopCrash gives, for every argument: true; nothing of what was there has turned. Conditions: none.
-/
namespace Go.Proofs.Ytgonnpleihbklaa
open Go Go.Vc
set_option linter.unusedVariables false
set_option maxRecDepth 100000

theorem rd_minI {P : Program} {h : Hp} {ts : Array TypeId} {t : TypeId} {a b : Int} : Rd P (Builtin.min_ ts t #[vi a, vi b]) h (vi (min a b)) := by
  intro w _
  rw [run_min_int2]
  congr 2
  split <;> omega
theorem top_number_ok {f : Int} {h : Hp} {R : Value → Hp → Prop} (hK : R (vi f) h) : CallOK Try.prog 32 [ifv (errV f)] h R := by
  refine ok_top_number ?_
  unfold VC_top_number
  by_cases h0 : f = 0
  · have e : errV f = none := by simp [errV, h0]
    rw [e]
    refine ⟨fun _ => ?_, fun e => by simp at e⟩
    rw [h0] at hK; exact hK
  · have e : errV f = some (85, vi f) := by simp [errV, h0]
    rw [e]
    refine ⟨fun e => by simp at e, fun _ => ⟨f, true, fun w _ => assertErrno _ w, fun e => (by cases e), fun _ => hK⟩⟩
theorem dKeep_256 (k : Int) : ∀ (w : List (Int × List UInt8)) (i : Nat) (l : List (List UInt8)), (∀ x ∈ w, x.2.length = 256) → (∀ x ∈ l, x.length = 256) → ∀ x ∈ dKeep k i w l, x.length = 256
  | [], i, l, _, hl => hl
  | t :: w, i, l, hw, hl => by
    rw [dKeep]
    refine dKeep_256 k w (i + 1) _ (fun x hx => hw x (List.mem_cons_of_mem _ hx)) ?_
    split
    · intro x hx
      rcases mem_set hx with h1 | h1
      · exact hl x h1
      · rw [h1]; exact hw t List.mem_cons_self
    · exact hl
theorem DOK.restart {s : DK} {n : Nat} (D : DOK s n) (k : Int) : DOK (dRestart s k) n :=
  ⟨⟨by show (dKeep k 0 s.wait s.kept).length = n; rw [dKeep_length]; exact D.wf.k, by show (dKeep k 0 s.wait s.kept).length = n; rw [dKeep_length]; exact D.wf.k, (fun x hx => absurd hx List.not_mem_nil), by simp [dRestart], by simp [dRestart], D.wf.n1, D.wf.n2⟩, dKeep_256 k _ 0 _ D.l3 D.l2, dKeep_256 k _ 0 _ D.l3 D.l2, (fun x hx => absurd hx List.not_mem_nil)⟩
theorem top_TopCrash_ok {a : Option Addr} {n c : Nat} {l : List (List UInt8)} {fuse k : Int} {h : Hp} (S : SlB h a n l) (hk : 0 ≤ k ∧ k ≤ 18446744073709551615) : CallOK Try.prog 6 [vsl a n c, vi fuse, vk .u64 k] h fun v h' => v = vb true ∧ h.le h' := by
  refine ok_top_TopCrash ?_
  unfold VC_top_TopCrash
  have hn := S.1
  refine disk_New_ok (fun q => absurd (by decide) q) fun _ _ g h2 F2 l2 n2 D2 => ?_
  refine ⟨_, none, rfl, fun x h' => x = .t (.one (.ifc none)) ∧ ∃ F' s', SavD h h' F' g s' 30 2 [] ∧ s'.fuse = -1, fun _ => format_new l2 n2 D2 (by decide) (by decide) (by decide) (fun h' F' s' S' f' => ⟨_, rfl, rfl, F', s', S', f'⟩), fun e => absurd rfl e, ?_⟩
  rintro h9 e10 ⟨e, F3, s3, S3, f3⟩
  cases e
  refine ⟨fun x h' => x = .t (.one (.ifc none)) ∧ ∃ F' s', SavD h h' F' g s' 30 3 [104, 97, 121], fun _ => S3.write (t' := [104, 97, 121]) (by decide) (by decide) (by decide) (fun h' F' s' S' f' => ⟨_, rfl, rfl, F', s', S'⟩) (fun h' F' s' S' w f' => absurd f3 f'), fun e => absurd rfl e, ?_⟩
  rintro h15 e16 ⟨e, F4, s4, S4⟩
  cases e
  refine ⟨fun e => (by cases e), fun _ => ⟨fun _ => ⟨rfl, S4.le⟩, fun e10 => ?_⟩⟩
  have hn10 := of_decide_eq_false e10
  refine ⟨_, rd_max, _, rd_minI, disk_Arm_ok S4.p fun h22 F5 D5 M5 => ⟨rfl, ?_⟩⟩
  have O5 := M5.old S4.le S4.nw
  have T0 : SavD h h22 F5 g { s4 with fuse := max (min (max fuse (-1)) 500) (-1) } 30 3 [104, 97, 121] :=
    ⟨O5.1, O5.2, D5, S4.D.up (f := max (min (max fuse (-1)) 500) (-1)) (b := s4.down) (by omega), ⟨S4.G.now, S4.G.kept, S4.G.wait⟩, S4.d⟩
  intro J51
  have tail : ∀ {h' : Hp} {F' : Nat → Prop} {s' : DK} {e : Nat} {t t' : List UInt8}, FalD h h' F' g s' 30 e t t' → s'.wait.length ≤ 900000 → e ≤ 1000 → J51 (bs t) (bs t') h' := by
    intro h' F' s' e t t' T hw he
    refine disk_Restart_ok T.p T.D.wf (by omega) hk fun h72 F6 D6 M6 => ⟨rfl, ?_⟩
    have O6 := M6.old T.le T.nw
    have hg : ∃ e0 t0, e0 ≤ 1001 ∧ (t0 = t ∨ t0 = t') ∧ SavD h h72 F6 g (dRestart s' k) 30 e0 t0 := by
      rcases restart_law T.S k with h1 | h1
      · exact ⟨e, t, by omega, .inl rfl, O6.1, O6.2, D6, T.D.restart k, h1, rfl⟩
      · exact ⟨e + 1, t', by omega, .inr rfl, O6.1, O6.2, D6, T.D.restart k, h1, rfl⟩
    obtain ⟨e0, t0, he0, ht0, T2⟩ := hg
    refine T2.read ⟨_, none, rfl, _, fun _ => rd_neBs (a := t0) (b := t), _, fun _ => rd_neBs (a := t0) (b := t'), fun e => ?_, fun _ => ?_⟩
    · rcases ht0 with rfl | rfl
      · simp at e
      · simp at e
    refine T2.write (t' := [111, 97, 116, 115]) (by omega) (by decide) (by decide) (fun h81 F7 s7 T7 f7 => ⟨_, rfl, fun e => (by cases e), fun _ => ?_⟩) (fun h81 F7 s7 _ _ f7 => absurd rfl f7)
    refine T7.read ⟨_, none, rfl, true, fun _ => ?_, rfl, T7.le⟩
    have := rd_eqBs (P := Try.prog) (h := h81) (t := 9) (x := .tmp 95) (y := .const (vs ⟨#[111, 97, 116, 115]⟩)) (a := [111, 97, 116, 115]) (b := [111, 97, 116, 115])
    rw [decide_eq_true rfl] at this
    exact this
  refine ⟨fun v hh => ∃ (i : Nat) (F' : Nat → Prop) (s : DK) (ep : Nat) (t : List UInt8), v = [vs (bs t), vs (bs t), vi i] ∧ i ≤ n ∧ ep ≤ 3 + i ∧ SavD h hh F' g s 30 ep t, fun v hh => n - (vint v 2).toNat, ⟨0, F5, _, 3, [104, 97, 121], rfl, Nat.zero_le _, by omega, T0⟩, ?_⟩
  rintro v hh ⟨i, F', s, ep, t, rfl, hi, hep, T⟩
  refine ⟨_, _, _, rfl, fun e => ?_, fun e => ?_⟩
  · have hin : i < n := by have := of_decide_eq_true e; omega
    obtain ⟨b, o, ha, hc⟩ := SlP.get1 (S.le T.le) hin
    generalize l.getD i [] = y at hc
    refine ⟨b, o, ⟨ha, by omega, by omega⟩, _, hc, fun _ => ⟨rfl, T.le⟩, fun e3 => ?_⟩
    rw [bs_size] at e3
    have e4 := of_decide_eq_false e3
    refine ⟨b, o, ⟨ha, by omega, by omega⟩, _, hc, T.write (by omega) (by omega) (by omega) (fun h41 F6 s6 T6 _ => ⟨_, rfl, top_number_ok ⟨_, rfl, fun e => (by cases e), fun _ => ⟨fun e => (by cases e), fun _ => ?_⟩⟩⟩) (fun h41 F6 s6 T6 w6 _ => ⟨_, rfl, top_number_ok ⟨_, rfl, fun _ => tail T6 w6 (by omega), fun e => (by cases e)⟩⟩)⟩
    refine ⟨_, isW (by unfold InR; omega), ⟨i + 1, F6, s6, ep + 1, y, rfl, by omega, by omega, T6⟩, ?_⟩
    show n - ((i : Int) + 1).toNat < n - (i : Int).toNat
    omega
  · exact tail (e := ep) (t := t) (t' := t) ⟨T.le, T.nw, T.p, T.D, fun k => .inl (T.G.restart k).kept⟩ (by rw [T.G.wait]; exact Nat.zero_le _) (by omega)
end Go.Proofs.Ytgonnpleihbklaa
/-
  The framework, part O: what came in, opened: from the reading of an argument to what is known of the heap. No program in sight. Conditions: none.
-/
namespace Go.Vc
open Go
set_option linter.unusedVariables false

/-- What is asked of how much was read: of slices and of texts, and of all parts. -/
structure SmOK {H : Type} (Sm : DataW H → Prop) (N : Nat → Prop) : Prop where
  zero : N 0
  slice : ∀ es sp, Sm (.slice es sp) → N es.length ∧ ∀ x ∈ es, Sm x
  agg : ∀ xs, Sm (.agg xs) → ∀ x ∈ xs, Sm x
  str : ∀ l, Sm (.lit (.string l)) → N l.length
  ptr : ∀ x, Sm (.ptr x) → Sm x

theorem smTrue {H : Type} : SmOK (H := H) (fun _ => True) (fun _ => True) := ⟨trivial, fun _ _ _ => ⟨trivial, fun _ _ => trivial⟩, fun _ _ _ _ => trivial, fun _ _ => trivial, fun _ _ => trivial⟩

section
variable {P : Program} {H : Type} {enc0 : TypeId × Value → H} {w : World} {Sm : DataW H → Prop} {N : Nat → Prop}

/-- A cell that was read. -/
def Leaf (P : Program) (enc0 : TypeId × Value → H) (w : World) (Sm : DataW H → Prop) (t : TypeId) (v : Value) : Prop :=
  ∃ fuel d ps, DataW.trod enc0 P w 0 (fun _ => true) true fuel t [v] = some (d, ps) ∧ Sm d
/-- Cells that were read. -/
def LeafC (P : Program) (enc0 : TypeId × Value → H) (w : World) (Sm : DataW H → Prop) (t : TypeId) (cs : List Value) : Prop :=
  ∃ fuel d ps, DataW.trod enc0 P w 0 (fun _ => true) true fuel t cs = some (d, ps) ∧ Sm d

theorem leaf_int {t : TypeId} {k : IntKind} (hu : P.underlying t = some (.int k)) {cs : List Value} (L : LeafC P enc0 w Sm t cs) : ∃ n, cs = [.int k n] ∧ (Lit.int k n).wf = true := by
  obtain ⟨fuel, d, ps, h, _⟩ := L
  cases fuel with
  | zero => simp [DataW.trod] at h
  | succ fuel =>
    unfold DataW.trod at h
    rw [hu] at h
    split at h <;> first | (cases h; done) | skip
    all_goals simp_all
theorem leaf_i64 {t : TypeId} (hu : P.underlying t = some (.int .i64)) {cs : List Value} (L : LeafC P enc0 w Sm t cs) : ∃ n, cs = [vi n] ∧ InR n := by
  obtain ⟨n, rfl, h⟩ := leaf_int hu L
  exact ⟨n, rfl, by simpa [Lit.wf, IntKind.min, IntKind.max, IntKind.signed, IntKind.bits, InR] using h⟩
theorem leaf_bool {t : TypeId} (hu : P.underlying t = some .bool) {cs : List Value} (L : LeafC P enc0 w Sm t cs) : ∃ b, cs = [vb b] := by
  obtain ⟨fuel, d, ps, h, _⟩ := L
  cases fuel with
  | zero => simp [DataW.trod] at h
  | succ fuel =>
    unfold DataW.trod at h
    rw [hu] at h
    split at h <;> first | (cases h; done) | skip
    all_goals simp_all
theorem leaf_string (hS : SmOK Sm N) {t : TypeId} (hu : P.underlying t = some .string) {cs : List Value} (L : LeafC P enc0 w Sm t cs) : ∃ s, cs = [vs s] ∧ N s.size ∧ s.size ≤ maxLen := by
  obtain ⟨fuel, d, ps, h, hm⟩ := L
  cases fuel with
  | zero => simp [DataW.trod] at h
  | succ fuel =>
    unfold DataW.trod at h
    rw [hu] at h
    split at h <;> first | (rename_i hx; cases hx; done) | (cases h; done) | skip
    split at h
    · rename_i sz hsz
      simp only [Option.some.injEq, Prod.mk.injEq] at h
      obtain ⟨rfl, rfl⟩ := h
      have := hS.str _ hm
      exact ⟨_, rfl, by simpa using this, hsz⟩
    · cases h

theorem wf_u64 {n : Int} (h : (Lit.int .u64 n).wf = true) : 0 ≤ n ∧ n ≤ 18446744073709551615 := by simpa [Lit.wf, IntKind.min, IntKind.max, IntKind.signed, IntKind.bits] using h
theorem row_of_cells {b o : Nat} {xs : List Value} (hne : xs ≠ []) (h : ∀ j x, xs[j]? = some x → w.cell? ⟨b, o + j, none⟩ = some x) : (hpOf w).row b o xs.length = some xs := by
  obtain ⟨x0, l0, rfl⟩ := List.exists_cons_of_ne_nil hne
  have h0 := h 0 x0 rfl
  unfold World.cell? at h0
  simp only at h0
  cases hb : w.heap[b]? with
  | none => rw [hb] at h0; cases h0
  | some ob =>
    cases ob with
    | cells c t f =>
      have hc : ∀ j x, (x0 :: l0)[j]? = some x → c[o + j]? = some x := by
        intro j x hx
        have := h j x hx
        unfold World.cell? at this
        simp only [hb] at this
        simpa using this
      refine Hp.row_spec.2 ⟨c, t, f, hb, ?_, ?_⟩
      · have := hc l0.length ((x0 :: l0)[l0.length]) (by rw [List.getElem?_eq_getElem (by simp)])
        have := (Array.getElem?_eq_some_iff.1 this).1
        simp only [List.length_cons]
        omega
      · apply List.ext_getElem?
        intro j
        rw [List.getElem?_take]
        split
        · rename_i hj
          rw [List.getElem?_drop]
          have := hc j ((x0 :: l0)[j]) (List.getElem?_eq_getElem hj)
          rw [List.getElem?_eq_getElem hj]
          simpa using this.symm
        · rename_i hj
          exact List.getElem?_eq_none (by omega)
    | _ => rw [hb] at h0; simp at h0

theorem mapM_get {α β : Type} {f : α → Option β} : ∀ {l : List α} {ys : List β}, l.mapM f = some ys → ∀ (i : Nat) (x : α), l[i]? = some x → ∃ y, ys[i]? = some y ∧ f x = some y
  | [], ys, h, i, x, hx => by simp at hx
  | a :: l, ys, h, i, x, hx => by
    rw [List.mapM_cons] at h
    simp only [Option.bind_eq_bind, Option.bind_eq_some_iff, Option.pure_def, Option.some.injEq] at h
    obtain ⟨y, hy, zs, hzs, rfl⟩ := h
    cases i with
    | zero => simp at hx; subst hx; exact ⟨y, rfl, hy⟩
    | succ i => simpa using mapM_get hzs i x (by simpa using hx)
theorem cells_get {w : World} {base : Nat} {a : Addr} {n : Nat} {cs : List Value} (h : w.cells? base a n = some cs) : cs.length = n ∧ ∀ j x, cs[j]? = some x → w.cell? (a.add j) = some x := by
  unfold World.cells? at h
  split at h
  · have hl := length_mapM h
    rw [List.length_range] at hl
    refine ⟨hl, fun j x hx => ?_⟩
    have hj : j < n := by rw [← hl]; exact (List.getElem?_eq_some_iff.1 hx).1
    obtain ⟨y, h1, h2⟩ := mapM_get h j j (by simp [hj])
    rw [hx] at h1
    cases h1
    exact h2
  · cases h

/-- A slice that came in, its elements of known cells. -/
theorem leaf_slice {α : Type} {enc : α → List Value} {sz : Nat} {good : α → Prop} (hS : SmOK Sm N) {t e : TypeId} (hu : P.underlying t = some (.slice e)) (hsz : P.cellsOf e = sz) (hz : 0 < sz) (he : ∀ x, (enc x).length = sz)
    (hel : ∀ cs, LeafC P enc0 w Sm e cs → ∃ y, cs = enc y ∧ good y) {cs : List Value} (L : LeafC P enc0 w Sm t cs) :
    ∃ a n c l, cs = [vsl a n c] ∧ SlP enc (hpOf w) a n l ∧ n ≤ c ∧ c ≤ maxLen ∧ N n ∧ ∀ y ∈ l, good y := by
  obtain ⟨fuel, d, ps, h, hm⟩ := L
  cases fuel with
  | zero => simp [DataW.trod] at h
  | succ fuel =>
    unfold DataW.trod at h
    rw [hu] at h
    split at h <;> first | (rename_i hx; cases hx; done) | (cases h; done) | skip
    · exact ⟨none, 0, 0, [], rfl, ⟨rfl, .inl rfl⟩, Nat.le_refl _, Nat.zero_le _, hS.zero, by simp⟩
    · rename_i e' a len cap hx
      cases hx
      split at h
      · rename_i hc
        simp only [Option.bind_eq_some_iff, Option.map_eq_some_iff] at h
        obtain ⟨elems, he1, rest, hr, hx⟩ := h
        simp only [Prod.mk.injEq] at hx
        obtain ⟨rfl, rfl⟩ := hx
        have hel1 : elems.length = len := by have := length_mapM he1; simpa using this
        have hm1 := hS.slice _ _ hm
        rw [List.length_map, hel1] at hm1
        have each : ∀ i : Nat, i < len → ∃ y, good y ∧ w.cells? 0 (a.add (i * sz)) sz = some (enc y) := by
          intro i hi
          obtain ⟨x, h1, h2⟩ := mapM_get he1 i i (by simp [hi])
          simp only [Option.bind_eq_some_iff] at h2
          obtain ⟨cs, h3, h4⟩ := h2
          rw [hsz] at h3
          obtain ⟨y, rfl, hg⟩ := hel cs ⟨fuel, x.1, x.2, h4, hm1.2 x.1 (List.mem_map.2 ⟨x, List.mem_of_getElem? h1, rfl⟩)⟩
          exact ⟨y, hg, h3⟩
        have all : ∃ l : List α, l.length = len ∧ (∀ y ∈ l, good y) ∧ ∀ i y, l[i]? = some y → w.cells? 0 (a.add (i * sz)) sz = some (enc y) := by
          clear hm hm1 he1 hr hel1 hc
          induction len with
          | zero => exact ⟨[], rfl, by simp, by simp⟩
          | succ n ih =>
            obtain ⟨l, h1, h2, h3⟩ := ih (fun i hi => each i (by omega))
            obtain ⟨y, h4, h5⟩ := each n (by omega)
            refine ⟨l ++ [y], by simp [h1], ?_, ?_⟩
            · intro z hz'
              rcases List.mem_append.1 hz' with h6 | h6
              · exact h2 z h6
              · simp at h6; subst h6; exact h4
            · intro i z hz'
              rcases Nat.lt_or_ge i n with h6 | h6
              · rw [List.getElem?_append_left (by omega)] at hz'
                exact h3 i z hz'
              · rw [List.getElem?_append_right (by omega)] at hz'
                have : i = n := by
                  have := (List.getElem?_eq_some_iff.1 hz').1
                  simp at this
                  omega
                subst this
                rw [h1, Nat.sub_self] at hz'
                simp at hz'
                subst hz'
                exact h5
        obtain ⟨l, hl, hg, hcs⟩ := all
        refine ⟨some a, len, cap, l, rfl, ⟨hl.symm, ?_⟩, hc.2.1, hc.2.2, hm1.1, hg⟩
        cases l with
        | nil => exact .inl rfl
        | cons y l =>
          refine .inr ?_
          have c0 := (cells_get (hcs 0 y rfl)).2
          have hx0 : ∃ x, (enc y)[0]? = some x := ⟨_, List.getElem?_eq_getElem (by rw [he]; exact hz)⟩
          obtain ⟨x0, hx0⟩ := hx0
          have a0 := c0 0 x0 hx0
          obtain ⟨b, o, spot⟩ := a
          have hs : spot = none := by
            cases spot with
            | none => rfl
            | some s =>
              simp only [Nat.zero_mul, Addr.add] at a0
              unfold World.cell? at a0
              simp at a0
              split at a0 <;> simp at a0
          subst hs
          refine ⟨b, o, rfl, row_of_cells (by
            intro hn
            have := congrArg List.length hn
            rw [List.flatMap_cons, List.length_append, he] at this
            simp at this
            omega) ?_⟩
          intro j x hx
          have ad : ∀ o k, (⟨b, o, none⟩ : Addr).add k = ⟨b, o + k, none⟩ := by intro o k; unfold Addr.add; split <;> simp_all
          have hlen := flatMap_length he (y :: l)
          have hj : j < (y :: l).length * sz := by rw [← hlen]; exact (List.getElem?_eq_some_iff.1 hx).1
          have hq : j / sz < (y :: l).length := (Nat.div_lt_iff_lt_mul hz).2 hj
          have hd : sz * (j / sz) + j % sz = j := Nat.div_add_mod j sz
          have hr' : j % sz < sz := Nat.mod_lt _ hz
          have key : ((y :: l).flatMap enc)[j]? = (enc ((y :: l)[j / sz]))[j % sz]? := by
            have h1 := flatMap_drop he (j / sz) (y :: l)
            have h2 : ((y :: l).flatMap enc)[j]? = (((y :: l).flatMap enc).drop ((j / sz) * sz))[j % sz]? := by
              rw [List.getElem?_drop]
              congr 1
              rw [Nat.mul_comm]
              exact hd.symm
            rw [h2, h1, List.drop_eq_getElem_cons hq, List.flatMap_cons, List.getElem?_append_left (by rw [he]; exact hr')]
          rw [key] at hx
          have := (cells_get (hcs (j / sz) _ (List.getElem?_eq_getElem hq))).2 _ _ hx
          rw [ad, ad] at this
          have e3 : o + j / sz * sz + j % sz = o + j := by
            rw [Nat.mul_comm (j / sz) sz]; omega
          rw [e3] at this
          exact this
      · cases h

def flatIds (P : Program) : Nat → TypeId → List TypeId
  | 0, t => [t]
  | n + 1, t => match P.underlying t with
    | some (.struct fs) => fs.toList.flatMap fun f => flatIds P n f.type
    | _ => [t]
/-- The fields lie one behind the other. -/
def contig (P : Program) (N : Nat) : Nat → List Field → Bool
  | o, [] => Nat.beq o N
  | o, f :: l => Nat.beq f.offset o && contig P N (o + P.cellsOf f.type) l
def flatOK (P : Program) : Nat → TypeId → Bool
  | 0, _ => false
  | n + 1, t => match P.underlying t with
    | some (.struct fs) => contig P (P.cellsOf t) 0 fs.toList && fs.toList.all fun f => flatOK P n f.type
    | some (.array _ _) => false
    | some _ => Nat.beq (P.cellsOf t) 1
    | none => false
def LeafL (P : Program) (enc0 : TypeId × Value → H) (w : World) (Sm : DataW H → Prop) : List TypeId → List Value → Prop
  | [], [] => True
  | t :: ts, v :: vs => LeafC P enc0 w Sm t [v] ∧ LeafL P enc0 w Sm ts vs
  | _, _ => False
theorem leafL_append : ∀ {ts ts' : List TypeId} {vs vs' : List Value}, LeafL P enc0 w Sm ts vs → LeafL P enc0 w Sm ts' vs' → LeafL P enc0 w Sm (ts ++ ts') (vs ++ vs')
  | [], _, [], _, _, h => h
  | _ :: _, _, _ :: _, _, h1, h2 => ⟨h1.1, leafL_append h1.2 h2⟩
  | [], _, _ :: _, _, h, _ => h.elim
  | _ :: _, _, [], _, h, _ => h.elim
theorem trod_len {fuel : Nat} {t : TypeId} {cs : List Value} {x : DataW H × List MemPlace} (h : DataW.trod enc0 P w 0 (fun _ => true) true fuel t cs = some x) : (∃ v, cs = [v]) ∨ cs.length = P.cellsOf t := by
  cases fuel with
  | zero => simp [DataW.trod] at h
  | succ fuel =>
    unfold DataW.trod at h
    split at h <;> first | exact .inl ⟨_, rfl⟩ | skip
    · split at h
      · exact .inr (by assumption)
      · cases h
    · split at h
      · exact .inr (by assumption)
      · cases h
    · cases h
theorem leaf_flat (hS : SmOK Sm N) : ∀ (n : Nat) {t : TypeId} {cs : List Value}, flatOK P n t = true → LeafC P enc0 w Sm t cs → LeafL P enc0 w Sm (flatIds P n t) cs
  | 0, t, cs, h, _ => by simp [flatOK] at h
  | n + 1, t, cs, h, L => by
    unfold flatOK at h
    unfold flatIds
    split at h
    · rename_i fs hu
      simp only [hu]
      obtain ⟨fuel, d, ps, ht, hm⟩ := L
      cases fuel with
      | zero => simp [DataW.trod] at ht
      | succ fuel =>
        unfold DataW.trod at ht
        rw [hu] at ht
        simp only at ht
        split at ht
        · rename_i hlen
          simp only [Option.map_eq_some_iff] at ht
          obtain ⟨xs, hx, he⟩ := ht
          simp only [Prod.mk.injEq] at he
          obtain ⟨rfl, rfl⟩ := he
          have hm' := hS.agg _ hm
          simp only [Bool.and_eq_true] at h
          have go : ∀ (l : List Field) (o : Nat) (xs : List (DataW H × List MemPlace)), contig P (P.cellsOf t) o l = true → (∀ f ∈ l, flatOK P n f.type = true) →
              (l.mapM fun f => DataW.trod enc0 P w 0 (fun _ => true) true fuel f.type ((cs.drop f.offset).take (P.cellsOf f.type))) = some xs → (∀ x ∈ xs, Sm x.1) → o ≤ cs.length → LeafL P enc0 w Sm (l.flatMap fun f => flatIds P n f.type) (cs.drop o) := by
            intro l
            induction l with
            | nil =>
              intro o xs hc _ _ _ _
              simp only [contig, Nat.beq_eq] at hc
              rw [List.flatMap_nil, List.drop_of_length_le (by rw [hlen, hc]; exact Nat.le_refl _)]
              trivial
            | cons f l ih =>
              intro o xs hc hk hmm hsm ho
              simp only [contig, Bool.and_eq_true, Nat.beq_eq] at hc
              rw [List.mapM_cons] at hmm
              simp only [Option.bind_eq_bind, Option.bind_eq_some_iff, Option.pure_def, Option.some.injEq] at hmm
              obtain ⟨y, hy, zs, hzs, rfl⟩ := hmm
              rw [hc.1] at hy
              have h1 := leaf_flat hS n (hk f (by simp)) ⟨fuel, y.1, y.2, hy, hsm y (by simp)⟩
              have hle : o + P.cellsOf f.type ≤ cs.length := by
                have : ∀ (l : List Field) (o : Nat), contig P (P.cellsOf t) o l = true → o ≤ P.cellsOf t := by
                  intro l
                  induction l with
                  | nil => intro o hc; simp only [contig, Nat.beq_eq] at hc; omega
                  | cons g l ih => intro o hc; simp only [contig, Bool.and_eq_true] at hc; have := ih _ hc.2; omega
                rw [hlen]
                exact this l _ hc.2
              have h2 := ih (o + P.cellsOf f.type) zs hc.2 (fun g hg => hk g (by simp [hg])) hzs (fun x hx => hsm x (by simp [hx])) hle
              have := leafL_append h1 h2
              rw [List.flatMap_cons]
              rw [← List.drop_drop, List.take_append_drop] at this
              exact this
          have := go fs.toList 0 xs h.1 (fun f hf => List.all_eq_true.1 h.2 f hf) hx (fun x hx => hm' x.1 (List.mem_map.2 ⟨x, hx, rfl⟩)) (Nat.zero_le _)
          simpa using this
        · cases ht
    · cases h
    · rename_i u hu hns hna
      have hl : ∃ v, cs = [v] := by
        obtain ⟨fuel, d, ps, ht, hm⟩ := L
        rcases trod_len ht with h1 | h1
        · exact h1
        · rw [Nat.beq_eq] at h
          rw [h] at h1
          exact List.length_eq_one_iff.1 h1
      obtain ⟨v, rfl⟩ := hl
      split
      · rename_i fs' e9
        exfalso
        simp_all
        rename_i e10
        first | exact hu _ e10.symm | exact hu _ hna.symm | exact hu _ e9.symm
      · exact ⟨L, trivial⟩
    · cases h

/-- An argument that was read. -/
theorem leafC_of {t : TypeId} {v : Value} {d : DataW H} {ps : List MemPlace} (h : DataW.Trod enc0 P w 0 (fun _ => true) true t v d ps) (hm : Sm d) : LeafC P enc0 w Sm t v.cells.toList := by
  obtain ⟨fuel, h⟩ := h
  exact ⟨fuel, d, ps, h, hm⟩
end
end Go.Vc
/-
  THE STATEMENT Rows.TopCrashSaid, proved: for every input the law returns true, and the input reads as it did. Conditions: none.
-/
namespace Go.Proofs.Ytgonnpleihbklaa.topCrash
open Go.ChangeShapes Go.WideShapes Go.ChangeAt Go.RowKit Go.Vc
set_option linter.unusedVariables false
set_option maxRecDepth 100000

theorem own : ownKnob Try.prog.godebug = none := by kernel_rfl
/-- The cells of what was read. -/
theorem open0 {H : Type} {enc : TypeId × Value → H} {W : World} {cs : List Value} (L : LeafL Try.prog enc W (fun _ => True) (flatIds Try.prog 4 9) cs) : ∃ (x0 : ByteArray), cs = encB x0.data.toList ∧ x0.size ≤ maxLen := by
  have e : flatIds Try.prog 4 9 = [9] := by kernel_rfl
  rw [e] at L
  match cs, L with
  | [v0], L =>
    obtain ⟨x0, h0, _, g0⟩ := leaf_string smTrue Try.underlying9 (L.1)
    cases h0
    exact ⟨x0, rfl, g0⟩

set_option maxRecDepth 100000 in
theorem lifted (os : Os) (started : os.Started) (H : Type) (enc : TypeId × Value → H) :
    ReturnsInHanded {} Try.checked os 6 .any (Rows.topCrashSpec.pre6 enc Try.prog Try.f6 Rows.topCrashRow.domain false) (Rows.topCrashSpec.post enc Try.prog Try.f6 false true false false) := by
  refine returnsInHanded_of_change (C := Try.checked) own started (by kernel_rfl) Try.func6
    (ChangeSpec.witness6 (enc := enc) (C := Try.checked) false ⟨#[], #[.slice none 0 0, .int .i64 0, .int .u64 0], []⟩ 8 (by kernel_rfl) (by kernel_rfl) (by kernel_rfl) (by kernel_rfl)) ?_
  intro W base args ds gs before hval0 hW hcnd _
  have hval : ∀ (j : Nat) t v, Try.f6.params[j]? = some t → args[j]? = some v → Value.okWide Try.prog W .any base t v := hval0
  have hW' := hW
  obtain ⟨p, q, hA0, hV, rfl, hfz, hnd⟩ := hW
  have hA : DataW.TrodAll enc Try.prog W 0 (fun _ => true) true Try.f6.params.toList args.toList ds p := hA0
  rw [Try.params6] at hA hval
  obtain ⟨v0, vs0, d0, ds0, p0, q0, hargs, rfl, rfl, h0, r0⟩ := trodAll_cons hA
  obtain ⟨v1, vs1, d1, ds1, p1, q1, rfl, rfl, rfl, h1, r1⟩ := trodAll_cons r0
  obtain ⟨v2, vs2, d2, ds2, p2, q2, rfl, rfl, rfl, h2, r2⟩ := trodAll_cons r1
  obtain ⟨rfl, rfl, rfl⟩ := trodAll_nil r2
  obtain rfl : args = #[v0, v1, v2] := by cases args; simp_all
  obtain ⟨rfl, rfl⟩ := trodVars_none hV
  obtain ⟨w1, w2, w3, rfl⟩ := okWide_slice (e := 9) (by kernel_rfl) (hval 0 80 v0 rfl rfl)
  obtain ⟨p0, n0, c0, l0, e0, S0, hc0, hm0, _, g0⟩ := leaf_slice (enc := encB) (sz := 1) (good := fun y => True) smTrue (e := 9) (by kernel_rfl) (by kernel_rfl) (by decide) (fun _ => rfl)
    (fun cs L => by
      have hf := leaf_flat smTrue 4 (by kernel_rfl) L
      obtain ⟨x0, hy, hg⟩ := open0 hf
      exact ⟨x0.data.toList, hy, trivial⟩) (leafC_of (Sm := fun _ => True) h0 trivial)
  cases e0
  obtain ⟨a1, rfl⟩ := okWide_int Try.underlying3 (hval 1 3 v1 rfl rfl)
  obtain ⟨b1, e1, ga1⟩ := leaf_i64 Try.underlying3 (leafC_of (Sm := fun _ => True) h1 trivial)
  cases e1
  obtain ⟨a2, rfl⟩ := okWide_int Try.underlying35 (hval 2 35 v2 rfl rfl)
  obtain ⟨b2, e2, ga2⟩ := leaf_int Try.underlying35 (leafC_of (Sm := fun _ => True) h2 trivial)
  cases e2
  have ga2 := wf_u64 ga2
  refine (calls_law (top_TopCrash_ok S0 ga2)).mono fun e W' ⟨he, hg⟩ => ?_
  subst he
  exact ⟨_, rfl, law_post big hW' hg (by kernel_rfl) (tb := 4) (by kernel_rfl) (by kernel_rfl) rfl⟩

theorem over : Rows.topCrashRow.holds Try.pinned (OpenSpec.ofChange Rows.topCrashSpec) :=
  OpenClaim.holds_of_wide 6 Try.f6 rfl rfl rfl rfl rfl rfl rfl ⟨rfl, rfl, rfl, rfl, rfl⟩ rfl rfl rfl rfl rfl (by kernel_rfl) Try.func6 (by kernel_rfl)
    (of_decide_eq_true (by kernel_rfl)) (by unfold Func.isWrapper; first | (rw [if_pos (by decide +kernel)]; kernel_rfl) | (rw [if_neg (by decide +kernel)]; exact ⟨rfl, rfl⟩))
    (fun os started H enc _ => lifted os started H enc)

theorem proved : Rows.TopCrashSaid :=
  over
end Go.Proofs.Ytgonnpleihbklaa.topCrash
