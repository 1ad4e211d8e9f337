/-
  The framework, part Q: strings as lists of bytes: an index, a cut, two put together; slices of strings. No program in sight. Conditions: none.
-/
import Derived.Test.YtgonnpleihbklaaDoorVcP
import Derived.Laws.Externs
import Derived.Laws.Strings2
namespace Go.Vc
open Go
set_option linter.unusedVariables false
set_option linter.unusedSimpArgs false

/-- A string of bytes. -/
def bs (l : List UInt8) : ByteArray := ⟨l.toArray⟩
theorem bs_size (l : List UInt8) : (bs l).size = l.length := by simp [bs, ByteArray.size]
theorem bs_inj {l m : List UInt8} : bs l = bs m ↔ l = m := by
  constructor
  · intro h
    have := congrArg (fun b => b.data.toList) h
    simpa [bs] using this
  · rintro rfl; rfl
theorem bs_of (s : ByteArray) : s = bs s.data.toList := by simp [bs]
theorem bs_extract (l : List UInt8) (i j : Nat) : (bs l).extract i j = bs ((l.drop i).take (j - i)) := by
  apply ByteArray.ext
  rw [ByteArray.data_extract]
  simp [bs, List.extract_eq_take_drop]
theorem bs_append (l m : List UInt8) : bs l ++ bs m = bs (l ++ m) := by
  apply ByteArray.ext
  simp [bs]
section
variable {P : Program} {h : Hp}
theorem rd_idx {t : TypeId} (ht : P.underlying t = some .string) {l : List UInt8} {i : Int} (h0 : 0 ≤ i) (h1 : i < l.length) : Rd P (Instr.index t (vs (bs l)) (vi i)) h (vk .u8 ((l.getD i.toNat 0).toNat : Nat)) := by
  intro w _
  have h2 : i < (bs l).size := by rw [bs_size]; exact h1
  rw [run_index_string w t _ _ _ ht, dif_pos ⟨h0, h2⟩]
  have h3 : i.toNat < l.length := by omega
  have : (bs l)[i.toNat]'(by omega) = l.getD i.toNat 0 := by
    rw [List.getD_eq_getElem?_getD, List.getElem?_eq_getElem h3]
    simp [bs, ByteArray.getElem_eq_getElem_data]
  rw [this]
theorem rd_cut {t : TypeId} (ht : P.underlying t = some .string) {l : List UInt8} {i j : Int} (h0 : 0 ≤ i) (h1 : i ≤ j) (h2 : j ≤ l.length) : Rd P (Instr.sliceAt t (vs (bs l)) (some (vi i)) (some (vi j)) none) h (vs (bs ((l.drop i.toNat).take (j.toNat - i.toNat)))) := by
  intro w _
  rw [run_sliceAt_string w t _ _ _ _ ht, run_slice_string w t _ _ _ i j ht h0 h1 (by rw [bs_size]; exact h2), bs_extract]
theorem rd_cat {t : TypeId} {x y : Operand} {l m : List UInt8} (hl : l.length + m.length ≤ maxLen) : Rd P (eqGuard .add t x y (vs (bs l)) (vs (bs m)) >>= fun _ => binOp .add t (vs (bs l)) (vs (bs m))) h (vs (bs (l ++ m))) := by
  intro w _
  rw [eqGuard_add]
  have h1 : ¬ (((bs l).size + (bs m).size : Nat) : Int) > IntKind.i64.max := by
    rw [bs_size, bs_size, IntKind.max_i64]
    simp only [maxLen] at hl
    omega
  simp only [binOp, Op.stringOp, Sem.run_bind, Sem.run_pure, Result.andThen_ok]
  rw [if_neg h1, bs_append]
  rfl
theorem rd_eqBs {t : TypeId} {x y : Operand} {a b : List UInt8} : Rd P (eqGuard .eql t x y (vs (bs a)) (vs (bs b)) >>= fun _ => binOp .eql t (vs (bs a)) (vs (bs b))) h (vb (decide (a = b))) := by
  have := rd_eqS (P := P) (h := h) (t := t) (x := x) (y := y) (a := bs a) (b := bs b)
  rwa [show decide (bs a = bs b) = decide (a = b) from decide_eq_decide.2 bs_inj] at this
theorem rd_neBs {t : TypeId} {x y : Operand} {a b : List UInt8} : Rd P (eqGuard .neq t x y (vs (bs a)) (vs (bs b)) >>= fun _ => binOp .neq t (vs (bs a)) (vs (bs b))) h (vb (!decide (a = b))) := by
  have := rd_neS (P := P) (h := h) (t := t) (x := x) (y := y) (a := bs a) (b := bs b)
  rwa [show decide (bs a = bs b) = decide (a = b) from decide_eq_decide.2 bs_inj] at this
/-- A function without a body that finds the first place of a byte. -/
theorem ext_indexByte {f : FuncId} {fn : Func} (hf : P.funcs[f]? = some fn) (hname : (fn.name == "runtime.NumGoroutine") = false) (hb : fn.body.isNone = true) (hn : Extern.findNext fn = none) (he : Extern.find fn = some Extern.BytealgIndexByte.indexByte)
    {s : ByteArray} {c : Int} {K : Value → Hp → Prop} (hK : K (vi (firstIdx s c.toNat.toUInt8)) h) : ExtOK P f [vs s, vk .u8 c] h K := by
  intro w hs
  refine ⟨_, w, h, ?_, hs, Fr.refl h w, hK⟩
  rw [run_callFunc_extern hf hname hb hn he]
  show ((Extern.BytealgIndexByte.indexByte #[.string s, .int .u8 c]).run P w).andThen _ = _
  rw [run_indexByte_string]
  rfl
end
/-- A word's cell. -/
def encB (l : List UInt8) : List Value := [vs (bs l)]
theorem encB_len (l : List UInt8) : (encB l).length = 1 := rfl
theorem one_encB (l : List (List UInt8)) : ∀ u ∈ l.flatMap encB, u.oneCell' = true := by
  intro u hu
  obtain ⟨x, _, hx⟩ := List.mem_flatMap.1 hu
  simp [encB] at hx
  subst hx
  rfl
abbrev SlB := @SlP (List UInt8) encB
theorem SlP.get1 {h : Hp} {a : Option Addr} {n : Nat} {l : List (List UInt8)} (H : SlB h a n l) {i : Nat} (hi : i < n) : ∃ b o, a = some ⟨b, o, none⟩ ∧ h.cell b (o + i * 1) = some (vs (bs (l.getD i []))) := by
  have hl := H.1
  have hx : l[i]? = some (l.getD i []) := by rw [List.getD_eq_getElem?_getD, List.getElem?_eq_getElem (by omega)]; rfl
  obtain ⟨b, o, e, hr⟩ := H.get encB_len (by decide) hx
  exact ⟨b, o, e, Hp.row_cell hr (i := 0) rfl⟩
end Go.Vc
