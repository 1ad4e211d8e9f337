/-
  The framework, part T: what some more operations give: numbers without a sign, 'copy', a slice held against nil, noughts as a text. No program in sight. Conditions: none.
-/
import Derived.Test.YtgonnpleihbklaaDoorVcR
import Derived.Laws.CopyRow
import Derived.Laws.IdiomStrings
import Derived.Laws.Shifts
import Derived.Laws.MathBits
import Derived.Laws.Cover3
import Derived.WalkSmall
namespace Go.Vc
open Go
set_option linter.unusedVariables false
set_option linter.unusedSimpArgs false

section
variable {P : Program} {h : Hp}
theorem rd_mask32 {t : TypeId} {a : Nat} (ha : a < 4294967296) : Rd P (binOp .and t (vk .u64 a) (vk .u64 4294967295)) h (vk .u64 a) := by
  intro w _
  have e : bits .and .u64 (a : Int) 4294967295 = (a : Int) := by rw [and_low32 _ (by omega) (by omega)]; omega
  simp [binOp, intBits_and, e]
theorem rd_shr32 {t : TypeId} {a : Nat} (ha : a < 4294967296) : Rd P (binOp .shr t (vk .u64 a) (vk .u64 32)) h (vk .u64 0) := by
  intro w _
  simp [binOp, shift_shr_any, IntKind.bits]
  omega
theorem rd_mul64 {t : TypeId} {a b : Nat} (hab : a * b < 4294967296) : Rd P (binOp .mul t (vk .u64 a) (vk .u64 b)) h (vk .u64 (a * b : Nat)) := by
  intro w _
  simp [binOp, Op.intArith, IntKind.wrap_u64]
  omega
theorem rd_add64 {t : TypeId} {a b : Nat} (hab : a + b < 4294967296) : Rd P (binOp .add t (vk .u64 a) (vk .u64 b)) h (vk .u64 (a + b : Nat)) := by
  intro w _
  simp [binOp, Op.intArith, IntKind.wrap_u64]
  omega
theorem rd_shrI {t : TypeId} {x y : Operand} {k : Int} {j : Nat} (hj : j < 64) (hk : 0 ≤ k) : Rd P (eqGuard .shr t x y (vk .u64 k) (vi j) >>= fun _ => binOp .shr t (vk .u64 k) (vi j)) h (vk .u64 (k / 2 ^ j)) := by
  intro w _
  rw [eqGuard_shr]
  have e : min ((j : Nat) : Int).toNat IntKind.u64.bits = j := by simp only [IntKind.bits, Int.toNat_natCast]; omega
  simp only [binOp, shift_shr_any _ _ _ _ (show (0 : Int) ≤ (j : Nat) by omega), Sem.run_bind, Sem.run_pure, Result.andThen_ok, e]
theorem rd_shrU {t : TypeId} {k : Int} {j : Nat} (hj : j < 64) (hk : 0 ≤ k) : Rd P (binOp .shr t (vk .u64 k) (vk .u64 j)) h (vk .u64 (k / 2 ^ j)) := by
  intro w _
  have e : min ((j : Nat) : Int).toNat IntKind.u64.bits = j := by simp only [IntKind.bits, Int.toNat_natCast]; omega
  simp only [binOp, shift_shr_any _ _ _ _ (show (0 : Int) ≤ (j : Nat) by omega), Sem.run_pure, e]
theorem rd_and1 {t : TypeId} {a : Int} (h0 : 0 ≤ a) (h1 : a ≤ 18446744073709551615) : Rd P (binOp .and t (vk .u64 a) (vk .u64 1)) h (vk .u64 (a % 2)) := by
  intro w _
  simp [binOp, intBits_and, and_one_u64 a h0 h1]
theorem rd_remU {t : TypeId} {a : Nat} : Rd P (binOp .rem t (vk .u64 a) (vk .u64 64)) h (vk .u64 (a % 64 : Nat)) := by
  intro w _
  simp [binOp, Op.intDiv, Int.tmod_eq_emod_of_nonneg]
theorem rd_eqNilS {t e : TypeId} (ht : P.underlying t = some (.slice e)) {x y : Operand} {a : Option Addr} {n c : Nat} : Rd P (eqGuard .eql t x y (vsl a n c) (vsl none 0 0) >>= fun _ => binOp .eql t (vsl a n c) (vsl none 0 0)) h (vb a.isNone) := by
  intro w _
  simp [eqGuard, binOp, run_equal_slice_nil w t e a n c ht]
theorem rd_eqNilP {t e : TypeId} (ht : P.underlying t = some (.pointer e)) {x y : Operand} {p : Option Addr} : Rd P (eqGuard .eql t x y (vp p) (vp none) >>= fun _ => binOp .eql t (vp p) (vp none)) h (vb p.isNone) := by
  intro w _
  have := run_eql_pointer_nil (P := P) w t p (by simp [Program.pointee, ht])
  simp [eqGuard, this]
/-- 'string(b)' of bytes. -/
theorem rd_toStr {src dst e : TypeId} (hs : P.underlying src = some (.slice e)) (he : P.underlying e = some (.int .u8)) (hd : P.underlying dst = some .string) {b o c : Nat} {l : List UInt8} (H : h.row b o l.length = some (l.map fun x => vk .u8 (x.toNat : Nat))) :
    Rd P (convert src dst (vsl (some ⟨b, o, none⟩) l.length c)) h (vs (bs l)) := by
  intro w hsub
  exact run_convert_bytes_back w src dst e ⟨b, o, none⟩ c l hs he hd fun j hj => by
    have := Hp.row_cell H (i := j) (x := vk .u8 (l[j].toNat : Nat)) (by rw [List.getElem?_map, List.getElem?_eq_getElem hj]; rfl)
    rw [addr_add]
    exact cell_cell this hsub
/-- 'copy' into a slice of the call's own, of as many elements. -/
theorem sem_copy_own {dT sT ty e : TypeId} (hu : P.underlying dT = some (.slice e)) (hi : (P.info? e).map (·.size) = some 1) {a a2 : Option Addr} {n c c2 : Nat} {xs ys : List Value} (O : OwnS h e 1 a n c xs) (H : HasRow h a2 ys) (hl : ys.length = n) (h1 : ∀ u ∈ ys, u.oneCell' = true) {K : Value → Hp → Prop}
    (hK : ∀ b ob, a = some ⟨b, 0, none⟩ → OwnS (h.set b ob) e 1 a n c ys → K (vi n) (h.set b ob)) (hK0 : n = 0 → K (vi 0) h) : SemOK P (Builtin.copy_ #[dT, sT] ty #[vsl a n c, vsl a2 n c2]) h K := by
  intro w hs
  by_cases hn : n = 0
  · subst hn
    exact ⟨_, w, h, run_copy_none w dT sT ty e a a2 0 c 0 c2 hu hi (by simp), hs, Fr.refl h w, hK0 rfl⟩
  · obtain ⟨hxl, h2⟩ := O
    rcases h2 with ⟨_, h3, _⟩ | ⟨g, cur, ha, hg, hnc, hc, hcs, ht⟩
    · exact absurd h3 hn
    · subst ha
      rcases H with h4 | ⟨b2, o2, rfl, hr⟩
      · rw [h4] at hl; exact absurd hl.symm hn
      · have hcur : n ≤ cur.size := by rw [hcs, Nat.mul_one]; exact hnc
        have hrun := run_copy_row (P := P) w dT sT ty e g 0 n c ⟨b2, o2, none⟩ n c2 cur e ys hu hi (hs g _ hg) (by simp [hl]) (fun j v hj => by rw [addr_add]; exact cell_cell (Hp.row_cell hr hj) hs) (by rw [Nat.zero_add, hl]; exact hcur) h1
        refine ⟨_, _, _, hrun, setRow_Sub hs hg, setRow_Fr hg, ?_⟩
        have hv : (goInt ys.length : Value) = vi n := by rw [hl]; rfl
        rw [hv]
        refine hK g _ rfl ⟨by rw [hl, Nat.mul_one], .inr ⟨g, _, rfl, Hp.set_same _ _ _, hnc, hc, ?_, ?_⟩⟩
        · have : cur.toList.length = cur.size := Array.length_toList
          simp only [List.size_toArray, List.length_append, List.length_take, List.length_drop, this, hl]
          omega
        · rw [Nat.mul_one]
          simp only [List.take_zero, List.nil_append, Nat.zero_add]
          rw [List.take_append_of_le_length (by omega), List.take_of_length_le (by omega)]
/-- 'copy' into a block that is known. -/
theorem sem_copyG {dT sT ty e : TypeId} (hu : P.underlying dT = some (.slice e)) (hi : (P.info? e).map (·.size) = some 1) {g o dLen dCap : Nat} {a2 : Option Addr} {sLen c2 : Nat} {L ys : List Value} {t : TypeId} (hg : h g = some (cellsO L t)) (H : HasRow h a2 ys) (hl : ys.length = min sLen dLen) (hfit : o + ys.length ≤ L.length)
    (h1 : ∀ u ∈ ys, u.oneCell' = true) (hne : ys ≠ []) {K : Value → Hp → Prop} (hK : K (vi ys.length) (h.set g (cellsO (setL L o ys) t))) : SemOK P (Builtin.copy_ #[dT, sT] ty #[vsl (some ⟨g, o, none⟩) dLen dCap, vsl a2 sLen c2]) h K := by
  intro w hs
  rcases H with h4 | ⟨b2, o2, rfl, hr⟩
  · exact absurd h4 hne
  · have hrun := run_copy_row (P := P) w dT sT ty e g o dLen dCap ⟨b2, o2, none⟩ sLen c2 L.toArray t ys hu hi (hs g _ hg) hl (fun j v hj => by rw [addr_add]; exact cell_cell (Hp.row_cell hr hj) hs) (by simpa using hfit) h1
    exact ⟨_, _, _, hrun, setRow_Sub hs hg, setRow_Fr hg, hK⟩
end
theorem Hp.set_set (h : Hp) (b : Nat) (o o' : Obj) : (h.set b o).set b o' = h.set b o' := by
  funext i
  unfold Hp.set
  split <;> simp_all
/-- Noughts. -/
theorem noughts_row (m : Nat) : (List.replicate m [vk .u8 0]).flatten = (List.replicate m (0 : UInt8)).map fun x => vk .u8 (x.toNat : Nat) := by
  induction m with
  | zero => rfl
  | succ m ih => rw [List.replicate_succ, List.flatten_cons, ih, List.replicate_succ, List.map_cons]; rfl
end Go.Vc
