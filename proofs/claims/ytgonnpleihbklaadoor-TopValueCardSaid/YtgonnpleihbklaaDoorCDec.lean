/-
  Contracts: a number's digits, as the document has them. Conditions: that the number is not too great.
-/
import Derived.Test.YtgonnpleihbklaaDoorVcS
import Derived.Test.YtgonnpleihbklaaDoorVcY
import Derived.Test.YtgonnpleihbklaaDoorVcQ
import Derived.WalkKit
import Derived.Deep.RegionWith
import Derived.Lib.ItoaNum
import Derived.Below
namespace Go.Proofs.YtgonnpleihbklaaDoor
open Go Go.Vc Go.RowKit
set_option linter.unusedVariables false
set_option maxRecDepth 100000

def decM (n : Int) : Nat := if n < 0 then 2 * n.natAbs + 1 else 2 * n.natAbs
theorem decM_neg {n : Int} (h : n < 0) : decM (-n) < decM n := by
  unfold decM
  rw [if_pos h, if_neg (by omega)]
  omega
theorem decM_div {n : Int} (h : ¬ n < 10) : decM (n.tdiv 10) < decM n := by
  unfold decM
  have h0 : (0 : Int) ≤ n.tdiv 10 := Int.tdiv_nonneg (by omega) (by decide)
  have h1 : n.tdiv 10 = n / 10 := Int.tdiv_eq_ediv_of_nonneg (by omega)
  rw [if_neg (by omega), if_neg (by omega), h1]
  omega
theorem conv1 (W : World) (b : Nat) (x : Int) (hx : 0 ≤ x ∧ x < 256) (hc : W.heap[b]? = some (.cells #[.int .u8 x] 5 (0, 0))) : (convert 66 9 (.slice (some ⟨b, 0, none⟩) 1 1)).run Tryd.prog W = .ok (.string ⟨#[UInt8.ofNat x.toNat]⟩) W := by
  have h := run_convert_bytes_back (P := Tryd.prog) W 66 9 5 ⟨b, 0, none⟩ 1 [UInt8.ofNat x.toNat] (by kernel_rfl) (by kernel_rfl) (by kernel_rfl) (fun j hj => by
    have hj0 : j = 0 := by simp at hj; omega
    subst hj0
    have e : ((UInt8.ofNat x.toNat).toNat : Int) = x := by simp; omega
    simp only [List.getElem_cons_zero]
    rw [e]
    simp [Addr.add, World.cell?, hc])
  exact h
theorem conv1b (W : World) (b : Nat) (x : Int) (hx : 0 ≤ x ∧ x < 256) (hc : W.cell? ⟨b, 0, none⟩ = some (.int .u8 x)) : (convert 66 9 (.slice (some ⟨b, 0, none⟩) 1 1)).run Tryd.prog W = .ok (.string ⟨#[UInt8.ofNat x.toNat]⟩) W :=
  run_convert_bytes_back (P := Tryd.prog) W 66 9 5 ⟨b, 0, none⟩ 1 [UInt8.ofNat x.toNat] (by kernel_rfl) (by kernel_rfl) (by kernel_rfl) (fun j hj => by
    have hj0 : j = 0 := by simp at hj; omega
    subst hj0
    have e : ((UInt8.ofNat x.toNat).toNat : Int) = x := by simp; omega
    simp only [List.getElem_cons_zero]
    rw [e]
    exact hc)
theorem cell_behind {w w' : World} {x : Value} {t : TypeId} (hB : Below (w.alloc (.cells #[x] t)).drew.heap.size (w.alloc (.cells #[x] t)).drew w') : w'.cell? ⟨w.heap.size, 0, none⟩ = some x := by
  have h1 : w.heap.size < (w.alloc (.cells #[x] t)).drew.heap.size := by
    show w.heap.size < (w.heap.push _).size
    rw [Array.size_push]
    omega
  have h2 : (w.alloc (.cells #[x] t)).drew.heap[w.heap.size]? = some (.cells #[x] t) := by
    show (w.heap.push _)[w.heap.size]? = _
    rw [Array.getElem?_push_size]
  have := hB.block w.heap.size h1
  rw [h2] at this
  unfold World.cell?
  rw [this]
  rfl
theorem below_one {w w' : World} {o : Obj} (hB : Below w.drew.heap.size w.drew w') : Below w.heap.size w (w'.alloc o) :=
  (Below.trans (⟨hB.os, hB.tape, hB.output, hB.size, hB.block⟩ : Below w.heap.size w w') (Below.alloc (Below.refl _ _) hB.size o))
theorem below_two {w w' : World} {o : Obj} (hB : Below (w.alloc o).drew.heap.size (w.alloc o).drew w') : Below w.heap.size w w' :=
  Below.trans (Below.alloc (Below.refl _ _) (Nat.le_refl _) o) ⟨hB.os, hB.tape, hB.output, hB.size, fun k hk => hB.block k (by show k < (w.heap.push o).size; rw [Array.size_push]; omega)⟩
set_option maxHeartbeats 1600000 in
theorem dec_last (n q c : Int) (S : ByteArray) (h10 : 10 ≤ n) (hq : IntKind.i64.wrap (n.tdiv 10) = q) (hc : IntKind.u8.wrap (IntKind.i64.wrap (48 + n.tmod 10)) = c) (hc0 : 0 ≤ c ∧ c < 256) (hS : S.size + 1 ≤ maxLen)
    (hC : ∀ W, Calls Tryd.prog 36 #[.int .i64 q] W fun e w' => e = .returned (.string S) ∧ Below W.heap.size W w') (w : World) :
    Calls Tryd.prog 36 #[.int .i64 n] w fun e w' => e = .returned (.string (S ++ ⟨#[UInt8.ofNat c.toNat]⟩)) ∧ Below w.heap.size w w' := by
  have mixed := mixed
  have hn : ¬ n < 0 := by omega
  have hn10 : ¬ n < 10 := by omega
  have hcv := fun W b => conv1b W b c hc0
  go_enter Tryd.func36, Tryd.ntmps36
  have hm2 : ¬ (9223372036854775807 < S.size + 1) := by unfold maxLen at hS; omega
  go_wp2_with (fail)
  go_region_with (go_at_call 36; refine (hC _).mono ?_; rintro e w' ⟨rfl, hB⟩; try have hcell := cell_behind hB)
  all_goals go_wp2_with (fail)
  all_goals go_ret
  · exact ⟨rfl, below_one hB⟩
  · exact ⟨rfl, below_two hB⟩
  · exact ⟨rfl, below_two hB⟩
theorem nDigits_le : ∀ (k u : Nat), u < 10 ^ (k + 1) → Lib.nDigits u ≤ k + 1
  | 0, u, h => by rw [Lib.nDigits_small (by simpa using h)]; exact Nat.le_refl _
  | k + 1, u, h => by
    by_cases h10 : u < 10
    · rw [Lib.nDigits_small h10]; omega
    · rw [Lib.nDigits_big h10]
      have := nDigits_le k (u / 10) (by rw [Nat.div_lt_iff_lt_mul (by decide)]; rw [Nat.pow_succ] at h; exact h)
      omega
theorem itoa_len {n : Int} (h0 : -1000000000000 ≤ n) (h1 : n ≤ 1000000000000) : (Lib.itoa n).length ≤ 14 := by
  unfold Lib.itoa
  split
  · rw [List.length_cons, Lib.decDigits_length]
    have := nDigits_le 12 n.natAbs (by omega)
    omega
  · rw [Lib.decDigits_length]
    have := nDigits_le 12 n.toNat (by omega)
    omega
theorem itoa_minus {n : Int} (h : n < 0) : Lib.itoa n = 45 :: Lib.itoa (-n) := by
  unfold Lib.itoa
  rw [if_pos h, if_neg (by omega)]
  congr 2
  omega
theorem itoa_one {n : Int} (h0 : ¬ n < 0) (h : n < 10) : Lib.itoa n = [UInt8.ofNat (48 + n).toNat] := by
  unfold Lib.itoa
  rw [if_neg h0, Lib.decDigits_one (by omega)]
  congr 2
  omega
theorem itoa_more {n : Int} (h : ¬ n < 10) : Lib.itoa n = Lib.itoa (n.tdiv 10) ++ [UInt8.ofNat (48 + n.tmod 10).toNat] := by
  have h1 : n.tdiv 10 = n / 10 := Int.tdiv_eq_ediv_of_nonneg (by omega)
  have h2 : n.tmod 10 = n % 10 := Int.tmod_eq_emod_of_nonneg (by omega)
  rw [h1, h2]
  unfold Lib.itoa
  rw [if_neg (by omega), if_neg (by omega), Lib.decDigits, dif_neg (by omega)]
  congr 2
  · omega
  · congr 1; omega
theorem dec_calls : ∀ (m : Nat) (n : Int), decM n = m → -1000000000000 ≤ n → n ≤ 1000000000000 → ∀ w, Calls Tryd.prog 36 #[.int .i64 n] w fun e w' => e = .returned (.string ⟨(Lib.itoa n).toArray⟩) ∧ Below w.heap.size w w' := by
  intro m
  induction m using Nat.strongRecOn with
  | _ m ih =>
    intro n hm h0 h1 w
    have mixed := mixed
    by_cases hn : n < 0
    · have hC := fun W => ih _ (by rw [← hm]; exact decM_neg hn) (-n) rfl (by omega) (by omega) W
      have hl := itoa_len (n := -n) (by omega) (by omega)
      have hl2 : ¬ (9223372036854775807 < 1 + (Lib.itoa (-n)).length) := by omega
      clear ih
      rw [itoa_minus hn]
      generalize Lib.itoa (-n) = S at *
      go_enter Tryd.func36, Tryd.ntmps36
      go_wp2_with (go_at_call 36; refine (hC _).mono ?_; rintro e w' ⟨rfl, hB⟩)
      go_ret
      refine ⟨?_, hB⟩
      congr 2
    by_cases h10 : n < 10
    · clear ih
      have hcv := fun W b => conv1b W b (48 + n) (by omega)
      rw [itoa_one hn h10]
      go_enter Tryd.func36, Tryd.ntmps36
      go_wp2_with (fail)
      go_ret
      exact ⟨rfl, Below.alloc (Below.refl _ _) (Nat.le_refl _) _⟩
    · have h2 : 0 ≤ n.tmod 10 ∧ n.tmod 10 < 10 := ⟨Int.tmod_nonneg _ (by omega), Int.tmod_lt_of_pos _ (by decide)⟩
      have h3 : n.tdiv 10 = n / 10 := Int.tdiv_eq_ediv_of_nonneg (by omega)
      have hC := fun W => ih _ (by rw [← hm]; exact decM_div h10) (n.tdiv 10) rfl (by omega) (by omega) W
      have hl := itoa_len (n := n.tdiv 10) (by omega) (by omega)
      have e1 : IntKind.i64.wrap (n.tdiv 10) = n.tdiv 10 := IntWalk.i64_in _ (by omega)
      have e2 : IntKind.u8.wrap (IntKind.i64.wrap (48 + n.tmod 10)) = 48 + n.tmod 10 := by
        rw [show IntKind.i64.wrap (48 + n.tmod 10) = 48 + n.tmod 10 from IntWalk.i64_in _ (by omega)]
        rw [IntKind.wrap_u8]
        omega
      have := dec_last n _ _ ⟨(Lib.itoa (n.tdiv 10)).toArray⟩ (by omega) e1 e2 (by omega) (by simp [ByteArray.size, maxLen]; omega) hC w
      refine this.mono ?_
      rintro e w' ⟨rfl, hB⟩
      refine ⟨?_, hB⟩
      rw [itoa_more h10]
      congr 2
theorem callOK_below {f : FuncId} {args : List Value} {h : Hp} {K : Value → Hp → Prop} (H : ∀ w, Sub h w → Calls Tryd.prog f args.toArray w fun e w' => ∃ v, e = .returned v ∧ Below w.heap.size w w' ∧ K v h) : CallOK Tryd.prog f args h K := by
  intro w hs
  refine (H w hs).mono ?_
  rintro e w' ⟨v, he, hB, hK⟩
  refine ⟨v, h, he, fun b o hb => ?_, ⟨hB.os, hB.tape, hB.output, hB.size, fun b hb hn => ⟨hB.block b hb, hn⟩⟩, hK⟩
  have := hs b o hb
  have hlt := (Array.getElem?_eq_some_iff.1 this).1
  rw [hB.block b hlt]
  exact this
theorem R_Decimal_ok {n : Int} (h0 : -1000000000000 ≤ n) (h1 : n ≤ 1000000000000) {h : Hp} {R : Value → Hp → Prop} (hK : R (vs (bs (Lib.itoa n))) h) : CallOK Tryd.prog 36 [vi n] h R :=
  callOK_below fun w _ => (dec_calls _ n rfl h0 h1 w).mono fun e w' ⟨he, hB⟩ => ⟨_, he, hB, hK⟩
end Go.Proofs.YtgonnpleihbklaaDoor
