/-
  What the law TopWords gives, for every argument: true; nothing of what was there has turned. Conditions: none.
-/
import Derived.Test.YtdkgmpchcahajaaCRLex
import Derived.Test.YtdkgmpchcahajaaFbLex
namespace Go.Proofs.Ytdkgmpchcahajaa
open Go Go.Vc
set_option linter.unusedVariables false
set_option maxRecDepth 100000

theorem rd_and15 {t : TypeId} {a : Int} {h : Hp} : Rd Try.prog (binOp .and t (vi a) (vi 15)) h (vi (a % 16)) := by
  intro w _
  have h127 : (BitVec.ofInt 64 15).toNat = 2 ^ 4 - 1 := by decide
  have key : (BitVec.ofInt 64 a &&& BitVec.ofInt 64 15).toNat = (a % ((2 ^ 64 : Nat) : Int)).toNat % 2 ^ 4 := by
    rw [BitVec.toNat_and, BitVec.toNat_ofInt, h127, Nat.and_two_pow_sub_one_eq_mod]
  have e : bits .and .i64 a 15 = a % 16 := by
    show IntKind.i64.wrap ((BitVec.ofInt 64 a &&& BitVec.ofInt 64 15).toNat : Nat) = a % 16
    rw [key, IntKind.wrap_i64]
    omega
  simp [binOp, intBits_and, e]

abbrev vs' (l : List UInt8) : Value := vs (bs l)
theorem getD_drop (l : List UInt8) (i j : Nat) : (l.drop i).getD j 0 = l.getD (i + j) 0 := by
  rw [List.getD_eq_getElem?_getD, List.getElem?_drop, ← List.getD_eq_getElem?_getD]
/-- Where a word ends hangs on what follows alone. -/
theorem endW_drop {l : List UInt8} {i : Nat} (h : i < l.length) : endW l i = i + endW (l.drop i) 0 := by
  have g0 : (l.drop i).getD 0 0 = l.getD i 0 := getD_drop l i 0
  have g1 : (l.drop i).getD (0 + 1) 0 = l.getD (i + 1) 0 := getD_drop l i 1
  have gd : (l.drop i).drop (0 + 1) = l.drop (i + 1) := by rw [List.drop_drop]
  unfold endW
  rw [g0, g1, List.length_drop, gd]
  have e : (0 + 1 < l.length - i) ↔ (i + 1 < l.length) := by omega
  by_cases h40 : kindB (l.getD i 0) = 40
  · rw [if_pos h40, if_pos h40]
    simp only [e]
    split <;> omega
  · rw [if_neg h40, if_neg h40]
    omega
theorem getD_left {l r : List UInt8} {n : Nat} (h : n < l.length) : (l ++ r).getD n 0 = l.getD n 0 := by
  rw [List.getD_eq_getElem?_getD, List.getElem?_append_left h, ← List.getD_eq_getElem?_getD]
/-- A word: it is read as one, whatever follows behind a blank. -/
structure IsWord (w : List UInt8) : Prop where
  ne : w ≠ []
  k : kindB (w.getD 0 0) ≠ 32
  e : ∀ r, endW (w ++ 32 :: r) 0 = w.length
theorem kind32 : kindB 32 = 32 := by decide
theorem runP_all {p : UInt8 → Bool} {l r : List UInt8} (hl : ∀ x ∈ l, p x = true) (hr : p 32 = false) : runP p (l ++ 32 :: r) = l.length := by
  unfold runP
  induction l with
  | nil => simp [hr]
  | cons x l ih =>
    rw [List.cons_append, List.takeWhile_cons, if_pos (hl x (by simp)), List.length_cons, ih fun y hy => hl y (by simp [hy]), List.length_cons]
theorem isWord_take {l : List UInt8} {i : Nat} (h : i < l.length) (hk : kindB (l.getD i 0) ≠ 32) : IsWord ((l.drop i).take (endW l i - i)) := by
  rw [endW_drop h, Nat.add_sub_cancel_left]
  have hc : (l.drop i).getD 0 0 = l.getD i 0 := by rw [getD_drop]; rfl
  rw [← hc] at hk
  have hlen : (l.drop i).length ≠ 0 := by rw [List.length_drop]; omega
  generalize l.drop i = m at *
  match m, hlen with
  | c :: t, _ =>
    have hk' : kindB c ≠ 32 := hk
    unfold endW
    have g0 : (c :: t).getD 0 0 = c := rfl
    have g1 : (c :: t).getD (0 + 1) 0 = t.getD 0 0 := rfl
    rw [g0, g1]
    by_cases h40 : kindB c = 40
    · rw [if_pos h40]
      split
      · rename_i hs
        match t, hs with
        | [], hs => simp at hs
        | d :: t, hs =>
          refine ⟨by simp, hk', fun r => ?_⟩
          have hs2 := hs.2
          simp only [List.getD_cons_zero] at hs2
          show endW (c :: d :: 32 :: r) 0 = _
          unfold endW
          have q0 : (c :: d :: 32 :: r).getD 0 0 = c := rfl
          have q1 : (c :: d :: 32 :: r).getD (0 + 1) 0 = d := rfl
          rw [q0, q1, if_pos h40, if_pos ⟨by simp, hs2⟩]
          rfl
      · refine ⟨by simp, hk', fun r => ?_⟩
        show endW (c :: 32 :: r) 0 = _
        unfold endW
        have q0 : (c :: 32 :: r).getD 0 0 = c := rfl
        have q1 : (c :: 32 :: r).getD (0 + 1) 0 = 32 := rfl
        rw [q0, q1, if_pos h40, if_neg (by rintro ⟨_, h1 | h1⟩ <;> revert h1 <;> simp)]
        rfl
    · rw [if_neg h40]
      have e1 : (c :: t).drop (0 + 1) = t := rfl
      rw [e1]
      have e2 : (c :: t).take (0 + 1 + runP (fun x => kindB x == kindB c) t) = c :: t.takeWhile (fun x => kindB x == kindB c) := by
        rw [Nat.add_comm, List.take_succ_cons]
        unfold runP
        congr 1
        exact (List.prefix_iff_eq_take.1 (List.takeWhile_prefix _)).symm
      rw [e2]
      refine ⟨by simp, hk', fun r => ?_⟩
      rw [List.cons_append]
      unfold endW
      have q0 : ∀ s : List UInt8, (c :: s).getD 0 0 = c := fun _ => rfl
      have q1 : ∀ s : List UInt8, (c :: s).drop (0 + 1) = s := fun _ => rfl
      rw [q0, q1, if_neg h40, runP_all (p := fun x => kindB x == kindB c) (fun x hx => List.all_eq_true.1 List.all_takeWhile x hx) (by rw [kind32]; simpa using fun e => hk' e.symm)]
      simp; omega
theorem lexF_word (l : List UInt8) : ∀ (k i : Nat) (acc : List (List UInt8)), (∀ w ∈ acc, IsWord w ∧ w.length ≤ l.length) → ∀ w ∈ (lexF l k i acc).1, IsWord w ∧ w.length ≤ l.length
  | 0, i, acc, h => h
  | k + 1, i, acc, h => by
    rw [lexF]
    split
    · exact h
    · rename_i hi
      split
      · exact lexF_word l k _ _ h
      · split
        · simp
        · rename_i hk
          split
          · simp
          · refine lexF_word l k _ _ fun w hw => ?_
            rcases List.mem_append.1 hw with h1 | h1
            · exact h w h1
            · simp at h1
              subst h1
              exact ⟨isWord_take (by omega) hk, by rw [List.length_take, List.length_drop]; omega⟩
theorem wordsL_word (l : List UInt8) : ∀ w ∈ (wordsL l).1, IsWord w ∧ w.length ≤ l.length := by
  unfold wordsL
  split
  · simp
  · exact lexF_word l _ _ _ (by simp)
theorem lexF_err (l : List UInt8) : ∀ (k i : Nat) (acc : List (List UInt8)), (lexF l k i acc).2 ≠ 0 → (lexF l k i acc).1 = []
  | 0, i, acc, h => absurd rfl h
  | k + 1, i, acc, h => by
    rw [lexF] at h ⊢
    split at h
    · exact absurd rfl h
    · rename_i h1
      rw [if_neg h1]
      split at h
      · rename_i h2; rw [if_pos h2]; exact lexF_err l k _ _ h
      · rename_i h2
        rw [if_neg h2]
        split at h
        · rename_i h3; rw [if_pos h3]
        · rename_i h3
          rw [if_neg h3]
          split at h
          · rename_i h4; rw [if_pos h4]
          · rename_i h4; rw [if_neg h4]; exact lexF_err l k _ _ h
theorem wordsL_err0 (l : List UInt8) (h : (wordsL l).2 ≠ 0) : (wordsL l).1 = [] := by
  unfold wordsL at h ⊢
  split at h
  · rename_i h1; rw [if_pos h1]
  · rename_i h1; rw [if_neg h1]; exact lexF_err l _ _ _ h
theorem wordsL_80 (l : List UInt8) : (wordsL l).1.length ≤ 80 := by
  have key : ∀ (k i : Nat) (acc : List (List UInt8)), acc.length ≤ 80 → (lexF l k i acc).1.length ≤ 80 := by
    intro k
    induction k with
    | zero => intro i acc h; exact h
    | succ k ih =>
      intro i acc h
      rw [lexF]
      split
      · exact h
      · split
        · exact ih _ _ h
        · split
          · simp
          · split
            · simp
            · exact ih _ _ (by simp; omega)
  unfold wordsL
  split
  · simp
  · exact key _ _ _ (by simp)
/-- Words, each with a blank behind it. -/
def blanked (ws : List (List UInt8)) : List UInt8 := ws.flatMap (· ++ [32])
theorem lexF_blanked (T : List UInt8) : ∀ (ws : List (List UInt8)) (k i : Nat) (acc : List (List UInt8)), (∀ w ∈ ws, IsWord w) → T.drop i = blanked ws → T.length < i + k → acc.length + ws.length ≤ 80 → lexF T k i acc = (acc ++ ws, 0)
  | [], k, i, acc, _, hd, hk, _ => by
    have : T.length ≤ i := by
      have := congrArg List.length hd
      rw [List.length_drop] at this
      simp [blanked] at this
      omega
    cases k with
    | zero => simp [lexF]
    | succ k => rw [lexF, if_pos this]; simp
  | w :: ws, k, i, acc, hw, hd, hk, hacc => by
    have W := hw w (by simp)
    have hd' : T.drop i = w ++ 32 :: blanked ws := by rw [hd]; simp [blanked]
    have hlen := congrArg List.length hd'
    rw [List.length_drop, List.length_append, List.length_cons] at hlen
    have hw0 : 0 < w.length := List.length_pos_iff.2 W.ne
    obtain ⟨k, rfl⟩ : ∃ j, k = j + 1 + 1 := ⟨k - 2, by omega⟩
    have hc : T.getD i 0 = w.getD 0 0 := by
      have := getD_drop T i 0
      rw [Nat.add_zero] at this
      rw [← this, hd', getD_left hw0]
    have hne32 : ¬ T.getD i 0 = 32 := fun e => W.k (by rw [← hc, e]; exact kind32)
    have he : endW T i = i + w.length := by rw [endW_drop (by omega), hd', W.e]
    have htake : (T.drop i).take (endW T i - i) = w := by rw [he, Nat.add_sub_cancel_left, hd', List.take_left]
    rw [lexF, if_neg (by omega), if_neg hne32, if_neg (by rw [hc]; exact W.k), if_neg (by simp at hacc; omega), htake, he]
    have hdrop : T.drop (i + w.length) = 32 :: blanked ws := by rw [← List.drop_drop, hd', List.drop_left]
    have hc2 : T.getD (i + w.length) 0 = 32 := by
      have := getD_drop T (i + w.length) 0
      rw [Nat.add_zero] at this
      rw [← this, hdrop]
      rfl
    rw [lexF, if_neg (by omega), if_pos hc2]
    have hdrop2 : T.drop (i + w.length + 1) = blanked ws := by rw [← List.drop_drop, hdrop]; rfl
    rw [lexF_blanked T ws k _ _ (fun x hx => hw x (by simp [hx])) hdrop2 (by omega) (by simp at hacc ⊢; omega)]
    simp
theorem wordsL_blanked {ws : List (List UInt8)} (hw : ∀ w ∈ ws, IsWord w) (m : Nat) (hl : (List.replicate m (32 : UInt8) ++ blanked ws).length ≤ 240) (h80 : ws.length ≤ 80) : wordsL (List.replicate m 32 ++ blanked ws) = (ws, 0) := by
  unfold wordsL
  rw [if_neg (by omega)]
  generalize hT : List.replicate m (32 : UInt8) ++ blanked ws = T at *
  have hTl : T.length = m + (blanked ws).length := by rw [← hT]; simp
  have key : ∀ j, j ≤ m → lexF T (T.length + 1) 0 [] = lexF T (T.length + 1 - j) j [] := by
    intro j
    induction j with
    | zero => intro _; rfl
    | succ j ih =>
      intro hj
      rw [ih (by omega), show T.length + 1 - j = (T.length + 1 - (j + 1)) + 1 by omega]
      have hc : T.getD j 0 = 32 := by
        rw [← hT, getD_left (by simp; omega), List.getD_eq_getElem?_getD, List.getElem?_replicate, if_pos (by omega)]
        rfl
      rw [lexF, if_neg (by omega), if_pos hc]
  rw [key m (Nat.le_refl _), lexF_blanked T ws _ m [] hw (by rw [← hT, List.drop_left' (by simp)]) (by omega) (by simpa using h80)]
  simp

theorem blanked_len {ws : List (List UInt8)} {N : Nat} (h : ∀ w ∈ ws, w.length ≤ N) : (blanked ws).length ≤ ws.length * (N + 1) := by
  induction ws with
  | nil => simp [blanked]
  | cons w ws ih =>
    have h1 := h w (by simp)
    have h2 := ih fun x hx => h x (by simp [hx])
    have e : (blanked (w :: ws)).length = w.length + 1 + (blanked ws).length := by simp [blanked]; omega
    rw [e, List.length_cons, Nat.add_mul]
    omega

theorem top_TopWords_ok {l : List UInt8} {z : Int} {h : Hp} : CallOK Try.prog 11 [vs (bs l), vi z] h fun v h' => v = vb true ∧ h.le h' := by
  refine ok_top_TopWords ?_
  unfold VC_top_TopWords
  have e0 : wordsL [97, 60, 98] = ([[97], [60], [98]], 0) := by decide +kernel
  refine lexer_Words_ok (l := [97, 60, 98]) fun a0 n0 c0 h2 O0 => ⟨_, _, _, _, rfl, ?_⟩
  rw [e0] at O0 ⊢
  have hn0 : n0 = 3 := (O0.slp encB_len (by decide)).1
  subst hn0
  refine ⟨fun e => by simp at e, fun _ => ⟨fun e => ⟨rfl, O0.le⟩, fun e => ?_⟩⟩
  rw [bs_size] at e
  have hl : l.length ≤ 100 := by have := of_decide_eq_false e; omega
  refine lexer_Words_ok fun a n c h8 O1 => ⟨_, _, _, _, rfl, ?_⟩
  have S1 : SlB h8 a n (wordsL l).1 := O1.slp encB_len (by decide)
  have hn := S1.1
  have hle8 := Hp.le_trans O0.le O1.le
  by_cases hf : (wordsL l).2 = 0
  · rw [if_pos hf]
    refine ⟨fun e => by simp at e, fun _ => ?_⟩
    have hW := wordsL_word l
    have h80 := wordsL_80 l
    generalize hws : (wordsL l).1 = ws at *
    have bound : ∀ i, (blanked (ws.take i)).length ≤ 10000 := by
      intro i
      have := blanked_len (ws := ws.take i) (N := 100) (fun w hw => by have := (hW w (List.mem_of_mem_take hw)).2; omega)
      have h3 : (ws.take i).length ≤ 80 := by rw [List.length_take]; omega
      have h4 := Nat.mul_le_mul_right 101 h3
      omega
    refine ⟨fun vs hh => hh = h8 ∧ ∃ i : Nat, vs = [vs' (blanked (ws.take i)), vi i] ∧ i ≤ n, fun vs hh => n - (vint vs 1).toNat, ⟨rfl, 0, rfl, Nat.zero_le _⟩, ?_⟩
    rintro vs hh ⟨rfl, i, rfl, hi⟩
    refine ⟨_, i, rfl, fun e => ?_, fun e => ?_⟩
    · have hlt : i < n := by simpa using e
      obtain ⟨b, o, rfl, hc⟩ := S1.get1 hlt
      have hil : i < ws.length := by omega
      have hget : ws.getD i [] = ws[i] := by rw [List.getD_eq_getElem?_getD, List.getElem?_eq_getElem hil]; rfl
      rw [hget] at hc
      have Wi := hW ws[i] (List.getElem_mem hil)
      have A : (some ⟨b, o, none⟩ : Option Addr) = some ⟨b, o, none⟩ ∧ (0 : Int) ≤ i ∧ (i : Int) < (n : Nat) := ⟨rfl, by omega, by omega⟩
      have bi := bound i
      refine ⟨b, o, A, _, hc, _, rd_eqBs (b := []), fun e => absurd (of_decide_eq_true e) Wi.1.ne, fun _ => ⟨b, o, A, _, hc, _, rd_cat (by simp only [maxLen]; omega), _, rd_cat (m := [32]) (by rw [List.length_append]; simp only [maxLen, List.length_cons, List.length_nil]; omega), _, isW (by unfold InR; omega), ⟨rfl, i + 1, ?_, by omega⟩, by simp [vint]; omega⟩⟩
      have tk : ws.take (i + 1) = ws.take i ++ [ws[i]] := List.take_succ_eq_append_getElem hil
      have hbl : blanked (ws.take (i + 1)) = blanked (ws.take i) ++ ws[i] ++ [32] := by rw [tk]; simp only [blanked, List.flatMap_append, List.flatMap_cons, List.flatMap_nil, List.append_nil, List.append_assoc]
      rw [hbl]
      rfl
    · have hge : i = n := by simp at e; omega
      have ht : ws.take i = ws := List.take_of_length_le (by omega)
      have bn := bound i
      rw [ht] at bn ⊢
      have hz : 0 ≤ z % 16 ∧ z % 16 < 16 := ⟨Int.emod_nonneg _ (by decide), Int.emod_lt_of_pos _ (by decide)⟩
      refine ⟨fun vs h' => h' = hh ∧ ∃ j : Nat, vs = [vs' (List.replicate j 32 ++ blanked ws), vi j] ∧ (j : Int) ≤ z % 16, fun vs hh => 16 - (vint vs 1).toNat, ⟨rfl, 0, rfl, by omega⟩, ?_⟩
      rintro vs h' ⟨rfl, j, rfl, hj⟩
      refine ⟨_, j, rfl, _, rd_and15, fun e => ?_, fun e => ⟨fun e2 => ⟨rfl, hle8⟩, fun e2 => ?_⟩⟩
      · have hlt : (j : Int) < z % 16 := by simpa using e
        refine ⟨_, rd_cat (l := [32]) (by rw [List.length_append, List.length_replicate]; simp only [maxLen, List.length_cons, List.length_nil]; omega), _, isW (by unfold InR; omega), ⟨rfl, j + 1, by rw [List.replicate_succ]; rfl, by omega⟩, by simp [vint]; omega⟩
      · rw [bs_size] at e2
        have hT := wordsL_blanked (ws := ws) (fun w hw => (hW w hw).1) j (by have := of_decide_eq_false e2; omega) h80
        refine lexer_Words_ok fun a' n' c' h48 O2 => ⟨_, _, _, _, rfl, ?_⟩
        rw [hT] at O2 ⊢
        have S2 : SlB h48 a' n' ws := O2.slp encB_len (by decide)
        have hn2 := S2.1
        refine ⟨fun x h'' => h'' = h48 ∧ x = .t (.one (.v (vb true))), fun _ => R_SameTexts_ok (S1.le O2.le) S2 (by omega) (by omega) ⟨_, rfl, rfl, by simp⟩, fun e => absurd rfl e, ?_⟩
        rintro h55 p56 ⟨rfl, e56⟩
        cases e56
        exact ⟨rfl, Hp.le_trans hle8 O2.le⟩
  · rw [if_neg hf]
    rw [wordsL_err0 l hf] at hn
    have hn' : n = 0 := hn
    subst hn'
    exact ⟨fun _ => ⟨rfl, hle8⟩, fun e => by simp at e⟩
end Go.Proofs.Ytdkgmpchcahajaa
