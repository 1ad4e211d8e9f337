/-
  Contracts: the document's words of a text; two lists of texts that are the same. Conditions: those stated at each.
-/
import Derived.Test.YtdkgmpchcahajaaFRLex
import Derived.Test.YtdkgmpchcahajaaCLex
namespace Go.Proofs.Ytdkgmpchcahajaa
open Go Go.Vc
set_option linter.unusedVariables false
set_option maxRecDepth 100000

theorem R_SameTexts_ok {a : Option Addr} {n c : Nat} {l : List (List UInt8)} {a' : Option Addr} {n' c' : Nat} {l' : List (List UInt8)} {h : Hp} {R : Value → Hp → Prop} (h1 : SlB h a n l) (h2 : SlB h a' n' l') (hn : n ≤ 1000000) (hn' : n' ≤ 1000000)
    (hK : R (vb (decide (l = l'))) h) : CallOK Try.prog 26 [vsl a n c, vsl a' n' c'] h R := by
  refine ok_R_SameTexts ?_
  unfold VC_R_SameTexts
  have g1 := h1.1
  have g2 := h2.1
  refine ⟨fun e => ?_, fun e => ?_⟩
  · have : l ≠ l' := fun e' => by
      subst e'
      simp at e; omega
    simpa [this] using hK
  · have hl : n = n' := by simp at e; omega
    refine ⟨fun vs hh => hh = h ∧ ∃ i : Nat, vs = [vi i] ∧ i ≤ n ∧ l.take i = l'.take i, fun vs hh => n - (vint vs 0).toNat, ⟨rfl, 0, rfl, Nat.zero_le _, by simp⟩, ?_⟩
    rintro vs hh ⟨rfl, i, rfl, hi, ht⟩
    refine ⟨i, rfl, fun e => ?_, fun e => ?_⟩
    · have hlt : i < n := by simp at e; omega
      obtain ⟨b, o, rfl, hc⟩ := h1.get1 hlt
      obtain ⟨b', o', rfl, hc'⟩ := h2.get1 (show i < n' by omega)
      have k1 : i < l.length := by omega
      have k2 : i < l'.length := by omega
      have q1 : l.getD i [] = l[i] := by rw [List.getD_eq_getElem?_getD, List.getElem?_eq_getElem k1]; rfl
      have q2 : l'.getD i [] = l'[i] := by rw [List.getD_eq_getElem?_getD, List.getElem?_eq_getElem k2]; rfl
      rw [q1] at hc
      rw [q2] at hc'
      refine ⟨b, o, ⟨rfl, by omega, by omega⟩, _, hc, b', o', ⟨rfl, by omega, by omega⟩, _, hc', _, rd_neBs, fun e => ?_, fun e => ?_⟩
      · have hne : l ≠ l' := fun e' => by subst e'; simp at e
        simpa [hne] using hK
      · have heq : l[i] = l'[i] := by simpa using e
        refine ⟨_, isW (by unfold InR; omega), ⟨rfl, i + 1, rfl, by omega, ?_⟩, ?_⟩
        · rw [List.take_succ_eq_append_getElem k1, List.take_succ_eq_append_getElem k2, ht, heq]
        · simp [vint]; omega
    · have hge : i = n := by simp at e; omega
      have heq : l = l' := by
        rw [List.take_of_length_le (by omega), List.take_of_length_le (by omega)] at ht
        exact ht
      simpa [heq] using hK

theorem kind_letter {c : UInt8} : kindB c = 97 ↔ isL c = true := by
  unfold kindB
  cases isL c <;> cases isD c <;> cases isS c <;> simp
theorem kind_digit {c : UInt8} : kindB c = 48 ↔ isL c = false ∧ isD c = true := by
  unfold kindB
  cases isL c <;> cases isD c <;> cases isS c <;> simp
theorem kind_sign {c : UInt8} : kindB c = 40 ↔ isL c = false ∧ isD c = false ∧ isS c = true := by
  unfold kindB
  cases isL c <;> cases isD c <;> cases isS c <;> simp
theorem kind_none {c : UInt8} : kindB c = 32 ↔ isL c = false ∧ isD c = false ∧ isS c = false := by
  unfold kindB
  cases isL c <;> cases isD c <;> cases isS c <;> simp
theorem isL_isD {c : UInt8} (h : isD c = true) : isL c = false := by
  unfold isD at h
  unfold isL
  simp at h ⊢
  omega
theorem letter_fun : (fun c => kindB c == 97) = isL := by
  funext c
  cases h : isL c with
  | true => simp [kind_letter.2 h]
  | false => simp only [beq_eq_false_iff_ne, ne_eq]; intro h'; rw [kind_letter.1 h'] at h; cases h
theorem digit_fun : (fun c => kindB c == 48) = isD := by
  funext c
  cases h : isD c with
  | true => simp [kind_digit.2 ⟨isL_isD h, h⟩]
  | false => simp only [beq_eq_false_iff_ne, ne_eq]; intro h'; rw [(kind_digit.1 h').2] at h; cases h
theorem dec_isL (c : UInt8) : (decide (((c.toNat : Nat) : Int) ≥ 97) && decide (((c.toNat : Nat) : Int) ≤ 122)) = isL c := by
  unfold isL
  congr 1 <;> exact decide_eq_decide.2 (by omega)
theorem dec_isD (c : UInt8) : (decide (((c.toNat : Nat) : Int) ≥ 48) && decide (((c.toNat : Nat) : Int) ≤ 57)) = isD c := by
  unfold isD
  congr 1 <;> exact decide_eq_decide.2 (by omega)
theorem dec_c (c d : UInt8) : decide (((c.toNat : Nat) : Int) = ((d.toNat : Nat) : Int)) = (c == d) := by
  by_cases h : c = d
  · subst h; simp
  · have : ¬ ((c.toNat : Nat) : Int) = (d.toNat : Nat) := fun e => h (u8_eq.1 e)
    rw [decide_eq_false this]
    symm
    simpa using h
theorem two_bytes {l : List UInt8} {i : Nat} (h : i + 1 < l.length) : (l.drop i).take 2 = [l.getD i 0, l.getD (i + 1) 0] := by
  rw [drop_get (by omega), drop_get (n := i + 1) h]
  rfl

/-- Where the document's way of reading a word ends. -/
theorem R_WordsOf_ok {l : List UInt8} {h : Hp} {R : Value → Hp → Prop} (hK : ∀ a n c h', Own h h' 9 1 a n c ((wordsL l).1.flatMap encB) → R (vtup [vsl a n c, vi (wordsL l).2]) h') :
    CallOK Try.prog 25 [vs (bs l)] h R := by
  refine ok_R_WordsOf ?_
  unfold VC_R_WordsOf
  rw [bs_size]
  refine ⟨fun e => ?_, fun e => ?_⟩
  · have : wordsL l = ([], 2) := by unfold wordsL; rw [if_pos (by simp at e; omega)]
    rw [this] at hK
    exact hK none 0 0 h (Own.nil (Hp.le_refl h) _ _)
  have hl : l.length ≤ 240 := by simp at e; omega
  have hw : wordsL l = lexF l (l.length + 1) 0 [] := by unfold wordsL; rw [if_neg (by omega)]
  refine ⟨fun vs hh => ∃ (k i : Nat) (acc : List (List UInt8)) (a : Option Addr) (n c : Nat), vs = [vsl a n c, vi i] ∧ l.length < i + k ∧ i ≤ l.length ∧ lexF l k i acc = wordsL l ∧ Own h hh 9 1 a n c (acc.flatMap encB) ∧ acc.length ≤ 80,
    fun vs hh => l.length - (vint vs 1).toNat, ⟨l.length + 1, 0, [], none, 0, 0, rfl, by omega, by omega, hw.symm, Own.nil (Hp.le_refl h) _ _, by simp⟩, ?_⟩
  rintro vs hh ⟨k, i, acc, a, n, c, rfl, hk, hi, hf, O, hacc⟩
  have hn : n = acc.length := (O.slp encB_len (by decide)).1
  refine ⟨a, n, c, i, rfl, fun e => ?_, fun e => ?_⟩
  · have hlt : i < l.length := by simpa using e
    obtain ⟨k, rfl⟩ : ∃ k', k = k' + 1 := ⟨k - 1, by omega⟩
    rw [lexF, if_neg (by omega)] at hf
    refine ⟨_, rd_idx (by kernel_rfl) (by omega) (by omega), ?_⟩
    rw [Int.toNat_natCast]
    generalize hc0 : l.getD i 0 = c0 at *
    have h32 : decide (((c0.toNat : Nat) : Int) = 32) = (c0 == 32) := dec_c c0 32
    rw [h32]
    refine ⟨fun e => ?_, fun e => ?_⟩
    · rw [if_pos (by simpa using e)] at hf
      exact ⟨_, isW (by unfold InR; omega), ⟨k, i + 1, acc, a, n, c, rfl, by omega, by omega, hf, O, hacc⟩, by simp [vint]; omega⟩
    rw [if_neg (by simpa using e)] at hf
    have gidx : ∀ {h' : Hp} (m : Nat), m < l.length → Rd Try.prog (Instr.index 9 (vs (bs l)) (vi (m : Nat))) h' (vk .u8 ((l.getD m 0).toNat : Nat)) := by
      intro h' m hm
      have := rd_idx (P := Try.prog) (h := h') (t := 9) (by kernel_rfl) (l := l) (i := (m : Nat)) (by omega) (by omega)
      rwa [Int.toNat_natCast] at this
    have g1 := endW_gt l i
    have g2 := endW_le hlt
    refine ⟨fun vs h' => h' = hh ∧ ∃ m : Nat, vs = [vi m] ∧ i ≤ m ∧ m ≤ l.length ∧ m + runP isL (l.drop m) = i + runP isL (l.drop i), fun vs hh => l.length - (vint vs 0).toNat, ⟨rfl, i, rfl, Nat.le_refl _, hi, rfl⟩, ?_⟩
    rintro vs hh2 ⟨rfl, m, rfl, him, hml, hrun⟩
    -- what is read at m
    refine ⟨m, rfl, ((l.getD m 0).toNat : Nat), fun e => gidx m (by have := of_decide_eq_true e; omega), ((l.getD m 0).toNat : Nat), fun e => gidx m (by
      by_cases q : m < l.length
      · exact q
      · have : decide (((m : Nat) : Int) < (l.length : Nat)) = false := decide_eq_false (by omega)
        rw [this] at e; simp at e), ?_⟩
    have hcond : (bif (bif (decide (((m : Nat) : Int) < (l.length : Nat))) then (decide ((((l.getD m 0).toNat : Nat) : Int) ≥ 97)) else false) then (decide ((((l.getD m 0).toNat : Nat) : Int) ≤ 122)) else false) = (decide (m < l.length) && isL (l.getD m 0)) := by
      rw [← dec_isL]
      by_cases q : m < l.length
      · rw [decide_eq_true (show ((m : Nat) : Int) < (l.length : Nat) by omega), decide_eq_true q, cond_true, Bool.true_and, Bool.and_eq_decide, Bool.cond_eq_ite]
        by_cases q2 : ((l.getD m 0).toNat : Int) ≥ 97 <;> by_cases q3 : ((l.getD m 0).toNat : Int) ≤ 122 <;> simp only [decide_eq_true, decide_eq_false, q2, q3, if_true, if_false, not_false_eq_true, and_self, and_true, true_and, false_and, and_false, decide_true, decide_false, Bool.false_eq_true]
      · rw [decide_eq_false (show ¬ ((m : Nat) : Int) < (l.length : Nat) by omega), decide_eq_false q]
        rfl
    rw [hcond]
    refine ⟨fun e => ?_, fun e => ?_⟩
    · have hm : m < l.length ∧ isL (l.getD m 0) = true := by rw [Bool.and_eq_true, decide_eq_true_eq] at e; exact e
      rw [runP_yes hm.1 hm.2] at hrun
      exact ⟨_, isW (by unfold InR; omega), ⟨rfl, m + 1, rfl, by omega, by omega, by omega⟩, by simp [vint]; omega⟩
    have hrun0 : runP isL (l.drop m) = 0 := runP_no fun q => by rw [decide_eq_true q, Bool.true_and] at e; exact e
    rw [hrun0] at hrun
    clear hcond e
    intro J37
    -- the end, where the word's end is known
    have tail : ∀ J59 : Int → Prop, (J59 = fun (x60 : Int) => (((decide ((x60 : Int) = (i : Nat))) = true → R (vtup [(vsl none 0 0), (vi 4)]) hh2) ∧ ((decide ((x60 : Int) = (i : Nat))) = false → (∃ (s62 : ByteArray), (Rd Try.prog (Instr.sliceAt 9 (vs (bs l)) (some (vi (i : Nat))) (some (vi x60)) none) hh2 (vs s62)) ∧ (∀ (b63 : Nat), hh2 b63 = none → let h64 : Hp := Hp.set hh2 b63 (cellsO [(vs s62)] 9); (SemOK Try.prog (Builtin.append_ #[51, 51] 51 #[(vsl a n c), (vsl (some (⟨b63, 0, none⟩ : Addr)) 1 1)]) h64 fun v65 h66 => ∃ (a67 : Option Addr) (n67 c67 : Nat), v65 = (vsl a67 n67 c67) ∧ (((decide ((((n67 : Nat) : Int) : Int) > 80)) = true → R (vtup [(vsl none 0 0), (vi 2)]) h66) ∧ ((decide ((((n67 : Nat) : Int) : Int) > 80)) = false → ((∃ (k i : Nat) (acc : List (List UInt8)) (a : Option Addr) (n c : Nat), [(vsl a67 n67 c67), (vi x60)] = [vsl a n c, vi i] ∧ l.length < i + k ∧ i ≤ l.length ∧ lexF l k i acc = wordsL l ∧ Own h h66 9 1 a n c (acc.flatMap encB) ∧ acc.length ≤ 80) ∧ l.length - (vint [(vsl a67 n67 c67), (vi x60)] 1).toNat < l.length - (vint [vsl a n c, vi (i : Nat)] 1).toNat))))))))) →
        (kindB c0 = 32 → J59 ((i : Nat) : Int)) ∧ (kindB c0 ≠ 32 → J59 ((endW l i : Nat) : Int)) := by
      rintro J59 rfl
      refine ⟨fun hk32 => ⟨fun _ => ?_, fun e => by simp at e⟩, fun hk32 => ⟨fun e => ?_, fun _ => ?_⟩⟩
      · rw [if_pos hk32] at hf
        rw [← hf] at hK
        exact hK none 0 0 hh2 (Own.nil O.le _ _)
      · have := of_decide_eq_true e; omega
      · rw [if_neg hk32] at hf
        refine ⟨_, rd_cut (by kernel_rfl) (by omega) (by omega) (by omega), ?_⟩
        rw [Int.toNat_natCast, Int.toNat_natCast]
        intro b hb h24
        refine Own.append elStr (Own.set hb _ O) (HasRow.new _ _ [vs (bs ((l.drop i).take (endW l i - i)))] _) (m := 1) rfl (by simp [Value.oneCell']) (by omega) (by omega) fun a' c' h' O' _ _ => ⟨_, _, _, rfl, fun e => ?_, fun e => ?_⟩
        · rw [if_pos (by simp at e; omega)] at hf
          rw [← hf] at hK
          exact hK none 0 0 h' (Own.nil O'.le _ _)
        · have h80 : ¬ acc.length + 1 > 80 := by simp at e; omega
          rw [if_neg h80] at hf
          refine ⟨⟨k, endW l i, acc ++ [(l.drop i).take (endW l i - i)], a', _, c', rfl, by omega, g2, hf, ?_, by simp; omega⟩, by simp [vint]; omega⟩
          rw [List.flatMap_append]
          exact O'
    have big : ∀ m' : Nat, i < m' → m' = endW l i → kindB c0 ≠ 32 → J37 (m' : Nat) hh2 := by
      intro m' h1 h2 h3
      have hd : decide (((m' : Nat) : Int) = (i : Nat)) = false := decide_eq_false (by omega)
      refine ⟨0, fun e => by simp [hd] at e, 0, fun e => by simp [hd] at e, bs [], fun e => by simp [hd] at e, false, fun e => by simp [hd] at e, 0, fun e => by simp [hd] at e, bs [], fun e => by simp [hd] at e, false, fun e => by simp [hd] at e, 0, fun e => by simp [hd] at e, bs [], fun e => by simp [hd] at e, false, fun e => by simp [hd] at e, ?_⟩
      intro J54
      refine ⟨fun e => by simp [hd] at e, fun _ => ?_⟩
      refine ⟨fun e => by simp [hd] at e, fun _ => ?_⟩
      rw [h2]
      exact (tail _ rfl).2 h3
    have small : isL c0 = false → isD c0 = false → J37 (i : Nat) hh2 := by
      intro hL hD
      have hd : decide (((i : Nat) : Int) = (i : Nat)) = true := decide_eq_true rfl
      have e1 : ((i : Nat) : Int) + 1 = ((i + 1 : Nat) : Int) := by omega
      have e2 : ((i : Nat) : Int) + 2 = ((i + 2 : Nat) : Int) := by omega
      have cut : ∀ {b : Prop}, (b → i + 1 < l.length) → b → Rd Try.prog (Instr.sliceAt 9 (vs (bs l)) (some (vi (i : Nat))) (some (vi ((i + 2 : Nat) : Int))) none) hh2 (vs (bs [c0, l.getD (i + 1) 0])) := by
        intro b hb hb'
        have q := hb hb'
        have := rd_cut (P := Try.prog) (h := hh2) (t := 9) (by kernel_rfl) (l := l) (i := (i : Nat)) (j := ((i + 2 : Nat) : Int)) (by omega) (by omega) (by omega)
        rw [Int.toNat_natCast, Int.toNat_natCast, show i + 2 - i = 2 by omega, two_bytes q, hc0] at this
        exact this
      have lt : ∀ {e : Bool}, (bif decide (((i : Nat) : Int) = (i : Nat)) then decide (((i + 1 : Nat) : Int) < (l.length : Nat)) else false) = true → i + 1 < l.length := by
        intro _ e
        rw [hd, cond_true] at e
        have := of_decide_eq_true e
        omega
      have w2 : IsW ((i + 2 : Nat) : Int) (((i : Nat) : Int) + 2) := by rw [e2]; exact isW (by unfold InR; omega)
      refine ⟨((i + 1 : Nat) : Int), fun _ => by rw [e1]; exact isW (by unfold InR; omega), ((i + 2 : Nat) : Int), fun _ => w2, _, cut (lt (e := true)), _, fun _ => rd_eqBs (b := [60, 61]), ((i + 2 : Nat) : Int), fun _ => w2, _, cut (fun e => lt (e := true) e.1), _, fun _ => rd_eqBs (b := [62, 61]),
        ((i + 2 : Nat) : Int), fun _ => w2, _, cut (fun e => lt (e := true) e.1), _, fun _ => rd_eqBs (b := [60, 62]), ?_⟩
      intro J54
      have hlen : decide (((i + 1 : Nat) : Int) < (l.length : Nat)) = decide (i + 1 < l.length) := decide_eq_decide.2 (by omega)
      rw [hd, cond_true, hlen]
      have d40 : decide (((c0.toNat : Nat) : Int) = 40) = (c0 == 40) := dec_c c0 40
      have d41 : decide (((c0.toNat : Nat) : Int) = 41) = (c0 == 41) := dec_c c0 41
      have d44 : decide (((c0.toNat : Nat) : Int) = 44) = (c0 == 44) := dec_c c0 44
      have d42 : decide (((c0.toNat : Nat) : Int) = 42) = (c0 == 42) := dec_c c0 42
      have d43 : decide (((c0.toNat : Nat) : Int) = 43) = (c0 == 43) := dec_c c0 43
      have d45 : decide (((c0.toNat : Nat) : Int) = 45) = (c0 == 45) := dec_c c0 45
      have d60 : decide (((c0.toNat : Nat) : Int) = 60) = (c0 == 60) := dec_c c0 60
      have d62 : decide (((c0.toNat : Nat) : Int) = 62) = (c0 == 62) := dec_c c0 62
      have d61 : decide (((c0.toNat : Nat) : Int) = 61) = (c0 == 61) := dec_c c0 61
      have hsign : (bif (bif (bif (bif (bif (bif (bif (bif (c0 == 40) then true else (c0 == 41)) then true else (c0 == 44)) then true else (c0 == 42)) then true else (c0 == 43)) then true else (c0 == 45)) then true else (c0 == 60)) then true else (c0 == 62)) then true else (c0 == 61)) = isS c0 := by
        unfold isS
        cases c0 == 40 <;> cases c0 == 41 <;> cases c0 == 44 <;> cases c0 == 42 <;> cases c0 == 43 <;> cases c0 == 45 <;> cases c0 == 60 <;> cases c0 == 62 <;> cases c0 == 61 <;> rfl
      by_cases hS : isS c0 = true
      · have hk40 : kindB c0 = 40 := kind_sign.2 ⟨hL, hD, hS⟩
        have hne : kindB c0 ≠ 32 := by omega
        refine ⟨fun e => ?_, fun e => ?_⟩
        · have he : endW l i = i + 2 := by
            unfold endW
            rw [hc0, if_pos hk40, if_pos ?_]
            by_cases q : i + 1 < l.length
            · refine ⟨q, ?_⟩
              generalize l.getD (i + 1) 0 = c1 at e ⊢
              by_cases q1 : c0 = 60 <;> by_cases q2 : c1 = 61 <;> by_cases q3 : c1 = 62 <;> by_cases q4 : c0 = 62 <;> simp [q, q1, q2, q3, q4] at e ⊢
            · simp [q] at e
          refine ⟨((i + 2 : Nat) : Int), w2, ?_⟩
          have hd2 : decide (((i + 2 : Nat) : Int) = (i : Nat)) = false := decide_eq_false (by omega)
          refine ⟨fun e => absurd e (by rw [hd2, cond_false]; simp), fun _ => ?_⟩
          have := (tail _ rfl).2 hne
          rw [he] at this
          exact this
        · have he : endW l i = i + 1 := by
            unfold endW
            rw [hc0, if_pos hk40, if_neg ?_]
            rintro ⟨q, q0⟩
            generalize l.getD (i + 1) 0 = c1 at e q0
            by_cases q1 : c0 = 60 <;> by_cases q2 : c1 = 61 <;> by_cases q3 : c1 = 62 <;> by_cases q4 : c0 = 62 <;> simp [q, q1, q2, q3, q4] at e q0
          refine ⟨fun _ => ⟨((i + 1 : Nat) : Int), by rw [e1]; exact isW (by unfold InR; omega), ?_⟩, fun e => ?_⟩
          · have := (tail _ rfl).2 hne
            rw [he] at this
            exact this
          · rw [hd, cond_true, d40, d41, d44, d42, d43, d45, d60, d62, d61, hsign, hS] at e
            cases e
      · have hS' : isS c0 = false := by simpa using hS
        have hk32 : kindB c0 = 32 := kind_none.2 ⟨hL, hD, hS'⟩
        refine ⟨fun e => ?_, fun e => ?_⟩
        · exfalso
          have h60 : ¬ c0 = 60 := fun h => by rw [h] at hS'; revert hS'; decide
          have h62 : ¬ c0 = 62 := fun h => by rw [h] at hS'; revert hS'; decide
          simp [h60, h62] at e
        · refine ⟨fun e => ?_, fun e => (tail _ rfl).1 hk32⟩
          rw [hd, cond_true, d40, d41, d44, d42, d43, d45, d60, d62, d61, hsign, hS'] at e
          cases e
    -- letters, digits, or neither
    by_cases hL : isL c0 = true
    · have hk97 : kindB c0 = 97 := kind_letter.2 hL
      have he : endW l i = i + runP isL (l.drop i) := by
        unfold endW
        rw [hc0, hk97, if_neg (by decide), letter_fun, runP_yes hlt (by rw [hc0]; exact hL)]
        omega
      have hme : m = endW l i := by omega
      have hd : decide (((m : Nat) : Int) = (i : Nat)) = false := decide_eq_false (by omega)
      refine ⟨fun e => ?_, fun _ => big m (by omega) hme (by omega)⟩
      rw [hd] at e; cases e
    · have hL' : isL c0 = false := by simpa using hL
      have hr0 : runP isL (l.drop i) = 0 := runP_no fun _ => by rw [hc0]; exact hL'
      have hmi : m = i := by omega
      subst hmi
      have hd : decide (((m : Nat) : Int) = (m : Nat)) = true := decide_eq_true rfl
      refine ⟨fun _ => ?_, fun e => by rw [hd] at e; cases e⟩
      refine ⟨fun vs h' => h' = hh2 ∧ ∃ d : Nat, vs = [vi d] ∧ m ≤ d ∧ d ≤ l.length ∧ d + runP isD (l.drop d) = m + runP isD (l.drop m), fun vs hh => l.length - (vint vs 0).toNat, ⟨rfl, m, rfl, Nat.le_refl _, hi, rfl⟩, ?_⟩
      rintro vs hh3 ⟨rfl, d, rfl, hmd, hdl, hrund⟩
      refine ⟨d, rfl, ((l.getD d 0).toNat : Nat), fun e => gidx d (by have := of_decide_eq_true e; omega), ((l.getD d 0).toNat : Nat), fun e => gidx d (by
        by_cases q : d < l.length
        · exact q
        · have : decide (((d : Nat) : Int) < (l.length : Nat)) = false := decide_eq_false (by omega)
          rw [this] at e; simp at e), ?_⟩
      have hcond : (bif (bif (decide (((d : Nat) : Int) < (l.length : Nat))) then (decide ((((l.getD d 0).toNat : Nat) : Int) ≥ 48)) else false) then (decide ((((l.getD d 0).toNat : Nat) : Int) ≤ 57)) else false) = (decide (d < l.length) && isD (l.getD d 0)) := by
        rw [← dec_isD]
        by_cases q : d < l.length
        · rw [decide_eq_true (show ((d : Nat) : Int) < (l.length : Nat) by omega), decide_eq_true q, cond_true, Bool.true_and, Bool.and_eq_decide, Bool.cond_eq_ite]
          by_cases q2 : ((l.getD d 0).toNat : Int) ≥ 48 <;> by_cases q3 : ((l.getD d 0).toNat : Int) ≤ 57 <;> simp only [decide_eq_true, decide_eq_false, q2, q3, if_true, if_false, not_false_eq_true, and_self, and_true, true_and, false_and, and_false, decide_true, decide_false, Bool.false_eq_true]
        · rw [decide_eq_false (show ¬ ((d : Nat) : Int) < (l.length : Nat) by omega), decide_eq_false q]
          rfl
      rw [hcond]
      refine ⟨fun e => ?_, fun e => ?_⟩
      · have hm : d < l.length ∧ isD (l.getD d 0) = true := by rw [Bool.and_eq_true, decide_eq_true_eq] at e; exact e
        rw [runP_yes hm.1 hm.2] at hrund
        exact ⟨_, isW (by unfold InR; omega), ⟨rfl, d + 1, rfl, by omega, by omega, by omega⟩, by simp [vint]; omega⟩
      have hrund0 : runP isD (l.drop d) = 0 := runP_no fun q => by rw [decide_eq_true q, Bool.true_and] at e; exact e
      rw [hrund0] at hrund
      by_cases hD : isD c0 = true
      · have hk48 : kindB c0 = 48 := kind_digit.2 ⟨hL', hD⟩
        have he : endW l m = m + runP isD (l.drop m) := by
          unfold endW
          rw [hc0, hk48, if_neg (by decide), digit_fun, runP_yes hlt (by rw [hc0]; exact hD)]
          omega
        exact big d (by omega) (by omega) (by omega)
      · have hD' : isD c0 = false := by simpa using hD
        have hr1 : runP isD (l.drop m) = 0 := runP_no fun _ => by rw [hc0]; exact hD'
        have hdm : d = m := by omega
        subst hdm
        exact small hL' hD'
  · have hge : i = l.length := by simp at e; omega
    have : lexF l k i acc = (acc, 0) := by
      cases k with
      | zero => rfl
      | succ k => rw [lexF, if_pos (by omega)]
    rw [this] at hf
    rw [← hf] at hK
    exact hK a n c hh O
end Go.Proofs.Ytdkgmpchcahajaa
