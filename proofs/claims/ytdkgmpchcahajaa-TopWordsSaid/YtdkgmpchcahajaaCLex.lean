/-
  Contracts: package lexer. Conditions: those stated at each (how long a text is).
-/
import Derived.Test.YtdkgmpchcahajaaFLex
import Derived.Test.YtdkgmpchcahajaaVcQ
namespace Go.Proofs.Ytdkgmpchcahajaa
open Go Go.Vc
set_option linter.unusedVariables false
set_option maxRecDepth 100000

theorem elStr : ElT Try.prog 51 9 1 16 := .of (by kernel_rfl) (by kernel_rfl) (by decide)
def isL (c : UInt8) : Bool := decide (97 ≤ c.toNat) && decide (c.toNat ≤ 122)
def isD (c : UInt8) : Bool := decide (48 ≤ c.toNat) && decide (c.toNat ≤ 57)
def isS (c : UInt8) : Bool := c == 40 || c == 41 || c == 44 || c == 42 || c == 43 || c == 45 || c == 60 || c == 62 || c == 61
/-- The kind of a byte. -/
def kindB (c : UInt8) : Nat := if isL c then 97 else if isD c then 48 else if isS c then 40 else 32
def runP (p : UInt8 → Bool) (l : List UInt8) : Nat := (l.takeWhile p).length
/-- Where a word ends. -/
def endW (l : List UInt8) (i : Nat) : Nat :=
  if kindB (l.getD i 0) = 40 then (if i + 1 < l.length ∧ (l.getD i 0 = 60 ∧ (l.getD (i + 1) 0 = 61 ∨ l.getD (i + 1) 0 = 62) ∨ l.getD i 0 = 62 ∧ l.getD (i + 1) 0 = 61) then i + 2 else i + 1)
  else i + 1 + runP (fun c => kindB c == kindB (l.getD i 0)) (l.drop (i + 1))
def lexF (l : List UInt8) : Nat → Nat → List (List UInt8) → List (List UInt8) × Int
  | 0, _, acc => (acc, 0)
  | k + 1, i, acc => if l.length ≤ i then (acc, 0) else if l.getD i 0 = 32 then lexF l k (i + 1) acc else if kindB (l.getD i 0) = 32 then ([], 4) else
      if acc.length + 1 > 80 then ([], 2) else lexF l k (endW l i) (acc ++ [(l.drop i).take (endW l i - i)])
/-- The words of a text, and the error's number. -/
def wordsL (l : List UInt8) : List (List UInt8) × Int := if l.length > 240 then ([], 2) else lexF l (l.length + 1) 0 []

theorem drop_get {l : List UInt8} {n : Nat} (h : n < l.length) : l.drop n = l.getD n 0 :: l.drop (n + 1) := by
  rw [List.drop_eq_getElem_cons h, List.getD_eq_getElem?_getD, List.getElem?_eq_getElem h]
  rfl
theorem runP_yes {p : UInt8 → Bool} {l : List UInt8} {n : Nat} (h : n < l.length) (hp : p (l.getD n 0) = true) : runP p (l.drop n) = 1 + runP p (l.drop (n + 1)) := by
  unfold runP
  rw [drop_get h, List.takeWhile_cons, if_pos hp, List.length_cons, Nat.add_comm]
theorem runP_no {p : UInt8 → Bool} {l : List UInt8} {n : Nat} (hp : n < l.length → p (l.getD n 0) = false) : runP p (l.drop n) = 0 := by
  unfold runP
  by_cases h : n < l.length
  · rw [drop_get h, List.takeWhile_cons, if_neg (by rw [hp h]; simp)]
    rfl
  · rw [List.drop_eq_nil_of_le (by omega)]
    rfl
theorem runP_le (p : UInt8 → Bool) (l : List UInt8) : runP p l ≤ l.length := (List.takeWhile_sublist _).length_le
theorem endW_gt (l : List UInt8) (i : Nat) : i < endW l i := by
  unfold endW
  split
  · split <;> omega
  · omega
theorem endW_le {l : List UInt8} {i : Nat} (h : i < l.length) : endW l i ≤ l.length := by
  unfold endW
  have := runP_le (fun c => kindB c == kindB (l.getD i 0)) (l.drop (i + 1))
  rw [List.length_drop] at this
  split
  · split <;> omega
  · omega
theorem u8_eq {c d : UInt8} : ((c.toNat : Nat) : Int) = (d.toNat : Nat) ↔ c = d := by
  constructor
  · intro h; exact UInt8.toNat_inj.1 (by omega)
  · rintro rfl; rfl

theorem sign_of : ∀ n : Fin 256, (decide (firstIdx (bs [40, 41, 44, 42, 43, 45, 60, 62, 61]) (UInt8.ofNat n.val) ≥ 0)) = isS (UInt8.ofNat n.val) := by decide +kernel
theorem lexer_kind_ok {c : UInt8} {h : Hp} {R : Value → Hp → Prop} (hK : R (vk .u8 ((kindB c : Nat) : Int)) h) : CallOK Try.prog 82 [vk .u8 ((c.toNat : Nat) : Int)] h R := by
  refine ok_lexer_kind ?_
  unfold VC_lexer_kind
  unfold kindB at hK
  refine ⟨fun e => ?_, fun e => ⟨fun e2 => ?_, fun e2 => ?_⟩⟩
  · have : isL c = true := by unfold isL; simp [Bool.cond_eq_ite] at e ⊢; omega
    rw [if_pos this] at hK
    exact hK
  · have h1 : ¬ isL c = true := by unfold isL; simp [Bool.cond_eq_ite] at e ⊢; omega
    have h2 : isD c = true := by unfold isD; simp [Bool.cond_eq_ite] at e2 ⊢; omega
    rw [if_neg h1, if_pos h2] at hK
    exact hK
  · have h1 : ¬ isL c = true := by unfold isL; simp [Bool.cond_eq_ite] at e ⊢; omega
    have h2 : ¬ isD c = true := by unfold isD; simp [Bool.cond_eq_ite] at e2 ⊢; omega
    rw [if_neg h1, if_neg h2] at hK
    refine ok_strings_IndexByte (ok_internal_stringslite_IndexByte (ext_indexByte Try.func127 (by kernel_rfl) (by kernel_rfl) (by kernel_rfl) (by kernel_rfl) ⟨_, rfl, _, rfl, _, rfl, ?_⟩))
    have key : decide (firstIdx ⟨#[40, 41, 44, 42, 43, 45, 60, 62, 61]⟩ ((c.toNat : Nat) : Int).toNat.toUInt8 ≥ 0) = isS c := by
      have := sign_of ⟨c.toNat, c.toNat_lt⟩
      simp only [UInt8.ofNat_toNat] at this
      rw [← this]
      congr 2
      simp
      rfl
    refine ⟨fun e3 => ?_, fun e3 => ?_⟩
    · rw [key] at e3
      rw [if_pos e3] at hK
      exact hK
    · rw [key] at e3
      rw [if_neg (by rw [e3]; simp)] at hK
      exact hK

theorem lexer_end_ok {l : List UInt8} {i : Nat} {h : Hp} {R : Value → Hp → Prop} (hi : i < l.length) (hl : l.length ≤ 1000000) (hK : R (vi (endW l i : Nat)) h) : CallOK Try.prog 83 [vs (bs l), vi i] h R := by
  refine ok_lexer_end ?_
  unfold VC_lexer_end
  rw [bs_size]
  refine ⟨_, rd_idx (by kernel_rfl) (by omega) (by omega), lexer_kind_ok ⟨_, rfl, _, isW (by unfold InR; omega), ?_⟩⟩
  rw [Int.toNat_natCast]
  have e1 : ((i : Nat) : Int) + 1 = ((i + 1 : Nat) : Int) := by omega
  rw [e1]
  refine ⟨fun e => ?_, fun e => ?_⟩
  · have hk : kindB (l.getD i 0) = 40 := by have := of_decide_eq_true e; omega
    unfold endW at hK
    rw [if_pos hk] at hK
    have r0 : Rd Try.prog (Instr.index 9 (vs (bs l)) (vi i)) h (vk .u8 ((l.getD i 0).toNat : Nat)) := by
      have := rd_idx (P := Try.prog) (h := h) (t := 9) (by kernel_rfl) (l := l) (i := i) (by omega) (by omega)
      rwa [Int.toNat_natCast] at this
    have r1 : ∀ {b : Prop}, (b → i + 1 < l.length) → b → Rd Try.prog (Instr.index 9 (vs (bs l)) (vi ((i + 1 : Nat) : Int))) h (vk .u8 ((l.getD (i + 1) 0).toNat : Nat)) := by
      intro b hb hb'
      have := hb hb'
      have := rd_idx (P := Try.prog) (h := h) (t := 9) (by kernel_rfl) (l := l) (i := ((i + 1 : Nat) : Int)) (by omega) (by omega)
      rwa [Int.toNat_natCast] at this
    refine ⟨_, fun _ => r0, _, r1 (fun e => by have := of_decide_eq_true e.1; omega), _, r1 (fun e => by have := of_decide_eq_true e.1.1; omega), _, fun _ => r0, _, r1 (fun e => by have := of_decide_eq_true e.1.1; omega), ?_⟩
    have h60 : decide ((((l.getD i 0).toNat : Nat) : Int) = 60) = decide (l.getD i 0 = 60) := decide_eq_decide.2 (u8_eq (d := 60))
    have h62 : decide ((((l.getD i 0).toNat : Nat) : Int) = 62) = decide (l.getD i 0 = 62) := decide_eq_decide.2 (u8_eq (d := 62))
    have g61 : decide ((((l.getD (i + 1) 0).toNat : Nat) : Int) = 61) = decide (l.getD (i + 1) 0 = 61) := decide_eq_decide.2 (u8_eq (d := 61))
    have g62 : decide ((((l.getD (i + 1) 0).toNat : Nat) : Int) = 62) = decide (l.getD (i + 1) 0 = 62) := decide_eq_decide.2 (u8_eq (d := 62))
    rw [h60, h62, g61, g62]
    intro J14
    refine ⟨fun e => ?_, fun e => ?_⟩
    · rw [if_pos (by
        simp only [Bool.cond_eq_ite] at e
        generalize l.getD i 0 = c0 at e ⊢
        generalize l.getD (i + 1) 0 = c1 at e ⊢
        by_cases q1 : c0 = 60 <;> by_cases q2 : c1 = 61 <;> by_cases q3 : c1 = 62 <;> by_cases q4 : c0 = 62 <;> simp [q1, q2, q3, q4] at e ⊢ <;> omega)] at hK
      exact ⟨_, isW (by unfold InR; omega), hK⟩
    · rw [if_neg (by
        simp only [Bool.cond_eq_ite] at e
        generalize l.getD i 0 = c0 at e ⊢
        generalize l.getD (i + 1) 0 = c1 at e ⊢
        by_cases q1 : c0 = 60 <;> by_cases q2 : c1 = 61 <;> by_cases q3 : c1 = 62 <;> by_cases q4 : c0 = 62 <;> simp [q1, q2, q3, q4] at e ⊢ <;> omega)] at hK
      exact hK
  · have hk : ¬ kindB (l.getD i 0) = 40 := by have := of_decide_eq_false e; omega
    unfold endW at hK
    rw [if_neg hk] at hK
    generalize kindB (l.getD i 0) = k at *
    refine ⟨fun vs hh => hh = h ∧ ∃ n : Nat, vs = [vi n] ∧ n ≤ l.length ∧ n + runP (fun c => kindB c == k) (l.drop n) = i + 1 + runP (fun c => kindB c == k) (l.drop (i + 1)), fun vs hh => l.length - (vint vs 0).toNat, ⟨rfl, i + 1, rfl, hi, rfl⟩, ?_⟩
    rintro vs hh ⟨rfl, n, rfl, hn, hr⟩
    refine ⟨n, rfl, ?_⟩
    by_cases hlt : n < l.length
    · refine ⟨_, fun _ => rd_idx (by kernel_rfl) (by omega) (by omega), fun x h' => h' = hh ∧ x = .t (.one (.v (vk .u8 ((kindB (l.getD n 0) : Nat) : Int)))), fun _ => by rw [Int.toNat_natCast]; exact lexer_kind_ok ⟨_, rfl, rfl, rfl⟩, fun e => absurd (by simp; exact hlt) e, ?_⟩
      rintro h28 x29 ⟨rfl, e29⟩
      cases e29
      refine ⟨fun e => ?_, fun e => ?_⟩
      · have hkk : kindB (l.getD n 0) = k := by rw [decide_eq_true (show ((n : Nat) : Int) < (l.length : Nat) by omega), cond_true] at e; have := of_decide_eq_true e; omega
        refine ⟨_, isW (by unfold InR; omega), ⟨rfl, n + 1, rfl, hlt, ?_⟩, by simp [vint]; omega⟩
        rw [runP_yes hlt (by simp only [beq_iff_eq]; exact hkk)] at hr
        omega
      · have hkk : ¬ kindB (l.getD n 0) = k := by rw [decide_eq_true (show ((n : Nat) : Int) < (l.length : Nat) by omega), cond_true] at e; have := of_decide_eq_false e; omega
        rw [runP_no (fun _ => by simp only [beq_eq_false_iff_ne, ne_eq]; exact hkk)] at hr
        rw [← hr] at hK
        exact hK
    · refine ⟨0, fun e => absurd hlt (by simpa using e), fun x h' => h' = hh, fun e => absurd hlt (by simpa using e), fun _ => rfl, ?_⟩
      rintro h28 x29 rfl
      refine ⟨fun e => ?_, fun e => ?_⟩
      · simp [Bool.cond_eq_ite, hlt] at e
      · rw [runP_no (fun h => absurd h hlt)] at hr
        rw [← hr] at hK
        exact hK

theorem lexer_Words_ok {l : List UInt8} {h : Hp} {R : Value → Hp → Prop} (hK : ∀ a n c h', Own h h' 9 1 a n c ((wordsL l).1.flatMap encB) → R (vtup [vsl a n c, ifv (if (wordsL l).2 = 0 then none else some (154, vi (wordsL l).2))]) h') :
    CallOK Try.prog 24 [vs (bs l)] h R := by
  refine ok_lexer_Words ?_
  unfold VC_lexer_Words
  rw [bs_size]
  refine ⟨fun e => ?_, fun e => ?_⟩
  · have : wordsL l = ([], 2) := by unfold wordsL; rw [if_pos (by simp at e; omega)]
    rw [this] at hK
    exact hK none 0 0 h (Own.nil (Hp.le_refl h) _ _)
  have hl : l.length ≤ 240 := by simp at e; omega
  have hw : wordsL l = lexF l (l.length + 1) 0 [] := by unfold wordsL; rw [if_neg (by omega)]
  refine ⟨fun vs hh => ∃ (k i : Nat) (acc : List (List UInt8)) (a : Option Addr) (n c : Nat), vs = [vsl a n c, vi i] ∧ l.length < i + k ∧ i ≤ l.length ∧ lexF l k i acc = wordsL l ∧ Own h hh 9 1 a n c (acc.flatMap encB) ∧ acc.length ≤ 80,
    fun vs hh => l.length - (vint vs 1).toNat, ⟨l.length + 1, 0, [], none, 0, 0, rfl, by omega, by omega, hw.symm, Own.nil (Hp.le_refl h) _ _, by simp⟩, ?_⟩
  rintro vs hh ⟨k, i, acc, a, n, c, rfl, hk, hi, hf, O, hacc⟩
  have hn : n = acc.length := (O.slp encB_len (by decide)).1
  refine ⟨a, n, c, i, rfl, fun e => ?_, fun e => ?_⟩
  · have hlt : i < l.length := by simpa using e
    obtain ⟨k, rfl⟩ : ∃ k', k = k' + 1 := ⟨k - 1, by omega⟩
    rw [lexF, if_neg (by omega)] at hf
    refine ⟨_, rd_idx (by kernel_rfl) (by omega) (by omega), ?_⟩
    rw [Int.toNat_natCast]
    have h32 : decide ((((l.getD i 0).toNat : Nat) : Int) = 32) = decide (l.getD i 0 = 32) := decide_eq_decide.2 (u8_eq (d := 32))
    rw [h32]
    refine ⟨fun e => ?_, fun e => ?_⟩
    · rw [if_pos (by simpa using e)] at hf
      exact ⟨_, isW (by unfold InR; omega), ⟨k, i + 1, acc, a, n, c, rfl, by omega, by omega, hf, O, hacc⟩, by simp [vint]; omega⟩
    rw [if_neg (by simpa using e)] at hf
    refine ⟨_, rd_idx (by kernel_rfl) (by omega) (by omega), ?_⟩
    rw [Int.toNat_natCast]
    refine lexer_kind_ok ⟨_, rfl, fun e => ?_, fun e => ?_⟩
    · rw [if_pos (by have := of_decide_eq_true e; omega)] at hf
      rw [← hf] at hK
      exact hK none 0 0 hh (Own.nil O.le _ _)
    rw [if_neg (by have := of_decide_eq_false e; omega)] at hf
    have g1 := endW_gt l i
    have g2 := endW_le hlt
    refine lexer_end_ok hlt (by omega) ⟨_, rfl, _, rd_cut (by kernel_rfl) (by omega) (by omega) (by omega), ?_⟩
    rw [Int.toNat_natCast, Int.toNat_natCast]
    intro b hb h24
    refine Own.append elStr (Own.set hb _ O) (HasRow.new _ _ [vs (bs ((l.drop i).take (endW l i - i)))] _) (m := 1) rfl (by simp [Value.oneCell']) (by omega) (by omega) fun a' c' h' O' _ _ => ⟨_, _, _, rfl, fun e => ?_, fun e => ?_⟩
    · rw [if_pos (by simp at e; omega)] at hf
      rw [← hf] at hK
      exact hK none 0 0 h' (Own.nil O'.le _ _)
    · have h80 : ¬ acc.length + 1 > 80 := by simp at e; omega
      rw [if_neg h80] at hf
      refine ⟨⟨k, endW l i, acc ++ [(l.drop i).take (endW l i - i)], a', _, c', rfl, by omega, g2, hf, ?_, by simp; omega⟩, by simp [vint]; omega⟩
      rw [List.flatMap_append]
      exact O'
  · have hge : i = l.length := by simp at e; omega
    have : lexF l k i acc = (acc, 0) := by
      cases k with
      | zero => rfl
      | succ k => rw [lexF, if_pos (by omega)]
    rw [this] at hf
    rw [← hf] at hK
    exact hK a n c hh O
end Go.Proofs.Ytdkgmpchcahajaa
