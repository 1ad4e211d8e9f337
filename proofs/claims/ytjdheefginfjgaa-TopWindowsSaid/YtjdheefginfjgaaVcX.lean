/-
  The framework of this prover's proofs, part X: regions that draw their order: every order is one. Conditions: none.
-/
import Derived.Test.YtjdheefginfjgaaVcW
set_option linter.unusedVariables false
namespace Go.Vc
open Go

section
variable {P : Program} {cfg : Cfg} {ops : Array Oper} {ms : List Nat}

theorem dsts_tail' {o : Oper} {l : List Oper} {i : Nat} (hi : i ∈ dstsL l) : i ∈ dstsL (o :: l) := by
  simp only [dstsL]
  cases o.dst <;> simp [hi]

theorem vcOp_monoV {o : Oper} {st : St} {h : Hp} {K K' : St → Hp → Prop} (hE : isE o.op = false) (W : WF st) (H : vcOp P cfg ops o st h K) (hk : ∀ s, WF s → K s h → K' s h) : vcOp P cfg ops o st h K' := by
  obtain ⟨g, h1, h2, h3, sv, h4, h5⟩ := (vcOp_V hE).1 H
  exact (vcOp_V hE).2 ⟨g, h1, h2, h3, sv, h4, hk _ (putS_WF W) h5⟩
theorem vcOp_monoE {o : Oper} {st : St} {h : Hp} {K K' : St → Hp → Prop} (hE : isE o.op = true) (H : vcOp P cfg ops o st h K) (hk : ∀ s h', K s h' → K' s h') : vcOp P cfg ops o st h K' := by
  obtain ⟨g, h1, h2, h3, h4⟩ := (vcOp_E hE).1 H
  exact (vcOp_E hE).2 ⟨g, h1, h2, fun c => vcE_mono (fun sv b h' _ hb => ⟨hb.1, hk _ _ hb.2⟩) (h3 c), fun c => ⟨(h4 c).1, hk _ _ (h4 c).2⟩⟩
theorem vcOp_mono {o : Oper} {st : St} {h : Hp} {K K' : St → Hp → Prop} (H : vcOp P cfg ops o st h K) (hk : ∀ s h', K s h' → K' s h') : vcOp P cfg ops o st h K' := by
  cases hE : isE o.op with
  | true => exact vcOp_monoE hE H hk
  | false =>
    obtain ⟨g, h1, h2, h3, sv, h4, h5⟩ := (vcOp_V hE).1 H
    exact (vcOp_V hE).2 ⟨g, h1, h2, h3, sv, h4, hk _ _ h5⟩

theorem vcD_E {i : Nat} {o : Oper} (ho : ops[i]? = some o) (hE : isE o.op = true) {l fl : List Nat} {st : St} {h : Hp} {K : St → Hp → Prop} :
    vcD P cfg ops ms (i :: l) fl st h K ↔ vcOp P cfg ops o st h fun s h' => (needs (ms.getD i 0) fl = true → h.le h') ∧ vcD P cfg ops ms l fl s h' K := by
  simp only [vcD, ho, hE, cond_true]
  constructor
  · intro H
    refine vcOp_mono H fun s h' hk => ?_
    cases hn : needs (ms.getD i 0) fl with
    | true => rw [hn] at hk; exact ⟨fun _ => hk.1, hk.2⟩
    | false => rw [hn] at hk; exact ⟨fun e => by simp at e, hk⟩
  · intro H
    refine vcOp_mono H fun s h' hk => ?_
    cases hn : needs (ms.getD i 0) fl with
    | true => exact ⟨hk.1 hn, hk.2⟩
    | false => exact hk.2
theorem vcD_V {i : Nat} {o : Oper} (ho : ops[i]? = some o) (hE : isE o.op = false) {l fl : List Nat} {st : St} {h : Hp} {K : St → Hp → Prop} :
    vcD P cfg ops ms (i :: l) fl st h K ↔ vcOp P cfg ops o st h fun s h' => vcD P cfg ops ms l (bif hrO P ops o st then i :: fl else fl) s h' K := by
  simp only [vcD, ho, hE, cond_false]

theorem vcD_fl : ∀ (l : List Nat) {fl fl' : List Nat} {st : St} {h : Hp} {K : St → Hp → Prop}, (∀ m, needs m fl' = true → needs m fl = true) → vcD P cfg ops ms l fl st h K → vcD P cfg ops ms l fl' st h K
  | [], fl, fl', st, h, K, _, H => H
  | i :: l, fl, fl', st, h, K, hf, H => by
    cases ho : ops[i]? with
    | none => simp [vcD, ho] at H
    | some o =>
      cases hE : isE o.op with
      | true =>
        rw [vcD_E ho hE] at H ⊢
        exact vcOp_mono H fun s h' hk => ⟨fun hn => hk.1 (hf _ hn), vcD_fl l hf hk.2⟩
      | false =>
        rw [vcD_V ho hE] at H ⊢
        refine vcOp_mono H fun s h' hk => vcD_fl l ?_ hk
        intro m hm
        rcases Bool.eq_false_or_eq_true (hrO P ops o st) with hh | hh
        · rw [hh] at hm ⊢
          simp only [cond_true, needs, Bool.or_eq_true] at hm ⊢
          exact hm.imp id (hf m)
        · rw [hh] at hm ⊢
          exact hf m hm

/-- One operation against another one that stands ahead of it. -/
structure PR (ops : Array Oper) (ms : List Nat) (j i : Nat) : Prop where
  dep : ∀ oj, ops[j]? = some oj → ∀ e ∈ oj.after, Region.binds .any e = true → e.on ≠ i
  un : bit (ms.getD i 0) j = false → ∀ oj oi, ops[j]? = some oj → ops[i]? = some oi → isE oj.op = false ∧ Apart ops oi oj ∧ (isStore oi.op = true → readsM oj.op = false)

theorem exV {i : Nat} {oi : Oper} (hi : ops[i]? = some oi) (hEi : isE oi.op = false) : ∀ (A : List Nat) {B fl : List Nat} {st : St} {h : Hp} {K : St → Hp → Prop}, WF st →
    (∀ j ∈ A, ∀ oj, ops[j]? = some oj → isE oj.op = false ∧ Apart ops oi oj) → vcD P cfg ops ms (A ++ i :: B) fl st h K → vcOp P cfg ops oi st h fun s _ => vcD P cfg ops ms (A ++ B) fl s h K
  | [], B, fl, st, h, K, W, hA, H => by
    rw [List.nil_append, vcD_V hi hEi] at H
    refine vcOp_monoV hEi W H fun s _ hk => vcD_fl B ?_ hk
    intro m hm
    rcases Bool.eq_false_or_eq_true (hrO P ops oi st) with hh | hh
    · rw [hh]; simp only [cond_true, needs, hm, Bool.or_true]
    · rw [hh]; exact hm
  | j :: A, B, fl, st, h, K, W, hA, H => by
    cases hj : ops[j]? with
    | none => simp [vcD, hj] at H
    | some oj =>
      obtain ⟨hEj, hap⟩ := hA j (by simp) oj hj
      rw [List.cons_append, vcD_V hj hEj] at H
      have H2 : vcOp P cfg ops oj st h fun s _ => vcOp P cfg ops oi s h fun s2 _ => vcD P cfg ops ms (A ++ B) (bif hrO P ops oj st then j :: fl else fl) s2 h K :=
        vcOp_monoV hEj W H fun s Ws hk => exV hi hEi A Ws (fun k hk' => hA k (by simp [hk'])) hk
      have hap' : Apart ops oj oi := ⟨hap.yx, hap.xy, fun d e hd he => (hap.ne e d he hd).symm⟩
      have H3 := swapVV (F := fun b s2 => vcD P cfg ops ms (A ++ B) (bif b then j :: fl else fl) s2 h K) hap' W hEj hEi H2
      refine vcOp_monoV hEi W H3 fun s Ws hk => ?_
      rw [List.cons_append, vcD_V hj hEj]
      exact vcOp_monoV hEj Ws hk fun s2 _ h2 => h2

theorem exE {i : Nat} {oi : Oper} (hi : ops[i]? = some oi) (hEi : isE oi.op = true) : ∀ (A : List Nat) {B fl : List Nat} {st : St} {h : Hp} {K : St → Hp → Prop}, WF st →
    (∀ j ∈ A, bit (ms.getD i 0) j = false ∧ ∀ oj, ops[j]? = some oj → isE oj.op = false ∧ Apart ops oi oj ∧ (isStore oi.op = true → readsM oj.op = false)) → vcD P cfg ops ms (A ++ i :: B) fl st h K →
    vcOp P cfg ops oi st h fun s h2 => (needs (ms.getD i 0) fl = true → h.le h2) ∧ vcD P cfg ops ms (A ++ B) fl s h2 K
  | [], B, fl, st, h, K, W, hA, H => by
    rw [List.nil_append, vcD_E hi hEi] at H
    exact H
  | j :: A, B, fl, st, h, K, W, hA, H => by
    cases hj : ops[j]? with
    | none => simp [vcD, hj] at H
    | some oj =>
      obtain ⟨hbit, hA1⟩ := hA j (by simp)
      obtain ⟨hEj, hap, hst⟩ := hA1 oj hj
      rw [List.cons_append, vcD_V hj hEj] at H
      have hap' : Apart ops oj oi := ⟨hap.yx, hap.xy, fun d e hd he => (hap.ne e d he hd).symm⟩
      have H2 : vcOp P cfg ops oj st h fun s _ => vcOp P cfg ops oi s h fun s2 h2 => (hrO P ops oj st = true → h.le h2) ∧
          ((needs (ms.getD i 0) fl = true → h.le h2) ∧ vcD P cfg ops ms (A ++ B) (bif hrO P ops oj st then j :: fl else fl) s2 h2 K) := by
        refine vcOp_monoV hEj W H fun s Ws hk => ?_
        refine vcOp_mono (exE hi hEi A Ws (fun k hk' => hA k (by simp [hk'])) hk) ?_
        rintro s2 h2 ⟨q1, q2⟩
        refine ⟨fun hr => q1 ?_, fun hn => q1 ?_, q2⟩
        · rw [hr]; simp only [cond_true, needs, hbit, Bool.not_false, Bool.true_or]
        · rcases Bool.eq_false_or_eq_true (hrO P ops oj st) with hh | hh
          · rw [hh]; simp only [cond_true, needs, hn, Bool.or_true]
          · rw [hh]; exact hn
      have H3 := swapVE (F := fun b s2 h2 => (needs (ms.getD i 0) fl = true → h.le h2) ∧ vcD P cfg ops ms (A ++ B) (bif b then j :: fl else fl) s2 h2 K) hap' W hEj hEi hst H2
      refine vcOp_mono H3 fun s h2 hk => ?_
      obtain ⟨g, k1, k2, k3, sv, k4, k5, k6⟩ := (vcOp_V hEj).1 hk
      refine ⟨k5, ?_⟩
      rw [List.cons_append, vcD_V hj hEj]
      exact (vcOp_V hEj).2 ⟨g, k1, k2, k3, sv, k4, k6⟩

/-- All that is ahead of what is listed is listed. -/
def DC (ops : Array Oper) (listed : Array Bool) : Prop := ∀ (k : Nat) (o : Oper), ops[k]? = some o → listed.getD k false = true → ∀ e ∈ o.after, Region.binds .any e = true → listed.getD e.on false = true

theorem bit_testBit (m i : Nat) : bit m i = m.testBit i := by
  unfold bit Nat.testBit
  have : Nat.beq (Nat.land (Nat.shiftRight m i) 1) 1 = ((m >>> i) &&& 1 == 1) := by
    show Nat.beq ((m >>> i) &&& 1) 1 = ((m >>> i) &&& 1 == 1)
    cases hq : Nat.beq ((m >>> i) &&& 1) 1 with
    | true => have := Nat.eq_of_beq_eq_true hq; exact (beq_iff_eq.2 this).symm
    | false => have := Nat.ne_of_beq_eq_false hq; exact (beq_eq_false_iff_ne.2 this).symm
  rw [this, Nat.and_comm]
  have h2 : (1 &&& (m >>> i)) = 0 ∨ (1 &&& (m >>> i)) = 1 := by
    rw [Nat.and_comm, Nat.and_one_is_mod]
    omega
  rcases h2 with h2 | h2 <;> rw [h2] <;> rfl

theorem bit_lor (a b i : Nat) : bit (Nat.lor a b) i = (bit a i || bit b i) := by
  rw [bit_testBit, bit_testBit, bit_testBit]
  exact Nat.testBit_or a b i
theorem bit_shift (d i : Nat) : bit (Nat.shiftLeft 1 d) i = decide (i = d) := by
  rw [bit_testBit]
  show (1 <<< d).testBit i = _
  rw [Nat.testBit_shiftLeft]
  by_cases h : i = d
  · subst h; simp
  · by_cases h2 : d ≤ i
    · obtain ⟨k, hk⟩ : ∃ k, i - d = k + 1 := ⟨i - d - 1, by omega⟩
      rw [hk, Nat.testBit_succ]
      simp [h]
    · simp [h, h2]
theorem bit_zero (i : Nat) : bit 0 i = false := by rw [bit_testBit]; simp

theorem mask_fold {listed : Array Bool} {acc : List Nat} (hacc : ∀ d, listed.getD d false = true → ∀ j, bit (acc.getD d 0) j = true → listed.getD j false = true) : ∀ (l : List Edge) (s : Nat),
    (∀ e ∈ l, Region.binds .any e = true → listed.getD e.on false = true) → (∀ j, bit s j = true → listed.getD j false = true) →
    ∀ j, bit (l.foldl (fun s e => bif Region.binds .any e then Nat.lor s (Nat.lor (Nat.shiftLeft 1 e.on) (acc.getD e.on 0)) else s) s) j = true → listed.getD j false = true
  | [], s, _, hs, j, hj => hs j hj
  | e :: l, s, hl, hs, j, hj => by
    refine mask_fold hacc l _ (fun e' he' => hl e' (by simp [he'])) ?_ j hj
    intro k hk
    dsimp only at hk
    cases hb : Region.binds .any e with
    | false => rw [hb] at hk; exact hs k hk
    | true =>
      rw [hb] at hk
      simp only [cond_true, bit_lor, bit_shift, Bool.or_eq_true, decide_eq_true_eq] at hk
      have hd := hl e (by simp) hb
      rcases hk with hk | rfl | hk
      · exact hs k hk
      · exact hd
      · exact hacc _ hd k hk

theorem befM_spec {listed : Array Bool} : ∀ (l : List Oper) (acc : List Nat) (k0 : Nat), acc.length = k0 → (∀ i o, l[i]? = some o → ops[k0 + i]? = some o) → DC ops listed →
    (∀ d, listed.getD d false = true → ∀ j, bit (acc.getD d 0) j = true → listed.getD j false = true) →
    (∀ k o, k < k0 → ops[k]? = some o → (∀ e ∈ o.after, Region.binds .any e = true → listed.getD e.on false = true) → ∀ j, bit (acc.getD k 0) j = true → listed.getD j false = true) →
    ∀ (k : Nat) (o : Oper), ops[k]? = some o → (∀ e ∈ o.after, Region.binds .any e = true → listed.getD e.on false = true) → ∀ j, bit ((befM l acc).getD k 0) j = true → listed.getD j false = true
  | [], acc, k0, hlen, hl, hdc, hacc, hacc2, k, o, ho, hall, j, hj => by
    simp only [befM] at hj
    by_cases hk : k < k0
    · exact hacc2 k o hk ho hall j hj
    · have : acc.getD k 0 = 0 := by simp [List.getD, List.getElem?_eq_none (show acc.length ≤ k by omega)]
      rw [this, bit_zero] at hj
      simp at hj
  | x :: l, acc, k0, hlen, hl, hdc, hacc, hacc2, k, o, ho, hall, j, hj => by
    simp only [befM] at hj
    have hx : ops[k0]? = some x := by simpa using hl 0 x rfl
    have hm : (∀ e ∈ x.after, Region.binds .any e = true → listed.getD e.on false = true) → ∀ j, bit (x.after.toList.foldl (fun s e => bif Region.binds .any e then Nat.lor s (Nat.lor (Nat.shiftLeft 1 e.on) (acc.getD e.on 0)) else s) 0) j = true → listed.getD j false = true :=
      fun hall => mask_fold hacc _ 0 (fun e he hb => hall e (by simpa using he) hb) (fun j hj => by rw [bit_zero] at hj; simp at hj)
    refine befM_spec l _ (k0 + 1) (by simp [hlen]) ?_ hdc ?_ ?_ k o ho hall j hj
    · intro i o hi
      have := hl (i + 1) o (by simpa using hi)
      rwa [show k0 + (i + 1) = k0 + 1 + i by omega] at this
    · intro d hd j hj
      by_cases h1 : d < acc.length
      · rw [List.getD, List.getElem?_append_left h1] at hj
        exact hacc d hd j hj
      · by_cases h2 : d = acc.length
        · subst h2
          simp [List.getD] at hj
          exact hm (hdc acc.length x (by rw [hlen]; exact hx) hd) j (by simpa using hj)
        · rw [List.getD, List.getElem?_eq_none (by simp; omega)] at hj
          simp [bit_zero] at hj
    · intro k o hk ho hall j hj
      by_cases h1 : k < acc.length
      · rw [List.getD, List.getElem?_append_left h1] at hj
        exact hacc2 k o (by omega) ho hall j hj
      · have h2 : k = acc.length := by omega
        subst h2
        rw [hlen, hx] at ho
        obtain rfl := Option.some.inj ho
        simp [List.getD] at hj
        exact hm hall j (by simpa using hj)

theorem chkOne_spec {i : Nat} {x : Oper} (hx : ops[i]? = some x) : ∀ {l : List Nat}, chkOne ops ms i x l = true → ∀ j ∈ l, bit (ms.getD i 0) j = false → ∀ oj, ops[j]? = some oj → isE oj.op = false ∧ Apart ops x oj ∧ (isStore x.op = true → readsM oj.op = false)
  | [], _, j, hj, _, _, _ => by simp at hj
  | k :: l, H, j, hj, hb, oj, ho => by
    simp only [chkOne, Bool.and_eq_true] at H
    rcases List.mem_cons.1 hj with rfl | hj
    · rw [ho] at H
      simp only [hb, Bool.false_or, Bool.and_eq_true, Bool.not_eq_true'] at H
      obtain ⟨⟨⟨h1, h2⟩, h3⟩, _⟩ := H
      refine ⟨h1, apartO_spec h2, fun hs => ?_⟩
      rw [hs] at h3
      simpa using h3
    · exact chkOne_spec hx H.2 j hj hb oj ho

theorem depsIn_spec {x : Oper} {done : List Nat} (h : depsIn x done = true) : ∀ e ∈ x.after, Region.binds .any e = true → e.on ∈ done := by
  intro e he hb
  unfold depsIn at h
  have := List.all_eq_true.1 h e (by simpa using he)
  simp only [hb, Bool.not_true, Bool.false_or] at this
  exact memN_iff.1 this

theorem chkOrd_spec : ∀ {l done : List Nat}, chkOrd ops ms done l = true → (∀ j ∈ done, ∀ oj, ops[j]? = some oj → ∀ e ∈ oj.after, Region.binds .any e = true → e.on ∈ done) → done.Nodup → (∀ j ∈ done, j < ops.size) →
    l.Pairwise (PR ops ms) ∧ (∀ i ∈ l, i < ops.size ∧ i ∉ done) ∧ l.Nodup ∧ done.length + l.length = ops.size ∧ (∀ i ∈ l, ∀ o, ops[i]? = some o → ∀ e ∈ o.after, Region.binds .any e = true → e.on < ops.size ∧ e.on ≠ i)
  | [], done, H, hd, hn, hlt => by
    simp only [chkOrd] at H
    exact ⟨List.Pairwise.nil, by simp, List.nodup_nil, by simpa using Nat.eq_of_beq_eq_true H, by simp⟩
  | i :: l, done, H, hd, hn, hlt => by
    simp only [chkOrd, Bool.and_eq_true] at H
    obtain ⟨H1, H2⟩ := H
    cases hi : ops[i]? with
    | none => rw [hi] at H1; simp at H1
    | some x =>
      rw [hi] at H1
      simp only [Bool.and_eq_true, Bool.not_eq_true'] at H1
      obtain ⟨⟨h1, h2⟩, h3⟩ := H1
      have hnm : i ∉ done := by intro hm; rw [memN_iff.2 hm] at h1; simp at h1
      have hlt' : i < ops.size := (Array.getElem?_eq_some_iff.1 hi).1
      obtain ⟨k1, k2, k3, k4, k5⟩ := chkOrd_spec H2 (by
        intro j hj oj ho e he hb
        rcases List.mem_cons.1 hj with rfl | hj
        · rw [hi] at ho; obtain rfl := Option.some.inj ho
          exact List.mem_cons_of_mem _ (depsIn_spec h2 e he hb)
        · exact List.mem_cons_of_mem _ (hd j hj oj ho e he hb)) (List.nodup_cons.2 ⟨hnm, hn⟩) (by
        intro j hj
        rcases List.mem_cons.1 hj with rfl | hj
        · exact hlt'
        · exact hlt j hj)
      refine ⟨List.pairwise_cons.2 ⟨?_, k1⟩, ?_, List.nodup_cons.2 ⟨?_, k3⟩, ?_, ?_⟩
      · intro j hj
        have hjd := (k2 j hj).2
        simp only [List.mem_cons, not_or] at hjd
        refine ⟨?_, ?_⟩
        · intro oj ho e he hb hon
          rw [hi] at ho; obtain rfl := Option.some.inj ho
          exact hjd.2 (hon ▸ depsIn_spec h2 e he hb)
        · intro hb oj oi hoj hoi
          -- j stands behind i; what is checked at j against all ahead of it
          have : ∀ {l done : List Nat}, chkOrd ops ms done l = true → ∀ j ∈ l, ∀ oi, ops[j]? = some oi → ∀ k ∈ done, bit (ms.getD j 0) k = false → ∀ ok, ops[k]? = some ok → isE ok.op = false ∧ Apart ops oi ok ∧ (isStore oi.op = true → readsM ok.op = false) := by
            intro l
            induction l with
            | nil => intro done _ j hj; simp at hj
            | cons y l ih =>
              intro done H j hj oi hoi k hk hb ok hok
              simp only [chkOrd, Bool.and_eq_true] at H
              rcases List.mem_cons.1 hj with rfl | hj
              · rw [hoi] at H
                simp only [Bool.and_eq_true] at H
                exact chkOne_spec hoi H.1.2 k hk hb ok hok
              · exact ih H.2 j hj oi hoi k (List.mem_cons_of_mem _ hk) hb ok hok
          exact this H2 j hj oi hoi i (by simp) hb oj hoj
      · intro j hj
        rcases List.mem_cons.1 hj with rfl | hj
        · exact ⟨hlt', hnm⟩
        · obtain ⟨q1, q2⟩ := k2 j hj
          simp only [List.mem_cons, not_or] at q2
          exact ⟨q1, q2.2⟩
      · intro hm
        have := (k2 i hm).2
        simp at this
      · simp at k4 ⊢; omega
      · intro j hj o ho e he hb
        rcases List.mem_cons.1 hj with rfl | hj
        · rw [hi] at ho; obtain rfl := Option.some.inj ho
          have := depsIn_spec h2 e he hb
          exact ⟨hlt _ this, fun h => hnm (h ▸ this)⟩
        · exact k5 j hj o ho e he hb

theorem vcD_any (hP : NoNG P) {w0 : World} {h0 : Hp} {K : St → Hp → Prop} {Q : Exit → Act → World → Prop} {st0 : St} {D : List Nat} (hD : ∀ (i : Nat) (o : Oper), ops[i]? = some o → ∀ d, o.dst = some d → d ∈ D)
    (hms : ∀ listed : Array Bool, DC ops listed → ∀ (k : Nat) (o : Oper), ops[k]? = some o → (∀ e ∈ o.after, Region.binds .any e = true → listed.getD e.on false = true) → ∀ j, bit (ms.getD k 0) j = true → listed.getD j false = true)
    (hQ : ∀ st' h' a' w', K st' h' → Rel w0 h0 st' h' a' w' → Ev D st0 st' → Q .normal a' w') :
    ∀ (n : Nat) {L fl : List Nat} {st : St} {h : Hp} {a : Act} {w : World} {listed : Array Bool}, L.length = n → listed.size = ops.size → (∀ i, i < ops.size → (listed.getD i true = false ↔ i ∈ L)) → (∀ i ∈ L, i < ops.size) → L.Nodup → L.Pairwise (PR ops ms) → DC ops listed →
      (∀ (i : Nat) (o : Oper), ops[i]? = some o → ∀ e ∈ o.after, Region.binds .any e = true → e.on < ops.size ∧ e.on ≠ i) →
      Rel w0 h0 st h a w → Ev D st0 st → vcD P cfg ops ms L fl st h K → wpAny P .any ops Q n listed a w
  | 0, L, fl, st, h, a, w, listed, hn, hsz, hL, hlt, hnd, hpw, hdc, hin, R, E, H => by
    obtain rfl := List.eq_nil_of_length_eq_zero hn
    refine ⟨?_, hQ st h a w H R E⟩
    cases hr : Region.ready .any ops listed with
    | nil => rfl
    | cons i l =>
      have : i ∈ Region.ready .any ops listed := by rw [hr]; simp
      obtain ⟨h1, o, ho, _⟩ := mem_ready.1 this
      have := (hL i (Array.getElem?_eq_some_iff.1 ho).1).1 h1
      simp at this
  | n + 1, L, fl, st, h, a, w, listed, hn, hsz, hL, hlt, hnd, hpw, hdc, hin, R, E, H => by
    have hlist : ∀ i, i < ops.size → i ∉ L → listed.getD i false = true := by
      intro i hi hm
      have hb : listed.getD i true = listed[i]'(by omega) := by simp [show i < listed.size by omega]
      have hb' : listed.getD i false = listed[i]'(by omega) := by simp [show i < listed.size by omega]
      rw [hb', ← hb]
      cases hq : listed.getD i true with
      | true => rfl
      | false => exact (hm ((hL i hi).1 hq)).elim
    refine ⟨?_, ?_⟩
    · intro hr
      match L, hn with
      | x :: L', _ =>
        have hx := hlt x (by simp)
        obtain ⟨ox, hox⟩ : ∃ o, ops[x]? = some o := ⟨ops[x], by simp [hx]⟩
        have : x ∈ Region.ready .any ops listed := by
          refine mem_ready.2 ⟨(hL x hx).2 (by simp), ox, hox, fun e he hb => ?_⟩
          refine hlist _ (hin x ox hox e he hb).1 ?_
          intro hm
          rcases List.mem_cons.1 hm with hm | hm
          · exact (hin x ox hox e he hb).2 hm
          · exact ((List.pairwise_cons.1 hpw).1 _ hm).dep ox hox e he hb rfl
        rw [hr] at this
        simp at this
    · intro i hi
      obtain ⟨hl1, oi, hoi, hdeps⟩ := mem_ready.1 hi
      have hil : i < ops.size := (Array.getElem?_eq_some_iff.1 hoi).1
      have hiL := (hL i hil).1 hl1
      obtain ⟨A, B, rfl⟩ := List.append_of_mem hiL
      have hmask := hms listed hdc i oi hoi hdeps
      have hunl : ∀ j ∈ A, bit (ms.getD i 0) j = false := by
        intro j hj
        cases hb : bit (ms.getD i 0) j with
        | false => rfl
        | true =>
          have h1 := hmask j hb
          have h2 := (hL j (hlt j (by simp [hj]))).2 (by simp [hj])
          have hjs : j < listed.size := by rw [hsz]; exact hlt j (by simp [hj])
          simp [hjs] at h1 h2
          rw [h1] at h2
          simp at h2
      have hpr : ∀ j ∈ A, PR ops ms j i := fun j hj => (List.pairwise_append.1 hpw).2.2 j hj i (by simp)
      obtain ⟨ρ, R0⟩ := R
      have W : WF st := fun i s p x hi => R0.gd i s p x hi
      have R : Rel w0 h0 st h a w := ⟨ρ, R0⟩
      have Hop : vcOp P cfg ops oi st h fun s h2 => vcD P cfg ops ms (A ++ B) fl s h2 K := by
        cases hE : isE oi.op with
        | true =>
          refine vcOp_mono (exE hoi hE A W (fun j hj => ⟨hunl j hj, fun oj hoj => (hpr j hj).un (hunl j hj) oj oi hoj hoi⟩) H) fun s h2 hk => hk.2
        | false =>
          refine vcOp_monoV hE W (exV hoi hE A W (fun j hj oj hoj => ?_) H) fun s _ hk => hk
          obtain ⟨q1, q2, _⟩ := (hpr j hj).un (hunl j hj) oj oi hoj hoi
          exact ⟨q1, q2⟩
      unfold wpOp
      rw [hoi]
      refine vcOp_gen hP R Hop ?_
      intro st' h' a' w' hk R' E'
      have hnd' := List.nodup_append.1 hnd
      refine vcD_any hP hD hms hQ n (by simp at hn ⊢; omega) (by simp [hsz]) ?_ ?_ ?_ ?_ ?_ hin R' (E.trans (E'.mono ?_)) hk
      · intro k hk
        by_cases hki : i = k
        · subst hki
          have hnm : i ∉ A ++ B := by
            rw [List.nodup_append] at hnd
            simp only [List.mem_append, not_or]
            refine ⟨fun hm => hnd.2.2 i hm i (by simp) rfl, ?_⟩
            have := (List.nodup_cons.1 hnd.2.1).1
            exact this
          simp only [hnm, iff_false]
          simp [hsz, hk]
        · rw [getD_set_ne true hki, hL k hk]
          simp only [List.mem_append, List.mem_cons]
          constructor
          · rintro (h1 | h1 | h1)
            · exact .inl h1
            · exact (hki h1.symm).elim
            · exact .inr h1
          · rintro (h1 | h1)
            · exact .inl h1
            · exact .inr (.inr h1)
      · intro k hk
        exact hlt k (by simp only [List.mem_append, List.mem_cons] at hk ⊢; rcases hk with h1 | h1 <;> simp [h1])
      · exact hnd.sublist (List.Sublist.append (List.Sublist.refl A) (List.sublist_cons_self i B))
      · exact hpw.sublist (List.Sublist.append (List.Sublist.refl A) (List.sublist_cons_self i B))
      · intro k o ho hlk e he hb
        by_cases hki : i = k
        · subst hki
          rw [hoi] at ho; obtain rfl := Option.some.inj ho
          exact getD_set_true (hdeps e he hb)
        · rw [getD_set_ne false hki] at hlk
          exact getD_set_true (hdc k o ho hlk e he hb)
      · intro d hd
        cases hod : oi.dst with
        | none => rw [hod] at hd; simp [dstL] at hd
        | some x => rw [hod] at hd; simp [dstL] at hd; subst hd; exact hD i oi hoi d hod

theorem allIn_spec : ∀ {n : Nat} {l : List Nat}, allIn n l = true → ∀ i, i < n → i ∈ l
  | 0, l, _, i, hi => by omega
  | n + 1, l, H, i, hi => by
    simp only [allIn, Bool.and_eq_true] at H
    by_cases h : i = n
    · subst h; exact memN_iff.1 H.1
    · exact allIn_spec H.2 i (by omega)

/-- A REGION THAT DRAWS ITS ORDER, in the one order that was checked. -/
theorem wp_draw (hP : NoNG P) (hm : P.follows .mixedOrders = true) {id : Nat} {l : List Nat} {w0 : World} {h0 : Hp} {st : St} {h : Hp} {a : Act} {w : World} {K : St → Hp → Prop} {Q : Exit → Act → World → Prop}
    (hchk : chkOrd ops (befM ops.toList []) [] l = true) (hin : allIn ops.size l = true) (R : Rel w0 h0 st h a w) (H : vcD P cfg ops (befM ops.toList []) l [] st h K)
    (hQ : ∀ st' h' a' w', K st' h' → Rel w0 h0 st' h' a' w' → Ev (dstsL ops.toList) st st' → Q .normal a' w') : (Code.region id ops true).wp P Q a w := by
  obtain ⟨k1, k2, k3, k4, k5⟩ := chkOrd_spec (ops := ops) (ms := befM ops.toList []) hchk (by simp) List.nodup_nil (by simp)
  have hlen : l.length = ops.size := by simpa using k4
  have hall : ∀ i, i < ops.size → i ∈ l := by
    intro i hi
    exact allIn_spec hin i hi
  obtain ⟨ρ, R0⟩ := R
  have R1 : Rel w0 h0 st h a { w with drawn := w.drawn + 1 } :=
    ⟨ρ, R0.step (h' := h) (w' := { w with drawn := w.drawn + 1 }) R0.sub ⟨rfl, rfl, rfl, Nat.le_refl _, fun b hb hn => ⟨rfl, hn⟩⟩⟩
  refine wp_region_any hm ?_
  refine vcD_any hP (D := dstsL ops.toList) (st0 := st) ?_ ?_ hQ ops.size (L := l) (fl := []) hlen (by simp) ?_ (fun i hi => (k2 i hi).1) k3 k1 ?_ ?_ R1 (Ev.refl _ _) H
  · intro i o ho d hd
    have : ∀ (m : List Oper), o ∈ m → d ∈ dstsL m := by
      intro m
      induction m with
      | nil => simp
      | cons x m ih =>
        intro hm
        rcases List.mem_cons.1 hm with rfl | hm
        · simp [dstsL, hd]
        · exact dsts_tail' (ih hm)
    exact this _ (by simpa using Array.mem_of_getElem? ho)
  · intro listed hdc k o ho hall' j hj
    refine befM_spec ops.toList [] 0 rfl (fun i o hi => by simpa using hi) hdc (fun d _ j hj => ?_) (fun k o hk => by omega) k o ho hall' j hj
    simp [List.getD, bit_zero] at hj
  · intro i hi
    simp [hall i hi, hi]
  · intro k o ho hlk
    exfalso
    by_cases hk : k < ops.size <;> simp [hk] at hlk
  · intro i o ho e he hb
    exact k5 i (hall i (Array.getElem?_eq_some_iff.1 ho).1) o ho e he hb
end
end Go.Vc
