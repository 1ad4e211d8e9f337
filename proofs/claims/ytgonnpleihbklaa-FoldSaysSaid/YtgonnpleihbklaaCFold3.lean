/-
  Contracts: package fold: Fold. Conditions: that the nodes are an expression.
-/
import Derived.Test.YtgonnpleihbklaaCFold2
namespace Go.Proofs.Ytgonnpleihbklaa
open Go Go.Vc
set_option linter.unusedVariables false
set_option maxRecDepth 100000

theorem elRow : ElT Try.prog 109 39 1 24 := .of (by kernel_rfl) (by kernel_rfl) (by decide)
def encR (r : TRow Nd) : List Value := [rowV r]
theorem encR_len (r : TRow Nd) : (encR r).length = 1 := rfl
/-- The stack, as it lies. -/
structure StkR (h : Hp) (a : Option Addr) (n c : Nat) (R : List (TRow Nd)) : Prop where
  s : SlP encR h a n R
  c : n ≤ c
  r : ∀ r ∈ R, NS h r.1.1 r.2.length r.1.2 r.2
theorem StkR.le {h h' : Hp} (hl : h.le h') {a : Option Addr} {n c : Nat} {R : List (TRow Nd)} (S : StkR h a n c R) : StkR h' a n c R := ⟨S.s.le hl, S.c, fun r hr => (S.r r hr).le hl⟩
theorem rev_top {α β : Type} {f : α → β} {R : List α} {z : β} {s : List β} (h : (R.map f).reverse = z :: s) : ∃ r, R = R.take (R.length - 1) ++ [r] ∧ f r = z ∧ ((R.take (R.length - 1)).map f).reverse = s ∧ 1 ≤ R.length ∧ R[R.length - 1]? = some r := by
  have h1 : R.map f = s.reverse ++ [z] := by rw [← List.reverse_reverse (R.map f), h, List.reverse_cons]
  have hlen : R.length = s.length + 1 := by have := congrArg List.length h1; simpa using this
  have hx : R[R.length - 1]? = some (R[R.length - 1]'(by omega)) := List.getElem?_eq_getElem (by omega)
  refine ⟨_, ?_, ?_, ?_, by omega, hx⟩
  · have := List.take_append_drop (R.length - 1) R
    rw [List.drop_eq_getElem_cons (by omega), show R.length - 1 + 1 = R.length by omega, List.drop_length] at this
    exact this.symm
  · have : (R.map f)[R.length - 1]? = some z := by rw [h1, List.getElem?_append_right (by simp; omega)]; simp [hlen]
    rw [List.getElem?_map, hx] at this
    simpa using this
  · rw [List.map_take, h1, List.take_left' (by simp; omega), List.reverse_reverse]
section
variable {a : Option Addr} {m c : Nat} {l : List Nd} {h : Hp}
theorem fold_constant_c {v : Int × Int} (S : SlP encN h a m (cst v)) {R : Value → Hp → Prop} (hY : R (vtup [vag (encV v), vb true]) h) : CallOK Try.prog 70 [vsl a m c] h R := by
  refine ok_fold_constant ?_
  unfold VC_fold_constant
  obtain rfl := S.1
  obtain ⟨b, o, ha, hr⟩ := S.get encN_len (by decide) (i := 0) rfl
  have A : a = some ⟨b, o, none⟩ ∧ (0 : Int) ≤ 0 ∧ (0 : Int) < ((cst v).length : Nat) := ⟨ha, by decide, by simp⟩
  refine ⟨b, o, fun _ => A, 1, fun _ => Hp.row_cell hr (i := 0) rfl, fun g => ?_, fun g => by simp at g⟩
  exact ⟨b, o, A, _, _, Hp.row_sub hr (i := 4) (k := 2) (by decide), hY⟩
/-- The stack's law, and what calls give of it. -/
structure Stp (l : List Nd) (F : List (List Nd) → Nat → Prop) : Prop where
  z : F [] 0
  len : ∀ s i, F s i → s.length ≤ i
  stp : ∀ s i n, F s i → l[i]? = some n → (arI n.op = 0 ∧ F ([n] :: s) (i + 1)) ∨
    (arI n.op = 1 ∧ ∃ z s', s = z :: s' ∧ ∀ (a : Option Addr) (m c : Nat) (h : Hp) (R : Value → Hp → Prop), NS h a m c z → (∀ a' n' c' h' y, h.le h' → NS h' a' n' c' y → F (y :: s') (i + 1) → R (vsl a' n' c') h') → CallOK Try.prog 49 [vi n.op, vsl a m c] h R) ∨
    (arI n.op = 2 ∧ ∃ z z' s', s = z' :: z :: s' ∧ ∀ (a : Option Addr) (m c : Nat) (a2 : Option Addr) (m2 c2 : Nat) (h : Hp) (R : Value → Hp → Prop), NS h a m c z → NS h a2 m2 c2 z' → (∀ a' n' c' h' y, h.le h' → NS h' a' n' c' y → F (y :: s') (i + 1) → R (vsl a' n' c') h') → CallOK Try.prog 50 [vi n.op, vsl a m c, vsl a2 m2 c2] h R)
theorem fold_Fold_gen {F0S : List (List Nd) → Nat → Prop} {Z : List Nd → Prop} (S : SlP encN h a m l) (H : Stp l F0S) (hz : ∀ s, F0S s l.length → ∃ z, s = [z] ∧ Z z) (hm : l.length ≤ 100000) {R : Value → Hp → Prop}
    (hK : ∀ a' n' c' h' z, h.le h' → NS h' a' n' c' z → Z z → R (vsl a' n' c') h') : CallOK Try.prog 17 [vsl a m c] h R := by
  refine ok_fold_Fold ?_
  unfold VC_fold_Fold
  obtain rfl := S.1
  refine ⟨fun vs hh => ∃ (i : Nat) (a : Option Addr) (c : Nat) (Q : List (TRow Nd)), vs = [vsl a Q.length c, vi i] ∧ i ≤ l.length ∧ h.le hh ∧ StkR hh a Q.length c Q ∧ F0S (Q.map Prod.snd).reverse i, fun vs hh => l.length - (vint vs 1).toNat,
    ⟨0, none, 0, [], rfl, Nat.zero_le _, Hp.le_refl h, ⟨⟨rfl, .inl rfl⟩, Nat.le_refl _, fun r hr => by cases hr⟩, H.z⟩, ?_⟩
  rintro vs hh ⟨i, a1, c1, Q, rfl, hi, hle, SQ, F⟩
  refine ⟨_, _, _, _, rfl, fun g => ?_, fun g => ?_⟩
  · have hlt : i < l.length := by have := of_decide_eq_true g; omega
    have hx : l[i]? = some l[i] := List.getElem?_eq_getElem hlt
    obtain ⟨b, o, ha, hr⟩ := (S.le hle).get encN_len (by decide) hx
    have st := H.stp _ _ _ F hx
    have fl := H.len _ _ F
    rw [List.length_reverse, List.length_map] at fl
    generalize l[i] = n at *
    refine ⟨b, o, ⟨ha, by omega, by omega⟩, _, _, _, _, _, _, hr, expr_Arity_ok ⟨_, rfl, ?_⟩⟩
    have hsz : szT Try.prog 39 = 1 := by kernel_rfl
    have hcap := SQ.c
    -- what is behind a node's own is put there
    have fin : ∀ (kk : Nat), kk ≤ Q.length → ∀ (z : List Nd) (a46 : Option Addr) (n46 c46 : Nat) (h47 : Hp), hh.le h47 → NS h47 a46 n46 c46 z → F0S (z :: ((Q.take kk).map Prod.snd).reverse) (i + 1) →
        (∃ (a48 : Option Addr) (n48 c48 : Nat), (Rd Try.prog (Instr.sliceAt 109 (vsl a1 Q.length c1) none (some (vi kk)) (some (vi kk))) h47 (vsl a48 n48 c48)) ∧ (∀ (b49 : Nat), h47 b49 = none → let h50 : Hp := Hp.set h47 b49 (cellsO [(vsl a46 n46 c46)] 39); (SemOK Try.prog (Builtin.append_ #[109, 109] 109 #[(vsl a48 n48 c48), (vsl (some (⟨b49, 0, none⟩ : Addr)) 1 1)]) h50 fun v51 h52 => ∃ (a53 : Option Addr) (n53 c53 : Nat), v51 = (vsl a53 n53 c53) ∧ (∃ (x55 : Int), (IsW x55 ((i : Int) + 1)) ∧ ((∃ (i : Nat) (a : Option Addr) (c : Nat) (Q : List (TRow Nd)), [(vsl a53 n53 c53), (vi x55)] = [vsl a Q.length c, vi i] ∧ i ≤ l.length ∧ h.le h52 ∧ StkR h52 a Q.length c Q ∧ F0S (Q.map Prod.snd).reverse i) ∧ l.length - (vint [(vsl a53 n53 c53), (vi x55)] 1).toNat < l.length - (vint [vsl a1 Q.length c1, vi i] 1).toNat))))) := by
      intro kk hkk z a46 n46 c46 h47 l47 SZ FZ
      obtain rfl := SZ.s.1
      refine ⟨_, _, _, rd_slice_hm (e := 39) (by kernel_rfl) (by kernel_rfl) (by omega) (Int.le_refl _) (by omega), fun b49 hb49 => ?_⟩
      intro h50
      rw [Int.toNat_natCast]
      have l50 : h47.le h50 := Hp.le_set (Hp.le_refl h47) hb49 _
      have SK := (SQ.s.le (Hp.le_trans l47 l50)).take encR_len hkk
      have hfl : ((Q.take kk).flatMap encR).length = kk * 1 := by rw [flatMap_length encR_len, ← SK.1]
      refine sem_append_full elRow SK.2 hfl (fun hn => ?_) (HasRow.new _ _ [vsl a46 z.length c46] _) (m := 1) rfl (Nat.succ_pos 0) (by omega) (by omega) fun a' c' h' O' => ⟨_, _, _, rfl, _, isW (by unfold InR; omega), ⟨i + 1, a', c', Q.take kk ++ [((a46, c46), z)], ?_, by omega, ?_, ⟨?_, ?_, ?_⟩, ?_⟩, by simp [vint]; omega⟩
      · rcases SK.2 with h1 | ⟨b', o', h1, _⟩
        · rw [h1] at hfl; simp at hfl; omega
        · rw [hn] at h1; cases h1
      · rw [List.length_append, ← SK.1]; rfl
      · exact Hp.le_trans (Hp.le_trans (Hp.le_trans hle l47) l50) O'.le
      · have : (Q.take kk ++ [((a46, c46), z)]).flatMap encR = (Q.take kk).flatMap encR ++ [vsl a46 z.length c46] := by rw [List.flatMap_append]; rfl
        rw [← this] at O'
        have := Own.slp encR_len (by decide) O'
        rw [List.length_append, ← SK.1]
        exact this
      · rw [List.length_append, ← SK.1]
        exact O'.own.cap
      · intro r hr
        rcases List.mem_append.1 hr with h1 | h1
        · exact (SQ.r r (List.mem_of_mem_take h1)).le (Hp.le_trans (Hp.le_trans l47 l50) O'.le)
        · rw [List.mem_singleton] at h1
          subst h1
          exact SZ.le (Hp.le_trans l50 O'.le)
      · rw [List.map_append, List.reverse_append]
        exact FZ
    have own : ∀ (kk : Nat), kk ≤ Q.length → Rd Try.prog (Instr.sliceAt 109 (vsl a1 Q.length c1) (some (vi kk)) none none) hh (vsl (cutA a1 kk c1 1) (Q.length - kk) (c1 - kk)) ∧ SlP encR hh (cutA a1 kk c1 1) (Q.length - kk) (Q.drop kk) := by
      intro kk hkk
      have := rd_slice_l (P := Try.prog) (h := hh) (t := 109) (e := 39) (by kernel_rfl) (by kernel_rfl) (a := a1) (n := Q.length) (c := c1) (x := (kk : Int)) (by omega) (by omega)
      rw [hsz, Int.toNat_natCast] at this
      exact ⟨this, SQ.s.drop encR_len hkk hcap⟩
    rcases st with ⟨h0, F0⟩ | ⟨h1, z, s', hs, C1⟩ | ⟨h2, z, z', s', hs, C2⟩
    · rw [h0]
      refine ⟨(Q.length : Nat), by have := isW (e := ((Q.length : Nat) : Int) - 0) (by unfold InR; omega); rw [Int.sub_zero] at this ⊢; exact this, _, _, _, (own Q.length (Nat.le_refl _)).1, fun _ => ?_, fun g => ?_⟩
      · intro b23 hb23 h24
        refine fin Q.length (Nat.le_refl _) [n] _ _ _ h24 (Hp.le_set (Hp.le_refl hh) hb23 _) ⟨⟨rfl, HasRow.new _ _ (encN n) _⟩, Nat.le_refl _⟩ ?_
        rw [List.take_length]
        exact F0
      · exfalso
        have := of_decide_eq_false g
        omega
    · obtain ⟨r, eQ, er, es, hQ1, hr1⟩ := rev_top hs
      rw [h1]
      refine ⟨((Q.length - 1 : Nat) : Int), by have := isW (e := ((Q.length : Nat) : Int) - 1) (by unfold InR; omega); rw [show ((Q.length : Nat) : Int) - 1 = ((Q.length - 1 : Nat) : Int) by omega] at this ⊢; exact this, _, _, _, (own (Q.length - 1) (by omega)).1, fun g => ?_, fun g => ⟨fun _ => ?_, fun g => ?_⟩⟩
      · exfalso
        have := of_decide_eq_true g
        omega
      · have S1 := (own (Q.length - 1) (by omega)).2
        obtain ⟨b1, o1, ha1, hc1⟩ := S1.get encR_len (by decide) (i := 0) (x := r) (by rw [List.getElem?_drop]; exact hr1)
        have NR := SQ.r r (List.mem_of_getElem? hr1)
        refine ⟨b1, o1, ⟨ha1, by decide, by omega⟩, _, _, _, Hp.row_cell hc1 (i := 0) rfl, ?_⟩
        rw [er] at NR ⊢
        refine C1 _ _ _ _ _ NR fun a' n' c' h' y l' SY Y => ⟨_, _, _, rfl, ?_⟩
        refine fin (Q.length - 1) (by omega) y _ _ _ _ l' SY ?_
        rw [es]
        exact Y
      · exfalso
        have := of_decide_eq_false g
        omega
    · obtain ⟨r', eQ, er', es', hQ1, hr1⟩ := rev_top hs
      obtain ⟨r, eQ2, er, es, hQ2, hr2⟩ := rev_top es'
      rw [List.length_take] at eQ2 es hQ2 hr2
      have e2 : min (Q.length - 1) Q.length - 1 = Q.length - 2 := by omega
      rw [e2] at eQ2 es hr2
      rw [List.take_take, show min (Q.length - 2) (Q.length - 1) = Q.length - 2 by omega] at es
      rw [List.getElem?_take, if_pos (by omega)] at hr2
      rw [h2]
      refine ⟨((Q.length - 2 : Nat) : Int), by have := isW (e := ((Q.length : Nat) : Int) - 2) (by unfold InR; omega); rw [show ((Q.length : Nat) : Int) - 2 = ((Q.length - 2 : Nat) : Int) by omega] at this ⊢; exact this, _, _, _, (own (Q.length - 2) (by omega)).1, fun g => ?_, fun g => ⟨fun g => ?_, fun g => ?_⟩⟩
      · exfalso
        have := of_decide_eq_true g
        omega
      · exfalso
        have := of_decide_eq_true g
        omega
      · have S1 := (own (Q.length - 2) (by omega)).2
        obtain ⟨b1, o1, ha1, hc1⟩ := S1.get encR_len (by decide) (i := 0) (x := r) (by rw [List.getElem?_drop]; exact hr2)
        obtain ⟨b2, o2, ha2, hc2⟩ := S1.get encR_len (by decide) (i := 1) (x := r') (by rw [List.getElem?_drop, show Q.length - 2 + 1 = Q.length - 1 by omega]; exact hr1)
        have NR := SQ.r r (List.mem_of_getElem? hr2)
        have NR' := SQ.r r' (List.mem_of_getElem? hr1)
        refine ⟨b1, o1, ⟨ha1, by decide, by omega⟩, _, _, _, Hp.row_cell hc1 (i := 0) rfl, b2, o2, ⟨ha2, by decide, by omega⟩, _, _, _, Hp.row_cell hc2 (i := 0) rfl, ?_⟩
        rw [er] at NR ⊢
        rw [er'] at NR' ⊢
        refine C2 _ _ _ _ _ _ _ _ NR NR' fun a' n' c' h' y l' SY Y => ⟨_, _, _, rfl, ?_⟩
        refine fin (Q.length - 2) (by omega) y _ _ _ _ l' SY ?_
        rw [es]
        exact Y
  · have hge : i = l.length := by have := of_decide_eq_false g; omega
    subst hge
    obtain ⟨z, hz, A⟩ := hz _ F
    obtain ⟨r, eQ, er, es, hQ1, hr1⟩ := rev_top hz
    have hQ : Q.length = 1 := by have := congrArg List.length hz; simpa using this
    rw [hQ] at hr1
    obtain ⟨b1, o1, ha1, hc1⟩ := SQ.s.get encR_len (by decide) (i := 0) (x := r) hr1
    have NR := SQ.r r (List.mem_of_getElem? hr1)
    refine ⟨b1, o1, ⟨ha1, by decide, by omega⟩, _, _, _, Hp.row_cell hc1 (i := 0) rfl, ?_⟩
    rw [er] at NR ⊢
    exact hK _ _ _ _ _ hle NR A
theorem fold_Fold_ok (S : SlP encN h a m l) (O : OkE l) (hm : l.length ≤ 100000) {R : Value → Hp → Prop}
    (hK : ∀ a' n' c' h' z, h.le h' → NS h' a' n' c' z → Rep (fun ev => valE ev l) (tAt l (l.length - 1)) l.length z → R (vsl a' n' c') h') : CallOK Try.prog 17 [vsl a m c] h R := by
  refine fold_Fold_gen (F0S := FStk l) S ⟨.nil, fun s i F => F.len, fun s i n F hn => ?_⟩ (fun s F => F.done O) hm hK
  have hi := F.all
  rcases F.step O hn with h0 | ⟨h1, z, s', P, T, k, hs, hk, A, F1⟩ | ⟨h2, z, z', s', P, T, k, Q2, U, j, hs, hk, A, B, F2⟩
  · exact .inl h0
  · exact .inr (.inl ⟨h1, z, s', hs, fun a m c h R N hR => fold_single_ok h1 N A (by omega) fun a' n' c' h' y l' SY Y => hR _ _ _ _ _ l' SY (F1 y Y)⟩)
  · exact .inr (.inr ⟨h2, z, z', s', hs, fun a m c a2 m2 c2 h R N N' hR => fold_double_ok h2 N A (by omega) N' B (by omega) fun a' n' c' h' y l' SY Y => hR _ _ _ _ _ l' SY (F2 y Y)⟩)
/-- Two constants: one. -/
theorem fold_double_c {op : Int} {v w : Int × Int} (S : NS h a m c (cst v)) {a2 : Option Addr} {m2 c2 : Nat} (S2 : NS h a2 m2 c2 (cst w)) {R : Value → Hp → Prop}
    (hK : ∀ a' c' h', h.le h' → NS h' a' 1 c' (cst (doV op v w)) → R (vsl a' 1 c') h') : CallOK Try.prog 50 [vi op, vsl a m c, vsl a2 m2 c2] h R := by
  refine ok_fold_double ?_
  unfold VC_fold_double
  refine fold_constant_c S.s ⟨_, _, true, rfl, fold_constant_c S2.s ⟨_, _, true, rfl, fun _ => ?_, fun g => by cases g⟩⟩
  exact value_Do_ok (a := v) (b := w) ⟨_, _, rfl, fold_of_ok (v := doV op v w) fun a' c' h' l' S' => ⟨_, _, _, rfl, hK _ _ _ l' S'⟩⟩
end
end Go.Proofs.Ytgonnpleihbklaa
