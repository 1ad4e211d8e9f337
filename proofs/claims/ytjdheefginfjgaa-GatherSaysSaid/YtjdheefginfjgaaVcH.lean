/-
  The framework of this prover's proofs, part H: code and functions. Conditions: none.
-/
import Derived.Test.YtjdheefginfjgaaVcX
set_option linter.unusedVariables false
namespace Go.Vc
open Go

section
variable {P : Program} {cfg : Cfg} {w0 : World} {h0 : Hp}

theorem dsts_sub {o : Oper} {l : List Oper} {i : Nat} (hi : i ∈ dstL o.dst) : i ∈ dstsL (o :: l) := by
  simp only [dstsL]
  cases hd : o.dst with
  | none => rw [hd] at hi; simp [dstL] at hi
  | some d => rw [hd] at hi; simp [dstL] at hi; simp [hi]
theorem dsts_tail {o : Oper} {l : List Oper} {i : Nat} (hi : i ∈ dstsL l) : i ∈ dstsL (o :: l) := by
  simp only [dstsL]
  cases o.dst <;> simp [hi]

theorem vcOps_ok (hP : NoNG P) {ops : Array Oper} {Q : Exit → Act → World → Prop} : ∀ (l : List Oper) {st : St} {h : Hp} {a : Act} {w : World} {K : St → Hp → Prop}, Rel w0 h0 st h a w → vcOps P cfg ops l st h K →
    (∀ st' h' a' w', K st' h' → Rel w0 h0 st' h' a' w' → Ev (dstsL l) st st' → Q .normal a' w') → wpList P ops Q l a w
  | [], st, h, a, w, K, R, H, hn => hn st h a w H R (Ev.refl _ _)
  | o :: l, st, h, a, w, K, R, H, hn => by
    refine vcOp_ok hP R (show vcOp P cfg ops o st h _ from H) ?_
    intro st' h' a' w' hk R' E'
    refine vcOps_ok hP l R' hk ?_
    intro st2 h2 a2 w2 hk2 R2 E2
    exact hn st2 h2 a2 w2 hk2 R2 ((E'.mono fun i hi => dsts_sub hi).trans (E2.mono fun i hi => dsts_tail hi))

theorem noGd {ρ : Nat → Option Nat} {st : St} {h : Hp} {a : Act} {w : World} (R : RelR ρ w0 h0 st h a w) (hg : st.g = (fun _ => false)) (i s : Nat) (p : Bool) (x : SV) : st.t i ≠ .gd s p x := by
  intro e
  have := R.gd i s p x e
  rw [hg] at this
  simp at this

theorem endR_ok {st0 st : St} {h : Hp} {a : Act} {w : World} {D : List Nat} (R0 : ∀ i s p x, st0.t i ≠ .gd s p x) (R : Rel w0 h0 st h a w) (E : Ev D st0 st) : Rel w0 h0 (endR D st) h a w ∧ (endR D st).g = (fun _ => false) ∧ Ev D st0 (endR D st) := by
  obtain ⟨ρ, R⟩ := R
  have hno : ∀ i s p x, (endR D st).t i ≠ .gd s p x := by
    intro i s p x e
    simp only [endR] at e
    split at e
    · simp at e
    · rename_i s' p' x' hi
      cases hm : memN i D with
      | true => rw [hm] at e; simp at e
      | false =>
        have : i ∉ D := by intro hd; rw [memN_iff.2 hd] at hm; simp at hm
        rw [E.t i this] at hi
        exact R0 i _ _ _ hi
  refine ⟨⟨ρ, R.n, R.d, fun i => ?_, fun i s p x e => (hno i s p x e).elim, R.sub, R.F, R.box, R.dom, R.inj⟩, rfl, E.n, fun i hi => ?_, E.b⟩
  · have hr := R.fr i
    simp only [endR]
    split
    · rename_i x hx; rw [hx] at hr; exact hr
    · rename_i s p x hx
      cases hm : memN i D with
      | true => exact trivial
      | false =>
        have : i ∉ D := by intro hd; rw [memN_iff.2 hd] at hm; simp at hm
        rw [E.t i this] at hx
        exact (R0 i _ _ _ hx).elim
  · have e := E.t i hi
    simp only [endR]
    split
    · rename_i x hx; rw [← e, hx]
    · rename_i s p x hx; rw [e] at hx; exact (R0 i _ _ _ hx).elim

def toEx : Exit → Option Ex
  | .normal => some .nrm
  | .exit id => some (.ext id)
  | .ret => some .ret
  | _ => none

/-- What the wp of a piece of code is to end in. -/
def Post (w0 : World) (h0 : Hp) (D : List Nat) (st : St) (Q : Ex → St → Hp → Prop) (e : Exit) (a : Act) (w : World) : Prop :=
  ∃ x st' h', toEx e = some x ∧ Q x st' h' ∧ Rel w0 h0 st' h' a w ∧ st'.g = (fun _ => false) ∧ Ev D st st'

theorem wp_loop_n {c : Code} {Q : Exit → Act → World → Prop} {a : Act} {w : World} (I : Nat → Act → World → Prop) (n : Nat) (h1 : I n a w)
    (round : ∀ n a w, I n a w → c.wp P (Exit.then (fun a' w' => ∃ m, m < n ∧ I m a' w') Q) a w) : (Code.loop c).wp P Q a w := by
  intro b k cs
  have key : ∀ n a w, I n a w → ∃ e a' w', Q e a' w' ∧ Arrives P (lone (b.at a (.code c :: .inLoop c :: k)) cs w) b k cs e a' w' := by
    intro n
    induction n using Nat.strongRecOn with
    | _ n ih =>
      intro a w hI
      obtain ⟨e, a₁, w₁, hq, harr⟩ := round n a w hI b (.inLoop c :: k) cs
      cases e with
      | normal =>
        obtain ⟨m, hlt, hI₁⟩ := hq
        obtain ⟨e₂, a₂, w₂, hq₂, harr₂⟩ := ih m hlt a₁ w₁ hI₁
        exact ⟨e₂, a₂, w₂, hq₂, .of_steps (Steps.trans harr (.one step_inLoop)) harr₂⟩
      | exit id => exact ⟨_, a₁, w₁, hq, .pass (x := .inLoop c) rfl (fun _ _ => .inl (by simp)) harr⟩
      | goto l => exact ⟨_, a₁, w₁, hq, .pass (x := .inLoop c) rfl (fun _ _ => .inl (by simp)) harr⟩
      | ret => exact ⟨_, a₁, w₁, hq, .pass (x := .inLoop c) rfl (fun _ _ => .inl (by simp)) harr⟩
      | panic ch => exact ⟨_, a₁, w₁, hq, .pass (x := .inLoop c) rfl (fun _ _ => .inl (by simp)) harr⟩
      | outgrown => exact ⟨_, a₁, w₁, hq, .pass (x := .inLoop c) rfl (fun _ _ => .inl (by simp)) harr⟩
  obtain ⟨e, a', w', hq, harr⟩ := key n a w h1
  exact ⟨e, a', w', hq, .of_steps (.one step_loop) harr⟩

theorem twals_length (l : List TW) : (twals l).length = l.length := by induction l <;> simp_all [twals]

theorem slotVals_len {st : St} : ∀ {l : List Nat} {vs : List Value}, slotVals st l = some vs → vs.length = l.length
  | [], vs, H => by simp [slotVals] at H; simp [← H]
  | s :: l, vs, H => by
    simp only [slotVals] at H
    split at H
    · rename_i x vs' hx hl
      simp only [Option.some.injEq] at H
      subst H
      simp [slotVals_len hl]
    · simp at H

theorem setSlots_ok {ρ : Nat → Option Nat} {tm : Array Value} {st : St} (hst : ∀ i x, st.t i = .s (.t x) → tm.getD i undef = x.val) : ∀ (slots : List Nat) (xs : List TW) (t : Nat → Sl),
    (∀ i, (t i).ok ρ tm (tm.getD i undef)) → slotVals st slots = some (twals xs) → ∀ i, (setSlots t slots xs i).ok ρ tm (tm.getD i undef)
  | [], xs, t, ht, _ => by intro i; simpa [setSlots] using ht i
  | s :: l, [], t, ht, H => by intro i; simpa [setSlots] using ht i
  | s :: l, x :: xs, t, ht, H => by
    simp only [slotVals] at H
    split at H
    · rename_i y vs' hy hl
      simp only [Option.some.injEq, twals, List.cons.injEq] at H
      refine setSlots_ok hst l xs _ ?_ (by rw [hl, H.2])
      intro i
      cases hb : Nat.beq i s with
      | true =>
        have := Nat.eq_of_beq_eq_true hb
        subst this
        have e := hst i y hy
        simp only [cond_true, Sl.ok, SV.ok]
        rw [e, H.1]
      | false => exact ht i
    · simp at H

theorem setSlots_other : ∀ (slots : List Nat) (xs : List TW) (t : Nat → Sl) (i : Nat), i ∉ slots → setSlots t slots xs i = t i
  | [], xs, t, i, _ => by simp [setSlots]
  | s :: l, [], t, i, _ => by simp [setSlots]
  | s :: l, x :: xs, t, i, hi => by
    simp only [List.mem_cons, not_or] at hi
    simp only [setSlots]
    rw [setSlots_other l xs _ i hi.2]
    have : Nat.beq i s = false := by cases hq : Nat.beq i s <;> simp_all
    simp [this]
theorem setSlots_nogd : ∀ (slots : List Nat) (xs : List TW) (t : Nat → Sl), (∀ i s p x, t i ≠ .gd s p x) → ∀ i s p x, setSlots t slots xs i ≠ .gd s p x
  | [], xs, t, ht => by simpa [setSlots] using ht
  | s :: l, [], t, ht => by simpa [setSlots] using ht
  | s :: l, x :: xs, t, ht => by
    simp only [setSlots]
    refine setSlots_nogd l xs _ ?_
    intro i s' p y
    cases hb : Nat.beq i s with
    | true => simp
    | false => exact ht i s' p y

theorem subN_spec {l d : List Nat} (H : subN l d = true) : ∀ i, i ∈ l → i ∈ d := by
  induction l with
  | nil => simp
  | cons x l ih =>
    simp only [subN, Bool.and_eq_true] at H
    intro i hi
    rcases List.mem_cons.1 hi with rfl | hi
    · exact memN_iff.1 H.1
    · exact ih H.2 i hi

theorem setBoxes_spec : ∀ (bxs : List (Nat × List Sh1)) (ys : List (List TV)) (b : List Box) (j : Nat), (setBoxes b bxs ys)[j]? = b[j]? ∨ (∃ x y, b[j]? = some x ∧ (setBoxes b bxs ys)[j]? = some y ∧ y.ty = x.ty ∧ x.st < y.st ∧ (lookN j bxs).isSome = true)
  | [], ys, b, j => by left; simp [setBoxes]
  | (i, s) :: l, [], b, j => by left; simp [setBoxes]
  | (i, s) :: l, y :: ys, b, j => by
    simp only [setBoxes]
    cases hb : b[i]? with
    | none =>
      simp only
      rcases setBoxes_spec l ys b j with h | ⟨u, v, h1, h2, h3, h4, h5⟩
      · exact .inl h
      · refine .inr ⟨u, v, h1, h2, h3, h4, ?_⟩
        simp only [lookN]
        cases hq : Nat.beq j i <;> simp [h5]
    | some bx =>
      simp only
      rcases setBoxes_spec l ys (setAt b i ⟨bx.ty, y, bx.st + 1⟩) j with h | ⟨u, v, h1, h2, h3, h4, h5⟩
      · rw [setAt_get] at h
        split at h
        · rename_i e
          obtain ⟨rfl, _⟩ := e
          right
          refine ⟨bx, _, (by first | exact hb | rfl), h, rfl, by simp, ?_⟩
          simp [lookN]
        · exact .inl h
      · rw [setAt_get] at h1
        split at h1
        · rename_i e
          obtain ⟨rfl, _⟩ := e
          simp only [Option.some.injEq] at h1
          subst h1
          refine .inr ⟨bx, v, (by first | exact hb | rfl), h2, h3, by simp at h4; omega, by simp [lookN]⟩
        · refine .inr ⟨u, v, h1, h2, h3, h4, ?_⟩
          simp only [lookN]
          cases hq : Nat.beq j i <;> simp [h5]

theorem setBoxes_len : ∀ (bxs : List (Nat × List Sh1)) (ys : List (List TV)) (b : List Box), (setBoxes b bxs ys).length = b.length
  | [], ys, b => by simp [setBoxes]
  | (i, s) :: l, [], b => by simp [setBoxes]
  | (i, s) :: l, y :: ys, b => by
    simp only [setBoxes]
    cases hb : b[i]? with
    | none => simp only; exact setBoxes_len l ys b
    | some bx => simp only; rw [setBoxes_len l ys _, setAt_length]

theorem exLL_elim : ∀ {l : List (Nat × List Sh1)} {K : List (List TV) → Prop}, exLL l K → ∃ ys, K ys ∧ ys.length = l.length ∧ ∀ (k : Nat) (q : Nat × List Sh1) (y : List TV), l[k]? = some q → ys[k]? = some y → y.length = q.2.length
  | [], K, H => ⟨[], H, rfl, by simp⟩
  | (i, s) :: l, K, H => by
    obtain ⟨x, H, hx⟩ := exL_elim (show exL s _ from H)
    obtain ⟨xs, H, e, hl⟩ := exLL_elim H
    refine ⟨x :: xs, H, by simp [e], fun k q y h1 h2 => ?_⟩
    cases k with
    | zero => simp at h1 h2; subst h1; subst h2; exact hx
    | succ k => exact hl k q y (by simpa using h1) (by simpa using h2)
theorem ex0L_elim' : ∀ {l : List Sh0} {K : List TW → Prop}, ex0L l K → ∃ x, K x ∧ x.length = l.length
  | [], K, H => ⟨[], H, rfl⟩
  | s :: l, K, H => by
    obtain ⟨x, H⟩ := ex0_elim (show ex0 s _ from H)
    obtain ⟨xs, H, e⟩ := ex0L_elim' H
    exact ⟨x :: xs, H, by simp [e]⟩

/-- A loop's head: from a frame that fits, whose slots and boxes hold what goes round. -/
theorem loopSt_rel {st st' : St} {h : Hp} {a : Act} {w : World} {D slots : List Nat} {bxs : List (Nat × List Sh1)} {xs : List TW} {ys : List (List TV)}
    (hg0 : ∀ i s p x, st.t i ≠ .gd s p x) (hbnd : ∀ i j o, i ∉ D → st.t i = .s (.bp j o) → j < st.b.length) (hsub : ∀ i, i ∈ slots → i ∈ D)
    (R : Rel w0 h0 st' h a w) (hg' : st'.g = (fun _ => false)) (hn : st'.n = st.n) (ht : ∀ i, i ∉ D → st'.t i = st.t i)
    (hlb : st.b.length ≤ st'.b.length) (hty : ∀ (j : Nat) (x y : Box), st.b[j]? = some x → st'.b[j]? = some y → y.ty = x.ty)
    (hsame : ∀ (j : Nat) (x y : Box), (lookN j bxs).isSome = false → st.b[j]? = some x → st'.b[j]? = some y → tvals y.c = tvals x.c)
    (hbi : ∀ (k : Nat) (q : Nat × List Sh1), bxs[k]? = some q → q.1 < st.b.length)
    (hv : loopVals st' slots bxs = some (twals xs ++ tvalsL ys)) (hxl : xs.length = slots.length) (hyl : ys.length = bxs.length)
    (hylen : ∀ (k : Nat) (q : Nat × List Sh1) (y : List TV) (x : Box), bxs[k]? = some q → ys[k]? = some y → st'.b[q.1]? = some x → y.length = x.c.length)
    (hg : st.g = (fun _ => false)) : Rel w0 h0 (loopSt st D slots bxs xs ys) h a w := by
  obtain ⟨ρ, R⟩ := R
  have hsv : slotVals st' slots = some (twals xs) ∧ boxVals st' bxs = some (tvalsL ys) := by
    unfold loopVals at hv
    split at hv
    · rename_i u v hu hv'
      simp only [Option.some.injEq] at hv
      have hl := slotVals_len hu
      obtain ⟨e1, e2⟩ := List.append_inj hv (by rw [hl, twals_length, hxl])
      exact ⟨by rw [hu, e1], by rw [hv', e2]⟩
    · simp at hv
  -- the boxes of the head against the frame's
  have key : ∀ (j : Nat) (x y : Box), (setBoxes st.b bxs ys)[j]? = some x → st'.b[j]? = some y → tvals x.c = tvals y.c ∧ x.ty = y.ty := by
    have : ∀ (l : List (Nat × List Sh1)) (zs : List (List TV)) (b : List Box), boxVals st' l = some (tvalsL zs) → zs.length = l.length →
        (∀ (k : Nat) (q : Nat × List Sh1) (y : List TV) (x : Box), l[k]? = some q → zs[k]? = some y → st'.b[q.1]? = some x → y.length = x.c.length) →
        (∀ (k : Nat) (q : Nat × List Sh1), l[k]? = some q → q.1 < b.length) →
        (∀ (j : Nat) (x y : Box), b[j]? = some x → st'.b[j]? = some y → (tvals x.c = tvals y.c ∨ (lookN j l).isSome = true) ∧ x.ty = y.ty) →
        ∀ (j : Nat) (x y : Box), (setBoxes b l zs)[j]? = some x → st'.b[j]? = some y → tvals x.c = tvals y.c ∧ x.ty = y.ty := by
      intro l
      induction l with
      | nil => intro zs b _ _ _ _ hb j x y hx hy; obtain ⟨h1, h2⟩ := hb j x y (by simpa [setBoxes] using hx) hy; exact ⟨h1.resolve_right (by simp [lookN]), h2⟩
      | cons q l ih =>
        obtain ⟨i, s⟩ := q
        intro zs b H hl hlen hbi hb
        cases zs with
        | nil => simp at hl
        | cons z zs =>
          simp only [boxVals] at H
          split at H
          · rename_i bx vs hbx hvs
            simp only [Option.some.injEq, tvalsL] at H
            have hylen := hlen 0 (i, s) z bx rfl rfl hbx
            have hsp := List.append_inj H (by simp [tvals_length, hylen])
            have hib : i < b.length := hbi 0 (i, s) rfl
            obtain ⟨b0, hb0⟩ : ∃ b0, b[i]? = some b0 := ⟨b[i], by simp [hib]⟩
            simp only [setBoxes, hb0]
            refine ih zs _ (by rw [hvs, hsp.2]) (by simpa using hl) (fun k q y' x h1 h2 h3 => hlen (k + 1) q y' x (by simpa using h1) (by simpa using h2) h3)
              (fun k q hq => by rw [setAt_length]; exact hbi (k + 1) q (by simpa using hq)) ?_
            intro j x y hx hy
            rw [setAt_get] at hx
            split at hx
            · rename_i e
              obtain ⟨rfl, _⟩ := e
              rw [hbx] at hy
              obtain rfl := Option.some.inj hy
              simp only [Option.some.injEq] at hx
              subst hx
              exact ⟨.inl hsp.1.symm, (hb j b0 bx hb0 hbx).2⟩
            · rename_i e
              obtain ⟨h1, h2⟩ := hb j x y hx hy
              refine ⟨?_, h2⟩
              rcases h1 with h1 | h1
              · exact .inl h1
              · simp only [lookN] at h1
                cases hq : Nat.beq j i with
                | true =>
                  have := Nat.eq_of_beq_eq_true hq
                  subst this
                  exact (e ⟨rfl, hib⟩).elim
                | false => rw [hq] at h1; exact .inr h1
          · simp at H
    refine this bxs ys st.b hsv.2 hyl hylen hbi ?_
    intro j x y hx hy
    refine ⟨?_, (hty j x y hx hy).symm⟩
    cases hq : (lookN j bxs).isSome with
    | true => exact .inr rfl
    | false => exact .inl (hsame j x y hq hx hy).symm
  refine ⟨fun i => if i < st.b.length then ρ i else none, ?_, R.d, ?_, ?_, R.sub, R.F, ?_, ?_, ?_⟩
  · rw [R.n, hn]; rfl
  · have hst : ∀ i x, st'.t i = .s (.t x) → a.tmps.getD i undef = x.val := by
      intro i x hx
      have := R.fr i
      rw [hx] at this
      exact this
    refine setSlots_ok (st := st') hst slots xs _ ?_ hsv.1
    intro i
    cases hm : memN i D with
    | true => exact trivial
    | false =>
      have hi : i ∉ D := by intro hd; rw [memN_iff.2 hd] at hm; simp at hm
      have hr := R.fr i
      rw [ht i hi] at hr
      simp only [cond_false]
      cases hs : st.t i with
      | gd s p x => exact (hg0 i s p x hs).elim
      | s x =>
        rw [hs] at hr
        cases x with
        | bp j o =>
          obtain ⟨b, h1, h2⟩ := hr
          exact ⟨b, by simp [hbnd i j o hi hs, h1], h2⟩
        | _ => exact hr
  · intro i s p x e
    refine (setSlots_nogd slots xs _ ?_ i s p x e).elim
    intro i s p x
    cases hm : memN i D with
    | true => simp
    | false => exact hg0 i s p x
  · intro i bx hbx
    have hil : i < st.b.length := by
      have := (List.getElem?_eq_some_iff.1 hbx).1
      simpa [loopSt, setBoxes_len] using this
    obtain ⟨by', hby⟩ : ∃ y, st'.b[i]? = some y := ⟨st'.b[i]'(by omega), by simp [show i < st'.b.length by omega]⟩
    obtain ⟨b, h1, h2, h3, h4⟩ := R.box i by' hby
    obtain ⟨k1, k2⟩ := key i bx by' hbx hby
    exact ⟨b, by simp [hil, h1], by rw [k1, k2]; exact h2, h3, h4⟩
  · intro i b hi
    split at hi
    · rename_i hl; simpa [loopSt, setBoxes_len] using hl
    · simp at hi
  · intro i j b hi hj
    split at hi
    · split at hj
      · exact R.inj i j b hi hj
      · simp at hj
    · simp at hi

theorem sameB_spec : ∀ (l m : List Box) (bxs : List (Nat × List Sh1)) (k : Nat), sameB k l m bxs = true → l.length ≤ m.length ∧ ∀ (j : Nat) (x y : Box), (lookN (k + j) bxs).isSome = false → l[j]? = some x → m[j]? = some y → x.st = y.st
  | [], m, bxs, k, _ => ⟨by simp, by simp⟩
  | x :: l, [], bxs, k, H => by simp [sameB] at H
  | x :: l, y :: m, bxs, k, H => by
    simp only [sameB, Bool.and_eq_true, Bool.or_eq_true] at H
    obtain ⟨h1, h2⟩ := sameB_spec l m bxs (k + 1) H.2
    refine ⟨by simp; exact h1, fun j u v hj hu hv => ?_⟩
    cases j with
    | zero =>
      simp at hu hv hj
      subst hu; subst hv
      rcases H.1 with h | h
      · rw [hj] at h; simp at h
      · exact Nat.eq_of_beq_eq_true h
    | succ j => exact h2 j u v (by rw [show k + 1 + j = k + (j + 1) by omega]; exact hj) (by simpa using hu) (by simpa using hv)

theorem chkLens_spec {st : St} : ∀ {l : List (Nat × List Sh1)}, chkLens st l = true → ∀ (k : Nat) (q : Nat × List Sh1), l[k]? = some q → ∃ bx, st.b[q.1]? = some bx ∧ bx.c.length = q.2.length
  | [], _, k, q, hq => by simp at hq
  | (i, s) :: l, H, k, q, hq => by
    simp only [chkLens, Bool.and_eq_true] at H
    cases k with
    | zero =>
      simp at hq
      subst hq
      cases hb : st.b[i]? with
      | none => rw [hb] at H; simp at H
      | some bx => rw [hb] at H; exact ⟨bx, rfl, Nat.eq_of_beq_eq_true H.1⟩
    | succ k => exact chkLens_spec H.2 k q (by simpa using hq)

theorem boxMono_len {b b' : List Box} (H : BoxMono b b') : b.length ≤ b'.length := by
  rcases Nat.lt_or_ge b'.length b.length with h | h
  · obtain ⟨x, hx⟩ : ∃ x, b[b'.length]? = some x := ⟨b[b'.length], by simp [h]⟩
    obtain ⟨y, hy, _⟩ := H _ _ hx
    have := (List.getElem?_eq_some_iff.1 hy).1
    omega
  · exact h

theorem loopSt_ev {st : St} {D slots : List Nat} {bxs : List (Nat × List Sh1)} {xs : List TW} {ys : List (List TV)} (hsub : ∀ i, i ∈ slots → i ∈ D) : Ev D st (loopSt st D slots bxs xs ys) := by
  refine ⟨rfl, fun i hi => ?_, ?_⟩
  · simp only [loopSt]
    rw [setSlots_other _ _ _ _ (fun h => hi (hsub i h))]
    have : memN i D = false := by cases hm : memN i D with | true => exact (hi (memN_iff.1 hm)).elim | false => rfl
    simp [this]
  · intro i x hx
    rcases setBoxes_spec bxs ys st.b i with h | ⟨u, v, h1, h2, h3, h4, h5⟩
    · exact ⟨x, by simp only [loopSt]; rw [h, hx], rfl, Nat.le_refl _, fun _ => rfl⟩
    · rw [hx] at h1
      obtain rfl := Option.some.inj h1
      exact ⟨v, h2, h3, by omega, fun e => by omega⟩

theorem vcC_ok (hP : NoNG P) (hm : P.follows .mixedOrders = true) : ∀ (c : Code) {st : St} {h : Hp} {a : Act} {w : World} {Q : Ex → St → Hp → Prop}, vcC P cfg c st h Q → st.g = (fun _ => false) → Rel w0 h0 st h a w → c.wp P (Post w0 h0 (dstsC c) st Q) a w := by
  intro c
  induction c with
  | skip => intro st h a w Q H hg R; exact wp_skip ⟨.nrm, st, h, rfl, H, R, hg, Ev.refl _ _⟩
  | region id ops draw =>
    intro st h a w Q H hg R
    simp only [vcC] at H
    cases draw with
    | true =>
      simp only [cond_true] at H
      split at H
      · rename_i l hl
        rcases Bool.eq_false_or_eq_true (chkOrd ops (befM ops.toList []) [] l && allIn ops.size l) with hc | hc
        · rw [hc] at H
          simp only [cond_true] at H
          simp only [Bool.and_eq_true] at hc
          refine wp_draw hP hm hc.1 hc.2 R H ?_
          intro st' h' a' w' hk R' E'
          obtain ⟨ρ, R0⟩ := R
          obtain ⟨k1, k2, k3⟩ := endR_ok (noGd R0 hg) R' E'
          exact ⟨.nrm, _, h', rfl, hk, k1, k2, k3⟩
        · rw [hc] at H; exact H.elim
      · exact H.elim
    | false =>
      simp only [cond_false] at H
      refine wp_region_list (vcOps_ok hP ops.toList R H ?_)
      intro st' h' a' w' hk R' E'
      obtain ⟨ρ, R0⟩ := R
      obtain ⟨k1, k2, k3⟩ := endR_ok (noGd R0 hg) R' E'
      exact ⟨.nrm, _, h', rfl, hk, k1, k2, k3⟩
  | seq x y ihx ihy =>
    intro st h a w Q H hg R
    refine wp_seq (wp_mono (ihx H hg R) ?_)
    rintro e a' w' ⟨ex, st', h', he, hq, R', hg', E'⟩
    have hD : ∀ i, i ∈ dstsC x → i ∈ dstsC (.seq x y) := fun i hi => by simp [dstsC, hi]
    have hD' : ∀ i, i ∈ dstsC y → i ∈ dstsC (.seq x y) := fun i hi => by simp [dstsC, hi]
    cases e with
    | normal =>
      simp only [toEx, Option.some.injEq] at he
      subst he
      refine wp_mono (ihy hq hg' R') ?_
      rintro e a2 w2 ⟨ex, st2, h2, he, hq, R2, hg2, E2⟩
      exact ⟨ex, st2, h2, he, hq, R2, hg2, (E'.mono hD).trans (E2.mono hD')⟩
    | exit id => simp only [toEx, Option.some.injEq] at he; subst he; exact ⟨_, st', h', rfl, hq, R', hg', E'.mono hD⟩
    | ret => simp only [toEx, Option.some.injEq] at he; subst he; exact ⟨_, st', h', rfl, hq, R', hg', E'.mono hD⟩
    | goto l => simp [toEx] at he
    | panic ch => simp [toEx] at he
    | outgrown => simp [toEx] at he
  | cond c x y ihx ihy =>
    intro st h a w Q H hg R
    simp only [vcC] at H
    split at H
    · rename_i t ht
      obtain ⟨ρ, R0⟩ := R
      have hc : a.eval c = .bool t := sv_cases_t ht (ev_ok R0 (fun _ _ hm => by simp at hm) c)
      refine wp_cond_split hc (fun e => ?_) (fun e => ?_)
      · refine wp_mono (ihx (H.1 e) hg ⟨ρ, R0⟩) ?_
        rintro e a2 w2 ⟨ex, st2, h2, he, hq, R2, hg2, E2⟩
        exact ⟨ex, st2, h2, he, hq, R2, hg2, E2.mono fun i hi => by simp [dstsC, hi]⟩
      · refine wp_mono (ihy (H.2 e) hg ⟨ρ, R0⟩) ?_
        rintro e a2 w2 ⟨ex, st2, h2, he, hq, R2, hg2, E2⟩
        exact ⟨ex, st2, h2, he, hq, R2, hg2, E2.mono fun i hi => by simp [dstsC, hi]⟩
    · exact H.elim
  | block id x ihx =>
    intro st h a w Q H hg R
    refine wp_block (wp_mono (ihx H hg R) ?_)
    rintro e a' w' ⟨ex, st', h', he, hq, R', hg', E'⟩
    cases e with
    | normal => simp only [toEx, Option.some.injEq] at he; subst he; exact ⟨_, st', h', rfl, hq, R', hg', E'⟩
    | exit i =>
      simp only [toEx, Option.some.injEq] at he
      subst he
      simp only at hq
      simp only [Exit.inBlock]
      cases hb : Nat.beq i id with
      | true =>
        rw [hb] at hq
        rw [if_pos (Nat.eq_of_beq_eq_true hb)]
        exact ⟨_, st', h', rfl, hq, R', hg', E'⟩
      | false =>
        rw [hb] at hq
        rw [if_neg (Nat.ne_of_beq_eq_false hb)]
        exact ⟨_, st', h', rfl, hq, R', hg', E'⟩
    | ret => simp only [toEx, Option.some.injEq] at he; subst he; exact ⟨_, st', h', rfl, hq, R', hg', E'⟩
    | goto l => simp [toEx] at he
    | panic ch => simp [toEx] at he
    | outgrown => simp [toEx] at he
  | loop x ihx =>
    intro st h a w Q H hg R
    simp only [vcC] at H
    split at H
    · exact H.elim
    · rename_i slots shs bxs hann
      split at H
      · exact H.elim
      · exact H.elim
      · rename_i vs0 hv0 hchk
        simp only [Bool.and_eq_true] at hchk
        obtain ⟨⟨hc1, hc2⟩, hc3⟩ := hchk
        have hshs := Nat.eq_of_beq_eq_true hc1
        have hlens := chkLens_spec hc2
        have hsub := subN_spec hc3
        obtain ⟨I, μ, hI0, hround⟩ := H
        have hR := R
        obtain ⟨ρ, R0⟩ := R
        have hg0 := noGd R0 hg
        have hbnd : ∀ i j o, i ∉ dstsC x → st.t i = .s (.bp j o) → j < st.b.length := by
          intro i j o _ hi
          have hr := R0.fr i
          rw [hi] at hr
          obtain ⟨b, h1, _⟩ := hr
          exact R0.dom j b h1
        have hbi : ∀ (k : Nat) (q : Nat × List Sh1), bxs[k]? = some q → q.1 < st.b.length := by
          intro k q hq
          obtain ⟨bx, hbx, _⟩ := hlens k q hq
          exact (List.getElem?_eq_some_iff.1 hbx).1
        let Inv : Nat → Act → World → Prop := fun n a w => ∃ vs h' xs ys, n = μ vs h' ∧ I vs h' ∧ Rel w0 h0 (loopSt st (dstsC x) slots bxs xs ys) h' a w ∧
          vcC P cfg x (loopSt st (dstsC x) slots bxs xs ys) h' fun e st' h'' => match e with
            | .nrm => match loopVals st' slots bxs with
              | some vs' => bif (sameB 0 st.b st'.b bxs && chkLens st' bxs) then (I vs' h'' ∧ μ vs' h'' < μ vs h') else False
              | none => False
            | e => Q e st' h''
        -- from a frame that fits to the head
        have head : ∀ st' h' a w vs, Rel w0 h0 st' h' a w → st'.g = (fun _ => false) → st'.n = st.n → (∀ i, i ∉ dstsC x → st'.t i = st.t i) → st.b.length ≤ st'.b.length →
            (∀ (j : Nat) (x y : Box), st.b[j]? = some x → st'.b[j]? = some y → y.ty = x.ty) → (∀ (j : Nat) (x y : Box), (lookN j bxs).isSome = false → st.b[j]? = some x → st'.b[j]? = some y → tvals y.c = tvals x.c) →
            (∀ (k : Nat) (q : Nat × List Sh1) (y : Box), bxs[k]? = some q → st'.b[q.1]? = some y → y.c.length = q.2.length) →
            loopVals st' slots bxs = some vs → I vs h' → Inv (μ vs h') a w := by
          intro st' h' a w vs R' hg' hn' ht' hlb' hty' hsame' hlen' hv' hI'
          obtain ⟨xs, hx, hxl⟩ := ex0L_elim' (hround vs h' hI')
          obtain ⟨ys, ⟨hvs, hvc⟩, hyl, hylen⟩ := exLL_elim hx
          refine ⟨vs, h', xs, ys, rfl, hI', ?_, hvc⟩
          refine loopSt_rel hg0 hbnd hsub R' hg' hn' ht' hlb' hty' hsame' hbi (by rw [hv', hvs]) (by rw [hxl, hshs]) hyl ?_ hg
          intro k q y bx h1 h2 h3
          rw [hylen k q y h1 h2, hlen' k q bx h1 h3]
        refine wp_loop_n Inv (μ vs0 h) ?_ ?_
        · refine head st h a w vs0 hR hg rfl (fun _ _ => rfl) (Nat.le_refl _) (fun j u v h1 h2 => by rw [h1] at h2; obtain rfl := Option.some.inj h2; rfl) (fun j u v _ h1 h2 => by rw [h1] at h2; obtain rfl := Option.some.inj h2; rfl) ?_ hv0 hI0
          intro k q y h1 h2
          obtain ⟨bx, hbx, hl⟩ := hlens k q h1
          rw [hbx] at h2
          obtain rfl := Option.some.inj h2
          exact hl
        · rintro n a w ⟨vs, h', xs, ys, rfl, hI', hRl, hvc⟩
          refine wp_mono (ihx hvc hg hRl) ?_
          have hE0 : Ev (dstsC x) st (loopSt st (dstsC x) slots bxs xs ys) := loopSt_ev hsub
          rintro e a2 w2 ⟨ex, st2, h2, he, hq, R2, hg2, E2⟩
          cases e with
          | normal =>
            simp only [toEx, Option.some.injEq] at he
            subst he
            simp only at hq
            split at hq
            · rename_i vs' hv'
              cases hsB' : (sameB 0 st.b st2.b bxs && chkLens st2 bxs) with
              | false => rw [hsB'] at hq; exact hq.elim
              | true =>
                rw [hsB'] at hq
                simp only [cond_true] at hq
                simp only [Bool.and_eq_true] at hsB'
                obtain ⟨hsB, hcl⟩ := hsB'
                have hE := hE0.trans E2
                refine ⟨μ vs' h2, hq.2, head st2 h2 a2 w2 vs' R2 hg2 hE.n hE.t (boxMono_len hE.b) ?_ ?_ ?_ hv' hq.1⟩
                · intro j u v h1 h2
                  obtain ⟨y, hy, ht, _⟩ := hE.b j u h1
                  rw [h2] at hy
                  obtain rfl := Option.some.inj hy
                  exact ht
                · intro j u v hl h1 h2
                  have hs := (sameB_spec _ _ _ 0 hsB).2 j u v (by rw [Nat.zero_add]; exact hl) h1 h2
                  obtain ⟨y, hy, _, _, hst⟩ := hE.b j u h1
                  rw [h2] at hy
                  obtain rfl := Option.some.inj hy
                  rw [hst hs.symm]
                · intro k q y h1 h2
                  obtain ⟨bx, hbx, hl⟩ := chkLens_spec hcl k q h1
                  rw [hbx] at h2
                  obtain rfl := Option.some.inj h2
                  exact hl
            · exact hq.elim
          | exit id => simp only [toEx, Option.some.injEq] at he; subst he; exact ⟨_, st2, h2, rfl, hq, R2, hg2, hE0.trans E2⟩
          | ret => simp only [toEx, Option.some.injEq] at he; subst he; exact ⟨_, st2, h2, rfl, hq, R2, hg2, hE0.trans E2⟩
          | goto l => simp [toEx] at he
          | panic ch => simp [toEx] at he
          | outgrown => simp [toEx] at he
  | exit id => intro st h a w Q H hg R; exact wp_exit ⟨_, st, h, rfl, H, R, hg, Ev.refl _ _⟩
  | ret => intro st h a w Q H hg R; exact wp_ret ⟨_, st, h, rfl, H, R, hg, Ev.refl _ _⟩
  | _ => intros; rename_i H _ _; exact H.elim
end
end Go.Vc
