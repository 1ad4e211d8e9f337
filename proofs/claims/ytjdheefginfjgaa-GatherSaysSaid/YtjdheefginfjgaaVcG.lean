/-
  The framework of this prover's proofs, part G: operations under a guard, regions without a draw, code, functions. Conditions: none.
-/
import Derived.Test.YtjdheefginfjgaaVcF
set_option linter.unusedVariables false
namespace Go.Vc
open Go

def dstL : Option Nat → List Nat
  | some d => [d]
  | none => []
/-- How a frame may have turned: slots outside D are as they were; boxes by their stamps. -/
structure Ev (D : List Nat) (st st' : St) : Prop where
  n : st'.n = st.n
  t : ∀ i, i ∉ D → st'.t i = st.t i
  b : BoxMono st.b st'.b
theorem Ev.refl (D : List Nat) (st : St) : Ev D st st := ⟨rfl, fun _ _ => rfl, BoxMono.refl _⟩
theorem Ev.trans {D : List Nat} {a b c : St} (x : Ev D a b) (y : Ev D b c) : Ev D a c :=
  ⟨y.n.trans x.n, fun i hi => (y.t i hi).trans (x.t i hi), x.b.trans y.b⟩
theorem Ev.mono {D D' : List Nat} {a b : St} (x : Ev D a b) (h : ∀ i, i ∈ D → i ∈ D') : Ev D' a b :=
  ⟨x.n, fun i hi => x.t i (fun hd => hi (h i hd)), x.b⟩

section
variable {P : Program} {cfg : Cfg} {ρ : Nat → Option Nat} {w0 : World} {h0 : Hp} {st : St} {h : Hp} {a : Act} {w : World}

theorem getD_set (tm : Array Value) (d : Nat) (v : Value) (i : Nat) (hd : d < tm.size) : (tm.setIfInBounds d v).getD i undef = if i = d then v else tm.getD i undef := by
  simp only [Array.getD_eq_getD_getElem?, Array.getElem?_setIfInBounds]
  by_cases h : d = i
  · subst h; simp [hd]
  · simp [h, show ¬ i = d from fun e => h e.symm]

/-- Putting a value into a slot. -/
theorem put_ok (R : RelR ρ w0 h0 st h a w) {dst : Option Nat} {gd : Option (Nat × Bool)} {x : SV} {K : St → Prop} (H : st.put dst gd x K) {v : Value}
    (hv : match gd with
      | none => x.ok ρ v
      | some (s, p) => (a.tmps.getD s undef = .bool p → x.ok ρ v) ∧ (a.tmps.getD s undef ≠ .bool p → v = undef)) :
    ∃ st', K st' ∧ RelR ρ w0 h0 st' h (a.put dst v) w ∧ Ev (dstL dst) st st' := by
  cases dst with
  | none => exact ⟨st, H, R, Ev.refl _ _⟩
  | some d =>
    cases gd with
    | none =>
      simp only [St.put] at H
      cases hc : (Nat.blt d st.n && !(st.g d)) with
      | false => rw [hc] at H; exact H.elim
      | true =>
        rw [hc] at H
        simp only [Bool.and_eq_true, Bool.not_eq_true'] at hc
        have hd : d < a.tmps.size := by rw [R.n]; exact of_decide_eq_true (by have := hc.1; simpa [Nat.blt_eq] using this)
        refine ⟨_, H, ⟨by simp [Act.put, R.n], R.d, fun i => ?_, ?_, R.sub, R.F, R.box, R.dom, R.inj⟩, ⟨rfl, fun i hi => ?_, BoxMono.refl _⟩⟩
        · simp only [Act.put]
          rw [getD_set _ _ _ _ hd]
          cases hb : Nat.beq i d with
          | true =>
            have := Nat.eq_of_beq_eq_true hb
            simp only [cond_true, if_pos this]
            exact hv
          | false =>
            have hne := Nat.ne_of_beq_eq_false hb
            simp only [cond_false, if_neg hne]
            have hr := R.fr i
            cases hi : st.t i with
            | s y => rw [hi] at hr; exact hr
            | gd k p y =>
              rw [hi] at hr
              have hk := R.gd i k p y hi
              have hkd : k ≠ d := by intro e; subst e; rw [hc.2] at hk; simp at hk
              simp only [Sl.ok] at hr ⊢
              rw [getD_set _ _ _ _ hd, if_neg hkd]
              exact hr
        · intro i s p y hi
          simp only at hi
          cases hb : Nat.beq i d with
          | true => rw [hb] at hi; simp at hi
          | false => rw [hb] at hi; exact R.gd i s p y hi
        · have hne : i ≠ d := by simpa [dstL] using hi
          have : Nat.beq i d = false := by cases hq : Nat.beq i d <;> simp_all
          simp [this]
    | some q =>
      obtain ⟨s, p⟩ := q
      simp only [St.put] at H
      cases hc : (Nat.blt d st.n && !(Nat.beq d s || st.g d)) with
      | false => rw [hc] at H; exact H.elim
      | true =>
        rw [hc] at H
        simp only [Bool.and_eq_true, Bool.not_eq_true'] at hc
        have hd : d < a.tmps.size := by rw [R.n]; exact of_decide_eq_true (by have := hc.1; simpa [Nat.blt_eq] using this)
        have hnm : ¬ d = s ∧ ¬ st.g d = true := by
          have := hc.2
          simp only [Bool.or_eq_false_iff] at this
          exact ⟨Nat.ne_of_beq_eq_false this.1, by simp [this.2]⟩
        refine ⟨_, H, ⟨by simp [Act.put, R.n], R.d, fun i => ?_, ?_, R.sub, R.F, R.box, R.dom, R.inj⟩, ⟨rfl, fun i hi => ?_, BoxMono.refl _⟩⟩
        · simp only [Act.put]
          rw [getD_set _ _ _ _ hd]
          cases hb : Nat.beq i d with
          | true =>
            have := Nat.eq_of_beq_eq_true hb
            simp only [cond_true, if_pos this, Sl.ok]
            rw [getD_set _ _ _ _ hd, if_neg (fun e => hnm.1 e.symm)]
            exact hv
          | false =>
            have hne := Nat.ne_of_beq_eq_false hb
            simp only [cond_false, if_neg hne]
            have hr := R.fr i
            cases hi : st.t i with
            | s y => rw [hi] at hr; exact hr
            | gd k p y =>
              rw [hi] at hr
              have hk := R.gd i k p y hi
              have hkd : k ≠ d := by intro e; subst e; exact hnm.2 hk
              simp only [Sl.ok] at hr ⊢
              rw [getD_set _ _ _ _ hd, if_neg hkd]
              exact hr
        · intro i k p' y hi
          simp only at hi
          cases hb : Nat.beq i d with
          | true =>
            rw [hb] at hi
            simp only [cond_true, Sl.gd.injEq] at hi
            simp [hi.1]
          | false =>
            rw [hb] at hi
            have := R.gd i k p' y hi
            simp only
            cases hq : Nat.beq k s <;> simp [this]
        · have hne : i ≠ d := by simpa [dstL] using hi
          have : Nat.beq i d = false := by cases hq : Nat.beq i d <;> simp_all
          simp [this]

theorem cond_spec (R : RelR ρ w0 h0 st h a w) : ∀ (n s : Nat) (p : Bool), okGd st n s = true →
    (condP st n s p → a.tmps.getD s undef = .bool p ∧ ∀ s' p', (s', p') ∈ chain st n s p → a.tmps.getD s' undef = .bool p') ∧
    (¬ condP st n s p → a.tmps.getD s undef ≠ .bool p)
  | 0, s, p, hok => by simp [okGd] at hok
  | n + 1, s, p, hok => by
    have hr := R.fr s
    cases hs : st.t s with
    | s y =>
      rw [hs] at hr
      simp only [okGd, hs] at hok
      split at hok
      · rename_i b hb
        simp only [Sl.s.injEq] at hb
        subst hb
        have hr' : a.tmps.getD s undef = .bool b := hr
        simp only [condP, hs, chain, hr', Value.bool.injEq, List.mem_cons, List.not_mem_nil, or_false, Prod.mk.injEq]
        refine ⟨fun e => ⟨e, ?_⟩, fun e he => e (by simpa using he)⟩
        rintro s' p' ⟨rfl, rfl⟩
        rw [hr', e]
      · rename_i hb; simp at hb
      · simp at hok
    | gd k q y =>
      rw [hs] at hr
      simp only [okGd, hs] at hok
      split at hok
      · rename_i b hb; simp at hb
      · rename_i k' q' b hb
        simp only [Sl.gd.injEq] at hb
        obtain ⟨rfl, rfl, rfl⟩ := hb
        have ih := cond_spec R n k q hok
        have hr' : (a.tmps.getD k undef = .bool q → a.tmps.getD s undef = .bool b) ∧ (a.tmps.getD k undef ≠ .bool q → a.tmps.getD s undef = undef) := hr
        simp only [condP, hs, chain, List.mem_cons, Prod.mk.injEq]
        constructor
        · rintro ⟨hc, rfl⟩
          obtain ⟨h1, h2⟩ := ih.1 hc
          refine ⟨hr'.1 h1, ?_⟩
          rintro s' p' (⟨rfl, rfl⟩ | hm)
          · exact hr'.1 h1
          · exact h2 s' p' hm
        · intro hc e
          by_cases hk : condP st n k q
          · have h1 := (ih.1 hk).1
            have h2 := hr'.1 h1
            rw [h2] at e
            simp only [Value.bool.injEq] at e
            exact hc ⟨hk, e⟩
          · have h1 := hr'.2 (ih.2 hk)
            rw [h1] at e
            simp [undef] at e
      · simp at hok

theorem wanted_none {o : Oper} (hg : o.guard = none) (y : Nat → Option Bool) : Region.wanted o y = true := by simp [Region.wanted, hg]
theorem wanted_some {ops : Array Oper} {o : Oper} {j s : Nat} {p : Bool} (hg : o.guard = some (j, p)) (hj : (ops[j]?).bind (·.dst) = some s) (tm : Array Value) :
    Region.wanted o (yielded ops tm) = true ↔ tm.getD s undef = .bool p := by
  simp only [Region.wanted, hg, yielded, hj, Option.bind_some, Array.getD_eq_getD_getElem?]
  cases hs : tm[s]? with
  | none => simp [undef]
  | some v => cases v <;> simp
end

/-- An operation of a region, guard and all. -/
theorem vcOp_gen {P : Program} {cfg : Cfg} (hP : NoNG P) {ops : Array Oper} {o : Oper} {w0 : World} {h0 : Hp} {st : St} {h : Hp} {a : Act} {w : World} {K : St → Hp → Prop} {Q : Exit → Act → World → Prop} {N : Act → World → Prop}
    (R : Rel w0 h0 st h a w) (H : vcOp P cfg ops o st h K)
    (hn : ∀ st' h' a' w', K st' h' → Rel w0 h0 st' h' a' w' → Ev (dstL o.dst) st st' → N a' w') : if Region.wanted o (yielded ops a.tmps) then o.wp P a w N Q ∨ (o.asks P a w ∧ LetsOut Q) else N (a.put o.dst undef) w := by
  obtain ⟨ρ, R⟩ := R
  unfold vcOp at H
  have hnE : ∀ {gdr : Option (Nat × Bool)}, Nxt w0 h0 st (fun sv b h' => St.put ⟨st.n, st.t, st.g, b⟩ o.dst none sv fun st' => K st' h') o a N := by
    intro _ sv b' h' ρ' v w' hk R' hsv hb
    obtain ⟨st', k1, k2, k3⟩ := put_ok R' (gd := none) hk hsv
    exact hn st' h' _ _ k1 ⟨ρ', k2⟩ ⟨k3.n, k3.t, hb.trans k3.b⟩
  cases hg : o.guard with
  | none =>
    rw [hg] at H
    simp only at H
    rw [if_pos (wanted_none hg _)]
    left
    unfold Oper.wp
    cases hE : isE o.op with
    | true =>
      rw [hE] at H
      simp only [cond_true] at H
      exact vcE_ok hP R (ch := []) (fun _ _ hm => by simp at hm) H (hnE (gdr := none))
    | false =>
      rw [hE] at H
      simp only [cond_false] at H
      obtain ⟨sv, hk, v, hr, hsv⟩ := vcV_ok R (ch := []) (fun _ _ hm => by simp at hm) (G := fun p => p) (fun p hp => hp) H
      rw [hr, Oper.upon_value]
      obtain ⟨st', k1, k2, k3⟩ := put_ok R (gd := none) hk hsv
      exact hn st' h _ _ k1 ⟨ρ, k2⟩ k3
  | some q =>
    obtain ⟨j, p⟩ := q
    rw [hg] at H
    simp only at H
    split at H
    · exact H.elim
    · rename_i s hj
      cases hok : okGd st 8 s with
      | false => rw [hok] at H; exact H.elim
      | true =>
        rw [hok] at H
        simp only [cond_true] at H
        have hspec := cond_spec R 8 s p hok
        have hw := wanted_some (ops := ops) hg hj a.tmps
        cases hE : isE o.op with
        | true =>
          rw [hE] at H
          simp only [cond_true] at H
          by_cases hc : condP st 8 s p
          · obtain ⟨h1, h2⟩ := hspec.1 hc
            rw [if_pos (hw.2 h1)]
            left
            unfold Oper.wp
            exact vcE_ok hP R h2 (H.1 hc) (hnE (gdr := none))
          · have h1 := hspec.2 hc
            rw [if_neg (fun e => h1 (hw.1 e))]
            obtain ⟨st', k1, k2, k3⟩ := put_ok R (gd := none) (v := undef) (H.2 hc) rfl
            exact hn st' h _ _ k1 ⟨ρ, k2⟩ k3
        | false =>
          rw [hE] at H
          simp only [cond_false] at H
          by_cases hc : condP st 8 s p
          · obtain ⟨h1, h2⟩ := hspec.1 hc
            rw [if_pos (hw.2 h1)]
            left
            unfold Oper.wp
            obtain ⟨sv, hk, v, hr, hsv⟩ := vcV_ok R h2 (fun q hq => hq hc) H
            rw [hr, Oper.upon_value]
            obtain ⟨st', k1, k2, k3⟩ := put_ok R (gd := some (s, p)) hk (v := v) ⟨fun _ => hsv, fun e => (e h1).elim⟩
            exact hn st' h _ _ k1 ⟨ρ, k2⟩ k3
          · have h1 := hspec.2 hc
            rw [if_neg (fun e => h1 (hw.1 e))]
            obtain ⟨sv, hk⟩ := vcV_any H
            obtain ⟨st', k1, k2, k3⟩ := put_ok R (gd := some (s, p)) hk (v := undef) ⟨fun e => (h1 e).elim, fun _ => rfl⟩
            exact hn st' h _ _ k1 ⟨ρ, k2⟩ k3
theorem vcOp_ok {P : Program} {cfg : Cfg} (hP : NoNG P) {ops : Array Oper} {o : Oper} {w0 : World} {h0 : Hp} {st : St} {h : Hp} {a : Act} {w : World} {K : St → Hp → Prop} {Q : Exit → Act → World → Prop} {rest : List Oper}
    (R : Rel w0 h0 st h a w) (H : vcOp P cfg ops o st h K)
    (hn : ∀ st' h' a' w', K st' h' → Rel w0 h0 st' h' a' w' → Ev (dstL o.dst) st st' → wpList P ops Q rest a' w') : wpList P ops Q (o :: rest) a w := by
  unfold wpList
  exact vcOp_gen hP R H hn
end Go.Vc
