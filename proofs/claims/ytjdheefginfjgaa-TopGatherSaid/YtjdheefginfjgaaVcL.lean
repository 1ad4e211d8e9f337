/-
  The framework, part L: slices of the call's own, slices of ints. No program in sight. Conditions: none.
-/
import Derived.Test.YtjdheefginfjgaaVcK
namespace Go.Vc
open Go
set_option linter.unusedVariables false

theorem isW {e : Int} (h : InR e) : IsW e e := (IntWalk.i64_in _ (by unfold InR at h; exact h)).symm
instance (z : Int) : Decidable (InR z) := by unfold InR; infer_instance

/-- A slice that the call itself made, over what was there when it began (h0), of which nothing has turned. -/
structure Own (h0 h : Hp) (e : TypeId) (sz : Nat) (a : Option Addr) (n c : Nat) (xs : List Value) : Prop where
  le : h0.le h
  own : OwnS h e sz a n c xs
  new : ∀ g, a = some ⟨g, 0, none⟩ → h0 g = none
theorem Own.nil {h0 h : Hp} (hl : h0.le h) (e : TypeId) (sz : Nat) : Own h0 h e sz none 0 0 [] := ⟨hl, OwnS.nil h e sz, by simp⟩
theorem Own.mk_new {h0 h : Hp} (hl : h0.le h) {b : Nat} (hb : h b = none) (e : TypeId) {sz n : Nat} (xs : List Value) (hx : xs.length = n * sz) (hn : n ≤ maxLen) :
    Own h0 (h.set b (cellsO xs e)) e sz (some ⟨b, 0, none⟩) n n xs :=
  ⟨Hp.le_set hl hb _, OwnS.new h b e xs hx hn, fun g hg => by simp only [Option.some.injEq, Addr.mk.injEq, and_true] at hg; subst hg; exact Hp.none_of_le hl hb⟩
theorem Own.row {h0 h : Hp} {e : TypeId} {sz n c : Nat} {a : Option Addr} {xs : List Value} (O : Own h0 h e sz a n c xs) : HasRow h a xs := O.own.row
theorem Own.mono {h0 h h' : Hp} (hl : h.le h') {e : TypeId} {sz n c : Nat} {a : Option Addr} {xs : List Value} (O : Own h0 h e sz a n c xs) : Own h0 h' e sz a n c xs := ⟨Hp.le_trans O.le hl, O.own.le hl, O.new⟩
theorem Own.set {h0 h : Hp} {b : Nat} (hb : h b = none) (o : Obj) {e : TypeId} {sz n c : Nat} {a : Option Addr} {xs : List Value} (O : Own h0 h e sz a n c xs) : Own h0 (h.set b o) e sz a n c xs := O.mono (Hp.le_set (Hp.le_refl h) hb o)
section
variable {P : Program}
theorem Own.append {h0 h : Hp} {t ty e : TypeId} {sz bytes : Nat} (T : ElT P t e sz bytes) {a : Option Addr} {n c : Nat} {xs : List Value} (O : Own h0 h e sz a n c xs)
    {a2 : Option Addr} {m c2 : Nat} {news : List Value} (H2 : HasRow h a2 news) (hl : news.length = m * sz) (h1 : ∀ u ∈ news, u.oneCell' = true)
    (hb : (n + m) * bytes ≤ 140737488355328) (hm : n + m ≤ 140737488355328) {K : Value → Hp → Prop}
    (hK : ∀ a' c' h', Own h0 h' e sz a' (n + m) c' (xs ++ news) → (∀ b o, h b = some o → a ≠ some ⟨b, 0, none⟩ → h' b = some o) → (∀ g, a' = some ⟨g, 0, none⟩ → a = a' ∨ h g = none) → K (vsl a' (n + m) c') h') :
    SemOK P (Builtin.append_ #[t, t] ty #[vsl a n c, vsl a2 m c2]) h K := by
  refine sem_append T O.own H2 hl h1 hb hm fun a' c' h' o1 o2 o3 _ _ => hK a' c' h' ⟨?_, o1, ?_⟩ o2 o3
  · intro b o hb
    refine o2 b o (O.le b o hb) fun e => ?_
    rw [O.new b e] at hb
    cases hb
  · intro g hg
    rcases o3 g hg with e | e
    · exact O.new g (e.trans hg)
    · exact Hp.none_of_le O.le e
end

/-- A slice of ints. -/
def SlI (h : Hp) (a : Option Addr) (n : Nat) (l : List Int) : Prop := n = l.length ∧ HasRow h a (l.map vi)
theorem SlI.le {h h' : Hp} (hl : h.le h') {a : Option Addr} {n : Nat} {l : List Int} (H : SlI h a n l) : SlI h' a n l := ⟨H.1, H.2.le hl⟩
theorem Own.sli {h0 h : Hp} {e : TypeId} {n c : Nat} {a : Option Addr} {l : List Int} (O : Own h0 h e 1 a n c (l.map vi)) : SlI h a n l := ⟨by have := O.own.1; simpa using this.symm, O.row⟩
theorem one_ints (l : List Int) : ∀ u ∈ l.map vi, u.oneCell' = true := by
  intro u hu
  obtain ⟨x, _, rfl⟩ := List.mem_map.1 hu
  rfl
/-- An element of a slice of ints. -/
theorem SlI.get {h : Hp} {a : Option Addr} {n : Nat} {l : List Int} (H : SlI h a n l) {i : Nat} (hi : i < n) : ∃ b o, a = some ⟨b, o, none⟩ ∧ h.cell b (o + i * 1) = some (vi (l.getD i 0)) := by
  obtain ⟨rfl, h1 | ⟨b, o, rfl, hr⟩⟩ := H
  · have : l.length = 0 := by simpa using congrArg List.length h1
    omega
  · refine ⟨b, o, rfl, ?_⟩
    rw [Nat.mul_one]
    refine Hp.row_cell hr ?_
    rw [List.getElem?_map, List.getD_eq_getElem?_getD, List.getElem?_eq_getElem hi]
    rfl
/-- The int that stands at a place of what goes round a loop. -/
def vint (l : List Value) (i : Nat) : Int := match l[i]? with | some (.int _ x) => x | _ => 0

/-- The numbers of (lo, lo + n] of which p holds, in order. -/
def upto (p : Int → Bool) (lo : Int) : Nat → List Int
  | 0 => []
  | n + 1 => upto p lo n ++ (if p (lo + (n + 1 : Nat)) then [lo + (n + 1 : Nat)] else [])
theorem upto_cons (p : Int → Bool) (lo : Int) : ∀ n, upto p lo (n + 1) = (if p (lo + 1) then [lo + 1] else []) ++ upto p (lo + 1) n
  | 0 => by simp [upto]
  | n + 1 => by
    have e : lo + ((n + 1 + 1 : Nat) : Int) = lo + 1 + ((n + 1 : Nat) : Int) := by omega
    show upto p lo (n + 1) ++ (if p (lo + ((n + 1 + 1 : Nat) : Int)) then [lo + ((n + 1 + 1 : Nat) : Int)] else []) = _ ++ (upto p (lo + 1) n ++ (if p (lo + 1 + ((n + 1 : Nat) : Int)) then [lo + 1 + ((n + 1 : Nat) : Int)] else []))
    rw [e, upto_cons p lo n, List.append_assoc]
theorem upto_skip (p : Int → Bool) : ∀ (k : Nat) (lo : Int) (n : Nat), (∀ x, lo < x → x ≤ lo + k → p x = false) → upto p lo (k + n) = upto p (lo + k) n
  | 0, lo, n, h => by simp
  | k + 1, lo, n, h => by
    rw [show k + 1 + n = (k + n) + 1 by omega, upto_cons, h (lo + 1) (by omega) (by omega), upto_skip p k (lo + 1) n fun x h1 h2 => h x (by omega) (by omega)]
    simp only [Bool.false_eq_true, if_false, List.nil_append]
    congr 1
    omega
theorem upto_length (p : Int → Bool) (lo : Int) : ∀ n, (upto p lo n).length ≤ n
  | 0 => Nat.le_refl _
  | n + 1 => by
    rw [upto, List.length_append]
    have := upto_length p lo n
    split <;> simp <;> omega
end Go.Vc
