/-
  Contracts: package clock. Conditions: those stated at each (how long the lists are, how great the numbers).
-/
import Derived.Test.YtdkgmpchcahajaaFClk
import Derived.Test.YtdkgmpchcahajaaVcP
namespace Go.Proofs.Ytdkgmpchcahajaa
open Go Go.Vc
set_option linter.unusedVariables false

def see (l : List Int) (p : Nat) (t : Int) : List Int := l.set p (max (l.getD p 0) t)
theorem see_length (l : List Int) (p : Nat) (t : Int) : (see l p t).length = l.length := by simp [see]
theorem seeAll (l : List Int) (p : Nat) (t : Int) (hl : ∀ x ∈ l, -1 ≤ x ∧ x ≤ 9999) (ht : 0 ≤ t ∧ t ≤ 9999) (hp : p < l.length) : ∀ x ∈ see l p t, -1 ≤ x ∧ x ≤ 9999 := by
  intro x hx
  unfold see at hx
  rcases List.mem_or_eq_of_mem_set hx with h | h
  · exact hl x h
  · have : l.getD p 0 ∈ l := by rw [List.getD_eq_getElem?_getD, List.getElem?_eq_getElem hp]; exact List.getElem_mem hp
    have := hl _ this
    rw [h]
    rcases Int.le_total (l.getD p 0) t with h1 | h1
    · rw [Int.max_eq_right h1]; omega
    · rw [Int.max_eq_left h1]; omega
/-- A time of a part. -/
def encP (v : Int × Int) : List Value := [vi v.1, vi v.2]
theorem encP_len (v : Int × Int) : (encP v).length = 2 := rfl

/-- The least of numbers. -/
def minL : List Int → Int
  | [] => 0
  | x :: l => l.foldl min x
theorem foldl_min_comm : ∀ (l : List Int) (x y : Int), l.foldl min (min x y) = min x (l.foldl min y)
  | [], x, y => rfl
  | z :: l, x, y => by
    simp only [List.foldl_cons]
    rw [Int.min_assoc, foldl_min_comm l]
theorem minL_snoc (l : List Int) (x : Int) (h : l ≠ []) : minL (l ++ [x]) = min (minL l) x := by
  match l, h with
  | y :: l, _ => simp [minL, List.foldl_append]
theorem minL_le {l : List Int} {x : Int} (h : x ∈ l) : minL l ≤ x := by
  match l, h with
  | y :: l, h =>
    have key : ∀ (l : List Int) (y x : Int), (x = y ∨ x ∈ l) → l.foldl min y ≤ x := by
      intro l
      induction l with
      | nil => intro y x h; simp at h; subst h; exact Int.le_refl _
      | cons z l ih =>
        intro y x h
        simp only [List.foldl_cons]
        rcases h with rfl | h
        · have := ih (min x z) (min x z) (.inl rfl); have h2 := Int.min_le_left x z; omega
        · rcases List.mem_cons.1 h with rfl | h
          · have := ih (min y x) (min y x) (.inl rfl); have h2 := Int.min_le_right y x; omega
          · exact ih _ _ (.inr h)
    exact key l y x (List.mem_cons.1 h)
theorem minL_mem {l : List Int} (h : l ≠ []) : minL l ∈ l := by
  match l, h with
  | y :: l, _ =>
    have key : ∀ (l : List Int) (y : Int), l.foldl min y = y ∨ l.foldl min y ∈ l := by
      intro l
      induction l with
      | nil => intro y; exact .inl rfl
      | cons z l ih =>
        intro y
        simp only [List.foldl_cons]
        rcases ih (min y z) with e | e
        · rw [e]
          by_cases h : y ≤ z
          · exact .inl (Int.min_eq_left h)
          · exact .inr (by rw [Int.min_eq_right (by omega)]; simp)
        · exact .inr (List.mem_cons_of_mem _ e)
    exact List.mem_cons.2 (key l y)
/-- How far it is known of all. -/
def farL (d : Int) (l : List Int) : Int × Bool := if ∀ x ∈ l, 0 ≤ x then (if l = [] then 0 else minL l - d, true) else (0, false)

theorem clock_New_ok {p : Int} {h : Hp} {R : Value → Hp → Prop} (h1 : ¬ (1 ≤ p ∧ p ≤ 3) → R (vtup [vag [vsl none 0 0], ifv (some (154, vi 1))]) h)
    (h2 : 1 ≤ p → p ≤ 3 → ∀ a n c h', Own h h' 3 1 a n c ((List.replicate p.toNat (-1 : Int)).map vi) → R (vtup [vag [vsl a n c], ifv none]) h') :
    CallOK Try.prog 15 [vi p] h R := by
  refine ok_clock_New ?_
  unfold VC_clock_New
  refine ⟨fun e => h1 (by simp [Bool.cond_eq_ite] at e; omega), fun e => ?_⟩
  have hp : 1 ≤ p ∧ p ≤ 3 := by simp [Bool.cond_eq_ite] at e; omega
  intro J18
  refine ⟨fun vs hh => ∃ (i : Nat) (a : Option Addr) (n c : Nat), vs = [vi i, vsl a n c] ∧ (i : Int) ≤ p ∧ Own h hh 3 1 a n c ((List.replicate i (-1 : Int)).map vi), fun vs hh => p.toNat - (vint vs 0).toNat, ⟨0, _, _, _, rfl, by omega, Own.nil (Hp.le_refl h) _ _⟩, ?_⟩
  rintro vs hh ⟨i, a, n, c, rfl, hi, O⟩
  refine ⟨i, a, n, c, rfl, fun e => ?_, fun e => ?_⟩
  · have hlt : (i : Int) < p := by simpa using e
    intro b hb h12
    have hn := O.sli.1
    simp at hn
    refine Own.append elInt (Own.set hb _ O) (HasRow.new _ _ [vi (-1)] _) (m := 1) rfl (by simp [Value.oneCell']) (by omega) (by omega) fun a' c' h' O' _ _ => ⟨_, _, _, rfl, _, isW (by unfold InR; omega), ⟨i + 1, a', _, c', rfl, by omega, ?_⟩, by simp [vint]; omega⟩
    rw [List.replicate_succ', List.map_append]
    exact O'
  · have : (i : Int) = p := by simp at e; omega
    refine h2 hp.1 hp.2 a n c hh ?_
    rw [← this]
    exact O

theorem clock_See_ok {a : Option Addr} {n c : Nat} {l : List Int} {p t : Int} {h : Hp} {R : Value → Hp → Prop} (S : SlI h a n l) (hn : n ≤ 1000) (hp : 0 ≤ p) (hp' : p < n)
    (hK : ∀ a' c' h', Own h h' 3 1 a' n c' ((see l p.toNat t).map vi) → R (vag [vsl a' n c']) h') :
    CallOK Try.prog 18 [vag [vsl a n c], vi p, vi t] h R := by
  refine ok_clock_Clock_See ?_
  unfold VC_clock_Clock_See
  refine sem_clone elInt S.2 (by simp [S.1]) (one_ints l) (by omega) (by omega) fun a' c' h' O => ⟨_, _, _, rfl, ?_⟩
  obtain ⟨b, o, ea, hc⟩ := O.sli.get (i := p.toNat) (by omega)
  refine ⟨b, o, ⟨ea, hp, hp'⟩, _, hc, _, rd_max, b, o, ⟨ea, hp, hp'⟩, O.store_i (by omega) ea fun ob O' => hK _ _ _ O'⟩

theorem clock_Part_ok {a : Option Addr} {n c : Nat} {l : List Int} {p d : Int} {h : Hp} {R : Value → Hp → Prop} (S : SlI h a n l) (hp : 0 ≤ p) (hp' : p < n) (hr : InR (l.getD p.toNat 0 - d))
    (hK : R (if l.getD p.toNat 0 < 0 then vtup [vi 0, vb false] else vtup [vi (l.getD p.toNat 0 - d), vb true]) h) :
    CallOK Try.prog 22 [vag [vsl a n c], vi p, vi d] h R := by
  refine ok_clock_Clock_Part ?_
  unfold VC_clock_Clock_Part
  obtain ⟨b, o, ea, hc⟩ := S.get (i := p.toNat) (by omega)
  refine ⟨b, o, ⟨ea, hp, hp'⟩, _, hc, fun e => ?_, fun e => ?_⟩
  · rw [if_pos (by simpa using e)] at hK; exact hK
  · rw [if_neg (by simpa using e)] at hK; exact ⟨_, isW hr, hK⟩

theorem clock_All_ok {a : Option Addr} {n c : Nat} {l : List Int} {d : Int} {h : Hp} {R : Value → Hp → Prop} (S : SlI h a n l) (hn : n ≤ 1000) (hl : ∀ x ∈ l, -1 ≤ x ∧ x ≤ 9999) (hd : 0 ≤ d ∧ d ≤ 1000)
    (hK : R (vtup [vi (farL d l).1, vb (farL d l).2]) h) :
    CallOK Try.prog 20 [vag [vsl a n c], vi d] h R := by
  refine ok_clock_Clock_All ?_
  unfold VC_clock_Clock_All
  have hlen := S.1
  refine ⟨fun vs hh => hh = h ∧ ∃ (i : Nat) (m : Int), vs = [vi m, vi i] ∧ i ≤ n ∧ (∀ x ∈ l.take i, 0 ≤ x) ∧ m = (if l.take i = [] then 0 else minL (l.take i) - d), fun vs hh => n - (vint vs 1).toNat, ⟨rfl, 0, 0, rfl, by omega, by simp, by simp⟩, ?_⟩
  rintro vs hh ⟨rfl, i, m, rfl, hi, hg, hm⟩
  refine ⟨m, i, rfl, fun e => ?_, fun e => ?_⟩
  · have hlt : i < n := by simpa using e
    intro J17
    have hx : i < l.length := by omega
    have hget : l.getD i 0 = l[i] := by rw [List.getD_eq_getElem?_getD, List.getElem?_eq_getElem hx]; rfl
    have hb := hl l[i] (List.getElem_mem hx)
    have tk : l.take (i + 1) = l.take i ++ [l[i]] := List.take_succ_eq_append_getElem hx
    refine clock_Part_ok S (by omega) (by omega) (by rw [Int.toNat_natCast, hget]; unfold InR; omega) ?_
    rw [Int.toNat_natCast, hget]
    by_cases hneg : l[i] < 0
    · rw [if_pos hneg]
      refine ⟨_, _, rfl, fun _ => ?_, fun e => by simp at e⟩
      have : ¬ ∀ x ∈ l, 0 ≤ x := fun hall => by have := hall _ (List.getElem_mem hx); omega
      unfold farL at hK
      rw [if_neg this] at hK
      exact hK
    · rw [if_neg hneg]
      have next : ∀ m' : Int, m' = minL (l.take (i + 1)) - d → J17 m' hh := by
        intro m' hm'
        refine ⟨_, isW (by unfold InR; omega), ⟨rfl, i + 1, m', rfl, by omega, ?_, ?_⟩, by simp [vint]; omega⟩
        · intro x hx'
          rw [tk] at hx'
          rcases List.mem_append.1 hx' with h1 | h1
          · exact hg x h1
          · simp at h1; omega
        · rw [if_neg (by rw [tk]; exact List.append_ne_nil_of_right_ne_nil _ (by simp)), hm']
      refine ⟨_, _, rfl, fun e => by simp at e, fun _ => ⟨fun e => next _ ?_, fun e => next _ ?_⟩⟩
      · rw [tk]
        by_cases h0 : l.take i = []
        · rw [h0]; simp [minL]
        · rw [if_neg h0] at hm
          rw [minL_snoc _ _ h0]
          have hi0 : i ≠ 0 := fun h => h0 (by rw [h]; rfl)
          simp [Bool.cond_eq_ite, hi0] at e
          rw [Int.min_def]
          split <;> omega
      · rw [tk]
        by_cases h0 : l.take i = []
        · have : i = 0 := by
            have := congrArg List.length h0
            rw [List.length_take] at this
            simp only [List.length_nil] at this
            omega
          simp [this] at e
        · rw [if_neg h0] at hm
          rw [minL_snoc _ _ h0]
          simp [Bool.cond_eq_ite] at e
          rw [Int.min_def]
          split <;> omega
  · have hge : i = n := by simp at e; omega
    have ht : l.take i = l := List.take_of_length_le (by omega)
    rw [ht] at hg hm
    unfold farL at hK
    rw [if_pos hg, ← hm] at hK
    exact hK
end Go.Proofs.Ytdkgmpchcahajaa
