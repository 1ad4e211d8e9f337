/-
  What the law TopLogic gives, for every argument: true; nothing of what was there has turned. Conditions: none.
-/
import Derived.Test.YtdkgmpchcahajaaCVal
import Derived.Test.YtdkgmpchcahajaaFbLog
namespace Go.Proofs.Ytdkgmpchcahajaa
open Go Go.Vc
set_option linter.unusedVariables false

/-- A value, as a state holds it. -/
abbrev svV (v : Int × Int) : SV := .t (.ag [.v (vi v.1), .v (vi v.2)])
def tri (v : Int × Int) : Prop := v = (0, 0) ∨ v = (2, 0) ∨ v = (2, 1)
theorem tri_of {v : Int × Int} (h : goodV v) (h1 : v.1 ≠ 1) : tri v := by
  obtain ⟨k, n⟩ := v
  unfold goodV at h
  unfold tri
  simp only [Prod.mk.injEq] at *
  omega
theorem tri_comm {a b : Int × Int} {op : Int} (ha : tri a) (hb : tri b) (ho : op = 9 ∨ op = 10) : doV op a b = doV op b a := by
  rcases ho with rfl | rfl <;> rcases ha with rfl | rfl | rfl <;> rcases hb with rfl | rfl | rfl <;> decide
theorem tri_assoc {a b c : Int × Int} {op : Int} (ha : tri a) (hb : tri b) (hc : tri c) (ho : op = 9 ∨ op = 10) : doV op a (doV op b c) = doV op (doV op a b) c := by
  rcases ho with rfl | rfl <;> rcases ha with rfl | rfl | rfl <;> rcases hb with rfl | rfl | rfl <;> rcases hc with rfl | rfl | rfl <;> decide
theorem tri_self {a : Int × Int} {op : Int} (ha : tri a) (ho : op = 9 ∨ op = 10) : doV op a a = a := by
  rcases ho with rfl | rfl <;> rcases ha with rfl | rfl | rfl <;> decide
theorem tri_null {b c : Int × Int} {op : Int} (hb : tri b) (hc : tri c) (ho : op = 9 ∨ op = 10) (h : (doV op (0, 0) c).1 = 2) : doV op b c = doV op (0, 0) c := by
  revert h
  rcases ho with rfl | rfl <;> rcases hb with rfl | rfl | rfl <;> rcases hc with rfl | rfl | rfl <;> decide
theorem tri_morgan {a b : Int × Int} (ha : tri a) (hb : tri b) : notV (doV 9 a b) = doV 10 (notV a) (notV b) := by
  rcases ha with rfl | rfl | rfl <;> rcases hb with rfl | rfl | rfl <;> decide
theorem tri_not {a : Int × Int} (ha : tri a) : notV (notV a) = a := by
  rcases ha with rfl | rfl | rfl <;> decide

theorem top_TopLogic_ok {a b c : Int × Int} {h : Hp} : CallOK Try.prog 12 [vag (encV a), vag (encV b), vag (encV c)] h fun v h' => v = vb true ∧ h.le h' := by
  refine ok_top_TopLogic ?_
  unfold VC_top_TopLogic
  refine value_Truth_ok ⟨_, _, rfl, value_Null_ok ⟨_, _, rfl, value_Do_ok (a := truthV false) (b := (0, 0)) ⟨_, _, rfl, _, rd_neqV (a := doV 9 (truthV false) (0, 0)) (b := truthV false), ?_⟩⟩⟩
  have q1 : (!decide (doV 9 (truthV false) (0, 0) = truthV false)) = false := by decide
  rw [q1]
  refine ⟨fun x h' => h' = h ∧ x = svV (0, 0), fun _ => value_Null_ok ⟨_, _, rfl, rfl, rfl⟩, fun e => absurd rfl e, ?_⟩
  rintro h19 x20 x21 ⟨rfl, e⟩
  cases e
  refine ⟨fun x h' => h' = h19 ∧ x = svV (0, 0), fun _ => value_Not_ok (a := (0, 0)) ⟨_, _, rfl, rfl, rfl⟩, fun e => absurd rfl e, ?_⟩
  rintro h27 x28 x29 ⟨rfl, e⟩
  cases e
  refine ⟨fun x h' => h' = h27 ∧ x = svV (0, 0), fun _ => value_Null_ok ⟨_, _, rfl, rfl, rfl⟩, fun e => absurd rfl e, ?_⟩
  rintro h35 x36 x37 ⟨rfl, e⟩
  cases e
  refine ⟨_, fun _ => rd_neqV (a := (0, 0)) (b := (0, 0)), fun e => by simp at e, fun _ => ?_⟩
  intro b40 hb40 h41
  have hl41 : h35.le h41 := Hp.le_set (Hp.le_refl h35) hb40 _
  have S : SlP encV h41 (some ⟨b40, 0, none⟩) 3 [a, b, c] := ⟨rfl, HasRow.new _ _ [vi a.1, vi a.2, vi b.1, vi b.2, vi c.1, vi c.2] _⟩
  clear_value h41
  refine ⟨fun vs hh => hh = h41 ∧ ∃ i : Nat, vs = [vi i] ∧ i ≤ 3 ∧ ∀ v ∈ [a, b, c].take i, tri v, fun vs hh => 3 - (vint vs 0).toNat, ⟨rfl, 0, rfl, by decide, by simp⟩, ?_⟩
  rintro vs hh ⟨rfl, i, rfl, hi, ht⟩
  refine ⟨i, rfl, fun e => ?_, fun e => ?_⟩
  · have hlt : i < 3 := by have := of_decide_eq_true e; omega
    have hx : [a, b, c][i]? = some ([a, b, c][i]'hlt) := List.getElem?_eq_getElem hlt
    obtain ⟨bb, o, ea, hr⟩ := S.get encV_len (by decide) hx
    have A : (some ⟨b40, 0, none⟩ : Option Addr) = some ⟨bb, o, none⟩ ∧ (0 : Int) ≤ i ∧ (i : Int) < (3 : Nat) := ⟨ea, by omega, by omega⟩
    have tk : [a, b, c].take (i + 1) = [a, b, c].take i ++ [[a, b, c][i]'hlt] := List.take_succ_eq_append_getElem hlt
    generalize [a, b, c][i]'hlt = v at *
    refine ⟨bb, o, A, _, _, hr, value_Check_ok (v := v) ⟨_, rfl, bb, o, fun _ => A, _, fun _ => Hp.row_cell hr (i := 0) rfl, fun e => ⟨rfl, hl41⟩, fun e => ?_⟩⟩
    rw [errV_some] at e
    have hg : goodV v ∧ v.1 ≠ 1 := by
      by_cases hv : goodV v
      · refine ⟨hv, fun h1 => ?_⟩
        simp [hv, h1] at e
      · simp [hv] at e
    refine ⟨_, isW (by unfold InR; omega), ⟨rfl, i + 1, rfl, by omega, ?_⟩, by simp [vint]; omega⟩
    intro u hu
    rw [tk] at hu
    rcases List.mem_append.1 hu with h1 | h1
    · exact ht u h1
    · simp at h1; subst h1; exact tri_of hg.1 hg.2
  · have hge : i = 3 := by have := of_decide_eq_false e; omega
    subst hge
    have ha : tri a := ht a (by simp)
    have hb : tri b := ht b (by simp)
    have hc : tri c := ht c (by simp)
    refine ⟨fun vs h' => h' = hh ∧ ∃ op : Int, vs = [vi op] ∧ 9 ≤ op ∧ op ≤ 11, fun vs hh => 11 - (vint vs 0).toNat, ⟨rfl, 9, rfl, by decide, by decide⟩, ?_⟩
    rintro vs h66 ⟨rfl, op, rfl, h9, h11⟩
    refine ⟨op, rfl, fun e => ?_, fun e => ?_⟩
    · have ho : op = 9 ∨ op = 10 := by have := of_decide_eq_true e; omega
      refine value_Do_ok ⟨_, _, rfl, value_Do_ok ⟨_, _, rfl, _, rd_neqV (a := doV op a b) (b := doV op b a), ?_⟩⟩
      rw [tri_comm ha hb ho, decide_eq_true rfl]
      refine ⟨fun x h' => h' = h66 ∧ x = svV (doV op b c), fun _ => value_Do_ok ⟨_, _, rfl, rfl, rfl⟩, fun e => absurd rfl e, ?_⟩
      rintro h84 x85 x86 ⟨rfl, e⟩
      cases e
      refine ⟨fun x h' => h' = h84 ∧ x = svV (doV op a (doV op b c)), fun _ => value_Do_ok (b := doV op b c) ⟨_, _, rfl, rfl, rfl⟩, fun e => absurd rfl e, ?_⟩
      rintro h92 x93 x94 ⟨rfl, e⟩
      cases e
      refine ⟨fun x h' => h' = h92 ∧ x = svV (doV op a b), fun _ => value_Do_ok ⟨_, _, rfl, rfl, rfl⟩, fun e => absurd rfl e, ?_⟩
      rintro h100 x101 x102 ⟨rfl, e⟩
      cases e
      refine ⟨fun x h' => h' = h100 ∧ x = svV (doV op (doV op a b) c), fun _ => value_Do_ok (a := doV op a b) ⟨_, _, rfl, rfl, rfl⟩, fun e => absurd rfl e, ?_⟩
      rintro h108 x109 x110 ⟨rfl, e⟩
      cases e
      refine ⟨_, fun _ => rd_neqV (a := doV op a (doV op b c)) (b := doV op (doV op a b) c), ?_⟩
      rw [tri_assoc ha hb hc ho, decide_eq_true rfl]
      refine ⟨fun x h' => h' = h108 ∧ x = svV (doV op a a), fun _ => value_Do_ok ⟨_, _, rfl, rfl, rfl⟩, fun e => absurd rfl e, ?_⟩
      rintro h117 x118 x119 ⟨rfl, e⟩
      cases e
      refine ⟨_, fun _ => rd_neqV (a := doV op a a) (b := a), ?_⟩
      rw [tri_self ha ho, decide_eq_true rfl]
      refine ⟨fun e => by (cases e), fun _ => ?_⟩
      refine value_Null_ok ⟨_, _, rfl, value_Do_ok (a := (0, 0)) ⟨_, _, rfl, fun x h' => h' = h117 ∧ ((doV op (0, 0) c).1 = 2 → x = svV (doV op b c)), fun _ => value_Do_ok ⟨_, _, rfl, rfl, fun _ => rfl⟩, fun e => ⟨rfl, fun h2 => absurd (decide_eq_true h2) e⟩, ?_⟩⟩
      rintro h135 x136 x137 ⟨rfl, e⟩
      by_cases h2 : (doV op (0, 0) c).1 = 2
      · have := e h2
        cases this
        refine ⟨_, fun _ => rd_neqV (a := doV op b c) (b := doV op (0, 0) c), ?_⟩
        rw [tri_null hb hc ho h2, decide_eq_true rfl]
        refine ⟨fun e => by simp at e, fun _ => ⟨_, isW (by unfold InR; omega), ⟨rfl, op + 1, rfl, by omega, by omega⟩, by simp [vint]; omega⟩⟩
      · refine ⟨false, fun e => absurd (of_decide_eq_true e) h2, fun e => by simp at e, fun _ => ⟨_, isW (by unfold InR; omega), ⟨rfl, op + 1, rfl, by omega, by omega⟩, by simp [vint]; omega⟩⟩
    · refine value_Do_ok ⟨_, _, rfl, value_Not_ok (a := doV 9 a b) ⟨_, _, rfl, value_Not_ok ⟨_, _, rfl, value_Not_ok ⟨_, _, rfl, value_Do_ok (a := notV a) (b := notV b) ⟨_, _, rfl, _, rd_eqV (a := notV (doV 9 a b)) (b := doV 10 (notV a) (notV b)), ?_⟩⟩⟩⟩⟩
      rw [tri_morgan ha hb, decide_eq_true rfl]
      refine ⟨fun x h' => h' = h66 ∧ x = svV (notV a), fun _ => value_Not_ok ⟨_, _, rfl, rfl, rfl⟩, fun e => absurd rfl e, ?_⟩
      rintro h167 x168 x169 ⟨rfl, e⟩
      cases e
      refine ⟨fun x h' => h' = h167 ∧ x = svV (notV (notV a)), fun _ => value_Not_ok (a := notV a) ⟨_, _, rfl, rfl, rfl⟩, fun e => absurd rfl e, ?_⟩
      rintro h175 x176 x177 ⟨rfl, e⟩
      cases e
      refine ⟨_, fun _ => rd_eqV (a := notV (notV a)) (b := a), ?_⟩
      rw [tri_not ha, decide_eq_true rfl]
      exact ⟨rfl, hl41⟩
end Go.Proofs.Ytdkgmpchcahajaa
