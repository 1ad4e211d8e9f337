/-
  What the law FoldSays gives, for every argument: true; nothing of what was there has turned. Conditions: none.
-/
import Derived.Test.YtgonnpleihbklaaCFold3
import Derived.Test.YtgonnpleihbklaaCRExp2
import Derived.Test.YtgonnpleihbklaaFaFold
import Derived.Test.YtgonnpleihbklaaFLNd
namespace Go.Proofs.Ytgonnpleihbklaa
open Go Go.Vc
set_option linter.unusedVariables false
set_option maxRecDepth 100000

abbrev nd3m : List Nd := [⟨1, 0, 0, 0, (1, 2)⟩, ⟨1, 0, 0, 0, (1, 3)⟩, ⟨8, 0, 1, 0, (0, 0)⟩]
/-- The stack over those three. -/
def S3 (s : List (List Nd)) (i : Nat) : Prop := (i = 0 ∧ s = []) ∨ (i = 1 ∧ s = [cst (1, 2)]) ∨ (i = 2 ∧ s = [cst (1, 3), cst (1, 2)]) ∨ (i = 3 ∧ s = [cst (1, 6)])
theorem S3_stp : Stp nd3m S3 where
  z := .inl ⟨rfl, rfl⟩
  len := fun s i F => by
    rcases F with ⟨rfl, rfl⟩ | ⟨rfl, rfl⟩ | ⟨rfl, rfl⟩ | ⟨rfl, rfl⟩ <;> decide
  stp := fun s i n F hn => by
    rcases F with ⟨rfl, rfl⟩ | ⟨rfl, rfl⟩ | ⟨rfl, rfl⟩ | ⟨rfl, rfl⟩
    · cases hn
      exact .inl ⟨by decide, .inr (.inl ⟨rfl, rfl⟩)⟩
    · cases hn
      exact .inl ⟨by decide, .inr (.inr (.inl ⟨rfl, rfl⟩))⟩
    · cases hn
      refine .inr (.inr ⟨by decide, _, _, _, rfl, fun a m c a2 m2 c2 h R N N' hR => fold_double_c N N' fun a' c' h' l' SY => hR _ _ _ _ _ l' SY (.inr (.inr (.inr ⟨rfl, ?_⟩)))⟩)
      decide +kernel
    · cases hn
theorem law_folds_ok {h : Hp} {R : Value → Hp → Prop} (hK : ∀ h', h.le h' → R (vb true) h') : CallOK Try.prog 14 [] h R := by
  refine ok_law_folds ?_
  unfold VC_law_folds
  intro b1 hb1 h2
  have l2 : h.le h2 := Hp.le_set (Hp.le_refl h) hb1 _
  have S : SlP encN h2 (some ⟨b1, 0, none⟩) 3 nd3m := ⟨rfl, HasRow.new _ _ (nd3m.flatMap encN) _⟩
  clear_value h2
  refine fold_Fold_gen (Z := fun z => z = cst (1, 6)) S S3_stp (fun s F => ?_) (by decide) fun a' n' c' h' z l' SZ hz => ⟨_, _, _, rfl, ?_⟩
  · rcases F with ⟨h, _⟩ | ⟨h, _⟩ | ⟨h, _⟩ | ⟨_, rfl⟩
    · cases h
    · cases h
    · cases h
    · exact ⟨_, rfl, rfl⟩
  subst hz
  obtain rfl := SZ.s.1
  obtain ⟨b, o, ha, hr⟩ := SZ.s.get encN_len (by decide) (i := 0) rfl
  have A : a' = some ⟨b, o, none⟩ ∧ (0 : Int) ≤ 0 ∧ (0 : Int) < ((cst (1, 6)).length : Nat) := ⟨ha, by decide, by simp⟩
  refine ⟨b, o, fun _ => A, _, _, fun _ => Hp.row_sub hr (i := 4) (k := 2) (by decide), _, fun _ => rd_eqV (a := (1, 6)) (b := (1, 6)), ?_⟩
  exact hK h' (Hp.le_trans l2 l')
theorem law_LightNodes_ok {a : Option Addr} {n c : Nat} {h : Hp} {R : Value → Hp → Prop} (hK : R (vb (decide ((n : Int) ≤ 50))) h) : CallOK Try.prog 15 [vsl a n c] h R := ok_law_LightNodes hK
theorem law_FoldSays_ok {a a2 : Option Addr} {n n2 c c2 : Nat} {l : List Nd} {m : List EvL} {h : Hp} (S : SlP encN h a n l) (S2 : SlP encE h a2 n2 m) : CallOK Try.prog 4 [vsl a n c, vsl a2 n2 c2] h fun v h' => v = vb true ∧ h.le h' := by
  refine ok_law_FoldSays ?_
  unfold VC_law_FoldSays
  obtain rfl := S.1
  obtain rfl := S2.1
  refine law_folds_ok fun h2 l2 => ⟨true, rfl, fun x h' => h' = h2 ∧ x = .t (.one (.v (vb (decide ((l.length : Int) ≤ 50))))), fun _ => law_LightNodes_ok ⟨_, rfl, rfl, rfl⟩, fun e => absurd rfl e, ?_⟩
  rintro h8 p9 ⟨rfl, e⟩
  cases e
  have e20 : (bif (bif (!true) then true else (!decide ((l.length : Int) ≤ 50))) then true else (decide ((m.length : Int) > 20))) = decide (¬ (l.length : Int) ≤ 50 ∨ (m.length : Int) > 20) := by
    rw [show (bif (!true) then true else (!decide ((l.length : Int) ≤ 50))) = (!decide ((l.length : Int) ≤ 50)) from rfl, cnot, cor]
  rw [e20]
  refine ⟨fun x h' => h8.le h' ∧ ∃ f, x = .t (.one (.v (vi f))) ∧ (¬ (¬ (l.length : Int) ≤ 50 ∨ (m.length : Int) > 20) → f = exprF l), fun g => R_ExprFault_ok (S.le l2) fun h' l' => ⟨_, rfl, l', _, rfl, fun _ => rfl⟩, fun g => ⟨Hp.le_refl _, 0, rfl, fun q => absurd (decide_eq_false q) g⟩, ?_⟩
  rintro h14 x15 ⟨l14, f, e, hf⟩
  cases e
  have L14 := Hp.le_trans l2 l14
  rw [cor]
  refine ⟨fun _ => ⟨rfl, L14⟩, fun g => ?_⟩
  have g := of_decide_eq_false g
  have hff := hf (by omega)
  subst hff
  have F0 : exprF l = 0 := by have := exprF_2 l; omega
  obtain ⟨O, h40⟩ := exprF_ok F0
  have hl50 : l.length ≤ 50 := by omega
  refine fold_Fold_ok (S.le L14) O (by omega) fun a19 n19 c19 h18 z l18 NZ Z => ⟨_, _, _, rfl, ?_⟩
  have L18 := Hp.le_trans L14 l18
  obtain rfl := NZ.s.1
  have hz := Z.len
  have hzp := Z.pos
  have hlp := O.pos
  refine R_ExprFault_ok NZ.s fun h21 l21 => ⟨_, rfl, ?_⟩
  have L21 := Hp.le_trans L18 l21
  have Fz : exprF z = 0 := by
    unfold exprF
    rw [if_neg (by omega)]
    have := Z.ok.chk [] 0 []
    rw [map_sh0, List.append_nil] at this
    rw [this]
    rfl
  rw [Fz, cor]
  refine ⟨fun g => ?_, fun _ => ?_⟩
  · exfalso
    have := of_decide_eq_true g
    omega
  refine R_Type_ok (S.le L21) O.wf hlp (by omega) ⟨_, _, rfl, R_Type_ok (NZ.s.le l21) Z.ok.wf hzp (by omega) ⟨_, _, rfl, ?_⟩⟩
  rw [cand]
  refine ⟨fun g => ?_, fun _ => ?_⟩
  · exfalso
    have g := of_decide_eq_true g
    obtain ⟨t', e1, _⟩ := Z.ty _ (typE_some g.1)
    have : typE z = (t', 0) := by unfold typE; rw [e1]
    rw [this] at g
    have := g.2
    omega
  refine ⟨fun vs hh => ∃ i : Nat, vs = [vi i] ∧ i ≤ m.length ∧ h21.le hh, fun vs hh => m.length - (vint vs 0).toNat, ⟨0, rfl, Nat.zero_le _, Hp.le_refl _⟩, ?_⟩
  rintro vs h37 ⟨i, rfl, hi, l37⟩
  refine ⟨_, rfl, fun q => ?_, fun q => ⟨rfl, Hp.le_trans L21 l37⟩⟩
  have hlt : i < m.length := by have := of_decide_eq_true q; omega
  have L37 := Hp.le_trans L21 l37
  have hx : m[i]? = some m[i] := List.getElem?_eq_getElem hlt
  obtain ⟨b, o, ha, hr⟩ := (S2.le L37).get encE_len (by decide) hx
  generalize m[i] = e at *
  have A : a2 = some ⟨b, o, none⟩ ∧ (0 : Int) ≤ i ∧ (i : Int) < (m.length : Nat) := ⟨ha, by omega, by omega⟩
  refine ⟨b, o, A, _, _, _, _, _, _, _, hr, R_EventFault_ok (e := e) fun h51 l51 => ⟨_, rfl, ?_⟩⟩
  have hr51 := Hp.row_le l51 hr
  have L51 := Hp.le_trans l37 l51
  refine ⟨b, o, fun _ => A, _, _, _, _, _, _, _, fun _ => hr51, b, o, fun _ => A, _, _, _, _, _, _, _, fun _ => hr51, ?_⟩
  refine ⟨fun x h' => h' = h51 ∧ ∃ v, x = svV v ∧ (chkE e = 0 → v = valE e z), fun g => R_Eval_ok (NZ.s.le (Hp.le_trans l21 L51)) Z.ok.wf hzp (by omega) ⟨_, _, rfl, rfl, _, rfl, fun _ => rfl⟩, fun g => ⟨rfl, (0, 0), rfl, fun q => absurd (decide_eq_true q) g⟩, ?_⟩
  rintro h76 x77 x78 ⟨rfl, v, e1, hv⟩
  cases e1
  refine ⟨fun _ => hr51, ?_⟩
  refine ⟨fun x h' => h' = h76 ∧ ∃ v, x = svV v ∧ (chkE e = 0 → v = valE e l), fun g => R_Eval_ok (S.le (Hp.le_trans L21 L51)) O.wf hlp (by omega) ⟨_, _, rfl, rfl, _, rfl, fun _ => rfl⟩, fun g => ⟨rfl, (0, 0), rfl, fun q => absurd (decide_eq_true q) g⟩, ?_⟩
  rintro h84 x85 x86 ⟨rfl, w, e1, hw⟩
  cases e1
  refine ⟨_, fun _ => rd_neqV (a := v) (b := w), fun g => ?_, fun _ => ⟨_, isW (by have := S2.1; unfold InR; omega), ⟨i + 1, rfl, by omega, L51⟩, by simp [vint]; omega⟩⟩
  exfalso
  rw [cnot, cand] at g
  have g := of_decide_eq_true g
  have := hv g.1
  have := hw g.1
  have := Z.val e (chkE_ok g.1)
  exact g.2 (by simp_all)
end Go.Proofs.Ytgonnpleihbklaa
