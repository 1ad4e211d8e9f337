/-
  What the law ExprSays gives, for every argument: true; nothing of what was there has turned. Conditions: none.
-/
import Derived.Test.YtdkgmpchcahajaaCExp3
import Derived.Test.YtdkgmpchcahajaaCSame
import Derived.Test.YtdkgmpchcahajaaFaExp
namespace Go.Proofs.Ytdkgmpchcahajaa
open Go Go.Vc
set_option linter.unusedVariables false
set_option maxRecDepth 100000

/-- A value, as a state holds it. -/
abbrev svE (v : Int × Int) : SV := .t (.ag [.v (vi v.1), .v (vi v.2)])
abbrev nd3 : List Nd := [⟨2, 0, 0, 2, (0, 0)⟩, ⟨1, 0, 0, 0, (1, 5)⟩, ⟨6, 0, 1, 0, (0, 0)⟩]
theorem nd3_F : exprF nd3 = 0 := by decide +kernel
theorem law_exprs_ok {h : Hp} {R : Value → Hp → Prop} (hK : ∀ h', h.le h' → R (vb true) h') : CallOK Try.prog 51 [] h R := by
  refine ok_law_exprs ?_
  unfold VC_law_exprs
  intro b1 hb1 h2
  have l2 : h.le h2 := Hp.le_set (Hp.le_refl h) hb1 _
  have S : SlP encN h2 (some ⟨b1, 0, none⟩) 3 nd3 := ⟨rfl, HasRow.new _ _ (nd3.flatMap encN) _⟩
  clear_value h2
  have O := (exprF_ok nd3_F).1
  refine expr_Check_ok S fun h4 l4 => ⟨_, rfl, ?_⟩
  rw [nd3_F]
  refine law_same_ok (f := 0) (by decide) ⟨true, rfl, fun x h' => h4.le h' ∧ x = svE (1, 8), fun _ => ?_, fun e => absurd rfl e, ?_⟩
  · refine expr_Eval_ok (e := (0, (0, 0), (1, 3), (0, 0))) (S.le l4) O.wf (by decide) (by decide) fun h11 l11 => ⟨_, _, rfl, l11, ?_⟩
    have : valE (0, (0, 0), (1, 3), (0, 0)) nd3 = (1, 8) := by decide +kernel
    rw [this]
  rintro h14 x15 x16 ⟨l14, e⟩
  cases e
  exact ⟨_, fun _ => rd_eqV (a := (1, 8)) (b := (1, 8)), hK _ (Hp.le_trans (Hp.le_trans l2 l4) l14)⟩
theorem law_LightNodes_ok {a : Option Addr} {n c : Nat} {h : Hp} {R : Value → Hp → Prop} (hK : R (vb (decide ((n : Int) ≤ 50))) h) : CallOK Try.prog 52 [vsl a n c] h R := ok_law_LightNodes hK
theorem cutL_last {l : List Nd} {f k : Nat} {n : Nd} (B : Blk l f (k + 1)) (hn : l[k]? = some n) : (cutL l f (k + 1))[k - f]? = some (shN (-(f : Int)) n) := by
  have := B.lt
  unfold cutL seg
  rw [List.getElem?_map, List.getElem?_take, if_pos (by omega), List.getElem?_drop, show f + (k - f) = k by omega, hn]
  rfl
theorem law_ExprSays_ok {a a2 : Option Addr} {n n2 c c2 : Nat} {l m : List Nd} {e : EvL} {at' : Int} {h : Hp} (S : SlP encN h a n l) (hcap : n ≤ c) (S2 : SlP encN h a2 n2 m) : CallOK Try.prog 7 [vsl a n c, vsl a2 n2 c2, vag (encE e), vi at'] h fun v h' => v = vb true ∧ h.le h' := by
  refine ok_law_ExprSays ?_
  unfold VC_law_ExprSays
  obtain rfl := S.1
  obtain rfl := S2.1
  refine law_exprs_ok fun h2 l2 => ⟨true, rfl, fun x h' => h' = h2 ∧ x = .t (.one (.v (vb (decide ((l.length : Int) ≤ 50))))), fun _ => law_LightNodes_ok ⟨_, rfl, rfl, rfl⟩, fun e => absurd rfl e, ?_⟩
  rintro h8 p9 ⟨rfl, e⟩
  cases e
  refine ⟨fun x h' => h' = h8 ∧ x = .t (.one (.v (vb (decide ((l.length : Int) ≤ 50) && decide ((m.length : Int) ≤ 50))))), fun g => ?_, fun g => ?_, ?_⟩
  · refine law_LightNodes_ok ⟨_, rfl, rfl, ?_⟩
    have : decide ((l.length : Int) ≤ 50) = true := by cases hq : decide ((l.length : Int) ≤ 50) <;> simp_all
    rw [this]; rfl
  · have : decide ((l.length : Int) ≤ 50) = false := by cases hq : decide ((l.length : Int) ≤ 50) <;> simp_all
    exact ⟨rfl, by rw [this]; rfl⟩
  rintro h14 p15 ⟨rfl, e⟩
  cases e
  refine ⟨fun _ => ⟨rfl, l2⟩, fun g => ?_⟩
  have hl50 : l.length ≤ 50 := by
    cases hq : decide ((l.length : Int) ≤ 50) with
    | true => have := of_decide_eq_true hq; omega
    | false => rw [hq] at g; cases g
  have hm50 : m.length ≤ 50 := by
    cases hq : decide ((m.length : Int) ≤ 50) with
    | true => have := of_decide_eq_true hq; omega
    | false => rw [hq] at g; cases hq2 : decide ((l.length : Int) ≤ 50) <;> rw [hq2] at g <;> cases g
  clear g
  refine ⟨fun vs hh => hh = h14 ∧ ∃ i : Int, vs = [vi i] ∧ -1 ≤ i ∧ i ≤ 15, fun vs hh => (15 - vint vs 0).toNat, ⟨rfl, -1, rfl, by omega, by omega⟩, ?_⟩
  rintro vs h21 ⟨rfl, i, rfl, hi1, hi2⟩
  refine ⟨i, rfl, fun q => ?_, fun q => ?_⟩
  · have := of_decide_eq_true q
    refine expr_Arity_ok ⟨_, rfl, R_Arity_ok ⟨_, rfl, fun q2 => ?_, fun _ => ⟨_, isW (by unfold InR; omega), ⟨rfl, i + 1, rfl, by omega, by omega⟩, by simp [vint]; omega⟩⟩⟩
    simp at q2
  clear q
  refine R_ExprFault_ok (S.le l2) fun h34 l34 => ⟨_, rfl, expr_Check_ok ((S.le l2).le l34) fun h37 l37 => ⟨_, rfl, law_same_ok (exprF_2 l) ⟨true, by rw [decide_eq_true rfl], fun e => (by cases e), fun _ => ?_⟩⟩⟩
  have L37 := Hp.le_trans (Hp.le_trans l2 l34) l37
  refine ⟨fun x h' => h37.le h' ∧ x = .t (.one (.v (vi (if exprF l > 0 then 0 else exprF m)))), fun g => ?_, fun g => ?_, ?_⟩
  · have g := of_decide_eq_false g
    refine R_ExprFault_ok (S2.le L37) fun h45 l45 => ⟨_, rfl, l45, by rw [if_neg g]⟩
  · have g : exprF l > 0 := by
      by_cases q : exprF l > 0
      · exact q
      · exact absurd (decide_eq_false q) g
    exact ⟨Hp.le_refl _, by rw [if_pos g]⟩
  rintro h47 x48 ⟨l47, e⟩
  cases e
  refine ⟨fun x h' => h47.le h' ∧ ∃ z, x = .t (.one (.v (vi z))), fun g => R_EventFault_ok fun h51 l51 => ⟨_, rfl, l51, _, rfl⟩, fun g => ⟨Hp.le_refl _, _, rfl⟩, ?_⟩
  rintro h53 x54 ⟨l53, z, e⟩
  cases e
  have L53 := Hp.le_trans (Hp.le_trans L37 l47) l53
  refine ⟨fun _ => ⟨rfl, L53⟩, fun g => ?_⟩
  simp only [cor] at g
  have g := of_decide_eq_false g
  have f1 : exprF l = 0 := by have := exprF_2 l; omega
  have f2 : exprF m = 0 := by
    have := exprF_2 m
    have g2 : ¬ (if exprF l > 0 then 0 else exprF m) > 0 := fun q => g (.inl (.inr q))
    rw [if_neg (by omega)] at g2
    omega
  clear g
  obtain ⟨O, h40⟩ := exprF_ok f1
  obtain ⟨O2, h402⟩ := exprF_ok f2
  have W := O.wf
  have W2 := O2.wf
  have hpos := O.pos
  have hpos2 := O2.pos
  refine expr_Type_ok (S.le L53) O (by omega) fun h57 l57 => ⟨_, _, rfl, R_Type_ok ((S.le L53).le l57) W hpos (by omega) ⟨_, _, rfl, ?_⟩⟩
  have L57 := Hp.le_trans L53 l57
  have t2 : 0 ≤ (typE l).2 := by
    unfold typE
    cases tAt l (l.length - 1) with
    | none => exact (by decide : (0 : Int) ≤ 3)
    | some t => exact Int.le_refl 0
  refine ⟨fun x h' => h' = h57 ∧ x = .t (.one (.v (vb true))), fun _ => law_same_ok t2 ⟨_, rfl, rfl, by rw [decide_eq_true rfl]⟩, fun g => absurd (by simp) g, ?_⟩
  rintro h68 p69 ⟨rfl, e⟩
  cases e
  have hq : (bif (decide ((typE l).1 ≠ (typE l).1)) then true else (!true)) = false := by simp
  refine ⟨fun x h' => h68.le h' ∧ x = svE (valE e l), fun _ => expr_Eval_ok (S.le L57) W hpos (by omega) fun h72 l72 => ⟨_, _, rfl, l72, rfl⟩, fun g => absurd hq g, ?_⟩
  rintro h75 x76 x77 ⟨l75, e1⟩
  cases e1
  have L75 := Hp.le_trans L57 l75
  refine ⟨fun x h' => h' = h75 ∧ x = svE (valE e l), fun _ => R_Eval_ok (S.le L75) W hpos (by omega) ⟨_, _, rfl, rfl, rfl⟩, fun g => absurd hq g, ?_⟩
  rintro h83 x84 x85 ⟨rfl, e1⟩
  cases e1
  refine ⟨_, fun _ => rd_neqV (a := valE e l) (b := valE e l), fun g => by simp at g, fun _ => ⟨_, rd_and1023, by omega, ?_⟩⟩
  obtain ⟨k0, k1⟩ := tmod_part (a := at') (p := ((l.length : Nat) : Int)) (by omega)
  generalize Int.tmod (at' % 1024) ((l.length : Nat) : Int) = kz at *
  obtain ⟨k, rfl⟩ : ∃ k : Nat, kz = k := ⟨kz.toNat, by omega⟩
  obtain ⟨f, _, B⟩ := O.b.sub k (Nat.zero_le _) (by omega)
  have hBlt := B.lt
  have hk : l[k]? = some (l[k]'(by omega)) := List.getElem?_eq_getElem (by omega)
  have hlast := cutL_last B hk
  generalize l[k]'(by omega) = nk at *
  refine expr_Cut_ok (S.le L75) hcap W (by omega) B rfl fun a91 c91 h90 V90 => ⟨_, _, _, rfl, ?_⟩
  have hcl := cutL_length B
  have L90 := Hp.le_trans L75 V90.le0
  have SC := V90.slp encN_len (by decide)
  refine R_ExprFault_ok SC fun h93 l93 => ⟨_, rfl, ?_⟩
  rw [cutL_ok O.n h40 B]
  have L93 := Hp.le_trans L90 l93
  obtain ⟨bc, oc, hac, hcc⟩ := (SC.le l93).cell (j := 0) encN_len (by decide) hlast rfl
  obtain ⟨bl, ol, hal, hcl2⟩ := (S.le L93).cell (j := 0) encN_len (by decide) hk rfl
  rw [hcl]
  refine ⟨(((k + 1 - f : Nat) : Int) - 1), fun _ => isW (by unfold InR; omega), bc, oc, fun _ => ⟨hac, by omega, by omega⟩, nk.op, fun _ => ?_, bl, ol, fun _ => ⟨hal, by omega, by omega⟩, nk.op, fun _ => ?_, fun g => ?_, fun _ => ?_⟩
  · rw [show (((k + 1 - f : Nat) : Int) - 1).toNat = k - f by omega]
    exact hcc
  · exact hcl2
  · exfalso
    simp only [cor] at g
    have := of_decide_eq_true g
    omega
  refine expr_Join_ok (S.le L93) (S2.le L93) W2 (by omega) (by omega) fun aj cj h104 V104 => ⟨_, _, _, rfl, ?_⟩
  have L104 := Hp.le_trans L93 V104.le0
  have SJ := V104.slp encN_len (by decide)
  have hjl := joinL_length 9 l m
  have WJ : WfL (joinL 9 l m) := WfL.join (by decide) W W2 hpos (fun _ => hpos2) (by decide)
  rw [hjl] at SJ ⊢
  refine R_Eval_ok (S.le L104) W hpos (by omega) ⟨_, _, rfl, R_Eval_ok (S2.le L104) W2 hpos2 (by omega) ⟨_, _, rfl, _, isW (by unfold InR; omega), _, isW (by unfold InR; omega), ?_⟩⟩
  refine ⟨fun x h' => h104.le h' ∧ x = .t (.one (.v (vi 0))), fun g => R_ExprFault_ok SJ fun h118 l118 => ⟨_, rfl, l118, ?_⟩, fun g => ⟨Hp.le_refl _, rfl⟩, ?_⟩
  · have g2 := of_decide_eq_true g.2
    have : exprF (joinL 9 l m) = 0 := by
      unfold exprF
      rw [if_neg (by rw [hjl]; omega)]
      exact joinL_chk2 (by decide) O O2
    rw [this]
  rintro h120 x121 ⟨l120, e1⟩
  cases e1
  have L120 := Hp.le_trans L104 l120
  have hj2 : (bif (decide ((((l.length + m.length + 1 : Nat) : Int)) ≠ (l.length : Int) + (m.length : Int) + 1)) then true else (bif (decide ((((l.length + m.length + 1 : Nat) : Int)) ≤ 40)) then (decide ((0 : Int) > 0)) else false)) = false := by
    simp only [cand, cor]
    exact decide_eq_false (by omega)
  have vj := valE_join2 e (op := 9) (by decide) W W2 hpos hpos2
  refine ⟨fun x h' => h' = h120 ∧ x = svE (doV 9 (valE e l) (valE e m)), fun _ => R_Eval_ok (SJ.le l120) WJ (by omega) (by omega) ⟨_, _, rfl, rfl, by rw [vj]⟩, fun g => absurd hj2 g, ?_⟩
  rintro h127 x128 x129 ⟨rfl, e1⟩
  cases e1
  refine ⟨fun x h' => h' = h127 ∧ x = svE (doV 9 (valE e l) (valE e m)), fun _ => R_Do_ok (a := valE e l) (b := valE e m) ⟨_, _, rfl, rfl, rfl⟩, fun g => absurd hj2 g, ?_⟩
  rintro h135 x136 x137 ⟨rfl, e1⟩
  cases e1
  refine ⟨_, fun _ => rd_neqV (a := doV 9 (valE e l) (valE e m)) (b := doV 9 (valE e l) (valE e m)), fun g => ?_, fun _ => ?_⟩
  · exfalso
    rw [hj2] at g
    simp at g
  have WN : WfL ([] : List Nd) := by intro i n hn; cases hn
  refine expr_Join_ok (S.le L120) (⟨rfl, .inl rfl⟩ : SlP encN h135 none 0 []) WN (by omega) (by simp) fun ai ci h141 V141 => ⟨_, _, _, rfl, _, isW (by unfold InR; omega), ?_⟩
  have L141 := Hp.le_trans L120 V141.le0
  have SI := V141.slp encN_len (by decide)
  have hil := joinL_length 5 l []
  have WI : WfL (joinL 5 l []) := WfL.join (by decide) W WN hpos (fun h => absurd h (by decide)) (by decide)
  have vi5 := valE_joinN e W hpos
  have hi3 : decide (((((joinL 5 l []).length : Nat) : Int)) = (l.length : Int) + 1) = true := decide_eq_true (by rw [hil]; simp)
  refine ⟨fun x h' => h' = h141 ∧ x = svE (truthV (decide ((valE e l).1 = 0))), fun _ => R_Eval_ok SI WI (by omega) (by rw [hil]; simp; omega) ⟨_, _, rfl, rfl, by rw [vi5]⟩, fun g => absurd hi3 g, ?_⟩
  rintro h149 x150 x151 ⟨rfl, e1⟩
  cases e1
  refine ⟨fun x h' => h' = h149 ∧ x = svE (truthV (decide ((valE e l).1 = 0))), fun _ => R_Truth_ok ⟨_, _, rfl, rfl, rfl⟩, fun g => absurd hi3 g, ?_⟩
  rintro h157 x158 x159 ⟨rfl, e1⟩
  cases e1
  refine ⟨_, fun _ => rd_eqV (a := truthV (decide ((valE e l).1 = 0))) (b := truthV (decide ((valE e l).1 = 0))), ?_, L141⟩
  rw [hi3, decide_eq_true rfl]
  rfl
end Go.Proofs.Ytdkgmpchcahajaa
