/-
  Contracts: values as texts: Text, Parse; and as the document has them. Conditions: that the tables and errors of the library lie as the program's text lays them; that the text is not too long.
-/
import Derived.Test.YtgonnpleihbklaaDoorCItoa
import Derived.Test.YtgonnpleihbklaaDoorLTxt
import Derived.Test.YtgonnpleihbklaaDoorFVTx
import Derived.Test.YtgonnpleihbklaaDoorFRTx
import Derived.Test.YtgonnpleihbklaaDoorCVal
import Derived.Test.YtgonnpleihbklaaDoorCRVal
import Derived.Lib.AtoiErrMem
namespace Go.Proofs.YtgonnpleihbklaaDoor
open Go Go.Vc Go.Txt
set_option linter.unusedVariables false
set_option maxRecDepth 100000

/-- The library's two errors lie there. -/
structure TabE (h : Hp) : Prop where
  a : ∃ tp p, ∀ w, Sub h w → w.var? Tryd.prog "strconv.ErrSyntax" = some #[.iface tp p]
  b : ∃ tp p, ∀ w, Sub h w → w.var? Tryd.prog "strconv.ErrRange" = some #[.iface tp p]
theorem TabE.le {h h' : Hp} (T : TabE h) (hl : h.le h') : TabE h' := by
  obtain ⟨⟨t, p, a⟩, ⟨u, q, b⟩⟩ := T
  exact ⟨⟨t, p, fun w hs => a w (sub_le hl hs)⟩, ⟨u, q, fun w hs => b w (sub_le hl hs)⟩⟩
theorem strconv_Atoi_ok {l : List UInt8} (hl : l.length ≤ 1000000) {h : Hp} (E : TabE h) {R : Value → Hp → Prop} (hY : ∀ v, Lib.atoiAll l = .ok v → R (vtup [vi v, ifv none]) h) (hN : (∀ v, Lib.atoiAll l ≠ .ok v) → ∀ x e, R (vtup [vi x, ifv (some e)]) h) :
    CallOK Tryd.prog 30 [vs (bs l)] h R := by
  have hsz : (bs l).size = l.length := bs_size l
  have hdl : (bs l).data.toList = l := by simp [bs]
  obtain ⟨⟨t, p, ha⟩, ⟨u, q, hb⟩⟩ := E
  refine callOK_below fun w hs => ?_
  cases hA : Lib.atoiAll l
  · rename_i v
    refine (Tryd.strconv_Atoi_ok (bs l) (by omega) v (by rw [hdl]; exact hA) w).mono ?_
    rintro e w' ⟨he, hw⟩
    refine ⟨_, he, ?_, hY v hA⟩
    rcases hw with rfl | ⟨t, rfl⟩
    · exact RowKit.Below.refl _ _
    · exact Lib.bytesWorld_below _ _ _
  · refine (Any.strconv_Atoi_syntax_var Tryd.laysC172 (bs l) (by omega) (by rw [hdl]; exact hA) t p w (ha w hs)).mono ?_
    rintro e w' ⟨N, he, _, _, hB⟩
    exact ⟨_, he, hB, hN (fun v e => by rw [hA] at e; cases e) _ (_, _)⟩
  · refine (Any.strconv_Atoi_range_var Tryd.laysC172 (bs l) (by omega) (by rw [hdl]; exact hA) u q w (hb w hs)).mono ?_
    rintro e w' ⟨N, he, _, _, hB⟩
    exact ⟨_, he, hB, hN (fun v e => by rw [hA] at e; cases e) _ (_, _)⟩
def wNull : List UInt8 := [110, 117, 108, 108]
def wTrue : List UInt8 := [116, 114, 117, 101]
def wFalse : List UInt8 := [102, 97, 108, 115, 101]
/-- What is written of a value. -/
def textV (v : Int × Int) : List UInt8 := if v.1 = 0 then wNull else if v.1 = 1 then Lib.itoa v.2 else if v.2 = 0 then wFalse else wTrue
theorem value_Text_ok {v : Int × Int} (hn : InR v.2) {h : Hp} (T : TabP h) {R : Value → Hp → Prop} (hK : R (vs (bs (textV v))) h) : CallOK Tryd.prog 27 [vag (encV v)] h R := by
  refine ok_value_Text ?_
  unfold VC_value_Text
  unfold textV at hK
  refine ⟨fun g => ?_, fun g1 => ⟨fun g => ?_, fun g2 => ⟨fun g => ?_, fun g3 => ?_⟩⟩⟩
  · rw [if_pos (of_decide_eq_true g)] at hK; exact hK
  · rw [if_neg (of_decide_eq_false g1), if_pos (of_decide_eq_true g)] at hK
    exact strconv_Itoa_ok hn T ⟨_, rfl, hK⟩
  · rw [if_neg (of_decide_eq_false g1), if_neg (of_decide_eq_false g2), if_pos (of_decide_eq_true g)] at hK; exact hK
  · rw [if_neg (of_decide_eq_false g1), if_neg (of_decide_eq_false g2), if_neg (of_decide_eq_false g3)] at hK; exact hK
theorem R_ValueText_ok {v : Int × Int} (hv : goodV v) {h : Hp} {R : Value → Hp → Prop} (hK : R (vs (bs (textV v))) h) : CallOK Tryd.prog 28 [vag (encV v)] h R := by
  refine ok_R_ValueText ?_
  unfold VC_R_ValueText
  unfold textV at hK
  unfold goodV at hv
  refine ⟨fun g => ?_, fun g1 => ⟨fun g => ?_, fun g2 => ⟨fun g => ?_, fun g3 => ?_⟩⟩⟩
  · rw [if_pos (of_decide_eq_true g)] at hK; exact hK
  · rw [if_neg (of_decide_eq_false g1), if_pos (of_decide_eq_true g)] at hK
    have := of_decide_eq_true g
    exact R_Decimal_ok (by omega) (by omega) ⟨_, rfl, hK⟩
  · have g1 := of_decide_eq_false g1
    have g2 := of_decide_eq_false g2
    have g := of_decide_eq_true g
    rw [if_neg g1, if_neg g2, if_neg (by omega)] at hK; exact hK
  · have g1 := of_decide_eq_false g1
    have g2 := of_decide_eq_false g2
    have g3 := of_decide_eq_false g3
    rw [if_neg g1, if_neg g2, if_pos (by omega)] at hK; exact hK
/-- What is read of a text: a value, and 0; or none, and 4. -/
def readV (l : List UInt8) : (Int × Int) × Int :=
  if l = wNull then ((0, 0), 0) else if l = wTrue ∨ l = wFalse then (truthV (decide (l = wTrue)), 0) else
    match Lib.atoiAll l with
    | .ok v => if Lib.itoa v = l ∧ -1000000000 ≤ v ∧ v ≤ 1000000000 then (numV v, 0) else ((0, 0), 4)
    | _ => ((0, 0), 4)
theorem value_Parse_ok {l : List UInt8} (hl : l.length ≤ 1000000) {h : Hp} (T : TabP h) (E : TabE h) {R : Value → Hp → Prop} (hK : R (vtup [vag (encV (readV l).1), ifv (errV (readV l).2)]) h) : CallOK Tryd.prog 17 [vs (bs l)] h R := by
  refine ok_value_Parse ?_
  unfold VC_value_Parse
  refine ⟨_, rd_eqBs (b := wNull), fun g => ?_, fun g1 => ?_⟩
  · have g := of_decide_eq_true g
    have : readV l = ((0, 0), 0) := by unfold readV; rw [if_pos g]
    rw [this] at hK
    exact value_Null_ok ⟨_, _, rfl, hK⟩
  have g1 := of_decide_eq_false g1
  refine ⟨_, rd_eqBs (b := wTrue), ?_⟩
  intro J10
  have yes : l = wTrue ∨ l = wFalse → J10 true := by
    intro hw
    refine ⟨fun _ => ⟨_, rd_eqBs (b := wTrue), ?_⟩, fun g => by cases g⟩
    have : readV l = (truthV (decide (l = wTrue)), 0) := by unfold readV; rw [if_neg g1, if_pos hw]
    rw [this] at hK
    exact value_Truth_ok ⟨_, _, rfl, hK⟩
  have no : ¬ (l = wTrue ∨ l = wFalse) → J10 false := by
    intro hw
    refine ⟨fun g => by (cases g), fun _ => ?_⟩
    have hr : readV l = match Lib.atoiAll l with
      | .ok v => if Lib.itoa v = l ∧ -1000000000 ≤ v ∧ v ≤ 1000000000 then (numV v, 0) else ((0, 0), 4)
      | _ => ((0, 0), 4) := by unfold readV; rw [if_neg g1, if_neg hw]
    refine strconv_Atoi_ok hl E (fun v hv => ⟨_, _, rfl, ?_⟩) fun hn x e => ⟨_, _, rfl, ?_⟩
    · rw [hv] at hr
      simp only at hr
      have hb := Lib.atoiAll_bounds hv
      refine ⟨fun x h' => h' = h ∧ x = .t (.one (.v (vs (bs (Lib.itoa v))))), fun _ => strconv_Itoa_ok (by unfold InR; omega) T ⟨_, rfl, rfl, rfl⟩, fun g => absurd rfl g, ?_⟩
      rintro h26 s27 ⟨rfl, e⟩
      cases e
      refine ⟨_, fun _ => rd_neBs (a := Lib.itoa v) (b := l), fun g => ?_, fun g => ?_⟩
      · have : ¬ (Lib.itoa v = l ∧ -1000000000 ≤ v ∧ v ≤ 1000000000) := by
          rintro ⟨h1, h2, h3⟩
          rw [decide_eq_true h1, decide_eq_false (show ¬ v < -1000000000 by omega), decide_eq_false (show ¬ v > 1000000000 by omega)] at g
          cases g
        rw [hr, if_neg this] at hK
        exact hK
      · have : Lib.itoa v = l ∧ -1000000000 ≤ v ∧ v ≤ 1000000000 := by
          obtain ⟨g, g3⟩ := bor_false g
          obtain ⟨g, g2⟩ := bor_false g
          obtain ⟨_, g⟩ := bor_false g
          have g3 := of_decide_eq_false g3
          have g2 := of_decide_eq_false g2
          exact ⟨by simpa using g, by omega, by omega⟩
        rw [hr, if_pos this] at hK
        exact value_Number_ok ⟨_, _, rfl, hK⟩
    · have hr2 : readV l = ((0, 0), 4) := by
        rw [hr]
        cases hA : Lib.atoiAll l
        · exact absurd hA (hn _)
        · rfl
        · rfl
      rw [hr2] at hK
      refine ⟨fun x h' => h' = h ∧ ∃ s, x = .t (.one (.v (vs s))), fun g => by (cases g), fun _ => ⟨rfl, _, rfl⟩, ?_⟩
      rintro h26 s27 ⟨rfl, s, e⟩
      cases e
      exact ⟨false, fun g => by (cases g), fun _ => hK, fun g => by cases g⟩
  clear_value J10
  refine ⟨fun g => ?_, fun g2 => ⟨_, rd_eqBs (b := wFalse), ?_⟩⟩
  · rw [g]; exact yes (.inl (of_decide_eq_true g))
  · have g2 := of_decide_eq_false g2
    by_cases hf : l = wFalse
    · rw [decide_eq_true hf]; exact yes (.inr hf)
    · rw [decide_eq_false hf]; exact no (by rintro (h | h); exact g2 h; exact hf h)
theorem rd_subU8 {t : TypeId} {h : Hp} {a : Int} (h0 : 48 ≤ a) (h1 : a ≤ 255) : Rd Tryd.prog (binOp .sub t (vk .u8 a) (vk .u8 48)) h (vk .u8 (a - 48)) := by
  intro w _
  have e : IntKind.u8.wrap (a - 48) = a - 48 := by rw [IntKind.wrap_u8]; omega
  simp [binOp, Op.intArith, e]
theorem R_natural_ok {l : List UInt8} (hl : l.length ≤ 1000000) {most : Int} (hm : 0 ≤ most) (hm2 : most ≤ 1000000000000) {plain : Bool} {h : Hp} {R : Value → Hp → Prop} (hK : R (vi (natF l most plain)) h) : CallOK Tryd.prog 31 [vs (bs l), vi most, vb plain] h R := by
  refine ok_R_natural ?_
  unfold VC_R_natural
  rw [bs_size]
  refine ⟨((l.getD (0 : Int).toNat 0).toNat : Int), fun g => rd_idx (by kernel_rfl) (by decide) (by have := of_decide_eq_false g.1; omega), ?_⟩
  have hh : ∀ c r, l = c :: r → l.getD (0 : Int).toNat 0 = c := by rintro c r rfl; rfl
  have e48 : ∀ c : UInt8, (c.toNat : Int) = 48 ↔ c = 48 := by
    intro c
    constructor
    · intro e
      have : c.toNat = 48 := by omega
      have h2 := congrArg UInt8.ofNat this
      simpa using h2
    · rintro rfl; rfl
  have ep : ∀ (p : Prop) [Decidable p], (bif plain then decide p else false) = decide (plain = true ∧ p) := by
    intro p _
    cases plain <;> simp
  have key : (bif (decide ((l.length : Int) < 1)) then true else (bif (bif plain then (decide (((l.getD (0 : Int).toNat 0).toNat : Int) = 48)) else false) then (decide ((l.length : Int) > 1)) else false)) = decide (l = [] ∨ (plain = true ∧ l.head? = some 48 ∧ 1 < l.length)) := by
    rw [ep, cand, cor]
    refine decide_eq_decide.2 ?_
    match l, hh with
    | [], _ => exact ⟨fun _ => .inl rfl, fun _ => .inl (by decide)⟩
    | c :: r, hh =>
      rw [hh c r rfl, e48]
      constructor
      · rintro (h | ⟨⟨h1, h2⟩, h3⟩)
        · exfalso
          have : (c :: r).length = r.length + 1 := rfl
          omega
        · exact .inr ⟨h1, by rw [h2]; rfl, by omega⟩
      · rintro (h | ⟨h1, h2, h3⟩)
        · exact absurd h (by simp)
        · exact .inr ⟨⟨h1, by simpa using h2⟩, by omega⟩
  rw [key]
  clear key hh
  refine ⟨fun g => ?_, fun g => ?_⟩
  · have : natF l most plain = -1 := by unfold natF; rw [if_pos (of_decide_eq_true g)]
    rw [this] at hK; exact hK
  have : natF l most plain = natGo most 0 l := by unfold natF; rw [if_neg (of_decide_eq_false g)]
  rw [this] at hK
  clear this g
  refine ⟨fun vs hh => hh = h ∧ ∃ (a : Int) (i : Nat), vs = [vi a, vi i] ∧ i ≤ l.length ∧ natGo most 0 l = natGo most a (l.drop i) ∧ 0 ≤ a ∧ a ≤ most, fun vs hh => l.length - (vint vs 1).toNat, ⟨rfl, 0, 0, rfl, Nat.zero_le _, rfl, Int.le_refl _, hm⟩, ?_⟩
  rintro vs hh ⟨rfl, a, i, rfl, hi, hc, ha, ham⟩
  refine ⟨a, i, rfl, fun g => ?_, fun g => ?_⟩
  · have hlt : i < l.length := by have := of_decide_eq_true g; omega
    have hg : l.getD (i : Int).toNat 0 = l[i] := by rw [Int.toNat_natCast, List.getD_eq_getElem?_getD, List.getElem?_eq_getElem hlt]; rfl
    have hr : Rd Tryd.prog (Instr.index 9 (vs (bs l)) (vi i)) hh (vk .u8 ((l[i]).toNat : Nat)) := by
      have := rd_idx (P := Tryd.prog) (h := hh) (t := 9) (l := l) (i := (i : Int)) (by kernel_rfl) (by omega) (by omega)
      rw [hg] at this
      exact this
    rw [List.drop_eq_getElem_cons hlt, natGo] at hc
    have hb := UInt8.toNat_lt l[i]
    generalize l[i] = c at *
    refine ⟨_, hr, _, fun _ => hr, fun q => ?_, fun q => ?_⟩
    · rw [cor] at q
      have q := of_decide_eq_true q
      rw [if_pos (by omega)] at hc
      rw [hc] at hK; exact hK
    · rw [cor] at q
      have q := of_decide_eq_false q
      rw [if_neg (by omega)] at hc
      have e64 : IntKind.wrap .i64 ((c.toNat : Int) - 48) = (c.toNat : Int) - 48 := IntWalk.i64_in _ (by omega)
      refine ⟨_, isW (by unfold InR; omega), _, hr, _, rd_subU8 (by omega) (by omega), ?_⟩
      rw [e64]
      refine ⟨_, isW (by unfold InR; omega), fun q2 => ?_, fun q2 => ?_⟩
      · rw [if_pos (of_decide_eq_true q2)] at hc
        rw [hc] at hK; exact hK
      · have q2 := of_decide_eq_false q2
        rw [if_neg q2] at hc
        exact ⟨_, isW (by unfold InR; omega), ⟨rfl, _, i + 1, rfl, by omega, hc, by omega, by omega⟩, by simp [vint]; omega⟩
  · have hge : i = l.length := by have := of_decide_eq_false g; omega
    subst hge
    rw [List.drop_eq_nil_of_le (Nat.le_refl _), natGo] at hc
    rw [hc] at hK; exact hK
/-- A text behind its sign. -/
def tailV (l : List UInt8) : List UInt8 := if 1 < l.length ∧ l.head? = some 45 then l.drop 1 else l
/-- What the document reads. -/
def readR (l : List UInt8) : (Int × Int) × Int :=
  if l = wNull then ((0, 0), 0) else if l = wTrue ∨ l = wFalse then (truthV (decide (l = wTrue)), 0) else
    if natF (tailV l) 1000000000 true < 0 ∨ ((tailV l).length < l.length ∧ natF (tailV l) 1000000000 true = 0) then ((0, 0), 4)
    else (numV (if (tailV l).length < l.length then - natF (tailV l) 1000000000 true else natF (tailV l) 1000000000 true), 0)
theorem natF_le {l : List UInt8} {most : Int} (hm : 0 ≤ most) : natF l most true ≤ most := by
  by_cases h : 0 ≤ natF l most true
  · exact (natF_inv hm h).2
  · omega
theorem natF_ge {l : List UInt8} {most : Int} (hm : 0 ≤ most) : -1 ≤ natF l most true := by
  unfold natF
  split
  · omega
  · have := natGo_spec most l 0 hm
    simp only [Int.natCast_zero] at this
    rw [this]
    split <;> omega
theorem R_ValueOf_ok {l : List UInt8} (hl : l.length ≤ 1000000) {h : Hp} {R : Value → Hp → Prop} (hK : R (vtup [vag (encV (readR l).1), vi (readR l).2]) h) : CallOK Tryd.prog 18 [vs (bs l)] h R := by
  refine ok_R_ValueOf ?_
  unfold VC_R_ValueOf
  rw [bs_size]
  refine ⟨_, rd_eqBs (b := wNull), fun g => ?_, fun g1 => ⟨_, rd_eqBs (b := wTrue), _, fun _ => rd_eqBs (b := wFalse), ?_⟩⟩
  · have : readR l = ((0, 0), 0) := by unfold readR; rw [if_pos (of_decide_eq_true g)]
    rw [this] at hK; exact hK
  have g1 := of_decide_eq_false g1
  rw [cor]
  refine ⟨fun g => ⟨_, rd_eqBs (b := wTrue), R_Truth_ok ⟨_, _, rfl, ?_⟩⟩, fun g2 => ?_⟩
  · have : readR l = (truthV (decide (l = wTrue)), 0) := by unfold readR; rw [if_neg g1, if_pos (of_decide_eq_true g)]
    rw [this] at hK; exact hK
  have g2 := of_decide_eq_false g2
  have hr : readR l = if natF (tailV l) 1000000000 true < 0 ∨ ((tailV l).length < l.length ∧ natF (tailV l) 1000000000 true = 0) then ((0, 0), 4)
    else (numV (if (tailV l).length < l.length then - natF (tailV l) 1000000000 true else natF (tailV l) 1000000000 true), 0) := by unfold readR; rw [if_neg g1, if_neg g2]
  rw [hr] at hK
  clear hr
  refine ⟨((l.getD (0 : Int).toNat 0).toNat : Int), fun g => rd_idx (by kernel_rfl) (by decide) (by have := of_decide_eq_true g; omega), ?_⟩
  intro J15
  have hJ : ∀ t, t = tailV l → t.length ≤ l.length → J15 (bs t) := by
    intro t ht htl
    refine R_natural_ok (by omega) (by decide) (by decide) ⟨_, rfl, ?_⟩
    rw [← ht] at hK
    have hb1 := natF_le (l := t) (most := 1000000000) (by decide)
    have hb2 := natF_ge (l := t) (most := 1000000000) (by decide)
    generalize natF t 1000000000 true = n at *
    rw [bs_size]
    have e : (bif (decide ((n : Int) < 0)) then true else (bif (decide (((t.length : Nat) : Int) < ((l.length : Nat) : Int))) then (decide ((n : Int) = 0)) else false)) = decide (n < 0 ∨ (t.length < l.length ∧ n = 0)) := by
      rw [cand, cor]
      exact decide_eq_decide.2 (by omega)
    rw [e]
    refine ⟨fun g => ?_, fun g => ?_⟩
    · rw [if_pos (of_decide_eq_true g)] at hK; exact hK
    · rw [if_neg (of_decide_eq_false g)] at hK
      refine ⟨fun g => ⟨_, isW (by unfold InR; omega), R_Num_ok ⟨_, _, rfl, ?_⟩⟩, fun g => R_Num_ok ⟨_, _, rfl, ?_⟩⟩
      · rw [if_pos (by have := of_decide_eq_true g; omega)] at hK; exact hK
      · rw [if_neg (by have := of_decide_eq_false g; omega)] at hK; exact hK
  clear_value J15
  have e45 : (bif (decide ((l.length : Int) > 1)) then (decide (((l.getD (0 : Int).toNat 0).toNat : Int) = 45)) else false) = decide (1 < l.length ∧ l.head? = some 45) := by
    rw [cand]
    refine decide_eq_decide.2 ?_
    match l with
    | [] => simp
    | c :: r =>
      have e : (c.toNat : Int) = 45 ↔ c = 45 := by
        constructor
        · intro e
          have : c.toNat = 45 := by omega
          have h2 := congrArg UInt8.ofNat this
          simpa using h2
        · rintro rfl; rfl
      show _ ∧ (c.toNat : Int) = 45 ↔ _
      rw [e]
      simp
      omega
  rw [e45]
  refine ⟨fun g => ⟨_, rd_cutL (by kernel_rfl) (by decide) (by have := (of_decide_eq_true g).1; omega), ?_⟩, fun g => ?_⟩
  · refine hJ _ ?_ (by simp)
    unfold tailV
    rw [if_pos (of_decide_eq_true g)]
    rfl
  · refine hJ _ ?_ (Nat.le_refl _)
    unfold tailV
    rw [if_neg (of_decide_eq_false g)]
/-- Both read the same. -/
theorem read_same (l : List UInt8) : readV l = readR l := by
  unfold readV readR
  split
  · rfl
  · split
    · rfl
    · have hi := fun h => natF_inv (l := tailV l) (most := 1000000000) (by decide) h
      have hle := natF_le (l := tailV l) (most := 1000000000) (by decide)
      by_cases hc : natF (tailV l) 1000000000 true < 0 ∨ ((tailV l).length < l.length ∧ natF (tailV l) 1000000000 true = 0)
      · rw [if_pos hc]
        cases hA : Lib.atoiAll l with
        | ok v =>
          simp only
          rw [if_neg]
          rintro ⟨h1, h2, h3⟩
          by_cases hv : v < 0
          · have e := itoa_minus hv
            rw [h1] at e
            have hd := dec_spec (-v).toNat
            have ei : Lib.itoa (-v) = Lib.decDigits (-v).toNat := by unfold Lib.itoa; rw [if_neg (by omega)]
            rw [ei] at e
            have ht : tailV l = Lib.decDigits (-v).toNat := by
              unfold tailV
              have := List.length_pos_iff.2 hd.2.2.1
              rw [if_pos (by rw [e]; exact ⟨by simp; omega, rfl⟩), e]
              rfl
            have hn := natF_dec (k := (-v).toNat) (most := 1000000000) (by omega) (by decide)
            rw [← ht] at hn
            omega
          · have ei : Lib.itoa v = Lib.decDigits v.toNat := by unfold Lib.itoa; rw [if_neg hv]
            rw [ei] at h1
            have hd := dec_spec v.toNat
            have ht : tailV l = l := by
              unfold tailV
              rw [if_neg]
              rintro ⟨_, h4⟩
              rw [← h1] at h4
              have hm : (45 : UInt8) ∈ Lib.decDigits v.toNat := by
                match hx : Lib.decDigits v.toNat with
                | [] => rw [hx] at h4; cases h4
                | c :: r => rw [hx] at h4; simp at h4; subst h4; exact List.mem_cons_self ..
              have := hd.1 _ hm
              unfold isD at this
              simp at this
            have hn := natF_dec (k := v.toNat) (most := 1000000000) (by omega) (by decide)
            rw [h1, ← ht] at hn
            rw [ht] at hc
            rw [ht] at hn
            omega
        | _ => rfl
      · rw [if_neg hc]
        have h0 : 0 ≤ natF (tailV l) 1000000000 true := by omega
        obtain ⟨e1, _⟩ := hi h0
        generalize natF (tailV l) 1000000000 true = n at *
        have hl : ∃ m : Int, m = (if (tailV l).length < l.length then -n else n) ∧ Lib.itoa m = l ∧ -1000000000 ≤ m ∧ m ≤ 1000000000 := by
          refine ⟨_, rfl, ?_, ?_, ?_⟩
          · split
            · rename_i hlt
              have hs : 1 < l.length ∧ l.head? = some 45 := by
                unfold tailV at hlt
                split at hlt
                · assumption
                · omega
              have el : l = 45 :: tailV l := by
                unfold tailV
                rw [if_pos hs]
                match l, hs with
                | c :: r, hs => simp at hs ⊢; exact hs.2
              have hn0 : n ≠ 0 := fun e => hc (.inr ⟨hlt, e⟩)
              rw [itoa_minus (by omega)]
              have ei : Lib.itoa (- -n) = Lib.decDigits n.toNat := by
                unfold Lib.itoa
                rw [if_neg (by omega)]
                congr 1
                omega
              rw [ei, ← e1]
              exact el.symm
            · rename_i hlt
              have : tailV l = l := by
                unfold tailV at hlt ⊢
                split
                · rename_i h
                  rw [if_pos h] at hlt
                  simp at hlt
                  omega
                · rfl
              rw [this] at e1
              have ei : Lib.itoa n = Lib.decDigits n.toNat := by unfold Lib.itoa; rw [if_neg (by omega)]
              rw [ei, ← e1]
          · split <;> omega
          · split <;> omega
        obtain ⟨m, em, h1, h2, h3⟩ := hl
        rw [← em]
        have := atoi_itoa (n := m) (by omega) (by omega)
        rw [h1] at this
        rw [this]
        simp only
        rw [if_pos ⟨h1, h2, h3⟩]
end Go.Proofs.YtgonnpleihbklaaDoor
