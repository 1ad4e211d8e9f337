/-
  Laws and contracts on which the statement's proof stands, part 4. Conditions: those stated at each.
-/
import Derived.Lib.AtoiErrMem
import Derived.Lib.Join
import Derived.Test.YtonlacplogbodaaDoorTx3
/-
  Contracts: values as texts: Text, Parse; and as the document has them. Conditions: that the tables and errors of the library lie as the program's text lays them; that the text is not too long.
-/
namespace Go.Proofs.YtonlacplogbodaaDoor
open Go Go.Vc Go.Txt
set_option linter.unusedVariables false
set_option maxRecDepth 100000

/-- The library's two errors lie there. -/
structure TabE (h : Hp) : Prop where
  a : ∃ tp p, ∀ w, Sub h w → w.var? Tryd.prog "strconv.ErrSyntax" = some #[.iface tp p]
  b : ∃ tp p, ∀ w, Sub h w → w.var? Tryd.prog "strconv.ErrRange" = some #[.iface tp p]
theorem TabE.le {h h' : Hp} (T : TabE h) (hl : h.le h') : TabE h' := by
  obtain ⟨⟨t, p, a⟩, ⟨u, q, b⟩⟩ := T
  exact ⟨⟨t, p, fun w hs => a w (sub_le hl hs)⟩, ⟨u, q, fun w hs => b w (sub_le hl hs)⟩⟩
theorem strconv_Atoi_ok {l : List UInt8} (hl : l.length ≤ 1000000) {h : Hp} (E : TabE h) {R : Value → Hp → Prop} (hY : ∀ v, Lib.atoiAll l = .ok v → R (vtup [vi v, ifv none]) h) (hN : (∀ v, Lib.atoiAll l ≠ .ok v) → ∀ x e, R (vtup [vi x, ifv (some e)]) h) :
    CallOK Tryd.prog 28 [vs (bs l)] h R := by
  have hsz : (bs l).size = l.length := bs_size l
  have hdl : (bs l).data.toList = l := by simp [bs]
  obtain ⟨⟨t, p, ha⟩, ⟨u, q, hb⟩⟩ := E
  refine callOK_below fun w hs => ?_
  cases hA : Lib.atoiAll l
  · rename_i v
    refine (Tryd.strconv_Atoi_ok (bs l) (by omega) v (by rw [hdl]; exact hA) w).mono ?_
    rintro e w' ⟨he, hw⟩
    refine ⟨_, he, ?_, hY v hA⟩
    rcases hw with rfl | ⟨t, rfl⟩
    · exact RowKit.Below.refl _ _
    · exact Lib.bytesWorld_below _ _ _
  · refine (Any.strconv_Atoi_syntax_var Tryd.laysC172 (bs l) (by omega) (by rw [hdl]; exact hA) t p w (ha w hs)).mono ?_
    rintro e w' ⟨N, he, _, _, hB⟩
    exact ⟨_, he, hB, hN (fun v e => by rw [hA] at e; cases e) _ (_, _)⟩
  · refine (Any.strconv_Atoi_range_var Tryd.laysC172 (bs l) (by omega) (by rw [hdl]; exact hA) u q w (hb w hs)).mono ?_
    rintro e w' ⟨N, he, _, _, hB⟩
    exact ⟨_, he, hB, hN (fun v e => by rw [hA] at e; cases e) _ (_, _)⟩
/-- What is written of a value. -/
def textV (v : Int × Int) : List UInt8 := if v.1 = 0 then wNull else if v.1 = 1 then Lib.itoa v.2 else if v.2 = 0 then wFalse else wTrue
theorem value_Text_ok {v : Int × Int} (hn : InR v.2) {h : Hp} (T : TabP h) {R : Value → Hp → Prop} (hK : R (vs (bs (textV v))) h) : CallOK Tryd.prog 31 [vag (encV v)] h R := by
  refine ok_value_Text ?_
  unfold VC_value_Text
  unfold textV at hK
  refine ⟨fun g => ?_, fun g1 => ⟨fun g => ?_, fun g2 => ⟨fun g => ?_, fun g3 => ?_⟩⟩⟩
  · rw [if_pos (of_decide_eq_true g)] at hK; exact hK
  · rw [if_neg (of_decide_eq_false g1), if_pos (of_decide_eq_true g)] at hK
    exact strconv_Itoa_ok hn T ⟨_, rfl, hK⟩
  · rw [if_neg (of_decide_eq_false g1), if_neg (of_decide_eq_false g2), if_pos (of_decide_eq_true g)] at hK; exact hK
  · rw [if_neg (of_decide_eq_false g1), if_neg (of_decide_eq_false g2), if_neg (of_decide_eq_false g3)] at hK; exact hK
/-- What is read of a text: a value, and 0; or none, and 4. -/
def readV (l : List UInt8) : (Int × Int) × Int :=
  if l = wNull then ((0, 0), 0) else if l = wTrue ∨ l = wFalse then (truthV (decide (l = wTrue)), 0) else
    match Lib.atoiAll l with
    | .ok v => if Lib.itoa v = l ∧ -1000000000 ≤ v ∧ v ≤ 1000000000 then (numV v, 0) else ((0, 0), 4)
    | _ => ((0, 0), 4)
theorem value_Parse_ok {l : List UInt8} (hl : l.length ≤ 1000000) {h : Hp} (T : TabP h) (E : TabE h) {R : Value → Hp → Prop} (hK : R (vtup [vag (encV (readV l).1), ifv (errV (readV l).2)]) h) : CallOK Tryd.prog 85 [vs (bs l)] h R := by
  refine ok_value_Parse ?_
  unfold VC_value_Parse
  refine ⟨_, rd_eqBs (b := wNull), fun g => ?_, fun g1 => ?_⟩
  · have g := of_decide_eq_true g
    have : readV l = ((0, 0), 0) := by unfold readV; rw [if_pos g]
    rw [this] at hK
    exact value_Null_ok ⟨_, _, rfl, hK⟩
  have g1 := of_decide_eq_false g1
  refine ⟨_, rd_eqBs (b := wTrue), ?_⟩
  intro J10
  have yes : l = wTrue ∨ l = wFalse → J10 true := by
    intro hw
    refine ⟨fun _ => ⟨_, rd_eqBs (b := wTrue), ?_⟩, fun g => by cases g⟩
    have : readV l = (truthV (decide (l = wTrue)), 0) := by unfold readV; rw [if_neg g1, if_pos hw]
    rw [this] at hK
    exact value_Truth_ok ⟨_, _, rfl, hK⟩
  have no : ¬ (l = wTrue ∨ l = wFalse) → J10 false := by
    intro hw
    refine ⟨fun g => by (cases g), fun _ => ?_⟩
    have hr : readV l = match Lib.atoiAll l with
      | .ok v => if Lib.itoa v = l ∧ -1000000000 ≤ v ∧ v ≤ 1000000000 then (numV v, 0) else ((0, 0), 4)
      | _ => ((0, 0), 4) := by unfold readV; rw [if_neg g1, if_neg hw]
    refine strconv_Atoi_ok hl E (fun v hv => ⟨_, _, rfl, ?_⟩) fun hn x e => ⟨_, _, rfl, ?_⟩
    · rw [hv] at hr
      simp only at hr
      have hb := Lib.atoiAll_bounds hv
      refine ⟨fun x h' => h' = h ∧ x = .t (.one (.v (vs (bs (Lib.itoa v))))), fun _ => strconv_Itoa_ok (by unfold InR; omega) T ⟨_, rfl, rfl, rfl⟩, fun g => absurd rfl g, ?_⟩
      rintro h26 s27 ⟨rfl, e⟩
      cases e
      refine ⟨_, fun _ => rd_neBs (a := Lib.itoa v) (b := l), fun g => ?_, fun g => ?_⟩
      · have : ¬ (Lib.itoa v = l ∧ -1000000000 ≤ v ∧ v ≤ 1000000000) := by
          rintro ⟨h1, h2, h3⟩
          rw [decide_eq_true h1, decide_eq_false (show ¬ v < -1000000000 by omega), decide_eq_false (show ¬ v > 1000000000 by omega)] at g
          cases g
        rw [hr, if_neg this] at hK
        exact hK
      · have : Lib.itoa v = l ∧ -1000000000 ≤ v ∧ v ≤ 1000000000 := by
          obtain ⟨g, g3⟩ := bor_false g
          obtain ⟨g, g2⟩ := bor_false g
          obtain ⟨_, g⟩ := bor_false g
          have g3 := of_decide_eq_false g3
          have g2 := of_decide_eq_false g2
          exact ⟨by simpa using g, by omega, by omega⟩
        rw [hr, if_pos this] at hK
        exact value_Number_ok ⟨_, _, rfl, hK⟩
    · have hr2 : readV l = ((0, 0), 4) := by
        rw [hr]
        cases hA : Lib.atoiAll l
        · exact absurd hA (hn _)
        · rfl
        · rfl
      rw [hr2] at hK
      refine ⟨fun x h' => h' = h ∧ ∃ s, x = .t (.one (.v (vs s))), fun g => by (cases g), fun _ => ⟨rfl, _, rfl⟩, ?_⟩
      rintro h26 s27 ⟨rfl, s, e⟩
      cases e
      exact ⟨false, fun g => by (cases g), fun _ => hK, fun g => by cases g⟩
  clear_value J10
  refine ⟨fun g => ?_, fun g2 => ⟨_, rd_eqBs (b := wFalse), ?_⟩⟩
  · rw [g]; exact yes (.inl (of_decide_eq_true g))
  · have g2 := of_decide_eq_false g2
    by_cases hf : l = wFalse
    · rw [decide_eq_true hf]; exact yes (.inr hf)
    · rw [decide_eq_false hf]; exact no (by rintro (h | h); exact g2 h; exact hf h)
theorem rd_subU8 {t : TypeId} {h : Hp} {a : Int} (h0 : 48 ≤ a) (h1 : a ≤ 255) : Rd Tryd.prog (binOp .sub t (vk .u8 a) (vk .u8 48)) h (vk .u8 (a - 48)) := by
  intro w _
  have e : IntKind.u8.wrap (a - 48) = a - 48 := by rw [IntKind.wrap_u8]; omega
  simp [binOp, Op.intArith, e]
/-- A text behind its sign. -/
def tailV (l : List UInt8) : List UInt8 := if 1 < l.length ∧ l.head? = some 45 then l.drop 1 else l
/-- What the document reads. -/
def readR (l : List UInt8) : (Int × Int) × Int :=
  if l = wNull then ((0, 0), 0) else if l = wTrue ∨ l = wFalse then (truthV (decide (l = wTrue)), 0) else
    if natF (tailV l) 1000000000 true < 0 ∨ ((tailV l).length < l.length ∧ natF (tailV l) 1000000000 true = 0) then ((0, 0), 4)
    else (numV (if (tailV l).length < l.length then - natF (tailV l) 1000000000 true else natF (tailV l) 1000000000 true), 0)
theorem natF_le {l : List UInt8} {most : Int} (hm : 0 ≤ most) : natF l most true ≤ most := by
  by_cases h : 0 ≤ natF l most true
  · exact (natF_inv hm h).2
  · omega
theorem natF_ge {l : List UInt8} {most : Int} (hm : 0 ≤ most) : -1 ≤ natF l most true := by
  unfold natF
  split
  · omega
  · have := natGo_spec most l 0 hm
    simp only [Int.natCast_zero] at this
    rw [this]
    split <;> omega
/-- Both read the same. -/
theorem read_same (l : List UInt8) : readV l = readR l := by
  unfold readV readR
  split
  · rfl
  · split
    · rfl
    · have hi := fun h => natF_inv (l := tailV l) (most := 1000000000) (by decide) h
      have hle := natF_le (l := tailV l) (most := 1000000000) (by decide)
      by_cases hc : natF (tailV l) 1000000000 true < 0 ∨ ((tailV l).length < l.length ∧ natF (tailV l) 1000000000 true = 0)
      · rw [if_pos hc]
        cases hA : Lib.atoiAll l with
        | ok v =>
          simp only
          rw [if_neg]
          rintro ⟨h1, h2, h3⟩
          by_cases hv : v < 0
          · have e := itoa_minus hv
            rw [h1] at e
            have hd := dec_spec (-v).toNat
            have ei : Lib.itoa (-v) = Lib.decDigits (-v).toNat := by unfold Lib.itoa; rw [if_neg (by omega)]
            rw [ei] at e
            have ht : tailV l = Lib.decDigits (-v).toNat := by
              unfold tailV
              have := List.length_pos_iff.2 hd.2.2.1
              rw [if_pos (by rw [e]; exact ⟨by simp; omega, rfl⟩), e]
              rfl
            have hn := natF_dec (k := (-v).toNat) (most := 1000000000) (by omega) (by decide)
            rw [← ht] at hn
            omega
          · have ei : Lib.itoa v = Lib.decDigits v.toNat := by unfold Lib.itoa; rw [if_neg hv]
            rw [ei] at h1
            have hd := dec_spec v.toNat
            have ht : tailV l = l := by
              unfold tailV
              rw [if_neg]
              rintro ⟨_, h4⟩
              rw [← h1] at h4
              have hm : (45 : UInt8) ∈ Lib.decDigits v.toNat := by
                match hx : Lib.decDigits v.toNat with
                | [] => rw [hx] at h4; cases h4
                | c :: r => rw [hx] at h4; simp at h4; subst h4; exact List.mem_cons_self ..
              have := hd.1 _ hm
              unfold isD at this
              simp at this
            have hn := natF_dec (k := v.toNat) (most := 1000000000) (by omega) (by decide)
            rw [h1, ← ht] at hn
            rw [ht] at hc
            rw [ht] at hn
            omega
        | _ => rfl
      · rw [if_neg hc]
        have h0 : 0 ≤ natF (tailV l) 1000000000 true := by omega
        obtain ⟨e1, _⟩ := hi h0
        generalize natF (tailV l) 1000000000 true = n at *
        have hl : ∃ m : Int, m = (if (tailV l).length < l.length then -n else n) ∧ Lib.itoa m = l ∧ -1000000000 ≤ m ∧ m ≤ 1000000000 := by
          refine ⟨_, rfl, ?_, ?_, ?_⟩
          · split
            · rename_i hlt
              have hs : 1 < l.length ∧ l.head? = some 45 := by
                unfold tailV at hlt
                split at hlt
                · assumption
                · omega
              have el : l = 45 :: tailV l := by
                unfold tailV
                rw [if_pos hs]
                match l, hs with
                | c :: r, hs => simp at hs ⊢; exact hs.2
              have hn0 : n ≠ 0 := fun e => hc (.inr ⟨hlt, e⟩)
              rw [itoa_minus (by omega)]
              have ei : Lib.itoa (- -n) = Lib.decDigits n.toNat := by
                unfold Lib.itoa
                rw [if_neg (by omega)]
                congr 1
                omega
              rw [ei, ← e1]
              exact el.symm
            · rename_i hlt
              have : tailV l = l := by
                unfold tailV at hlt ⊢
                split
                · rename_i h
                  rw [if_pos h] at hlt
                  simp at hlt
                  omega
                · rfl
              rw [this] at e1
              have ei : Lib.itoa n = Lib.decDigits n.toNat := by unfold Lib.itoa; rw [if_neg (by omega)]
              rw [ei, ← e1]
          · split <;> omega
          · split <;> omega
        obtain ⟨m, em, h1, h2, h3⟩ := hl
        rw [← em]
        have := atoi_itoa (n := m) (by omega) (by omega)
        rw [h1] at this
        rw [this]
        simp only
        rw [if_pos ⟨h1, h2, h3⟩]
end Go.Proofs.YtonlacplogbodaaDoor
/-
  The plain law of numbers that are read by the library, and by the document. No program in sight. Conditions: none.
-/
namespace Go.Txt
open Go.Lib
set_option linter.unusedVariables false

theorem parse_inv : ∀ (l : List UInt8) (a u : Nat), parseUint10 a l = .ok u → (∀ c ∈ l, isD c) ∧ u = valF a l
  | [], a, u, h => by
    rw [parseUint10] at h
    injection h with h
    exact ⟨by simp, h.symm⟩
  | c :: l, a, u, h => by
    rw [parseUint10] at h
    split at h
    · rename_i hc
      split at h
      · cases h
      · split at h
        · cases h
        · obtain ⟨h1, h2⟩ := parse_inv l _ u h
          refine ⟨fun x hx => ?_, ?_⟩
          · rcases List.mem_cons.1 hx with rfl | hx
            · exact hc
            · exact h1 x hx
          · rw [h2, Nat.mul_comm]; rfl
    · cases h
theorem natF_go {l : List UInt8} (hl : l ≠ []) (most : Int) : natF l most false = natGo most 0 l := by
  unfold natF
  rw [if_neg]
  rintro (h | ⟨h, _⟩)
  · exact hl h
  · cases h
theorem natF_eq {l : List UInt8} (hl : l ≠ []) {most : Int} (hm : 0 ≤ most) : natF l most false = if (∀ c ∈ l, isD c) ∧ (valF 0 l : Int) ≤ most then (valF 0 l : Int) else -1 := by
  rw [natF_go hl]
  exact natGo_spec most l 0 hm
theorem natF_low {l : List UInt8} {most : Int} (hm : 0 ≤ most) : -1 ≤ natF l most false ∧ natF l most false ≤ most := by
  by_cases hl : l = []
  · subst hl; unfold natF; simp; omega
  · rw [natF_eq hl hm]
    split <;> omega
theorem atoi_digits {c : UInt8} {r : List UInt8} (hc : isD c) {v : Int} (h : atoiAll (c :: r) = .ok v) : (∀ x ∈ c :: r, isD x) ∧ v = valF 0 (c :: r) := by
  have hc' := hc
  unfold isD at hc'
  unfold atoiAll at h
  simp only at h
  rw [if_neg (by omega)] at h
  unfold parseMag at h
  rw [if_neg (by simp)] at h
  cases hp : parseUint10 0 (c :: r) with
  | ok u =>
    rw [hp] at h
    simp only at h
    rw [if_neg (show ¬ (c.toNat = 45 ∧ 9223372036854775808 < u) by omega), if_neg (show ¬ c.toNat = 45 by omega)] at h
    split at h
    · cases h
    · injection h with h
      obtain ⟨h1, h2⟩ := parse_inv _ _ _ hp
      exact ⟨h1, by rw [← h, h2]⟩
  | range => rw [hp] at h; cases h
  | _ => rw [hp] at h; cases h
theorem atoi_of_digits {l : List UInt8} (hl : l ≠ []) (hd : ∀ x ∈ l, isD x) (hv : valF 0 l ≤ 1000000000000) : atoiAll l = .ok (valF 0 l) := by
  match l, hl with
  | c :: r, hl =>
    have hc := hd c (List.mem_cons_self ..)
    unfold isD at hc
    have hp := parse_spec (c :: r) 0 hd (by omega)
    unfold atoiAll
    simp only
    rw [if_neg (by omega)]
    unfold parseMag
    rw [if_neg (by simp), hp]
    simp only
    rw [if_neg (by omega), if_neg (by omega), if_neg (by omega)]
/-- What is read by the library, where the first byte is a digit, is what the document reads. -/
theorem atoi_nat {c : UInt8} {r : List UInt8} {v : Int} (h : atoiAll (c :: r) = .ok v) {most : Int} (hm : 0 ≤ most) : natF (c :: r) most false = if isD c ∧ v ≤ most then v else -1 := by
  by_cases hc : isD c
  · obtain ⟨h1, h2⟩ := atoi_digits hc h
    rw [natF_eq (by simp) hm, h2]
    by_cases h3 : (valF 0 (c :: r) : Int) ≤ most
    · rw [if_pos ⟨h1, h3⟩, if_pos ⟨hc, h3⟩]
    · rw [if_neg (fun e => h3 e.2), if_neg (fun e => h3 e.2)]
  · rw [natF_eq (by simp) hm, if_neg (fun e => hc (e.1 c (List.mem_cons_self ..))), if_neg (fun e => hc e.1)]
theorem atoi_none {l : List UInt8} (h : ∀ v, atoiAll l ≠ .ok v) {most : Int} (hm : 0 ≤ most) (hm2 : most ≤ 1000000000000) : natF l most false = -1 := by
  by_cases hl : l = []
  · subst hl; unfold natF; simp
  · rw [natF_eq hl hm]
    by_cases h3 : (∀ c ∈ l, isD c) ∧ (valF 0 l : Int) ≤ most
    · exact absurd (atoi_of_digits hl h3.1 (by omega)) (h _)
    · rw [if_neg h3]
end Go.Txt
/-
  Contracts: package query: numbers, what is read one deeper, rows. Conditions: that the library's tables and errors lie as laid; that the reader has not more words than any memory has room for.
-/
namespace Go.Proofs.YtonlacplogbodaaDoor
open Go Go.Vc Go.Txt
set_option linter.unusedVariables false
set_option maxRecDepth 100000

def aggsW : List Wd := [[], wCount, wCount, wSum, wMin, wMax]
/-- What is laid ahead of all: tables, errors, names. -/
structure TabQ (h : Hp) : Prop where
  p : TabP h
  e : TabE h
  f : ∃ a c, Hp.cell h 1 0 = some (vsl a 4 c) ∧ SlB h a 4 fieldW
  a : ∃ a c, Hp.cell h 0 0 = some (vsl a 6 c) ∧ SlB h a 6 aggsW
theorem TabQ.le {h h' : Hp} (T : TabQ h) (l : h.le h') : TabQ h' := by
  obtain ⟨p, e, ⟨a, c, h1, h2⟩, b, d, h3, h4⟩ := T
  exact ⟨p.le l, e.le l, ⟨a, c, Hp.cell_le l h1, SlP.le l h2⟩, b, d, Hp.cell_le l h3, SlP.le l h4⟩
/-- What was laid is there, and the reader's block is another one. -/
structure EnvQ (h0 h : Hp) (g : Nat) : Prop where
  t : TabQ h0
  l : h0.le h
  n : h0 g = none
theorem EnvQ.mut {h0 h h' : Hp} {g : Nat} (E : EnvQ h0 h g) (M : Mut (At g) h (At g) h') : EnvQ h0 h' g :=
  ⟨E.t, fun b o hb => M.keep b o (fun e => by rw [show b = g from e, E.n] at hb; cases hb) (E.l b o hb), E.n⟩
theorem EnvQ.now {h0 h : Hp} {g : Nat} (E : EnvQ h0 h g) : TabQ h := E.t.le E.l
/-- What lies elsewhere than the reader. -/
structure ElAt {α : Type} (enc : α → List Value) (h : Hp) (g : Nat) (a : Option Addr) (n : Nat) (l : List α) : Prop where
  s : SlP enc h a n l
  ne : ∀ b o, a = some ⟨b, o, none⟩ → b ≠ g
theorem ElAt.mut {α : Type} {enc : α → List Value} {h h' : Hp} {g : Nat} {a : Option Addr} {n : Nat} {l : List α} (N : ElAt enc h g a n l) (M : Mut (At g) h (At g) h') : ElAt enc h' g a n l := by
  refine ⟨⟨N.s.1, (HasRow.del N.s.2 N.ne).le fun b o hb => ?_⟩, N.ne⟩
  by_cases e : b = g
  · subst e; simp [Hp.del] at hb
  · refine M.keep b o (fun h => e h) ?_
    simpa [Hp.del, e] using hb
theorem RdAt.c0 {h0 h : Hp} {g : Nat} {s : RS} (D : RdAt h0 h g s) : ∃ a c, h.cell g 0 = some (vsl a s.ws.length c) := by
  obtain ⟨a, c, hb, _⟩ := D.b
  exact ⟨a, c, (rd_block hb).1⟩
theorem RdAt.c1 {h0 h : Hp} {g : Nat} {s : RS} (D : RdAt h0 h g s) : h.cell g (0 + 1) = some (vi s.deep) := by
  obtain ⟨a, c, hb, _⟩ := D.b
  exact (rd_block hb).2.1
theorem RdAt.c2 {h0 h : Hp} {g : Nat} {s : RS} (D : RdAt h0 h g s) : h.cell g (0 + 2) = some (ifv (errV s.f)) := by
  obtain ⟨a, c, hb, _⟩ := D.b
  exact (rd_block hb).2.2
theorem RdAt.put1 {h0 h : Hp} {g : Nat} {s : RS} (D : RdAt h0 h g s) {d : Int} {K : Hp → Prop} (hK : ∀ h', RdAt h0 h' g ⟨s.ws, d, s.f⟩ → Mut (At g) h (At g) h' → K h') : h.store g (0 + 1) [vi d] K := by
  obtain ⟨a, c, hb, hS, hc⟩ := D.b
  exact rd_put1 hb (hK _ ⟨⟨a, c, Hp.set_same _ _ _, hS, hc⟩, le_put D.l D.n _, D.n, D.w⟩ (mut_set _ _ _))
theorem RdAt.put2 {h0 h : Hp} {g : Nat} {s : RS} (D : RdAt h0 h g s) {f : Int} {K : Hp → Prop} (hK : ∀ h', RdAt h0 h' g ⟨s.ws, s.deep, f⟩ → Mut (At g) h (At g) h' → K h') : h.store g (0 + 2) [ifv (errV f)] K := by
  obtain ⟨a, c, hb, hS, hc⟩ := D.b
  exact rd_put2 hb (hK _ ⟨⟨a, c, Hp.set_same _ _ _, hS, hc⟩, le_put D.l D.n _, D.n, D.w⟩ (mut_set _ _ _))
theorem isD_le {c : UInt8} : (decide (((c.toNat : Nat) : Int) < 48) = false ∧ decide (((c.toNat : Nat) : Int) > 57) = false) ↔ isD c := by
  unfold isD
  constructor
  · rintro ⟨h1, h2⟩
    have h1 := of_decide_eq_false h1
    have h2 := of_decide_eq_false h2
    omega
  · intro h
    exact ⟨decide_eq_false (by omega), decide_eq_false (by omega)⟩
theorem reader_number_ok {h0 h : Hp} {g : Nat} {s : RS} (D : RdAt h0 h g s) (E : EnvQ h0 h g) (hl : s.ws.length ≤ 1000000) {most : Int} (hm : 0 ≤ most) (hm2 : most ≤ 1000000000000) {R : Value → Hp → Prop} (hK : ∀ h', RdAt h0 h' g (s.number most).2 → Mut (At g) h (At g) h' → R (vi (s.number most).1) h') : CallOK Tryd.prog 14 [vhp g 0, vi most] h R := by
  have hfail : (s.number most) = (0, s.fail 4) → CallOK Tryd.prog 23 [vhp g 0, ifv (some (50, vi 4))] h fun v2 h3 => v2 = vtup [] ∧ R (vi 0) h3 := by
    intro e
    rw [e] at hK
    exact reader_fail_ok D (by decide) fun h' D' M => ⟨rfl, hK h' D' M⟩
  obtain ⟨a, c, hb, hS, hc⟩ := D.b
  refine ok_query_reader_number ?_
  unfold VC_query_reader_number
  have hcell := (rd_block hb).1
  have hw := D.w
  obtain ⟨ws, dp, f⟩ := s
  simp only at hb hS hc hcell hw hl
  refine ⟨_, _, _, hcell, fun e => ?_, fun e => ?_⟩
  · have : ws = [] := by
      have := of_decide_eq_true e
      exact List.length_eq_zero_iff.1 (by omega)
    subst this
    exact hfail rfl
  cases ws with
  | nil => simp at e
  | cons w r =>
    obtain ⟨b, o, ha, hc0⟩ := SlP.get1 (SlP.le D.l hS) (i := 0) (by simp)
    have hc1 : h.cell b (o + (0 : Int).toNat * 1) = some (vs (bs w)) := hc0
    have hlen : (0 : Int) < (((w :: r).length : Nat) : Int) := by simp
    have hwl := hw w (List.mem_cons_self ..)
    refine ⟨_, _, _, hcell, b, o, ⟨ha, by decide, hlen⟩, _, hc1, ?_⟩
    refine strconv_Atoi_ok hwl E.now.e (fun v hv => ?_) fun hn x e => ?_
    · match w, hv with
      | [], hv => exact absurd hv (by simp [Lib.atoiAll])
      | c0 :: cs, hv =>
      have hx : Rd Tryd.prog (Instr.index 9 (vs (bs (c0 :: cs))) (vi 0)) h (vk .u8 (c0.toNat : Nat)) := rd_idx (by kernel_rfl) (l := c0 :: cs) (i := 0) (by decide) (by simp)
      refine ⟨_, _, rfl, _, _, _, fun _ => hcell, b, o, fun _ => ⟨ha, by decide, hlen⟩, _, fun _ => hc1, _, fun _ => hx, _, _, _, fun _ => hcell, b, o, fun _ => ⟨ha, by decide, hlen⟩, _, fun _ => hc1, _, fun _ => hx, ?_⟩
      have hnat := atoi_nat hv hm
      have hnum : (⟨(c0 :: cs) :: r, dp, f⟩ : RS).number most = if natF (c0 :: cs) most false < 0 then (0, (⟨(c0 :: cs) :: r, dp, f⟩ : RS).fail 4) else (natF (c0 :: cs) most false, ⟨r, dp, f⟩) := rfl
      have hcond : (bif (bif (bif (Option.isSome (none : Option (TypeId × Value))) then true else (decide (((c0.toNat : Nat) : Int) < 48))) then true else (decide (((c0.toNat : Nat) : Int) > 57))) then true else (decide ((v : Int) > most))) = !decide (isD c0 ∧ v ≤ most) := by
        have hi := @isD_le c0
        rw [show (decide (v > most)) = !decide (v ≤ most) by rw [cnot]; exact decide_eq_decide.2 (by omega)]
        cases h1 : decide (((c0.toNat : Nat) : Int) < 48) <;> cases h2 : decide (((c0.toNat : Nat) : Int) > 57) <;> simp only [h1, h2] at hi <;> simp at hi <;> simp [hi]
      rw [hcond]
      refine ⟨fun e => ?_, fun e => ?_⟩
      · have e2 : ¬ (isD c0 ∧ v ≤ most) := by rw [cnot] at e; exact of_decide_eq_true e
        rw [if_neg e2] at hnat
        rw [hnat, if_pos (by decide)] at hnum
        exact hfail hnum
      · have e2 : isD c0 ∧ v ≤ most := by rw [cnot] at e; exact Decidable.not_not.1 (of_decide_eq_false e)
        rw [if_pos e2] at hnat
        obtain ⟨_, hv2⟩ := atoi_digits e2.1 hv
        rw [hnat, if_neg (by omega)] at hnum
        rw [hnum] at hK
        have hsz : szT Tryd.prog 9 = 1 := by kernel_rfl
        have hr := rd_slice_l (P := Tryd.prog) (h := h) (t := 36) (e := 9) (by kernel_rfl) (by kernel_rfl) (a := a) (n := ((c0 :: cs) :: r).length) (c := c) (x := 1) (by decide) (by simp; omega)
        rw [hsz] at hr
        refine ⟨_, _, _, hcell, _, _, _, hr, rd_put0 hb ?_⟩
        have hS2 := SlP.drop encB_len hS (i := 1) (by simp) hc
        exact hK _ ⟨⟨_, _, Hp.set_same _ _ _, ⟨rfl, hS2.2⟩, by simp at hc ⊢; omega⟩, le_put D.l D.n _, D.n, fun x hx => hw x (List.mem_cons_of_mem _ hx)⟩ (mut_set _ _ _)
    · have no : ∀ {p : Prop}, Option.isSome (some e) = false → p := fun q => by cases q
      refine ⟨x, some e, rfl, none, 0, 0, no, 0, 0, no, ⟨#[]⟩, no, 0, no, none, 0, 0, (fun q => by cases q), 0, 0, (fun q => by cases q), ⟨#[]⟩, (fun q => by cases q), 0, (fun q => by cases q), (fun _ => ?_), (fun q => by cases q)⟩
      have hnat := atoi_none hn hm hm2
      refine hfail ?_
      show (if natF w most false < 0 then (0, (⟨w :: r, dp, f⟩ : RS).fail 4) else (natF w most false, ⟨r, dp, f⟩)) = _
      rw [hnat, if_pos (by decide)]
/-- What a reader's state must be. -/
structure SOk (n : Nat) (s : RS) : Prop where
  good : s.good
  len : s.ws.length < n
  big : s.ws.length ≤ 1000
  d0 : 0 ≤ s.deep
  d1 : s.deep + s.ws.length ≤ 1000000
theorem SOk.goes {n : Nat} {s t : RS} (S : SOk n s) (G : Goes t s) : SOk n t := by
  have h1 := G.len
  have h2 := G.deep
  have := S.len
  have := S.big
  have := S.d0
  have := S.d1
  exact ⟨G.ok, by omega, by omega, by omega, by omega⟩
/-- A function that reads as it is said. -/
def Reads (f : FuncId) (P : Ps) (n : Nat) : Prop := ∀ {h0 h : Hp} {g : Nat} {s : RS}, RdAt h0 h g s → EnvQ h0 h g → SOk n s → ∀ {R : Value → Hp → Prop}, (∀ a c h', RdAt h0 h' g (P s).2 → NdAt h h' a (P s).1.length (P s).1 → Mut (At g) h (At g) h' → R (vsl a (P s).1.length c) h') → CallOK Tryd.prog f [vhp g 0] h R
/-- It has a body. -/
def Bodied (f : FuncId) : Prop := ∃ fn, Tryd.prog.funcs[f]? = some fn ∧ (fn.name == "runtime.NumGoroutine") = false ∧ fn.body.isNone = false
theorem inv_of {f : FuncId} (B : Bodied f) {g : Nat} {h : Hp} {K : Value → Hp → Prop} (H : CallOK Tryd.prog f [vhp g 0] h K) : InvOK Tryd.prog (.func (.func f) #[vhp g 0] #[]) [] h K := ⟨f, _, _, rfl, B, H⟩
theorem reader_down_ok {f : FuncId} {P : Ps} {n : Nat} (B : Bodied f) (F : Reads f P n) (kp : KP P n) {h0 h : Hp} {g : Nat} {s : RS} (D : RdAt h0 h g s) (E : EnvQ h0 h g) (S : SOk n s) (hd : s.deep + s.ws.length < 1000000) {R : Value → Hp → Prop} (hK : ∀ a c h', RdAt h0 h' g (downP P s).2 → NdAt h h' a (downP P s).1.length (downP P s).1 → Mut (At g) h (At g) h' → R (vsl a (downP P s).1.length c) h') : CallOK Tryd.prog 51 [vhp g 0, .func (.func f) #[vhp g 0] #[]] h R := by
  refine ok_query_reader_down ?_
  unfold VC_query_reader_down
  have d0 := S.d0
  refine ⟨_, D.c1, _, isW (by unfold InR; omega), D.put1 fun h3 D3 M3 => ⟨_, D3.c1, ?_⟩⟩
  intro J9
  have key : ∀ (h10 : Hp) (u : RS), RdAt h0 h10 g u → Mut (At g) h (At g) h10 → SOk n u → downP P s = ((P u).1, ⟨(P u).2.ws, (P u).2.deep - 1, (P u).2.f⟩) → J9 h10 := by
    intro h10 u D10 M10 Su hP
    rw [hP] at hK
    have k := kp u Su.good (Nat.le_of_lt Su.len)
    have hdp := k.deep
    have du := Su.d0
    have du1 := Su.d1
    have hg := D.al
    refine inv_of B (F D10 (E.mut M10) Su fun a c h' D' N' M' => ⟨_, _, _, rfl, _, D'.c1, _, isW (by unfold InR; omega), D'.put1 fun h4 D4 M4 => ?_⟩)
    exact hK a c h4 D4 ((N'.base (M10.up D10.al)).mut hg M4) ((M10.trans M').trans M4)
  clear_value J9
  refine ⟨fun e => ?_, fun e => ?_⟩
  · have e2 : s.deep + 1 > 12 := of_decide_eq_true e
    refine reader_fail_ok D3 (by decide) fun h4 D4 M4 => ⟨rfl, key h4 _ D4 (M3.trans M4) ⟨RS.fail_good _ _, by have := S.len; exact Nat.lt_of_le_of_lt (Nat.zero_le _) this, Nat.zero_le _, by show 0 ≤ s.deep + 1; omega, by show s.deep + 1 + ((0 : Nat) : Int) ≤ 1000000; omega⟩ ?_⟩
    unfold downP
    simp only [if_pos e2]
  · have e2 : ¬ s.deep + 1 > 12 := of_decide_eq_false e
    refine key h3 _ D3 M3 ⟨S.good, S.len, S.big, by show 0 ≤ s.deep + 1; omega, by show s.deep + 1 + (s.ws.length : Int) ≤ 1000000; omega⟩ ?_
    unfold downP
    simp only [if_neg e2]
end Go.Proofs.YtonlacplogbodaaDoor
/-
  Contracts: package query: expressions are read. Conditions: that the library's tables and errors and the names of fields lie as laid; that the reader has not more words than any memory has room for.
-/
namespace Go.Proofs.YtonlacplogbodaaDoor
open Go Go.Vc Go.Txt
set_option linter.unusedVariables false
set_option maxRecDepth 100000

theorem slb_lit (h : Hp) (b : Nat) (l : List Wd) (hl : l.length ≤ maxLen) : SlB (h.set b (cellsO (l.flatMap encB) 9)) (some ⟨b, 0, none⟩) l.length l := ⟨rfl, (OwnS.new h b 9 (sz := 1) (n := l.length) (l.flatMap encB) (by induction l with
  | nil => rfl
  | cons w l ih => have := ih (by simp at hl; omega); simp [encB] at this ⊢; omega) hl).row⟩
theorem number_range {s : RS} {most : Int} (hm : 0 ≤ most) : 0 ≤ (s.number most).1 ∧ (s.number most).1 ≤ most := by
  unfold RS.number
  split
  · exact ⟨Int.le_refl _, hm⟩
  · split
    · exact ⟨Int.le_refl _, hm⟩
    · rename_i h
      exact ⟨by omega, (natF_low hm).2⟩
theorem joinP_le (op : Int) (x y : List Nd) (s : RS) : (joinP op x y s).1.length ≤ 40 := by
  unfold joinP
  split
  · simp
  · rw [joinL_length]; omega
theorem read_const {w : Wd} (h : w ∈ constW) : (readV w).1 = constV w := by
  have h2 : w = wNull ∨ w = wTrue ∨ w = wFalse := by simpa [constW] using h
  rcases h2 with rfl | rfl | rfl <;> rfl
theorem reader_atom_ok {P : Ps} {n : Nat} (F : Reads 13 P n) (kp : KP P n) : Reads 84 (atomP P) (n + 1) := by
  intro h0 h g s D E S R hK
  refine ok_query_reader_atom ?_
  unfold VC_query_reader_atom
  intro b1 hb1 h2
  have hl : h.le h2 := Hp.le_set (Hp.le_refl h) hb1 _
  have hb := S.big
  have tk := @taken s ([wOpen] ++ constW ++ fieldW)
  have sp := s.is_spec ([wOpen] ++ constW ++ fieldW)
  have gi := goes_is S.good ([wOpen] ++ constW ++ fieldW)
  have nr := @number_range
  unfold atomP at hK
  simp only at hK
  refine reader_is_ok (D.le hl) (l := [wOpen] ++ constW ++ fieldW) (slb_lit h b1 ([wOpen] ++ constW ++ fieldW) (by decide)) (by decide) (by omega) fun h4 D4 M4 => ⟨_, rfl, ?_⟩
  have M04 : Mut (At g) h (At g) h4 := (Mut.of_le hl).trans M4
  generalize s.is ([wOpen] ++ constW ++ fieldW) = A at *
  obtain ⟨w, s1⟩ := A
  simp -zeta only at hK D4 tk sp gi ⊢
  have hS1 := S.goes gi
  have E4 := E.mut M04
  refine ⟨_, rd_eqBs (b := wOpen), fun e => ?_, fun e1 => ?_⟩
  · have ew : w = wOpen := of_decide_eq_true e
    have tk := tk (by rw [ew]; decide)
    rw [if_pos ew] at hK
    have d1 := S.d1
    have hdp := gi.deep
    have Sn : SOk n s1 := ⟨hS1.good, by have := S.len; omega, hS1.big, hS1.d0, hS1.d1⟩
    have kd := keeps_down kp (Goes.refl hS1.good) (Nat.le_of_lt Sn.len)
    refine reader_down_ok ⟨_, Tryd.func13, by kernel_rfl, by kernel_rfl⟩ F kp D4 E4 Sn (by omega) fun a c h8 D8 N8 M8 => ⟨_, _, _, rfl, ?_⟩
    refine reader_must_ok D8 (by have := kd.len; have := hS1.big; omega) fun h11 D11 M11 => ⟨rfl, ?_⟩
    exact hK a c h11 D11 ((N8.base (M04.up D4.al)).mut D.al M11) ((M04.trans M8).trans M11)
  have e1 : ¬ w = wOpen := of_decide_eq_false e1
  rw [if_neg e1] at hK
  have hwc : w ∈ constW ↔ w = wNull ∨ w = wTrue ∨ w = wFalse := by simp [constW]
  refine ⟨_, rd_eqBs (b := wNull), ?_⟩
  intro J18
  have yes : w ∈ constW → J18 true := by
    intro hw
    rw [if_pos hw] at hK
    have hwl : w.length ≤ 1000000 := by
      have : w = wNull ∨ w = wTrue ∨ w = wFalse := hwc.1 hw
      rcases this with rfl | rfl | rfl <;> decide
    refine ⟨fun _ => ?_, fun e => by cases e⟩
    refine value_Parse_ok hwl E4.now.p E4.now.e ⟨_, _, _, rfl, ?_⟩
    rw [read_const hw]
    refine query_leaf_ok ⟨1, 0, 0, 0, constV w⟩ fun a c h26 N26 _ l26 => ⟨_, _, _, rfl, ?_⟩
    exact hK a c h26 (D4.le l26) (N26.base (M04.up D4.al)) (M04.trans (Mut.of_le l26))
  have no : ¬ w ∈ constW → J18 false := by
    intro hw
    rw [if_neg hw] at hK
    refine ⟨fun e => by (cases e), fun _ => ⟨_, rd_eqBs (b := []), fun e => ?_, fun e => ?_⟩⟩
    · rw [if_pos (of_decide_eq_true e)] at hK
      have nr1 := nr (s := s1) (most := 1000000000) (by decide)
      refine reader_number_ok D4 E4 (by have := hS1.big; omega) (by decide) (by decide) fun h30 D30 M30 => ⟨_, rfl, value_Number_ok ⟨_, _, rfl, ?_⟩⟩
      have en : numV (s1.number 1000000000).1 = (1, (s1.number 1000000000).1) := by unfold numV; rw [if_neg (by omega)]
      rw [en]
      refine query_leaf_ok ⟨1, 0, 0, 0, (1, (s1.number 1000000000).1)⟩ fun a c h37 N37 _ l37 => ⟨_, _, _, rfl, ?_⟩
      exact hK a c h37 (D30.le l37) (N37.base ((M04.trans M30).up D30.al)) ((M04.trans M30).trans (Mut.of_le l37))
    · have e3 := of_decide_eq_false e
      rw [if_neg e3] at hK
      have hm : w ∈ fieldW := by
        rcases sp with ⟨q, _⟩ | ⟨w', r, _, hm, q, _⟩
        · exact absurd q e3
        · rw [← q] at hm
          rcases List.mem_append.1 hm with h4 | h4
          · rcases List.mem_append.1 h4 with h5 | h5
            · exact absurd (by simpa using h5) e1
            · exact absurd h5 hw
          · exact h4
      obtain ⟨fa, fc, hf, hfs⟩ := E4.now.f
      refine ⟨_, _, _, hf, slices_Index_ok hfs (by decide) ⟨_, rfl, ?_⟩⟩
      rw [if_pos hm]
      refine query_leaf_ok ⟨2, 0, 0, fieldW.idxOf w, (0, 0)⟩ fun a c h44 N44 _ l44 => ⟨_, _, _, rfl, ?_⟩
      exact hK a c h44 (D4.le l44) (N44.base (M04.up D4.al)) (M04.trans (Mut.of_le l44))
  clear_value J18
  refine ⟨fun e => ?_, fun e2 => ⟨_, rd_eqBs (b := wTrue), fun e => ?_, fun e3 => ⟨_, rd_eqBs (b := wFalse), ?_⟩⟩⟩
  · rw [e]; exact yes (hwc.2 (.inl (of_decide_eq_true e)))
  · rw [e]; exact yes (hwc.2 (.inr (.inl (of_decide_eq_true e))))
  · have e2 := of_decide_eq_false e2
    have e3 := of_decide_eq_false e3
    by_cases hf : w = wFalse
    · rw [decide_eq_true hf]; exact yes (hwc.2 (.inr (.inr hf)))
    · rw [decide_eq_false hf]
      refine no fun h => ?_
      rcases hwc.1 h with h | h | h
      · exact e2 h
      · exact e3 h
      · exact hf h
theorem reader_unary_ok {U A : Ps} {n : Nat} (F : Reads 83 U n) (ku : KP U n) (FA : Reads 84 A (n + 1)) : Reads 83 (unaryP U A) (n + 1) := by
  intro h0 h g s D E S R hK
  refine ok_query_reader_unary ?_
  unfold VC_query_reader_unary
  intro b1 hb1 h2
  have hl : h.le h2 := Hp.le_set (Hp.le_refl h) hb1 _
  have hb := S.big
  have tk := @taken s [wMinus]
  have gi := goes_is S.good [wMinus]
  unfold unaryP at hK
  have hi := @RS.is_spec s [wMinus]
  refine reader_is_ok (D.le hl) (slb_one h b1 wMinus) (by decide) (by omega) fun h4 D4 M4 => ⟨_, rfl, ?_⟩
  have M04 : Mut (At g) h (At g) h4 := (Mut.of_le hl).trans M4
  generalize s.is [wMinus] = B at *
  obtain ⟨w, s1⟩ := B
  simp -zeta only at hK D4 tk gi hi ⊢
  have hS1 := S.goes gi
  have E4 := E.mut M04
  refine ⟨_, rd_eqBs (b := []), fun e => ?_, fun e => ?_⟩
  · have ew := of_decide_eq_true e
    rw [if_pos ew] at hK
    have es : s1 = s := by
      rcases hi with ⟨_, q⟩ | ⟨w', r, _, hm, q, _⟩
      · exact q
      · rw [ew] at q; rw [← q] at hm; exact absurd hm (by decide)
    subst es
    exact FA D4 E4 hS1 fun a c h8 D8 N8 M8 => ⟨_, _, _, rfl, hK a c h8 D8 (N8.base (M04.up D4.al)) (M04.trans M8)⟩
  · have ew := of_decide_eq_false e
    rw [if_neg ew] at hK
    have tk := tk ew
    have d1 := S.d1
    have hdp := gi.deep
    have Sn : SOk n s1 := ⟨hS1.good, by have := S.len; omega, hS1.big, hS1.d0, hS1.d1⟩
    have kd := keeps_down ku (Goes.refl hS1.good) (Nat.le_of_lt Sn.len)
    refine reader_down_ok ⟨_, Tryd.func83, by kernel_rfl, by kernel_rfl⟩ F ku D4 E4 Sn (by omega) fun a c h8 D8 N8 M8 => ⟨_, _, _, rfl, ?_⟩
    refine reader_join_ok D8 N8.s (nd_nil h8 h8).s wf_nil (by have := kd.le; omega) (by simp) fun a c h15 D15 N15 M15 => ⟨_, _, _, rfl, ?_⟩
    exact hK a c h15 D15 (N15.base ((M04.trans M8).up D8.al)) ((M04.trans M8).trans M15)
theorem reader_not_ok {U A : Ps} {n : Nat} (F : Reads 39 U n) (ku : KP U n) (FA : Reads 50 A (n + 1)) : Reads 39 (notP U A) (n + 1) := by
  intro h0 h g s D E S R hK
  refine ok_query_reader_not ?_
  unfold VC_query_reader_not
  intro b1 hb1 h2
  have hl : h.le h2 := Hp.le_set (Hp.le_refl h) hb1 _
  have hb := S.big
  have tk := @taken s [wNot]
  have gi := goes_is S.good [wNot]
  unfold notP at hK
  have hi := @RS.is_spec s [wNot]
  refine reader_is_ok (D.le hl) (slb_one h b1 wNot) (by decide) (by omega) fun h4 D4 M4 => ⟨_, rfl, ?_⟩
  have M04 : Mut (At g) h (At g) h4 := (Mut.of_le hl).trans M4
  generalize s.is [wNot] = B at *
  obtain ⟨w, s1⟩ := B
  simp -zeta only at hK D4 tk gi hi ⊢
  have hS1 := S.goes gi
  have E4 := E.mut M04
  refine ⟨_, rd_eqBs (b := []), fun e => ?_, fun e => ?_⟩
  · have ew := of_decide_eq_true e
    rw [if_pos ew] at hK
    have es : s1 = s := by
      rcases hi with ⟨_, q⟩ | ⟨w', r, _, hm, q, _⟩
      · exact q
      · rw [ew] at q; rw [← q] at hm; exact absurd hm (by decide)
    subst es
    exact FA D4 E4 hS1 fun a c h8 D8 N8 M8 => ⟨_, _, _, rfl, hK a c h8 D8 (N8.base (M04.up D4.al)) (M04.trans M8)⟩
  · have ew := of_decide_eq_false e
    rw [if_neg ew] at hK
    have tk := tk ew
    have d1 := S.d1
    have hdp := gi.deep
    have Sn : SOk n s1 := ⟨hS1.good, by have := S.len; omega, hS1.big, hS1.d0, hS1.d1⟩
    have kd := keeps_down ku (Goes.refl hS1.good) (Nat.le_of_lt Sn.len)
    refine reader_down_ok ⟨_, Tryd.func39, by kernel_rfl, by kernel_rfl⟩ F ku D4 E4 Sn (by omega) fun a c h8 D8 N8 M8 => ⟨_, _, _, rfl, ?_⟩
    refine reader_join_ok D8 N8.s (nd_nil h8 h8).s wf_nil (by have := kd.le; omega) (by simp) fun a c h15 D15 N15 M15 => ⟨_, _, _, rfl, ?_⟩
    exact hK a c h15 D15 (N15.base ((M04.trans M8).up D8.al)) ((M04.trans M8).trans M15)
theorem reader_compare_ok {P : Ps} {n : Nat} (F : Reads 68 P n) (kp : KP P n) : Reads 50 (cmpP P) n := by
  intro h0 h g s D E S R hK
  refine ok_query_reader_compare ?_
  unfold VC_query_reader_compare
  have k := kp s S.good (Nat.le_of_lt S.len)
  unfold cmpP at hK
  simp only at hK
  refine F D E S fun a3 c3 h2 D2 N2 M2 => ⟨_, _, _, rfl, ?_⟩
  intro b4 hb4 h5
  have l5 : h2.le h5 := Hp.le_set (Hp.le_refl h2) hb4 _
  have S2 := S.goes k.goes
  have G0 := k.goes
  have k0 := k.le
  generalize P s = X at *
  obtain ⟨x, s0⟩ := X
  simp only at hK D2 N2 S2 G0 k0
  have gi := goes_is S2.good [wLt, wGt, wLe, wGe, wEq, wNe, wIs]
  refine reader_is_ok (D2.le l5) (slb_lit h2 b4 [wLt, wGt, wLe, wGe, wEq, wNe, wIs] (by decide)) (by decide) (by have := S2.big; omega) fun h7 D7 M7 => ⟨_, rfl, ?_⟩
  have M57 : Mut (At g) h2 (At g) h7 := (Mut.of_le l5).trans M7
  have M07 : Mut (At g) h (At g) h7 := M2.trans M57
  have N7 := N2.mut D.al M57
  generalize s0.is [wLt, wGt, wLe, wGe, wEq, wNe, wIs] = B at *
  obtain ⟨w, s1⟩ := B
  simp -zeta only at hK D7 gi ⊢
  have S7 := S2.goes gi
  have k2 := kp s1 S7.good (Nat.le_of_lt S7.len)
  have kw := k2.wf
  have kl := k2.le
  have E7 := E.mut M07
  have sumK : ∀ {R2 : Value → Hp → Prop}, (∀ a c h', RdAt h0 h' g (P s1).2 → NdAt h7 h' a (P s1).1.length (P s1).1 → Mut (At g) h7 (At g) h' → R2 (vsl a (P s1).1.length c) h') → CallOK Tryd.prog 68 [vhp g 0] h7 R2 := fun H => F D7 E7 S7 H
  have kx := k.wf
  intro J78
  generalize P s1 = Y at *
  obtain ⟨y, s2⟩ := Y
  simp -zeta only at hK sumK kw kl ⊢
  refine ⟨_, rd_eqBs (b := wLt), fun e => ?_, fun e1 => ⟨_, rd_eqBs (b := wGt), fun e => ?_, fun e2 => ⟨_, rd_eqBs (b := wLe), fun e => ?_, fun e3 => ⟨_, rd_eqBs (b := wGe), fun e => ?_, fun e4 => ⟨_, rd_eqBs (b := wEq), fun e => ?_, fun e5 => ⟨_, rd_eqBs (b := wNe), fun e => ?_, fun e6 => ⟨_, rd_eqBs (b := wIs), fun e => ?_, fun e7 => ?_⟩⟩⟩⟩⟩⟩⟩
  · rw [if_pos (of_decide_eq_true e)] at hK
    exact sumK fun a c h11 D11 N11 M11 => ⟨_, _, _, rfl, reader_join_ok D11 (N7.mut D.al M11).s N11.s kw (by omega) (by omega) fun a c h14 D14 N14 M14 => ⟨_, _, _, rfl, hK a c h14 D14 (N14.base ((M07.trans M11).up D11.al)) ((M07.trans M11).trans M14)⟩⟩
  · rw [if_neg (of_decide_eq_false e1), if_pos (of_decide_eq_true e)] at hK
    exact sumK fun a c h11 D11 N11 M11 => ⟨_, _, _, rfl, reader_join_ok D11 N11.s (N7.mut D.al M11).s kx (by omega) (by omega) fun a c h14 D14 N14 M14 => ⟨_, _, _, rfl, hK a c h14 D14 (N14.base ((M07.trans M11).up D11.al)) ((M07.trans M11).trans M14)⟩⟩
  · rw [if_neg (of_decide_eq_false e1), if_neg (of_decide_eq_false e2), if_pos (of_decide_eq_true e)] at hK
    have jl := joinP_le 11 y x s2
    exact sumK fun a c h11 D11 N11 M11 => ⟨_, _, _, rfl, reader_join_ok D11 N11.s (N7.mut D.al M11).s kx (by omega) (by omega) fun a c h14 D14 N14 M14 => ⟨_, _, _, rfl, reader_join_ok D14 N14.s (nd_nil h14 h14).s wf_nil (by omega) (by simp) fun a c h17 D17 N17 M17 => ⟨_, _, _, rfl, hK a c h17 D17 (N17.base (((M07.trans M11).trans M14).up D14.al)) (((M07.trans M11).trans M14).trans M17)⟩⟩⟩
  · rw [if_neg (of_decide_eq_false e1), if_neg (of_decide_eq_false e2), if_neg (of_decide_eq_false e3), if_pos (of_decide_eq_true e)] at hK
    have jl := joinP_le 11 x y s2
    exact sumK fun a c h11 D11 N11 M11 => ⟨_, _, _, rfl, reader_join_ok D11 (N7.mut D.al M11).s N11.s kw (by omega) (by omega) fun a c h14 D14 N14 M14 => ⟨_, _, _, rfl, reader_join_ok D14 N14.s (nd_nil h14 h14).s wf_nil (by omega) (by simp) fun a c h17 D17 N17 M17 => ⟨_, _, _, rfl, hK a c h17 D17 (N17.base (((M07.trans M11).trans M14).up D14.al)) (((M07.trans M11).trans M14).trans M17)⟩⟩⟩
  · rw [if_neg (of_decide_eq_false e1), if_neg (of_decide_eq_false e2), if_neg (of_decide_eq_false e3), if_neg (of_decide_eq_false e4), if_pos (of_decide_eq_true e)] at hK
    exact sumK fun a c h11 D11 N11 M11 => ⟨_, _, _, rfl, reader_join_ok D11 (N7.mut D.al M11).s N11.s kw (by omega) (by omega) fun a c h14 D14 N14 M14 => ⟨_, _, _, rfl, hK a c h14 D14 (N14.base ((M07.trans M11).up D11.al)) ((M07.trans M11).trans M14)⟩⟩
  · rw [if_neg (of_decide_eq_false e1), if_neg (of_decide_eq_false e2), if_neg (of_decide_eq_false e3), if_neg (of_decide_eq_false e4), if_neg (of_decide_eq_false e5), if_pos (of_decide_eq_true e)] at hK
    have jl := joinP_le 12 x y s2
    exact sumK fun a c h11 D11 N11 M11 => ⟨_, _, _, rfl, reader_join_ok D11 (N7.mut D.al M11).s N11.s kw (by omega) (by omega) fun a c h14 D14 N14 M14 => ⟨_, _, _, rfl, reader_join_ok D14 N14.s (nd_nil h14 h14).s wf_nil (by omega) (by simp) fun a c h17 D17 N17 M17 => ⟨_, _, _, rfl, hK a c h17 D17 (N17.base (((M07.trans M11).trans M14).up D14.al)) (((M07.trans M11).trans M14).trans M17)⟩⟩⟩
  · rw [if_neg (of_decide_eq_false e1), if_neg (of_decide_eq_false e2), if_neg (of_decide_eq_false e3), if_neg (of_decide_eq_false e4), if_neg (of_decide_eq_false e5), if_neg (of_decide_eq_false e6), if_pos (of_decide_eq_true e)] at hK
    intro b61 hb61 h62
    have l62 : h7.le h62 := Hp.le_set (Hp.le_refl h7) hb61 _
    have g3 := goes_is S7.good [wNot]
    refine reader_is_ok (D7.le l62) (slb_one h7 b61 wNot) (by decide) (by have := S7.big; omega) fun h64 D64 M64 => ⟨_, rfl, ?_⟩
    have M64' : Mut (At g) h7 (At g) h64 := (Mut.of_le l62).trans M64
    have S8 := S7.goes g3
    generalize s1.is [wNot] = C at *
    obtain ⟨v, s3⟩ := C
    simp -zeta only at hK D64 S8 ⊢
    refine reader_must_ok D64 (by have := S8.big; omega) fun h67 D67 M67 => ⟨rfl, ?_⟩
    have M67' := M64'.trans M67
    refine reader_join_ok D67 (N7.mut D.al M67').s (nd_nil h67 h67).s wf_nil (by omega) (by simp) fun a c h69 D69 N69 M69 => ⟨_, _, _, rfl, ?_⟩
    have jl := joinP_le 5 x [] (s3.must wNull)
    refine ⟨_, rd_neBs (b := []), fun q => ?_, fun q => ?_⟩
    · have q : v ≠ [] := by simpa using q
      rw [if_pos q] at hK
      exact reader_join_ok D69 N69.s (nd_nil h69 h69).s wf_nil (Nat.le_trans jl (by decide)) (by simp) fun a c h73 D73 N73 M73 => ⟨_, _, _, rfl, hK a c h73 D73 (N73.base (((M07.trans M67').trans M69).up D69.al)) (((M07.trans M67').trans M69).trans M73)⟩
    · have q : ¬ v ≠ [] := by simpa using q
      rw [if_neg q] at hK
      exact hK a c h69 D69 (N69.base ((M07.trans M67').up D67.al)) ((M07.trans M67').trans M69)
  · rw [if_neg (of_decide_eq_false e1), if_neg (of_decide_eq_false e2), if_neg (of_decide_eq_false e3), if_neg (of_decide_eq_false e4), if_neg (of_decide_eq_false e5), if_neg (of_decide_eq_false e6), if_neg (of_decide_eq_false e7)] at hK
    exact hK _ _ h7 D7 N7 M07
def wordsN (h : Hp) (g : Nat) : Nat := match h.cell g 0 with | some (.slice _ n _) => n | _ => 0
theorem RdAt.wn {h0 h : Hp} {g : Nat} {s : RS} (D : RdAt h0 h g s) : wordsN h g = s.ws.length := by
  obtain ⟨a, c, e⟩ := D.c0
  unfold wordsN
  rw [e]
/-- Rows: what stands between signs. -/
theorem reader_row_ok {f : FuncId} {P : Ps} {n : Nat} (B : Bodied f) (F : Reads f P n) (kp : KP P n) {ops : List (Wd × Int)} (ho : ∀ q ∈ ops, Opr q.2) (hne : ∀ q ∈ ops, q.1 ≠ []) (hol : ops.length ≤ 100) {h0 h : Hp} {g : Nat} {s : RS} (D : RdAt h0 h g s) (E : EnvQ h0 h g) (S : SOk n s) {y : Value} {wa : Option Addr} {wn wc : Nat} (W : ElAt encB h g wa wn (ops.map (·.1)))
    (hop : ∀ h', Mut (At g) h (At g) h' → ∀ w ∈ ops.map (·.1), Rd Tryd.prog (Instr.lookup 62 y (vs (bs w)) false) h' (vi (opOf ops w)))
    {R : Value → Hp → Prop} (hK : ∀ a c h', RdAt h0 h' g (rowP P ops s).2 → NdAt h h' a (rowP P ops s).1.length (rowP P ops s).1 → Mut (At g) h (At g) h' → R (vsl a (rowP P ops s).1.length c) h') : CallOK Tryd.prog 26 [vhp g 0, .func (.func f) #[vhp g 0] #[], y, vsl wa wn wc] h R := by
  refine ok_query_reader_row ?_
  unfold VC_query_reader_row
  have k := kp s S.good (Nat.le_of_lt S.len)
  have Sx := S.goes k.goes
  have kx := k.wf
  have kl := k.le
  have kp1 := k.pos
  unfold rowP at hK
  have hwn : wn = ops.length := by have := W.s.1; simpa using this
  refine inv_of B (F D E S fun a3 c3 h2 D2 N2 M2 => ⟨_, _, _, rfl, ?_⟩)
  generalize P s = X at *
  obtain ⟨x0, s0⟩ := X
  simp -zeta only at hK D2 N2 Sx kx kl kp1 ⊢
  intro J26
  refine ⟨fun vs' hh => ∃ (k : Nat) (x : List Nd) (t : RS) (a : Option Addr) (c : Nat), vs' = [vsl a x.length c] ∧ RdAt h0 hh g t ∧ NdAt h hh a x.length x ∧ Mut (At g) h (At g) hh ∧ SOk n t ∧ 1 ≤ x.length ∧ x.length ≤ 40 ∧ WfL x ∧ t.ws.length < k ∧ rowL P ops k x t = rowL P ops (s0.ws.length + 1) x0 s0, fun _ hh => wordsN hh g, ⟨_, x0, s0, a3, c3, rfl, D2, N2, M2, Sx, kp1, kl, kx, Nat.lt_succ_self _, rfl⟩, ?_⟩
  rintro vs' hh ⟨k, x, t, a, c, rfl, Dt, Nt, Mt, St, hx1, hx, Wx, hk, hrow⟩
  obtain ⟨k, rfl⟩ : ∃ j, k = j + 1 := ⟨k - 1, by omega⟩
  rw [rowL] at hrow
  refine ⟨_, _, _, rfl, _, Dt.c2, fun e => ?_, fun e => ?_⟩
  · have f0 : ¬ t.f ≠ 0 := by rw [errV_none] at e; simpa using e
    rw [if_neg f0] at hrow
    have gi := goes_is St.good (ops.map (·.1))
    have gm := @is_mem t (ops.map (·.1))
    have tk := @taken t (ops.map (·.1))
    have hDt := Dt.wn
    refine reader_is_ok Dt (W.mut Mt).s (by omega) (by have := St.big; omega) fun h14 D14 M14 => ⟨_, rfl, ?_⟩
    have M014 := Mt.trans M14
    simp only at hrow
    generalize t.is (ops.map (·.1)) = A at *
    obtain ⟨w, s1⟩ := A
    simp -zeta only at hrow D14 gi gm tk ⊢
    have S1 := St.goes gi
    refine ⟨_, rd_eqBs (b := []), fun e => ?_, fun e => ?_⟩
    · rw [if_pos (of_decide_eq_true e)] at hrow
      rw [← hrow] at hK
      exact hK _ _ h14 D14 (Nt.mut D.al M14) M014
    · have ew := of_decide_eq_false e
      rw [if_neg ew] at hrow
      have hop' := opOf_opr ho (gm ew)
      have kn := kp s1 S1.good (Nat.le_of_lt S1.len)
      have tk := tk ew
      refine ⟨_, hop h14 M014 w (gm ew), inv_of B (F D14 (E.mut M014) S1 fun a22 c22 h21 D21 N21 M21 => ⟨_, _, _, rfl, hop h21 (M014.trans M21) w (gm ew), ?_⟩)⟩
      generalize opOf ops w = op at *
      have kj : Keeps (joinP op x (P s1).1 (P s1).2) t := keeps_join hop' (gi.trans kn.goes) Wx kn.wf hx1 (fun _ => kn.pos)
      have kn1 := kn.wf
      have kn2 := kn.le
      have kn3 := kn.len
      have kj2 : (joinP op x (P s1).1 (P s1).2).2.ws.length ≤ (P s1).2.ws.length := by
        unfold joinP
        split
        · exact Nat.zero_le _
        · exact Nat.le_refl _
      generalize P s1 = Y at *
      obtain ⟨y1, s2⟩ := Y
      simp -zeta only at hrow D21 N21 kj kn1 kn2 kn3 kj2 ⊢
      refine reader_join_ok D21 ((Nt.mut D.al M14).mut D.al M21).s N21.s kn1 (by omega) (by omega) fun a25 c25 h24 D24 N24 M24 => ⟨_, _, _, rfl, ⟨k, _, _, a25, c25, rfl, D24, N24.base ((M014.trans M21).up D21.al), (M014.trans M21).trans M24, St.goes kj.goes, kj.pos, kj.le, kj.wf, by omega, hrow⟩, ?_⟩
      have h24n := D24.wn
      show wordsN h24 g < wordsN hh g
      omega
  · have f0 : t.f ≠ 0 := by rw [errV_none] at e; simpa using e
    rw [if_pos f0] at hrow
    rw [← hrow] at hK
    exact hK _ _ hh Dt Nt Mt
end Go.Proofs.YtonlacplogbodaaDoor
/-
  Contracts: package query: rows of signs; expressions, as deep as words go. Conditions: that the library's tables and errors and the names of fields lie as laid.
-/
namespace Go.Proofs.YtonlacplogbodaaDoor
open Go Go.Vc Go.Txt
set_option linter.unusedVariables false
set_option maxRecDepth 100000

theorem rd_mapS {h : Hp} {b : Nat} {es : Array MapEntry} {clock : Nat} (hb : h b = some (.map es clock)) {w : Wd} {x : Int} {i : Nat} (hf : Instr.findNow .string (vs (bs w)) es.toList 0 = some (some (i, vi x))) : Rd Tryd.prog (Instr.lookup 62 (.map (some b)) (vs (bs w)) false) h (vi x) :=
  rd_lookup (k := 9) (e := 3) (d := .string) (by kernel_rfl) (by kernel_rfl) hb trivial hf
theorem sem_mapS {h : Hp} {b : Nat} {es : Array MapEntry} {clock : Nat} (hb : h b = some (.map es clock)) {w : Wd} {x : Int} (hf : Instr.findNow .string (vs (bs w)) es.toList 0 = some none) {K : Hp → Prop} (hK : K (h.set b (.map (es.push { key := vs (bs w), val := vi x, born := clock }) (clock + 1)))) : SemOKu Tryd.prog (Instr.mapUpdate 62 (.map (some b)) (vs (bs w)) (vi x)) h K :=
  sem_mapNew (k := 9) (e := 3) (d := .string) (key := vs (bs w)) (by kernel_rfl) (by kernel_rfl) hb trivial hf hK
theorem reader_one_ok {f : FuncId} {P : Ps} {n : Nat} (B : Bodied f) (F : Reads f P n) (kp : KP P n) {w : Wd} {op : Int} (ho : Opr op) (hw : w ≠ []) {h0 h : Hp} {g : Nat} {s : RS} (D : RdAt h0 h g s) (E : EnvQ h0 h g) (S : SOk n s) {R : Value → Hp → Prop} (hK : ∀ a c h', RdAt h0 h' g (rowP P [(w, op)] s).2 → NdAt h h' a (rowP P [(w, op)] s).1.length (rowP P [(w, op)] s).1 → Mut (At g) h (At g) h' → R (vsl a (rowP P [(w, op)] s).1.length c) h') :
    SemOK Tryd.prog (Instr.makeMap 62 none) h fun v1 h2 => ∃ (y3 : Value), v1 = y3 ∧ (SemOKu Tryd.prog (Instr.mapUpdate 62 y3 (vs (bs w)) (vi op)) h2 fun h4 => (∀ (b5 : Nat), h4 b5 = none → let h6 : Hp := Hp.set h4 b5 (cellsO [(vs (bs w))] 9); (CallOK Tryd.prog 26 [(vhp g 0), (Value.func (.func f) #[(vhp g 0)] #[]), y3, (vsl (some (⟨b5, 0, none⟩ : Addr)) 1 1)] h6 fun v7 h8 => ∃ (a9 : Option Addr) (n9 c9 : Nat), v7 = (vsl a9 n9 c9) ∧ R (vsl a9 n9 c9) h8))) := by
  refine sem_makeMap fun b hb => ⟨_, rfl, ?_⟩
  refine sem_mapS (Hp.set_same _ _ _) rfl ?_
  intro b5 hb5 h6
  have hbg : b ≠ g := fun e => by rw [e] at hb; exact D.al hb
  have l1 : h.le (h.set b (.map #[] 0)) := Hp.le_set (Hp.le_refl h) hb _
  rw [Hp.set_set] at hb5
  have l2 : h.le h6 := by
    have : h6 = (h.set b (.map (#[].push { key := vs (bs w), val := vi op, born := 0 }) (0 + 1))).set b5 (cellsO [vs (bs w)] 9) := by
      show ((h.set b _).set b _).set b5 _ = _
      rw [Hp.set_set]
    rw [this]
    exact Hp.le_trans (Hp.le_set (Hp.le_refl h) hb _) (Hp.le_set (Hp.le_refl _) hb5 _)
  have hb6 : h6 b = some (.map (#[].push { key := vs (bs w), val := vi op, born := 0 }) (0 + 1)) := by
    have hne : b ≠ b5 := fun e => by rw [e, Hp.set_same] at hb5; cases hb5
    show (((h.set b _).set b _).set b5 _) b = _
    rw [Hp.set_other _ _ hne, Hp.set_same]
  have D6 := D.le l2
  have hb5g : b5 ≠ g := fun e => by
    subst e
    have : (h.set b (.map (#[].push { key := vs (bs w), val := vi op, born := 0 }) (0 + 1))) b5 ≠ none := by rw [Hp.set_other _ _ hbg.symm]; exact D.al
    exact this hb5
  refine reader_row_ok B F kp (ops := [(w, op)]) (by simpa using ho) (by simpa using hw) (by simp) D6 (E.mut (Mut.of_le l2)) S ⟨slb_one _ b5 w, fun b' o e => by cases e; exact hb5g⟩ (fun h' M w' hw' => ?_) fun a c h' D' N' M' => ⟨_, _, _, rfl, ?_⟩
  · have e : w' = w := by simpa using hw'
    subst e
    have ho : opOf [(w', op)] w' = op := by simp [opOf]
    rw [ho]
    have hm : h' b = _ := M.keep b _ (fun e => hbg e) hb6
    refine rd_mapS hm (i := 0) ?_
    show Instr.findNow .string (vs (bs w')) [{ key := vs (bs w'), val := vi op, born := 0 }] 0 = _
    simp [Instr.findNow, Instr.sameNow, (Go.MapKept.bytes_beq (bs w') (bs w')).2 rfl]
  · exact hK a c h' D' (N'.base (le_up l2)) ((Mut.of_le l2).trans M')
theorem reader_product_ok {P : Ps} {n : Nat} (F : Reads 83 P n) (kp : KP P n) : Reads 78 (rowP P [(wStar, 8)]) n := by
  intro h0 h g s D E S R hK
  refine ok_query_reader_product ?_
  unfold VC_query_reader_product
  exact reader_one_ok ⟨_, Tryd.func83, by kernel_rfl, by kernel_rfl⟩ F kp (by decide) (by decide) D E S hK
theorem reader_and_ok {P : Ps} {n : Nat} (F : Reads 39 P n) (kp : KP P n) : Reads 27 (rowP P [(wAnd, 9)]) n := by
  intro h0 h g s D E S R hK
  refine ok_query_reader_and ?_
  unfold VC_query_reader_and
  exact reader_one_ok ⟨_, Tryd.func39, by kernel_rfl, by kernel_rfl⟩ F kp (by decide) (by decide) D E S hK
theorem reader_or_ok {P : Ps} {n : Nat} (F : Reads 27 P n) (kp : KP P n) : Reads 13 (rowP P [(wOr, 10)]) n := by
  intro h0 h g s D E S R hK
  refine ok_query_reader_or ?_
  unfold VC_query_reader_or
  exact reader_one_ok ⟨_, Tryd.func27, by kernel_rfl, by kernel_rfl⟩ F kp (by decide) (by decide) D E S hK
theorem reader_sum_ok {P : Ps} {n : Nat} (F : Reads 78 P n) (kp : KP P n) : Reads 68 (rowP P [(wPlus, 6), (wMinus, 7)]) n := by
  intro h0 h g s D E S R hK
  refine ok_query_reader_sum ?_
  unfold VC_query_reader_sum
  refine sem_makeMap fun b hb => ⟨_, rfl, ?_⟩
  refine sem_mapS (w := wPlus) (Hp.set_same _ _ _) rfl ?_
  refine sem_mapS (w := wMinus) (Hp.set_same _ _ _) rfl ?_
  rw [Hp.set_set, Hp.set_set]
  generalize hM : Obj.map _ _ = ob
  intro b5 hb5 h6
  have hbg : b ≠ g := fun e => by rw [e] at hb; exact D.al hb
  have l2 : h.le h6 := Hp.le_trans (Hp.le_set (Hp.le_refl h) hb _) (Hp.le_set (Hp.le_refl _) hb5 _)
  have hb6 : h6 b = some ob := by
    have hne : b ≠ b5 := fun e => by rw [e, Hp.set_same] at hb5; cases hb5
    show ((h.set b _).set b5 _) b = _
    rw [Hp.set_other _ _ hne, Hp.set_same]
  have D6 := D.le l2
  have hb5g : b5 ≠ g := fun e => by
    subst e
    have : (h.set b ob) b5 ≠ none := by rw [Hp.set_other _ _ hbg.symm]; exact D.al
    exact this hb5
  refine reader_row_ok ⟨_, Tryd.func78, by kernel_rfl, by kernel_rfl⟩ F kp (ops := [(wPlus, 6), (wMinus, 7)]) (by decide) (by decide) (by simp) D6 (E.mut (Mut.of_le l2)) S ⟨slb_lit _ b5 [wPlus, wMinus] (by decide), fun b' o e => by cases e; exact hb5g⟩ (fun h' M w' hw' => ?_) fun a c h' D' N' M' => ⟨_, _, _, rfl, ?_⟩
  · have hm : h' b = some ob := M.keep b _ (fun e => hbg e) hb6
    rw [← hM] at hm
    have e : w' = wPlus ∨ w' = wMinus := by simpa using hw'
    rcases e with rfl | rfl
    · exact rd_mapS hm (i := 0) rfl
    · exact rd_mapS hm (i := 1) rfl
  · exact hK a c h' D' (N'.base (le_up l2)) ((Mut.of_le l2).trans M')
/-- One step deeper. -/
theorem reads_step {t : Three} {n : Nat} (h : KP t.o n ∧ KP t.n n ∧ KP t.u n) (H : Reads 13 t.o n ∧ Reads 39 t.n n ∧ Reads 83 t.u n) : Reads 13 (orS t) (n + 1) ∧ Reads 39 (notS t) (n + 1) ∧ Reads 83 (unS t) (n + 1) := by
  obtain ⟨k1, k2, k3, k4, k5, k6, k7⟩ := keeps_S h
  have h1 : Reads 83 (unS t) (n + 1) := reader_unary_ok H.2.2 h.2.2 (reader_atom_ok H.1 h.1)
  have h2 : Reads 78 (prodS t) (n + 1) := reader_product_ok h1 k3
  have h3 : Reads 68 (sumS t) (n + 1) := reader_sum_ok h2 k4
  have h4 : Reads 50 (cmpS t) (n + 1) := reader_compare_ok h3 k5
  have h5 : Reads 39 (notS t) (n + 1) := reader_not_ok H.2.1 h.2.1 h4
  have h6 : Reads 27 (andS t) (n + 1) := reader_and_ok h5 k2
  exact ⟨reader_or_ok h6 k7, h5, h1⟩
theorem reads_none (f : FuncId) (P : Ps) : Reads f P 0 := by
  intro h0 h g s D E S R hK
  exact absurd S.len (Nat.not_lt_zero _)
theorem reads_all (n : Nat) : Reads 13 (allP n).o n ∧ Reads 39 (allP n).n n ∧ Reads 83 (allP n).u n := by
  induction n with
  | zero => exact ⟨reads_none _ _, reads_none _ _, reads_none _ _⟩
  | succ n ih => rw [allP_succ]; exact reads_step (keeps_all n) ih
end Go.Proofs.YtonlacplogbodaaDoor
/-
  What functions of the program ask, in words: each is what the framework reckons from the loaded code (the kernel holds the two together), and gives the function's call. Conditions: none.
-/
namespace Go.Proofs.YtonlacplogbodaaDoor
open Go Go.Vc
set_option maxRecDepth 100000
set_option linter.unusedVariables false
/-- What 'penstock/lexer.kind' asks. -/
def VC_lexer_kind (u_c : Int) (h : Hp) (R : Value → Hp → Prop) : Prop :=
  (((bif (decide ((u_c : Int) ≥ 97)) then (decide ((u_c : Int) ≤ 122)) else false) = true → R (vk .u8 97) h) ∧ ((bif (decide ((u_c : Int) ≥ 97)) then (decide ((u_c : Int) ≤ 122)) else false) = false → (((bif (decide ((u_c : Int) ≥ 48)) then (decide ((u_c : Int) ≤ 57)) else false) = true → R (vk .u8 48) h) ∧ ((bif (decide ((u_c : Int) ≥ 48)) then (decide ((u_c : Int) ≤ 57)) else false) = false → (CallOK Tryd.prog 37 [(vs ⟨#[40, 41, 44, 42, 43, 45, 60, 62, 61]⟩), (vk .u8 u_c)] h fun v1 h2 => ∃ (x3 : Int), v1 = (vi x3) ∧ (((decide ((x3 : Int) ≥ 0)) = true → R (vk .u8 40) h2) ∧ ((decide ((x3 : Int) ≥ 0)) = false → R (vk .u8 32) h2)))))))
theorem ok_lexer_kind {u_c : Int} {h : Hp} {R : Value → Hp → Prop} (H : VC_lexer_kind u_c h R) : CallOK Tryd.prog 21 [(vk .u8 u_c)] h R :=
  call_of (cfg := ⟨[], [], []⟩) noNG mixed Tryd.func21 [.one (.v (vk .u8 u_c))] (by kernel_rfl) rfl (by kernel_rfl) H

/-- What 'penstock/lexer.end' asks. -/
def VC_lexer_end (u_s : ByteArray) (u_i : Int) (h : Hp) (R : Value → Hp → Prop) : Prop :=
  (∃ (x1 : Int), (Rd Tryd.prog (Instr.index 9 (vs u_s) (vi u_i)) h (vk .u8 x1)) ∧ (CallOK Tryd.prog 21 [(vk .u8 x1)] h fun v2 h3 => ∃ (x4 : Int), v2 = (vk .u8 x4) ∧ (∃ (x5 : Int), (IsW x5 (u_i + 1)) ∧ (((decide ((x4 : Int) = 40)) = true → (∃ (x6 : Int), ((decide ((x5 : Int) < ((ByteArray.size u_s : Nat) : Int))) = true → Rd Tryd.prog (Instr.index 9 (vs u_s) (vi u_i)) h3 (vk .u8 x6)) ∧ (∃ (x7 : Int), (((decide ((x5 : Int) < ((ByteArray.size u_s : Nat) : Int))) = true ∧ (decide ((x6 : Int) = 60)) = true) → Rd Tryd.prog (Instr.index 9 (vs u_s) (vi x5)) h3 (vk .u8 x7)) ∧ (∃ (x8 : Int), ((((decide ((x5 : Int) < ((ByteArray.size u_s : Nat) : Int))) = true ∧ (decide ((x6 : Int) = 60)) = true) ∧ (decide ((x7 : Int) = 61)) = false) → Rd Tryd.prog (Instr.index 9 (vs u_s) (vi x5)) h3 (vk .u8 x8)) ∧ (∃ (x9 : Int), (((decide ((x5 : Int) < ((ByteArray.size u_s : Nat) : Int))) = true ∧ (bif (decide ((x6 : Int) = 60)) then (bif (decide ((x7 : Int) = 61)) then true else (decide ((x8 : Int) = 62))) else false) = false) → Rd Tryd.prog (Instr.index 9 (vs u_s) (vi u_i)) h3 (vk .u8 x9)) ∧ (∃ (x10 : Int), ((((decide ((x5 : Int) < ((ByteArray.size u_s : Nat) : Int))) = true ∧ (bif (decide ((x6 : Int) = 60)) then (bif (decide ((x7 : Int) = 61)) then true else (decide ((x8 : Int) = 62))) else false) = false) ∧ (decide ((x9 : Int) = 62)) = true) → Rd Tryd.prog (Instr.index 9 (vs u_s) (vi x5)) h3 (vk .u8 x10)) ∧ (let J14 : Int → Prop := fun (x15 : Int) => R (vi x15) h3; (((bif (decide ((x5 : Int) < ((ByteArray.size u_s : Nat) : Int))) then (bif (bif (decide ((x6 : Int) = 60)) then (bif (decide ((x7 : Int) = 61)) then true else (decide ((x8 : Int) = 62))) else false) then true else (bif (decide ((x9 : Int) = 62)) then (decide ((x10 : Int) = 61)) else false)) else false) = true → (∃ (x11 : Int), (IsW x11 (x5 + 1)) ∧ (J14 x11))) ∧ ((bif (decide ((x5 : Int) < ((ByteArray.size u_s : Nat) : Int))) then (bif (bif (decide ((x6 : Int) = 60)) then (bif (decide ((x7 : Int) = 61)) then true else (decide ((x8 : Int) = 62))) else false) then true else (bif (decide ((x9 : Int) = 62)) then (decide ((x10 : Int) = 61)) else false)) else false) = false → (J14 x5)))))))))) ∧ ((decide ((x4 : Int) = 40)) = false → (∃ (I18 : List Value → Hp → Prop) (m19 : List Value → Hp → Nat), I18 [(vi x5)] h3 ∧ ∀ (vs20 : List Value) (h21 : Hp), I18 vs20 h21 → ∃ (x22 : Int), vs20 = [(vi x22)] ∧ (∃ (x23 : Int), ((decide ((x22 : Int) < ((ByteArray.size u_s : Nat) : Int))) = true → Rd Tryd.prog (Instr.index 9 (vs u_s) (vi x22)) h21 (vk .u8 x23)) ∧ (∃ (J24 : SV → Hp → Prop), ((decide ((x22 : Int) < ((ByteArray.size u_s : Nat) : Int))) = true → (CallOK Tryd.prog 21 [(vk .u8 x23)] h21 fun v25 h26 => ∃ (x27 : Int), v25 = (vk .u8 x27) ∧ J24 (.t (.one (.v (vk .u8 x27)))) h26)) ∧ (¬ ((decide ((x22 : Int) < ((ByteArray.size u_s : Nat) : Int))) = true) → J24 (.t (.one (.v (vk .u8 0)))) h21) ∧ ∀ (h28 : Hp) (x29 : Int), J24 (.t (.one (.v (vk .u8 x29)))) h28 → (((bif (decide ((x22 : Int) < ((ByteArray.size u_s : Nat) : Int))) then (decide ((x29 : Int) = x4)) else false) = true → (∃ (x32 : Int), (IsW x32 (x22 + 1)) ∧ (I18 [(vi x32)] h28 ∧ m19 [(vi x32)] h28 < m19 vs20 h21))) ∧ ((bif (decide ((x22 : Int) < ((ByteArray.size u_s : Nat) : Int))) then (decide ((x29 : Int) = x4)) else false) = false → R (vi x22) h28))))))))))
theorem ok_lexer_end {u_s : ByteArray} {u_i : Int} {h : Hp} {R : Value → Hp → Prop} (H : VC_lexer_end u_s u_i h R) : CallOK Tryd.prog 22 [(vs u_s), (vi u_i)] h R :=
  call_of (cfg := ⟨[], [(7, ([6], [.one (.int .i64)], []))], []⟩) noNG mixed Tryd.func22 [.one (.v (vs u_s)), .one (.v (vi u_i))] (by kernel_rfl) rfl (by kernel_rfl) H

/-- What 'penstock/lexer.Words' asks. -/
def VC_lexer_Words (u_s : ByteArray) (h : Hp) (R : Value → Hp → Prop) : Prop :=
  (((decide ((((ByteArray.size u_s : Nat) : Int) : Int) > 240)) = true → R (vtup [(vsl none 0 0), (ifv (some (50, (vi 2))))]) h) ∧ ((decide ((((ByteArray.size u_s : Nat) : Int) : Int) > 240)) = false → (∃ (I3 : List Value → Hp → Prop) (m4 : List Value → Hp → Nat), I3 [(vsl none 0 0), (vi 0)] h ∧ ∀ (vs5 : List Value) (h6 : Hp), I3 vs5 h6 → ∃ (a7 : Option Addr) (n7 c7 : Nat) (x8 : Int), vs5 = [(vsl a7 n7 c7), (vi x8)] ∧ (((decide ((x8 : Int) < ((ByteArray.size u_s : Nat) : Int))) = true → (∃ (x11 : Int), (Rd Tryd.prog (Instr.index 9 (vs u_s) (vi x8)) h6 (vk .u8 x11)) ∧ (((decide ((x11 : Int) = 32)) = true → (∃ (x12 : Int), (IsW x12 (x8 + 1)) ∧ (I3 [(vsl a7 n7 c7), (vi x12)] h6 ∧ m4 [(vsl a7 n7 c7), (vi x12)] h6 < m4 vs5 h6))) ∧ ((decide ((x11 : Int) = 32)) = false → (∃ (x14 : Int), (Rd Tryd.prog (Instr.index 9 (vs u_s) (vi x8)) h6 (vk .u8 x14)) ∧ (CallOK Tryd.prog 21 [(vk .u8 x14)] h6 fun v15 h16 => ∃ (x17 : Int), v15 = (vk .u8 x17) ∧ (((decide ((x17 : Int) = 32)) = true → R (vtup [(vsl none 0 0), (ifv (some (50, (vi 4))))]) h16) ∧ ((decide ((x17 : Int) = 32)) = false → (CallOK Tryd.prog 22 [(vs u_s), (vi x8)] h16 fun v19 h20 => ∃ (x21 : Int), v19 = (vi x21) ∧ (∃ (s22 : ByteArray), (Rd Tryd.prog (Instr.sliceAt 9 (vs u_s) (some (vi x8)) (some (vi x21)) none) h20 (vs s22)) ∧ (∀ (b23 : Nat), h20 b23 = none → let h24 : Hp := Hp.set h20 b23 (cellsO [(vs s22)] 9); (SemOK Tryd.prog (Builtin.append_ #[36, 36] 36 #[(vsl a7 n7 c7), (vsl (some (⟨b23, 0, none⟩ : Addr)) 1 1)]) h24 fun v25 h26 => ∃ (a27 : Option Addr) (n27 c27 : Nat), v25 = (vsl a27 n27 c27) ∧ (((decide ((((n27 : Nat) : Int) : Int) > 80)) = true → R (vtup [(vsl none 0 0), (ifv (some (50, (vi 2))))]) h26) ∧ ((decide ((((n27 : Nat) : Int) : Int) > 80)) = false → (I3 [(vsl a27 n27 c27), (vi x21)] h26 ∧ m4 [(vsl a27 n27 c27), (vi x21)] h26 < m4 vs5 h6))))))))))))))) ∧ ((decide ((x8 : Int) < ((ByteArray.size u_s : Nat) : Int))) = false → R (vtup [(vsl a7 n7 c7), (ifv none)]) h6)))))
theorem ok_lexer_Words {u_s : ByteArray} {h : Hp} {R : Value → Hp → Prop} (H : VC_lexer_Words u_s h R) : CallOK Tryd.prog 9 [(vs u_s)] h R :=
  call_of (cfg := ⟨[], [(5, ([4, 5], [.one (.slice), .one (.int .i64)], []))], []⟩) noNG mixed Tryd.func9 [.one (.v (vs u_s))] (by kernel_rfl) rfl (by kernel_rfl) H

/-- What 'strings.IndexByte' asks. -/
def VC_strings_IndexByte (u_s : ByteArray) (u_c : Int) (h : Hp) (R : Value → Hp → Prop) : Prop :=
  (CallOK Tryd.prog 47 [(vs u_s), (vk .u8 u_c)] h fun v1 h2 => ∃ (x3 : Int), v1 = (vi x3) ∧ R (vi x3) h2)
theorem ok_strings_IndexByte {u_s : ByteArray} {u_c : Int} {h : Hp} {R : Value → Hp → Prop} (H : VC_strings_IndexByte u_s u_c h R) : CallOK Tryd.prog 37 [(vs u_s), (vk .u8 u_c)] h R :=
  call_of (cfg := ⟨[], [], []⟩) noNG mixed Tryd.func37 [.one (.v (vs u_s)), .one (.v (vk .u8 u_c))] (by kernel_rfl) rfl (by kernel_rfl) H

/-- What 'internal/stringslite.IndexByte' asks. -/
def VC_internal_stringslite_IndexByte (u_s : ByteArray) (u_c : Int) (h : Hp) (R : Value → Hp → Prop) : Prop :=
  (ExtOK Tryd.prog 66 [(vs u_s), (vk .u8 u_c)] h fun v1 h2 => ∃ (x3 : Int), v1 = (vi x3) ∧ R (vi x3) h2)
theorem ok_internal_stringslite_IndexByte {u_s : ByteArray} {u_c : Int} {h : Hp} {R : Value → Hp → Prop} (H : VC_internal_stringslite_IndexByte u_s u_c h R) : CallOK Tryd.prog 47 [(vs u_s), (vk .u8 u_c)] h R :=
  call_of (cfg := ⟨[], [], []⟩) noNG mixed Tryd.func47 [.one (.v (vs u_s)), .one (.v (vk .u8 u_c))] (by kernel_rfl) rfl (by kernel_rfl) H

end Go.Proofs.YtonlacplogbodaaDoor
/-
  Contracts: package lexer. Conditions: those stated at each (how long a text is).
-/
namespace Go.Proofs.YtonlacplogbodaaDoor
open Go Go.Vc
set_option linter.unusedVariables false
set_option maxRecDepth 100000

theorem elStr : ElT Tryd.prog 36 9 1 16 := .of (by kernel_rfl) (by kernel_rfl) (by decide)
def isL (c : UInt8) : Bool := decide (97 ≤ c.toNat) && decide (c.toNat ≤ 122)
def isD (c : UInt8) : Bool := decide (48 ≤ c.toNat) && decide (c.toNat ≤ 57)
def isS (c : UInt8) : Bool := c == 40 || c == 41 || c == 44 || c == 42 || c == 43 || c == 45 || c == 60 || c == 62 || c == 61
/-- The kind of a byte. -/
def kindB (c : UInt8) : Nat := if isL c then 97 else if isD c then 48 else if isS c then 40 else 32
def runP (p : UInt8 → Bool) (l : List UInt8) : Nat := (l.takeWhile p).length
/-- Where a word ends. -/
def endW (l : List UInt8) (i : Nat) : Nat :=
  if kindB (l.getD i 0) = 40 then (if i + 1 < l.length ∧ (l.getD i 0 = 60 ∧ (l.getD (i + 1) 0 = 61 ∨ l.getD (i + 1) 0 = 62) ∨ l.getD i 0 = 62 ∧ l.getD (i + 1) 0 = 61) then i + 2 else i + 1)
  else i + 1 + runP (fun c => kindB c == kindB (l.getD i 0)) (l.drop (i + 1))
def lexF (l : List UInt8) : Nat → Nat → List (List UInt8) → List (List UInt8) × Int
  | 0, _, acc => (acc, 0)
  | k + 1, i, acc => if l.length ≤ i then (acc, 0) else if l.getD i 0 = 32 then lexF l k (i + 1) acc else if kindB (l.getD i 0) = 32 then ([], 4) else
      if acc.length + 1 > 80 then ([], 2) else lexF l k (endW l i) (acc ++ [(l.drop i).take (endW l i - i)])
/-- The words of a text, and the error's number. -/
def wordsL (l : List UInt8) : List (List UInt8) × Int := if l.length > 240 then ([], 2) else lexF l (l.length + 1) 0 []

theorem drop_getB {l : List UInt8} {n : Nat} (h : n < l.length) : l.drop n = l.getD n 0 :: l.drop (n + 1) := by
  rw [List.drop_eq_getElem_cons h, List.getD_eq_getElem?_getD, List.getElem?_eq_getElem h]
  rfl
theorem runP_yes {p : UInt8 → Bool} {l : List UInt8} {n : Nat} (h : n < l.length) (hp : p (l.getD n 0) = true) : runP p (l.drop n) = 1 + runP p (l.drop (n + 1)) := by
  unfold runP
  rw [drop_getB h, List.takeWhile_cons, if_pos hp, List.length_cons, Nat.add_comm]
theorem runP_no {p : UInt8 → Bool} {l : List UInt8} {n : Nat} (hp : n < l.length → p (l.getD n 0) = false) : runP p (l.drop n) = 0 := by
  unfold runP
  by_cases h : n < l.length
  · rw [drop_getB h, List.takeWhile_cons, if_neg (by rw [hp h]; simp)]
    rfl
  · rw [List.drop_eq_nil_of_le (by omega)]
    rfl
theorem runP_le (p : UInt8 → Bool) (l : List UInt8) : runP p l ≤ l.length := (List.takeWhile_sublist _).length_le
theorem endW_gt (l : List UInt8) (i : Nat) : i < endW l i := by
  unfold endW
  split
  · split <;> omega
  · omega
theorem endW_le {l : List UInt8} {i : Nat} (h : i < l.length) : endW l i ≤ l.length := by
  unfold endW
  have := runP_le (fun c => kindB c == kindB (l.getD i 0)) (l.drop (i + 1))
  rw [List.length_drop] at this
  split
  · split <;> omega
  · omega
theorem u8_eq {c d : UInt8} : ((c.toNat : Nat) : Int) = (d.toNat : Nat) ↔ c = d := by
  constructor
  · intro h; exact UInt8.toNat_inj.1 (by omega)
  · rintro rfl; rfl

theorem sign_of : ∀ n : Fin 256, (decide (firstIdx (bs [40, 41, 44, 42, 43, 45, 60, 62, 61]) (UInt8.ofNat n.val) ≥ 0)) = isS (UInt8.ofNat n.val) := by decide +kernel
theorem lexer_kind_ok {c : UInt8} {h : Hp} {R : Value → Hp → Prop} (hK : R (vk .u8 ((kindB c : Nat) : Int)) h) : CallOK Tryd.prog 21 [vk .u8 ((c.toNat : Nat) : Int)] h R := by
  refine ok_lexer_kind ?_
  unfold VC_lexer_kind
  unfold kindB at hK
  refine ⟨fun e => ?_, fun e => ⟨fun e2 => ?_, fun e2 => ?_⟩⟩
  · have : isL c = true := by unfold isL; simp [Bool.cond_eq_ite] at e ⊢; omega
    rw [if_pos this] at hK
    exact hK
  · have h1 : ¬ isL c = true := by unfold isL; simp [Bool.cond_eq_ite] at e ⊢; omega
    have h2 : isD c = true := by unfold isD; simp [Bool.cond_eq_ite] at e2 ⊢; omega
    rw [if_neg h1, if_pos h2] at hK
    exact hK
  · have h1 : ¬ isL c = true := by unfold isL; simp [Bool.cond_eq_ite] at e ⊢; omega
    have h2 : ¬ isD c = true := by unfold isD; simp [Bool.cond_eq_ite] at e2 ⊢; omega
    rw [if_neg h1, if_neg h2] at hK
    refine ok_strings_IndexByte (ok_internal_stringslite_IndexByte (ext_indexByte Tryd.func66 (by kernel_rfl) (by kernel_rfl) (by kernel_rfl) (by kernel_rfl) ⟨_, rfl, _, rfl, _, rfl, ?_⟩))
    have key : decide (firstIdx ⟨#[40, 41, 44, 42, 43, 45, 60, 62, 61]⟩ ((c.toNat : Nat) : Int).toNat.toUInt8 ≥ 0) = isS c := by
      have := sign_of ⟨c.toNat, c.toNat_lt⟩
      simp only [UInt8.ofNat_toNat] at this
      rw [← this]
      congr 2
      simp
      rfl
    refine ⟨fun e3 => ?_, fun e3 => ?_⟩
    · rw [key] at e3
      rw [if_pos e3] at hK
      exact hK
    · rw [key] at e3
      rw [if_neg (by rw [e3]; simp)] at hK
      exact hK

theorem lexer_end_ok {l : List UInt8} {i : Nat} {h : Hp} {R : Value → Hp → Prop} (hi : i < l.length) (hl : l.length ≤ 1000000) (hK : R (vi (endW l i : Nat)) h) : CallOK Tryd.prog 22 [vs (bs l), vi i] h R := by
  refine ok_lexer_end ?_
  unfold VC_lexer_end
  rw [bs_size]
  refine ⟨_, rd_idx (by kernel_rfl) (by omega) (by omega), lexer_kind_ok ⟨_, rfl, _, isW (by unfold InR; omega), ?_⟩⟩
  rw [Int.toNat_natCast]
  have e1 : ((i : Nat) : Int) + 1 = ((i + 1 : Nat) : Int) := by omega
  rw [e1]
  refine ⟨fun e => ?_, fun e => ?_⟩
  · have hk : kindB (l.getD i 0) = 40 := by have := of_decide_eq_true e; omega
    unfold endW at hK
    rw [if_pos hk] at hK
    have r0 : Rd Tryd.prog (Instr.index 9 (vs (bs l)) (vi i)) h (vk .u8 ((l.getD i 0).toNat : Nat)) := by
      have := rd_idx (P := Tryd.prog) (h := h) (t := 9) (by kernel_rfl) (l := l) (i := i) (by omega) (by omega)
      rwa [Int.toNat_natCast] at this
    have r1 : ∀ {b : Prop}, (b → i + 1 < l.length) → b → Rd Tryd.prog (Instr.index 9 (vs (bs l)) (vi ((i + 1 : Nat) : Int))) h (vk .u8 ((l.getD (i + 1) 0).toNat : Nat)) := by
      intro b hb hb'
      have := hb hb'
      have := rd_idx (P := Tryd.prog) (h := h) (t := 9) (by kernel_rfl) (l := l) (i := ((i + 1 : Nat) : Int)) (by omega) (by omega)
      rwa [Int.toNat_natCast] at this
    refine ⟨_, fun _ => r0, _, r1 (fun e => by have := of_decide_eq_true e.1; omega), _, r1 (fun e => by have := of_decide_eq_true e.1.1; omega), _, fun _ => r0, _, r1 (fun e => by have := of_decide_eq_true e.1.1; omega), ?_⟩
    have h60 : decide ((((l.getD i 0).toNat : Nat) : Int) = 60) = decide (l.getD i 0 = 60) := decide_eq_decide.2 (u8_eq (d := 60))
    have h62 : decide ((((l.getD i 0).toNat : Nat) : Int) = 62) = decide (l.getD i 0 = 62) := decide_eq_decide.2 (u8_eq (d := 62))
    have g61 : decide ((((l.getD (i + 1) 0).toNat : Nat) : Int) = 61) = decide (l.getD (i + 1) 0 = 61) := decide_eq_decide.2 (u8_eq (d := 61))
    have g62 : decide ((((l.getD (i + 1) 0).toNat : Nat) : Int) = 62) = decide (l.getD (i + 1) 0 = 62) := decide_eq_decide.2 (u8_eq (d := 62))
    rw [h60, h62, g61, g62]
    intro J14
    refine ⟨fun e => ?_, fun e => ?_⟩
    · rw [if_pos (by
        simp only [Bool.cond_eq_ite] at e
        generalize l.getD i 0 = c0 at e ⊢
        generalize l.getD (i + 1) 0 = c1 at e ⊢
        by_cases q1 : c0 = 60 <;> by_cases q2 : c1 = 61 <;> by_cases q3 : c1 = 62 <;> by_cases q4 : c0 = 62 <;> simp [q1, q2, q3, q4] at e ⊢ <;> omega)] at hK
      exact ⟨_, isW (by unfold InR; omega), hK⟩
    · rw [if_neg (by
        simp only [Bool.cond_eq_ite] at e
        generalize l.getD i 0 = c0 at e ⊢
        generalize l.getD (i + 1) 0 = c1 at e ⊢
        by_cases q1 : c0 = 60 <;> by_cases q2 : c1 = 61 <;> by_cases q3 : c1 = 62 <;> by_cases q4 : c0 = 62 <;> simp [q1, q2, q3, q4] at e ⊢ <;> omega)] at hK
      exact hK
  · have hk : ¬ kindB (l.getD i 0) = 40 := by have := of_decide_eq_false e; omega
    unfold endW at hK
    rw [if_neg hk] at hK
    generalize kindB (l.getD i 0) = k at *
    refine ⟨fun vs hh => hh = h ∧ ∃ n : Nat, vs = [vi n] ∧ n ≤ l.length ∧ n + runP (fun c => kindB c == k) (l.drop n) = i + 1 + runP (fun c => kindB c == k) (l.drop (i + 1)), fun vs hh => l.length - (vint vs 0).toNat, ⟨rfl, i + 1, rfl, hi, rfl⟩, ?_⟩
    rintro vs hh ⟨rfl, n, rfl, hn, hr⟩
    refine ⟨n, rfl, ?_⟩
    by_cases hlt : n < l.length
    · refine ⟨_, fun _ => rd_idx (by kernel_rfl) (by omega) (by omega), fun x h' => h' = hh ∧ x = .t (.one (.v (vk .u8 ((kindB (l.getD n 0) : Nat) : Int)))), fun _ => by rw [Int.toNat_natCast]; exact lexer_kind_ok ⟨_, rfl, rfl, rfl⟩, fun e => absurd (by simp; exact hlt) e, ?_⟩
      rintro h28 x29 ⟨rfl, e29⟩
      cases e29
      refine ⟨fun e => ?_, fun e => ?_⟩
      · have hkk : kindB (l.getD n 0) = k := by rw [decide_eq_true (show ((n : Nat) : Int) < (l.length : Nat) by omega), cond_true] at e; have := of_decide_eq_true e; omega
        refine ⟨_, isW (by unfold InR; omega), ⟨rfl, n + 1, rfl, hlt, ?_⟩, by simp [vint]; omega⟩
        rw [runP_yes hlt (by simp only [beq_iff_eq]; exact hkk)] at hr
        omega
      · have hkk : ¬ kindB (l.getD n 0) = k := by rw [decide_eq_true (show ((n : Nat) : Int) < (l.length : Nat) by omega), cond_true] at e; have := of_decide_eq_false e; omega
        rw [runP_no (fun _ => by simp only [beq_eq_false_iff_ne, ne_eq]; exact hkk)] at hr
        rw [← hr] at hK
        exact hK
    · refine ⟨0, fun e => absurd hlt (by simpa using e), fun x h' => h' = hh, fun e => absurd hlt (by simpa using e), fun _ => rfl, ?_⟩
      rintro h28 x29 rfl
      refine ⟨fun e => ?_, fun e => ?_⟩
      · simp [Bool.cond_eq_ite, hlt] at e
      · rw [runP_no (fun h => absurd h hlt)] at hr
        rw [← hr] at hK
        exact hK

theorem lexer_Words_ok {l : List UInt8} {h : Hp} {R : Value → Hp → Prop} (hK : ∀ a n c h', OwnV h h' 9 1 a n c ((wordsL l).1.flatMap encB) → R (vtup [vsl a n c, ifv (if (wordsL l).2 = 0 then none else some (50, vi (wordsL l).2))]) h') :
    CallOK Tryd.prog 9 [vs (bs l)] h R := by
  refine ok_lexer_Words ?_
  unfold VC_lexer_Words
  rw [bs_size]
  refine ⟨fun e => ?_, fun e => ?_⟩
  · have : wordsL l = ([], 2) := by unfold wordsL; rw [if_pos (by simp at e; omega)]
    rw [this] at hK
    exact hK none 0 0 h (OwnV.nil (Hp.le_refl h) _ _)
  have hl : l.length ≤ 240 := by simp at e; omega
  have hw : wordsL l = lexF l (l.length + 1) 0 [] := by unfold wordsL; rw [if_neg (by omega)]
  refine ⟨fun vs hh => ∃ (k i : Nat) (acc : List (List UInt8)) (a : Option Addr) (n c : Nat), vs = [vsl a n c, vi i] ∧ l.length < i + k ∧ i ≤ l.length ∧ lexF l k i acc = wordsL l ∧ OwnV h hh 9 1 a n c (acc.flatMap encB) ∧ acc.length ≤ 80,
    fun vs hh => l.length - (vint vs 1).toNat, ⟨l.length + 1, 0, [], none, 0, 0, rfl, by omega, by omega, hw.symm, OwnV.nil (Hp.le_refl h) _ _, by simp⟩, ?_⟩
  rintro vs hh ⟨k, i, acc, a, n, c, rfl, hk, hi, hf, O, hacc⟩
  have hn : n = acc.length := (O.slp encB_len (by decide)).1
  refine ⟨a, n, c, i, rfl, fun e => ?_, fun e => ?_⟩
  · have hlt : i < l.length := by simpa using e
    obtain ⟨k, rfl⟩ : ∃ k', k = k' + 1 := ⟨k - 1, by omega⟩
    rw [lexF, if_neg (by omega)] at hf
    refine ⟨_, rd_idx (by kernel_rfl) (by omega) (by omega), ?_⟩
    rw [Int.toNat_natCast]
    have h32 : decide ((((l.getD i 0).toNat : Nat) : Int) = 32) = decide (l.getD i 0 = 32) := decide_eq_decide.2 (u8_eq (d := 32))
    rw [h32]
    refine ⟨fun e => ?_, fun e => ?_⟩
    · rw [if_pos (by simpa using e)] at hf
      exact ⟨_, isW (by unfold InR; omega), ⟨k, i + 1, acc, a, n, c, rfl, by omega, by omega, hf, O, hacc⟩, by simp [vint]; omega⟩
    rw [if_neg (by simpa using e)] at hf
    refine ⟨_, rd_idx (by kernel_rfl) (by omega) (by omega), ?_⟩
    rw [Int.toNat_natCast]
    refine lexer_kind_ok ⟨_, rfl, fun e => ?_, fun e => ?_⟩
    · rw [if_pos (by have := of_decide_eq_true e; omega)] at hf
      rw [← hf] at hK
      exact hK none 0 0 hh (OwnV.nil O.le _ _)
    rw [if_neg (by have := of_decide_eq_false e; omega)] at hf
    have g1 := endW_gt l i
    have g2 := endW_le hlt
    refine lexer_end_ok hlt (by omega) ⟨_, rfl, _, rd_cut (by kernel_rfl) (by omega) (by omega) (by omega), ?_⟩
    rw [Int.toNat_natCast, Int.toNat_natCast]
    intro b hb h24
    refine OwnV.append elStr (OwnV.set hb _ O) (HasRow.new _ _ [vs (bs ((l.drop i).take (endW l i - i)))] _) (m := 1) rfl (by simp [Value.oneCell']) (by omega) (by omega) fun a' c' h' O' _ _ => ⟨_, _, _, rfl, fun e => ?_, fun e => ?_⟩
    · rw [if_pos (by simp at e; omega)] at hf
      rw [← hf] at hK
      exact hK none 0 0 h' (OwnV.nil O'.le _ _)
    · have h80 : ¬ acc.length + 1 > 80 := by simp at e; omega
      rw [if_neg h80] at hf
      refine ⟨⟨k, endW l i, acc ++ [(l.drop i).take (endW l i - i)], a', _, c', rfl, by omega, g2, hf, ?_, by simp; omega⟩, by simp [vint]; omega⟩
      rw [List.flatMap_append]
      exact O'
  · have hge : i = l.length := by simp at e; omega
    have : lexF l k i acc = (acc, 0) := by
      cases k with
      | zero => rfl
      | succ k => rw [lexF, if_pos (by omega)]
    rw [this] at hf
    rw [← hf] at hK
    exact hK a n c hh O
end Go.Proofs.YtonlacplogbodaaDoor
/-
  Plain law: what is wrong with a question; a question is read from a text. Conditions: none.
-/
namespace Go.Proofs.YtonlacplogbodaaDoor
open Go Go.Vc Go.Txt
set_option linter.unusedVariables false

/-- An expression that must be of a kind (0: of any). -/
def typedF (l : List Nd) (kind : Int) : Int := if exprF l ≠ 0 then exprF l else if (typE l).2 ≠ 0 then (typE l).2 else if kind ≠ 0 ∧ (typE l).1 ≠ kind ∧ (typE l).1 ≠ 0 then 3 else 0
def numsF (q : Qy) : Int :=
  if q.size < 1 ∨ q.size > 1000 ∨ q.slide < 1 ∨ q.slide > 1000 ∨ q.delay < 0 ∨ q.delay > 1000 ∨ q.late < 0 ∨ q.late > 1000 then 1
  else if q.slide > q.size ∨ q.size > 4 * q.slide then 3 else 0
def aggF (a : Ag) : Int := if a.1 < 1 ∨ a.1 > 5 ∨ (a.1 = 1 ∧ a.2 ≠ []) then 3 else if a.1 = 1 then 0 else typedF a.2 (if a.1 = 2 then 0 else 1)
def firstF : List Int → Int
  | [] => 0
  | f :: l => if f ≠ 0 then f else firstF l
def tailF (q : Qy) : Int := firstF [if q.wh = [] then 0 else typedF q.wh 2, if q.by_ = [] then 0 else typedF q.by_ 0, numsF q]
/-- What is wrong with a question. -/
def qryF (q : Qy) : Int := if q.aggs.length < 1 ∨ q.aggs.length > 4 then 2 else if firstF (q.aggs.map aggF) ≠ 0 then firstF (q.aggs.map aggF) else tailF q
/-- A question is read from words, from a text: and what is wrong. -/
def parseW (ws : List Wd) : Qy × Int := if (readQ ws).2.f ≠ 0 then (noQ, (readQ ws).2.f) else if qryF (readQ ws).1 ≠ 0 then (noQ, qryF (readQ ws).1) else ((readQ ws).1, 0)
def parseQ (s : List UInt8) : Qy × Int := if (wordsL s).2 ≠ 0 then (noQ, (wordsL s).2) else parseW (wordsL s).1
theorem firstF_skip {l : List Int} {f : Int} {r : List Int} (h : ∀ x ∈ l, x = 0) (hf : f ≠ 0) : firstF (l ++ f :: r) = f := by
  induction l with
  | nil => rw [List.nil_append, firstF, if_pos hf]
  | cons x l ih =>
    have hx := h x (List.mem_cons_self ..)
    rw [List.cons_append, firstF, if_neg (by rw [hx]; decide)]
    exact ih fun y hy => h y (List.mem_cons_of_mem _ hy)
theorem firstF_zero {l : List Int} (h : ∀ x ∈ l, x = 0) : firstF l = 0 := by
  induction l with
  | nil => rfl
  | cons x l ih =>
    rw [firstF, if_neg (by rw [h x (List.mem_cons_self ..)]; decide)]
    exact ih fun y hy => h y (List.mem_cons_of_mem _ hy)
theorem firstF_all {l : List Int} (h : firstF l = 0) : ∀ x ∈ l, x = 0 := by
  induction l with
  | nil => intro x hx; cases hx
  | cons y l ih =>
    rw [firstF] at h
    intro x hx
    split at h
    · rename_i q; exact absurd h q
    · rename_i q
      rcases List.mem_cons.1 hx with rfl | hx
      · omega
      · exact ih h x hx
theorem firstF_at {α : Type} {g : α → Int} {l : List α} {i : Nat} {x : α} (h : ∀ y ∈ l.take i, g y = 0) (hx : l[i]? = some x) (hf : g x ≠ 0) : firstF (l.map g) = g x := by
  obtain ⟨hi, rfl⟩ := List.getElem?_eq_some_iff.1 hx
  have e : l = l.take i ++ l[i] :: l.drop (i + 1) := by rw [← List.drop_eq_getElem_cons, List.take_append_drop]
  have e2 := congrArg (List.map g) e
  rw [List.map_append, List.map_cons] at e2
  rw [e2]
  have h2 := firstF_skip (l := (l.take i).map g) (f := g l[i]) (r := (l.drop (i + 1)).map g) (fun y hy => by
    obtain ⟨z, hz, rfl⟩ := List.mem_map.1 hy
    exact h z hz) hf
  exact h2
theorem typE_nat {l : List Nd} (O : OkE l) : 0 ≤ (typE l).1 := by
  unfold typE
  cases h : tAt l (l.length - 1) with
  | none => exact Int.le_refl _
  | some t =>
    simp only
    have hp := O.pos
    have hn : l[l.length - 1]? = some l[l.length - 1] := List.getElem?_eq_getElem (by omega)
    have hm := O.n _ (List.mem_of_getElem? hn)
    have hg : goodV (l[l.length - 1]).v := by
      generalize l[l.length - 1] = n at hm
      unfold nodeF at hm
      repeat' split at hm
      all_goals first | cases hm | skip
      rename_i h1
      exact Decidable.not_not.1 h1
    rw [tAt, fAt_wf own_tyF hn (O.wf _ _ hn)] at h
    generalize fAt none tyF l (l[l.length - 1]).x.toNat = a at h
    generalize fAt none tyF l (l[l.length - 1]).y.toNat = b at h
    generalize l[l.length - 1] = n at h hg
    unfold tyF at h
    split at h
    · cases h
      unfold goodV at hg
      omega
    · split at h
      · cases h; decide
      · unfold tyG at h
        split at h
        · split at h
          · cases h; decide
          · split at h
            · cases h
            · split at h
              · cases h; decide
              · cases h; unfold wantT; split <;> decide
        · cases h
/-- The end of a question: its numbers. -/
def endQ (L : List Ag) (wh by_ : List Nd) (s : RS) : Qy × RS :=
  let z := (s.must wWindow).number 1000
  let sl := optN wSlide z.1 z.2
  let d := optN wDelay 0 sl.2
  let t := optN wLate 0 d.2
  (⟨L, wh, by_, z.1, sl.1, d.1, t.1⟩, if t.2.f = 0 ∧ t.2.ws ≠ [] then t.2.fail 4 else t.2)
def byQ (o : Ps) (L : List Ag) (wh : List Nd) (s : RS) : Qy × RS :=
  let g := optP wGroup (fun s => o (s.must wBy)) s
  endQ L wh g.1 g.2
def restQ (o : Ps) (L : List Ag) (s : RS) : Qy × RS :=
  let w := optP wWhere o ((s.must wFrom).must wEvents)
  byQ o L w.1 w.2
def firstA (o : Ps) (ws : List Wd) : Ag × RS := aggP o ((⟨ws, 0, 0⟩ : RS).must wSelect)
def allA (o : Ps) (ws : List Wd) : List Ag × RS := aggsP o ((firstA o ws).2.ws.length + 1) [(firstA o ws).1] (firstA o ws).2
theorem readQ_eq (ws : List Wd) : readQ ws = restQ (allP (ws.length + 1)).o (allA (allP (ws.length + 1)).o ws).1 (allA (allP (ws.length + 1)).o ws).2 := by
  unfold readQ
  generalize (allP (ws.length + 1)).o = o
  rfl
theorem lexF_words (l : List UInt8) : ∀ (k i : Nat) (acc : List (List UInt8)), acc.length ≤ 80 → (∀ w ∈ acc, w.length ≤ l.length) → (lexF l k i acc).1.length ≤ 80 ∧ ∀ w ∈ (lexF l k i acc).1, w.length ≤ l.length
  | 0, i, acc, h1, h2 => ⟨h1, h2⟩
  | k + 1, i, acc, h1, h2 => by
    rw [lexF]
    split
    · exact ⟨h1, h2⟩
    · split
      · exact lexF_words l k _ acc h1 h2
      · split
        · exact ⟨by simp, by simp⟩
        · split
          · exact ⟨by simp, by simp⟩
          · refine lexF_words l k _ _ (by rw [List.length_append]; simp; omega) fun w hw => ?_
            rcases List.mem_append.1 hw with h3 | h3
            · exact h2 w h3
            · rw [List.mem_singleton.1 h3, List.length_take, List.length_drop]
              omega
theorem wordsL_words (l : List UInt8) : (wordsL l).1.length ≤ 80 ∧ ∀ w ∈ (wordsL l).1, w.length ≤ 240 := by
  unfold wordsL
  split
  · exact ⟨by simp, by simp⟩
  · have := lexF_words l (l.length + 1) 0 [] (by simp) (by simp)
    exact ⟨this.1, fun w hw => Nat.le_trans (this.2 w hw) (by omega)⟩
theorem wordsL_f (l : List UInt8) : (wordsL l).2 = 0 ∨ (wordsL l).2 = 2 ∨ (wordsL l).2 = 4 := by
  have key : ∀ (k i : Nat) (acc : List (List UInt8)), (lexF l k i acc).2 = 0 ∨ (lexF l k i acc).2 = 2 ∨ (lexF l k i acc).2 = 4 := by
    intro k
    induction k with
    | zero => intro i acc; exact .inl rfl
    | succ k ih =>
      intro i acc
      rw [lexF]
      split
      · exact .inl rfl
      · split
        · exact ih _ _
        · split
          · exact .inr (.inr rfl)
          · split
            · exact .inr (.inl rfl)
            · exact ih _ _
  unfold wordsL
  split
  · exact .inr (.inl rfl)
  · exact key _ _ _
theorem goes_optN {s : RS} (h : s.good) (w : Wd) (d : Int) : Goes (optN w d s).2 s := by
  unfold optN
  split
  · exact Goes.refl h
  · exact (goes_is h _).trans (goes_number (goes_is h _).ok _)
/-- What is gathered is few and not deep. -/
theorem allA_ok (ws : List Wd) : (∀ a ∈ (allA (allP (ws.length + 1)).o ws).1, NdsOK a.2) := by
  have ho := (keeps_all (ws.length + 1)).1
  have g0 : (⟨ws, 0, 0⟩ : RS).good := fun h => absurd rfl h
  have g1 := goes_must g0 wSelect
  have l1 : ((⟨ws, 0, 0⟩ : RS).must wSelect).ws.length ≤ ws.length + 1 := Nat.le_trans g1.len (Nat.le_succ _)
  have g2 := goes_agg ho g1.ok l1
  have g3 := goes_aggs ho ((firstA (allP (ws.length + 1)).o ws).2.ws.length + 1) [(firstA (allP (ws.length + 1)).o ws).1] g2.1.ok (Nat.le_trans g2.1.len l1) (by
    intro a ha
    rw [List.mem_singleton.1 ha]
    exact g2.2)
  exact g3.2
end Go.Proofs.YtonlacplogbodaaDoor
/-
  Contracts: package query: what is gathered; a number behind a word. Conditions: those stated at each.
-/
namespace Go.Proofs.YtonlacplogbodaaDoor
open Go Go.Vc Go.Txt
set_option linter.unusedVariables false
set_option maxRecDepth 100000

theorem is_one {s : RS} {w : Wd} (hw : w ≠ []) (h : (s.is [w]).1 = []) : (s.is [w]).2 = s := by
  rcases s.is_spec [w] with ⟨_, q⟩ | ⟨w', r, _, hm, q, _⟩
  · exact q
  · rw [h] at q
    rw [← q] at hm
    exact absurd (List.mem_singleton.1 hm).symm hw
theorem reader_optional_ok {n : Nat} {h0 h : Hp} {g : Nat} {s : RS} (D : RdAt h0 h g s) (E : EnvQ h0 h g) (S : SOk n s) {w : Wd} (hw : w ≠ []) {d : Int} {R : Value → Hp → Prop} (hK : ∀ h', RdAt h0 h' g (optN w d s).2 → Mut (At g) h (At g) h' → R (vi (optN w d s).1) h') : CallOK Tryd.prog 15 [vhp g 0, vs (bs w), vi d] h R := by
  refine ok_query_reader_optional ?_
  unfold VC_query_reader_optional
  intro b1 hb1 h2
  have hl : h.le h2 := Hp.le_set (Hp.le_refl h) hb1 _
  have hb := S.big
  have io := @is_one s w hw
  have gi := goes_is S.good [w]
  unfold optN at hK
  refine reader_is_ok (D.le hl) (slb_one h b1 w) (by decide) (by omega) fun h4 D4 M4 => ⟨_, rfl, ?_⟩
  have M04 : Mut (At g) h (At g) h4 := (Mut.of_le hl).trans M4
  refine ⟨_, rd_eqBs (b := []), fun e => ?_, fun e => ?_⟩
  · have e := of_decide_eq_true e
    rw [if_pos e] at hK
    rw [io e] at D4
    exact hK h4 D4 M04
  · have e := of_decide_eq_false e
    rw [if_neg e] at hK
    exact reader_number_ok D4 (E.mut M04) (by have := gi.len; omega) (by decide) (by decide) fun h9 D9 M9 => ⟨_, rfl, hK h9 D9 (M04.trans M9)⟩
theorem idx_aggs {w : Wd} (h : w ∈ [[], wCount, wSum, wMin, wMax]) : w ∈ aggsW ∧ (aggsW.idxOf w : Int) = aggKind w := by
  have h2 : w = [] ∨ w = wCount ∨ w = wSum ∨ w = wMin ∨ w = wMax := by simpa using h
  rcases h2 with rfl | rfl | rfl | rfl | rfl <;> exact ⟨by decide, by decide⟩
theorem reader_agg_ok {P : Ps} {n : Nat} (F : Reads 13 P n) (kp : KP P n) {h0 h : Hp} {g : Nat} {s : RS} (D : RdAt h0 h g s) (E : EnvQ h0 h g) (S : SOk n s) {R : Value → Hp → Prop} (hK : ∀ a c h', RdAt h0 h' g (aggP P s).2 → NdAt h h' a (aggP P s).1.2.length (aggP P s).1.2 → Mut (At g) h (At g) h' → R (vag [vi (aggP P s).1.1, vsl a (aggP P s).1.2.length c]) h') : CallOK Tryd.prog 11 [vhp g 0] h R := by
  refine ok_query_reader_agg ?_
  unfold VC_query_reader_agg
  intro b1 hb1 h2
  have hl : h.le h2 := Hp.le_set (Hp.le_refl h) hb1 _
  have hb := S.big
  have gi := goes_is S.good [wCount, wSum, wMin, wMax]
  have gm := @is_mem s [wCount, wSum, wMin, wMax]
  unfold aggP at hK
  simp only at hK
  refine reader_is_ok (D.le hl) (slb_lit h b1 [wCount, wSum, wMin, wMax] (by decide)) (by decide) (by omega) fun h4 D4 M4 => ⟨_, rfl, ?_⟩
  have M04 : Mut (At g) h (At g) h4 := (Mut.of_le hl).trans M4
  generalize s.is [wCount, wSum, wMin, wMax] = B at *
  obtain ⟨w, s1⟩ := B
  simp -zeta only at hK D4 gi gm ⊢
  have S1 := S.goes gi
  have hwm : w ∈ [[], wCount, wSum, wMin, wMax] := by
    by_cases e : w = []
    · rw [e]; simp
    · exact List.mem_cons_of_mem _ (gm e)
  obtain ⟨hwa, hwi⟩ := idx_aggs hwm
  refine ⟨_, rd_eqBs (b := []), ?_⟩
  intro J11
  have hJ : ∀ (h12 : Hp) (t : RS), t = (if w = [] then s1.fail 4 else s1) → RdAt h0 h12 g t → Mut (At g) h (At g) h12 → Goes t s → J11 h12 := by
    intro h12 t ht D12 M12 Gt
    rw [← ht] at hK
    clear ht
    have St := S.goes Gt
    refine reader_must_ok D12 (by have := St.big; omega) fun h14 D14 M14 => ⟨rfl, ?_⟩
    have M014 := M12.trans M14
    have E14 := E.mut M014
    have G2 := Gt.trans (goes_must Gt.ok wOpen)
    obtain ⟨qa, qc, hq, hqs⟩ := E14.now.a
    refine ⟨_, _, _, hq, slices_Index_ok hqs (by decide) ⟨_, rfl, ?_⟩⟩
    rw [if_pos hwa, hwi]
    have D14 : RdAt h0 h14 g (t.must wOpen) := D14
    generalize t.must wOpen = s2 at *
    have S2 := S.goes G2
    intro J56
    have fin : ∀ (k : Int) (a : Option Addr) (c : Nat) (h66 : Hp) (l : List Nd) (u : RS), RdAt h0 h66 g u → NdAt h h66 a l.length l → Mut (At g) h (At g) h66 → SOk n u → (∀ a c h', RdAt h0 h' g (u.must wClose) → NdAt h h' a l.length l → Mut (At g) h (At g) h' → R (vag [vi k, vsl a l.length c]) h') → J56 k a l.length c h66 := by
      intro k a c h66 l u D66 N66 M66 Su hR
      exact reader_must_ok D66 (by have := Su.big; omega) fun h68 D68 M68 => ⟨rfl, hR a c h68 D68 (N66.mut D.al M68) (M66.trans M68)⟩
    clear_value J56
    have orK : ∀ {h26 : Hp} (k : Int), RdAt h0 h26 g s2 → Mut (At g) h (At g) h26 → (∀ a c h', RdAt h0 h' g ((P s2).2.must wClose) → NdAt h h' a (P s2).1.length (P s2).1 → Mut (At g) h (At g) h' → R (vag [vi k, vsl a (P s2).1.length c]) h') → CallOK Tryd.prog 13 [vhp g 0] h26 fun v31 h32 => ∃ (a33 : Option Addr) (n33 c33 : Nat), v31 = vsl a33 n33 c33 ∧ J56 k a33 n33 c33 h32 := by
      intro h26 k D26 M26 hR
      have k2 := kp s2 S2.good (Nat.le_of_lt S2.len)
      exact F D26 (E.mut M26) S2 fun a c h' D' N' M' => ⟨_, _, _, rfl, fin k a c h' _ _ D' (N'.base (M26.up D26.al)) (M26.trans M') (S2.goes k2.goes) hR⟩
    refine ⟨_, rd_eqBs (b := wCount), fun e => ?_, fun e => ?_⟩
    · have ew : w = wCount := of_decide_eq_true e
      have hk1 : aggKind w = 1 := by rw [ew]; rfl
      intro b20 hb20 h21
      have l21 : h14.le h21 := Hp.le_set (Hp.le_refl h14) hb20 _
      have M21 := M014.trans (Mut.of_le l21)
      have gi2 := goes_is S2.good [wStar]
      have io := @is_one s2 wStar (by decide)
      refine ⟨fun x hh => x = .t (.one (.v (vs (bs (s2.is [wStar]).1)))) ∧ RdAt h0 hh g (s2.is [wStar]).2 ∧ Mut (At g) h (At g) hh, fun _ => reader_is_ok (D14.le l21) (slb_one h14 b20 wStar) (by decide) (by have := S2.big; omega) fun h24 D24 M24 => ⟨_, rfl, rfl, D24, M21.trans M24⟩, fun q => absurd e q, ?_⟩
      rintro h26 s27 ⟨e27, D26, M26⟩
      cases e27
      generalize s2.is [wStar] = C at *
      obtain ⟨v, s3⟩ := C
      simp only at hK D26 gi2 io ⊢
      refine ⟨_, fun _ => rd_neBs (b := []), fun q => ?_, fun q => ?_⟩
      · have q2 : v ≠ [] := by simpa [ew] using q
        rw [if_pos ⟨ew, q2⟩] at hK
        rw [hk1]
        exact fin 1 none 0 h26 [] s3 D26 (nd_nil _ _) M26 (S2.goes gi2) hK
      · have q2 : v = [] := by simpa [ew] using q
        rw [if_neg (by rintro ⟨_, h⟩; exact h q2), if_pos ew] at hK
        rw [io q2] at D26
        refine ⟨_, rd_eqBs (b := wCount), fun q3 => orK 2 D26 M26 hK, fun q3 => absurd ew (of_decide_eq_false q3)⟩
    · have e0 : ¬ w = wCount := fun h => e (decide_eq_true h)
      rw [if_neg (by rintro ⟨h, _⟩; exact e0 h), if_neg e0] at hK
      refine ⟨fun x hh => x = .t (.one (.v (vs ⟨#[]⟩))) ∧ hh = h14, fun q => absurd q e, fun _ => ⟨rfl, rfl⟩, ?_⟩
      rintro h43 s44 ⟨e43, rfl⟩
      cases e43
      refine ⟨false, fun q => absurd q e, fun q => by simp at q, fun _ => ?_⟩
      refine ⟨_, rd_eqBs (b := wCount), fun q3 => absurd (of_decide_eq_true q3) e0, fun q3 => orK (aggKind w) D14 M014 hK⟩
  clear_value J11
  refine ⟨fun e => ?_, fun e => ?_⟩
  · have e := of_decide_eq_true e
    exact reader_fail_ok D4 (by decide) fun h8 D8 M8 => ⟨rfl, hJ h8 _ (by rw [if_pos e]) D8 (M04.trans M8) (gi.trans (goes_fail _ _))⟩
  · have e := of_decide_eq_false e
    exact hJ h4 _ (by rw [if_neg e]) D4 M04 gi
end Go.Proofs.YtonlacplogbodaaDoor
/-
  What functions of the program ask, in words: each is what the framework reckons from the loaded code (the kernel holds the two together), and gives the function's call. Conditions: none.
-/
namespace Go.Proofs.YtonlacplogbodaaDoor
open Go Go.Vc
set_option maxRecDepth 100000
set_option linter.unusedVariables false
/-- What 'penstock/query.typed' asks. -/
def VC_query_typed (u_la : Option Addr) (u_ln u_lc : Nat) (u_kind : Int) (h : Hp) (R : Value → Hp → Prop) : Prop :=
  (CallOK Tryd.prog 42 [(vsl u_la u_ln u_lc)] h fun v1 h2 => ∃ (e3 : Option (TypeId × Value)), v1 = (ifv e3) ∧ (((Option.isSome e3) = true → R (ifv e3) h2) ∧ ((Option.isSome e3) = false → (CallOK Tryd.prog 43 [(vsl u_la u_ln u_lc)] h2 fun v5 h6 => ∃ (x7 : Int) (e8 : Option (TypeId × Value)), v5 = (vtup [(vi x7), (ifv e8)]) ∧ (let J11 : Option (TypeId × Value) → Prop := fun (e12 : Option (TypeId × Value)) => R (ifv e12) h6; (((bif (bif (bif (Option.isNone e8) then (decide ((u_kind : Int) ≠ 0)) else false) then (decide ((x7 : Int) ≠ u_kind)) else false) then (decide ((x7 : Int) ≠ 0)) else false) = true → (J11 (some (50, (vi 3))))) ∧ ((bif (bif (bif (Option.isNone e8) then (decide ((u_kind : Int) ≠ 0)) else false) then (decide ((x7 : Int) ≠ u_kind)) else false) then (decide ((x7 : Int) ≠ 0)) else false) = false → (J11 e8))))))))
theorem ok_query_typed {u_la : Option Addr} {u_ln u_lc : Nat} {u_kind : Int} {h : Hp} {R : Value → Hp → Prop} (H : VC_query_typed u_la u_ln u_lc u_kind h R) : CallOK Tryd.prog 29 [(vsl u_la u_ln u_lc), (vi u_kind)] h R :=
  call_of (cfg := ⟨[], [], []⟩) noNG mixed Tryd.func29 [.one (.v (vsl u_la u_ln u_lc)), .one (.v (vi u_kind))] (by kernel_rfl) rfl (by kernel_rfl) H

/-- What 'penstock/query.numbers' asks. -/
def VC_query_numbers (u_qAggsa : Option Addr) (u_qAggsn u_qAggsc : Nat) (u_qWherea : Option Addr) (u_qWheren u_qWherec : Nat) (u_qBya : Option Addr) (u_qByn u_qByc : Nat) (u_qSize : Int) (u_qSlide : Int) (u_qDelay : Int) (u_qLate : Int) (h : Hp) (R : Value → Hp → Prop) : Prop :=
  (∀ (b1 : Nat), h b1 = none → let h2 : Hp := Hp.set h b1 (cellsO [(vi u_qSize), (vi u_qSlide)] 3); (∃ (I4 : List Value → Hp → Prop) (m5 : List Value → Hp → Nat), I4 [(vi 0)] h2 ∧ ∀ (vs6 : List Value) (h7 : Hp), I4 vs6 h7 → ∃ (x8 : Int), vs6 = [(vi x8)] ∧ (((decide ((x8 : Int) < ((2 : Nat) : Int))) = true → (∃ (b11 o12 : Nat), ((some (⟨b1, 0, none⟩ : Addr)) = some ⟨b11, o12, none⟩ ∧ (0 : Int) ≤ x8 ∧ x8 < ((2 : Nat) : Int)) ∧ (∃ (x13 : Int), (Hp.cell h7 b11 (o12 + x8.toNat * 1) = some (vi x13)) ∧ (((bif (decide ((x13 : Int) < 1)) then true else (decide ((x13 : Int) > 1000))) = true → R (ifv (some (50, (vi 1)))) h7) ∧ ((bif (decide ((x13 : Int) < 1)) then true else (decide ((x13 : Int) > 1000))) = false → (∃ (x15 : Int), (IsW x15 (x8 + 1)) ∧ (I4 [(vi x15)] h7 ∧ m5 [(vi x15)] h7 < m5 vs6 h7))))))) ∧ ((decide ((x8 : Int) < ((2 : Nat) : Int))) = false → (∀ (b16 : Nat), h7 b16 = none → let h17 : Hp := Hp.set h7 b16 (cellsO [(vi u_qDelay), (vi u_qLate)] 3); (∃ (I19 : List Value → Hp → Prop) (m20 : List Value → Hp → Nat), I19 [(vi 0)] h17 ∧ ∀ (vs21 : List Value) (h22 : Hp), I19 vs21 h22 → ∃ (x23 : Int), vs21 = [(vi x23)] ∧ (((decide ((x23 : Int) < ((2 : Nat) : Int))) = true → (∃ (b26 o27 : Nat), ((some (⟨b16, 0, none⟩ : Addr)) = some ⟨b26, o27, none⟩ ∧ (0 : Int) ≤ x23 ∧ x23 < ((2 : Nat) : Int)) ∧ (∃ (x28 : Int), (Hp.cell h22 b26 (o27 + x23.toNat * 1) = some (vi x28)) ∧ (((bif (decide ((x28 : Int) < 0)) then true else (decide ((x28 : Int) > 1000))) = true → R (ifv (some (50, (vi 1)))) h22) ∧ ((bif (decide ((x28 : Int) < 0)) then true else (decide ((x28 : Int) > 1000))) = false → (∃ (x30 : Int), (IsW x30 (x23 + 1)) ∧ (I19 [(vi x30)] h22 ∧ m20 [(vi x30)] h22 < m20 vs21 h22))))))) ∧ ((decide ((x23 : Int) < ((2 : Nat) : Int))) = false → (∃ (x31 : Int), ((decide ((u_qSlide : Int) > u_qSize)) = false → IsW x31 (4 * u_qSlide)) ∧ (((bif (decide ((u_qSlide : Int) > u_qSize)) then true else (decide ((u_qSize : Int) > x31))) = true → R (ifv (some (50, (vi 3)))) h22) ∧ ((bif (decide ((u_qSlide : Int) > u_qSize)) then true else (decide ((u_qSize : Int) > x31))) = false → R (ifv none) h22)))))))))))
theorem ok_query_numbers {u_qAggsa : Option Addr} {u_qAggsn u_qAggsc : Nat} {u_qWherea : Option Addr} {u_qWheren u_qWherec : Nat} {u_qBya : Option Addr} {u_qByn u_qByc : Nat} {u_qSize : Int} {u_qSlide : Int} {u_qDelay : Int} {u_qLate : Int} {h : Hp} {R : Value → Hp → Prop} (H : VC_query_numbers u_qAggsa u_qAggsn u_qAggsc u_qWherea u_qWheren u_qWherec u_qBya u_qByn u_qByc u_qSize u_qSlide u_qDelay u_qLate h R) : CallOK Tryd.prog 30 [(vag [(vsl u_qAggsa u_qAggsn u_qAggsc), (vsl u_qWherea u_qWheren u_qWherec), (vsl u_qBya u_qByn u_qByc), (vi u_qSize), (vi u_qSlide), (vi u_qDelay), (vi u_qLate)])] h R :=
  call_of (cfg := ⟨[], [(2, ([13], [.one (.int .i64)], [])), (8, ([31], [.one (.int .i64)], []))], []⟩) noNG mixed Tryd.func30 [.ag [.v (vsl u_qAggsa u_qAggsn u_qAggsc), .v (vsl u_qWherea u_qWheren u_qWherec), .v (vsl u_qBya u_qByn u_qByc), .v (vi u_qSize), .v (vi u_qSlide), .v (vi u_qDelay), .v (vi u_qLate)]] (by kernel_rfl) rfl (by kernel_rfl) H

/-- What 'penstock/query.Check' asks. -/
def VC_query_Check (u_qAggsa : Option Addr) (u_qAggsn u_qAggsc : Nat) (u_qWherea : Option Addr) (u_qWheren u_qWherec : Nat) (u_qBya : Option Addr) (u_qByn u_qByc : Nat) (u_qSize : Int) (u_qSlide : Int) (u_qDelay : Int) (u_qLate : Int) (h : Hp) (R : Value → Hp → Prop) : Prop :=
  (((bif (decide ((((u_qAggsn : Nat) : Int) : Int) < 1)) then true else (decide ((((u_qAggsn : Nat) : Int) : Int) > 4))) = true → R (ifv (some (50, (vi 2)))) h) ∧ ((bif (decide ((((u_qAggsn : Nat) : Int) : Int) < 1)) then true else (decide ((((u_qAggsn : Nat) : Int) : Int) > 4))) = false → (∃ (I3 : List Value → Hp → Prop) (m4 : List Value → Hp → Nat), I3 [(vi 0)] h ∧ ∀ (vs5 : List Value) (h6 : Hp), I3 vs5 h6 → ∃ (x7 : Int), vs5 = [(vi x7)] ∧ (((decide ((x7 : Int) < ((u_qAggsn : Nat) : Int))) = true → (let J25 : Hp → Prop := fun (h26 : Hp) => (∃ (x27 : Int), (IsW x27 (x7 + 1)) ∧ (I3 [(vi x27)] h26 ∧ m4 [(vi x27)] h26 < m4 vs5 h6)); (∃ (b10 o11 : Nat), (u_qAggsa = some ⟨b10, o11, none⟩ ∧ (0 : Int) ≤ x7 ∧ x7 < ((u_qAggsn : Nat) : Int)) ∧ (∃ (x12 : Int) (a13 : Option Addr) (n13 c13 : Nat), (Hp.row h6 b10 (o11 + x7.toNat * 2) 2 = some [(vi x12), (vsl a13 n13 c13)]) ∧ (((bif (bif (decide ((x12 : Int) < 1)) then true else (decide ((x12 : Int) > 5))) then true else (bif (decide ((x12 : Int) = 1)) then (decide ((((n13 : Nat) : Int) : Int) > 0)) else false)) = true → R (ifv (some (50, (vi 3)))) h6) ∧ ((bif (bif (decide ((x12 : Int) < 1)) then true else (decide ((x12 : Int) > 5))) then true else (bif (decide ((x12 : Int) = 1)) then (decide ((((n13 : Nat) : Int) : Int) > 0)) else false)) = false → (((decide ((x12 : Int) = 1)) = true → (J25 h6)) ∧ ((decide ((x12 : Int) = 1)) = false → (let J19 : Int → Prop := fun (x20 : Int) => (CallOK Tryd.prog 29 [(vsl a13 n13 c13), (vi x20)] h6 fun v21 h22 => ∃ (e23 : Option (TypeId × Value)), v21 = (ifv e23) ∧ (((Option.isSome e23) = true → R (ifv e23) h22) ∧ ((Option.isSome e23) = false → (J25 h22)))); (((decide ((x12 : Int) = 2)) = true → (J19 0)) ∧ ((decide ((x12 : Int) = 2)) = false → (J19 1)))))))))))) ∧ ((decide ((x7 : Int) < ((u_qAggsn : Nat) : Int))) = false → (let J33 : Hp → Prop := fun (h34 : Hp) => (let J40 : Hp → Prop := fun (h41 : Hp) => (CallOK Tryd.prog 30 [(vag [(vsl u_qAggsa u_qAggsn u_qAggsc), (vsl u_qWherea u_qWheren u_qWherec), (vsl u_qBya u_qByn u_qByc), (vi u_qSize), (vi u_qSlide), (vi u_qDelay), (vi u_qLate)])] h41 fun v42 h43 => ∃ (e44 : Option (TypeId × Value)), v42 = (ifv e44) ∧ R (ifv e44) h43); (((decide ((((u_qByn : Nat) : Int) : Int) > 0)) = true → (CallOK Tryd.prog 29 [(vsl u_qBya u_qByn u_qByc), (vi 0)] h34 fun v35 h36 => ∃ (e37 : Option (TypeId × Value)), v35 = (ifv e37) ∧ (((Option.isSome e37) = true → R (ifv e37) h36) ∧ ((Option.isSome e37) = false → (J40 h36))))) ∧ ((decide ((((u_qByn : Nat) : Int) : Int) > 0)) = false → (J40 h34)))); (((decide ((((u_qWheren : Nat) : Int) : Int) > 0)) = true → (CallOK Tryd.prog 29 [(vsl u_qWherea u_qWheren u_qWherec), (vi 2)] h6 fun v28 h29 => ∃ (e30 : Option (TypeId × Value)), v28 = (ifv e30) ∧ (((Option.isSome e30) = true → R (ifv e30) h29) ∧ ((Option.isSome e30) = false → (J33 h29))))) ∧ ((decide ((((u_qWheren : Nat) : Int) : Int) > 0)) = false → (J33 h6)))))))))
theorem ok_query_Check {u_qAggsa : Option Addr} {u_qAggsn u_qAggsc : Nat} {u_qWherea : Option Addr} {u_qWheren u_qWherec : Nat} {u_qBya : Option Addr} {u_qByn u_qByc : Nat} {u_qSize : Int} {u_qSlide : Int} {u_qDelay : Int} {u_qLate : Int} {h : Hp} {R : Value → Hp → Prop} (H : VC_query_Check u_qAggsa u_qAggsn u_qAggsc u_qWherea u_qWheren u_qWherec u_qBya u_qByn u_qByc u_qSize u_qSlide u_qDelay u_qLate h R) : CallOK Tryd.prog 16 [(vag [(vsl u_qAggsa u_qAggsn u_qAggsc), (vsl u_qWherea u_qWheren u_qWherec), (vsl u_qBya u_qByn u_qByc), (vi u_qSize), (vi u_qSlide), (vi u_qDelay), (vi u_qLate)])] h R :=
  call_of (cfg := ⟨[], [(4, ([23], [.one (.int .i64)], []))], []⟩) noNG mixed Tryd.func16 [.ag [.v (vsl u_qAggsa u_qAggsn u_qAggsc), .v (vsl u_qWherea u_qWheren u_qWherec), .v (vsl u_qBya u_qByn u_qByc), .v (vi u_qSize), .v (vi u_qSlide), .v (vi u_qDelay), .v (vi u_qLate)]] (by kernel_rfl) rfl (by kernel_rfl) H

end Go.Proofs.YtonlacplogbodaaDoor
/-
  What functions of the program ask, in words: each is what the framework reckons from the loaded code (the kernel holds the two together), and gives the function's call. Conditions: none.
-/
namespace Go.Proofs.YtonlacplogbodaaDoor
open Go Go.Vc
set_option maxRecDepth 100000
set_option linter.unusedVariables false
/-- What 'penstock/expr.one' asks. -/
def VC_expr_one (u_nOp : Int) (u_nX : Int) (u_nY : Int) (u_nN : Int) (u_nValKind : Int) (u_nValN : Int) (h : Hp) (R : Value → Hp → Prop) : Prop :=
  (CallOK Tryd.prog 58 [(vi u_nOp)] h fun v1 h2 => ∃ (x3 : Int), v1 = (vi x3) ∧ (((decide ((x3 : Int) < 0)) = true → R (ifv (some (50, (vi 3)))) h2) ∧ ((decide ((x3 : Int) < 0)) = false → (∃ (p5 : Bool), ((decide ((u_nOp : Int) ≠ 1)) = true → Rd Tryd.prog ((eqGuard .neq 67 (.tmp 15) (.tmp 16) (vag [(vi u_nValKind), (vi u_nValN)]) (vag [(vi 0), (vi 0)]) >>= fun _ => binOp .neq 67 (vag [(vi u_nValKind), (vi u_nValN)]) (vag [(vi 0), (vi 0)]))) h2 (vb p5)) ∧ (((bif (bif (bif (bif (decide ((u_nOp : Int) ≠ 1)) then p5 else false) then true else (bif (decide ((u_nOp : Int) ≠ 2)) then (decide ((u_nN : Int) ≠ 0)) else false)) then true else (bif (decide ((x3 : Int) < 2)) then (decide ((u_nY : Int) ≠ 0)) else false)) then true else (bif (decide ((x3 : Int) < 1)) then (decide ((u_nX : Int) ≠ 0)) else false)) = true → R (ifv (some (50, (vi 3)))) h2) ∧ ((bif (bif (bif (bif (decide ((u_nOp : Int) ≠ 1)) then p5 else false) then true else (bif (decide ((u_nOp : Int) ≠ 2)) then (decide ((u_nN : Int) ≠ 0)) else false)) then true else (bif (decide ((x3 : Int) < 2)) then (decide ((u_nY : Int) ≠ 0)) else false)) then true else (bif (decide ((x3 : Int) < 1)) then (decide ((u_nX : Int) ≠ 0)) else false)) = false → (((bif (decide ((u_nOp : Int) = 2)) then (bif (decide ((u_nN : Int) < 0)) then true else (decide ((u_nN : Int) > 3))) else false) = true → R (ifv (some (50, (vi 1)))) h2) ∧ ((bif (decide ((u_nOp : Int) = 2)) then (bif (decide ((u_nN : Int) < 0)) then true else (decide ((u_nN : Int) > 3))) else false) = false → (CallOK Tryd.prog 72 [(vag [(vi u_nValKind), (vi u_nValN)])] h2 fun v8 h9 => ∃ (e10 : Option (TypeId × Value)), v8 = (ifv e10) ∧ R (ifv e10) h9)))))))))
theorem ok_expr_one {u_nOp : Int} {u_nX : Int} {u_nY : Int} {u_nN : Int} {u_nValKind : Int} {u_nValN : Int} {h : Hp} {R : Value → Hp → Prop} (H : VC_expr_one u_nOp u_nX u_nY u_nN u_nValKind u_nValN h R) : CallOK Tryd.prog 57 [(vag [(vi u_nOp), (vi u_nX), (vi u_nY), (vi u_nN), (vi u_nValKind), (vi u_nValN)])] h R :=
  call_of (cfg := ⟨[], [], []⟩) noNG mixed Tryd.func57 [.ag [.v (vi u_nOp), .v (vi u_nX), .v (vi u_nY), .v (vi u_nN), .v (vi u_nValKind), .v (vi u_nValN)]] (by kernel_rfl) rfl (by kernel_rfl) H

/-- What 'penstock/expr.Check' asks. -/
def VC_expr_Check (u_la : Option Addr) (u_ln u_lc : Nat) (h : Hp) (R : Value → Hp → Prop) : Prop :=
  (((decide ((((u_ln : Nat) : Int) : Int) > 40)) = true → R (ifv (some (50, (vi 2)))) h) ∧ ((decide ((((u_ln : Nat) : Int) : Int) > 40)) = false → (∃ (I3 : List Value → Hp → Prop) (m4 : List Value → Hp → Nat), I3 [(vsl none 0 0), (vi 0)] h ∧ ∀ (vs5 : List Value) (h6 : Hp), I3 vs5 h6 → ∃ (a7 : Option Addr) (n7 c7 : Nat) (x8 : Int), vs5 = [(vsl a7 n7 c7), (vi x8)] ∧ (((decide ((x8 : Int) < ((u_ln : Nat) : Int))) = true → (∃ (b11 o12 : Nat), (u_la = some ⟨b11, o12, none⟩ ∧ (0 : Int) ≤ x8 ∧ x8 < ((u_ln : Nat) : Int)) ∧ (∃ (x13 : Int) (x14 : Int) (x15 : Int) (x16 : Int) (x17 : Int) (x18 : Int), (Hp.row h6 b11 (o12 + x8.toNat * 6) 6 = some [(vi x13), (vi x14), (vi x15), (vi x16), (vi x17), (vi x18)]) ∧ (CallOK Tryd.prog 57 [(vag [(vi x13), (vi x14), (vi x15), (vi x16), (vi x17), (vi x18)])] h6 fun v19 h20 => ∃ (e21 : Option (TypeId × Value)), v19 = (ifv e21) ∧ (((Option.isSome e21) = true → R (ifv e21) h20) ∧ ((Option.isSome e21) = false → (CallOK Tryd.prog 58 [(vi x13)] h20 fun v23 h24 => ∃ (x25 : Int), v23 = (vi x25) ∧ (((decide ((x25 : Int) > ((n7 : Nat) : Int))) = true → R (ifv (some (50, (vi 3)))) h24) ∧ ((decide ((x25 : Int) > ((n7 : Nat) : Int))) = false → (∃ (x27 : Int), (IsW x27 (((n7 : Nat) : Int) - x25)) ∧ (∃ (a28 : Option Addr) (n28 c28 : Nat), (Rd Tryd.prog (Instr.sliceAt 84 (vsl a7 n7 c7) (some (vi x27)) none none) h24 (vsl a28 n28 c28)) ∧ (∃ (b29 o30 : Nat), ((decide ((x25 : Int) > 0)) = true → (a28 = some ⟨b29, o30, none⟩ ∧ (0 : Int) ≤ 0 ∧ 0 < ((n28 : Nat) : Int))) ∧ (∃ (x31 : Int), ((decide ((x25 : Int) > 0)) = true → Hp.cell h24 b29 (o30 + (0 : Int).toNat * 1) = some (vi x31)) ∧ (∃ (b32 o33 : Nat), (((bif (decide ((x25 : Int) > 0)) then (decide ((x31 : Int) ≠ x14)) else false) = false ∧ (decide ((x25 : Int) > 1)) = true) → (a28 = some ⟨b32, o33, none⟩ ∧ (0 : Int) ≤ 1 ∧ 1 < ((n28 : Nat) : Int))) ∧ (∃ (x34 : Int), (((bif (decide ((x25 : Int) > 0)) then (decide ((x31 : Int) ≠ x14)) else false) = false ∧ (decide ((x25 : Int) > 1)) = true) → Hp.cell h24 b32 (o33 + (1 : Int).toNat * 1) = some (vi x34)) ∧ (((bif (bif (decide ((x25 : Int) > 0)) then (decide ((x31 : Int) ≠ x14)) else false) then true else (bif (decide ((x25 : Int) > 1)) then (decide ((x34 : Int) ≠ x15)) else false)) = true → R (ifv (some (50, (vi 3)))) h24) ∧ ((bif (bif (decide ((x25 : Int) > 0)) then (decide ((x31 : Int) ≠ x14)) else false) then true else (bif (decide ((x25 : Int) > 1)) then (decide ((x34 : Int) ≠ x15)) else false)) = false → (∃ (x36 : Int), (IsW x36 (((n7 : Nat) : Int) - x25)) ∧ (∃ (a37 : Option Addr) (n37 c37 : Nat), (Rd Tryd.prog (Instr.sliceAt 84 (vsl a7 n7 c7) none (some (vi x36)) none) h24 (vsl a37 n37 c37)) ∧ (∀ (b38 : Nat), h24 b38 = none → let h39 : Hp := Hp.set h24 b38 (cellsO [(vi x8)] 3); (SemOK Tryd.prog (Builtin.append_ #[84, 84] 84 #[(vsl a37 n37 c37), (vsl (some (⟨b38, 0, none⟩ : Addr)) 1 1)]) h39 fun v40 h41 => ∃ (a42 : Option Addr) (n42 c42 : Nat), v40 = (vsl a42 n42 c42) ∧ (∃ (x44 : Int), (IsW x44 (x8 + 1)) ∧ (I3 [(vsl a42 n42 c42), (vi x44)] h41 ∧ m4 [(vsl a42 n42 c42), (vi x44)] h41 < m4 vs5 h6))))))))))))))))))))))) ∧ ((decide ((x8 : Int) < ((u_ln : Nat) : Int))) = false → (((decide ((((n7 : Nat) : Int) : Int) ≠ 1)) = true → R (ifv (some (50, (vi 3)))) h6) ∧ ((decide ((((n7 : Nat) : Int) : Int) ≠ 1)) = false → R (ifv none) h6)))))))
theorem ok_expr_Check {u_la : Option Addr} {u_ln u_lc : Nat} {h : Hp} {R : Value → Hp → Prop} (H : VC_expr_Check u_la u_ln u_lc h R) : CallOK Tryd.prog 42 [(vsl u_la u_ln u_lc)] h R :=
  call_of (cfg := ⟨[], [(5, ([3, 15], [.one (.slice), .one (.int .i64)], []))], [(14, [0, 1, 2, 3, 4, 5, 6, 7, 8, 9, 10, 11, 12, 13, 14, 15, 16, 17, 18, 19, 20, 21])]⟩) noNG mixed Tryd.func42 [.one (.v (vsl u_la u_ln u_lc))] (by kernel_rfl) rfl (by kernel_rfl) H

end Go.Proofs.YtonlacplogbodaaDoor
/-
  What functions of the program ask, in words: each is what the framework reckons from the loaded code (the kernel holds the two together), and gives the function's call. Conditions: none.
-/
namespace Go.Proofs.YtonlacplogbodaaDoor
open Go Go.Vc
set_option maxRecDepth 100000
set_option linter.unusedVariables false
/-- What 'penstock/value.Check' asks. -/
def VC_value_Check (u_vKind : Int) (u_vN : Int) (h : Hp) (R : Value → Hp → Prop) : Prop :=
  (let J4 : Bool → Prop := fun (p5 : Bool) => ((p5 = true → R (ifv none) h) ∧ (p5 = false → R (ifv (some (50, (vi 3)))) h)); (((bif (decide ((u_vKind : Int) = 0)) then (decide ((u_vN : Int) = 0)) else false) = true → (J4 (bif (decide ((u_vKind : Int) = 0)) then (decide ((u_vN : Int) = 0)) else false))) ∧ ((bif (decide ((u_vKind : Int) = 0)) then (decide ((u_vN : Int) = 0)) else false) = false → (((bif (bif (decide ((u_vKind : Int) = 1)) then (decide ((u_vN : Int) ≥ (-1000000000))) else false) then (decide ((u_vN : Int) ≤ 1000000000)) else false) = true → (J4 (bif (bif (decide ((u_vKind : Int) = 1)) then (decide ((u_vN : Int) ≥ (-1000000000))) else false) then (decide ((u_vN : Int) ≤ 1000000000)) else false))) ∧ ((bif (bif (decide ((u_vKind : Int) = 1)) then (decide ((u_vN : Int) ≥ (-1000000000))) else false) then (decide ((u_vN : Int) ≤ 1000000000)) else false) = false → (J4 (bif (decide ((u_vKind : Int) = 2)) then (bif (decide ((u_vN : Int) = 0)) then true else (decide ((u_vN : Int) = 1))) else false)))))))
theorem ok_value_Check {u_vKind : Int} {u_vN : Int} {h : Hp} {R : Value → Hp → Prop} (H : VC_value_Check u_vKind u_vN h R) : CallOK Tryd.prog 72 [(vag [(vi u_vKind), (vi u_vN)])] h R :=
  call_of (cfg := ⟨[], [], []⟩) noNG mixed Tryd.func72 [.ag [.v (vi u_vKind), .v (vi u_vN)]] (by kernel_rfl) rfl (by kernel_rfl) H

end Go.Proofs.YtonlacplogbodaaDoor
/-
  Contracts: package value: Check. Conditions: none.
-/
namespace Go.Proofs.YtonlacplogbodaaDoor
open Go Go.Vc
set_option linter.unusedVariables false

theorem value_Check_ok {v : Int × Int} {h : Hp} {R : Value → Hp → Prop} (hK : R (ifv (errV (if goodV v then 0 else 3))) h) : CallOK Tryd.prog 72 [vag (encV v)] h R := by
  refine ok_value_Check ?_
  unfold VC_value_Check
  intro J4
  have yes : goodV v → J4 true := fun hg => ⟨fun _ => by rw [if_pos hg] at hK; exact hK, fun e => by cases e⟩
  have no : ¬ goodV v → J4 false := fun hg => ⟨fun e => (by cases e), fun _ => by rw [if_neg hg] at hK; exact hK⟩
  refine ⟨fun e => ?_, fun e => ⟨fun e2 => ?_, fun e2 => ?_⟩⟩
  · rw [e]; exact yes (by unfold goodV; simp [Bool.cond_eq_ite] at e; omega)
  · rw [e2]; exact yes (by unfold goodV; simp [Bool.cond_eq_ite] at e2; omega)
  · by_cases hg : goodV v
    · have : (bif (decide (v.1 = 2)) then (bif (decide (v.2 = 0)) then true else (decide (v.2 = 1))) else false) = true := by
        unfold goodV at hg
        simp [Bool.cond_eq_ite] at e e2 ⊢
        omega
      rw [this]; exact yes hg
    · have : (bif (decide (v.1 = 2)) then (bif (decide (v.2 = 0)) then true else (decide (v.2 = 1))) else false) = false := by
        unfold goodV at hg
        simp [Bool.cond_eq_ite]
        omega
      rw [this]; exact no hg
end Go.Proofs.YtonlacplogbodaaDoor
/-
  Contracts: package expr: Check. Conditions: those stated at each.
-/
namespace Go.Proofs.YtonlacplogbodaaDoor
open Go Go.Vc
set_option linter.unusedVariables false
set_option maxRecDepth 100000

theorem eq_pair (v : Int × Int) : (v = (0, 0)) = (v.1 = 0 ∧ v.2 = 0) := propext ⟨fun h => by rw [h]; exact ⟨rfl, rfl⟩, fun h => Prod.ext h.1 h.2⟩
theorem expr_one_ok {n : Nd} {h : Hp} {R : Value → Hp → Prop} (hK : R (ifv (errV (nodeF n))) h) : CallOK Tryd.prog 57 [vag (encN n)] h R := by
  refine ok_expr_one ?_
  unfold VC_expr_one
  unfold nodeF at hK
  refine expr_Arity_ok ⟨_, rfl, fun q => ?_, fun q => ⟨_, fun _ => rd_neqV (a := n.v) (b := (0, 0)), fun q2 => ?_, fun q2 => ⟨fun q3 => ?_, fun q3 => value_Check_ok (v := n.v) ⟨_, rfl, ?_⟩⟩⟩⟩
  · rw [if_pos (of_decide_eq_true q)] at hK; exact hK
  all_goals
    have c1 := of_decide_eq_false q
    simp only [cand, cor, cnot] at *
  · have c2 := of_decide_eq_true q2
    rw [if_neg c1, if_pos (by simp only [ne_eq, eq_pair] at c2 ⊢; omega)] at hK
    exact hK
  · have c2 := of_decide_eq_false q2
    have c3 := of_decide_eq_true q3
    rw [if_neg c1, if_neg (by simp only [ne_eq, eq_pair] at c2 ⊢; omega), if_pos c3] at hK
    exact hK
  · have c2 := of_decide_eq_false q2
    have c3 := of_decide_eq_false q3
    rw [if_neg c1, if_neg (by simp only [ne_eq, eq_pair] at c2 ⊢; omega), if_neg c3] at hK
    by_cases hg : goodV n.v
    · rw [if_neg (by simp [hg])] at hK
      rw [if_pos hg]; exact hK
    · rw [if_pos hg] at hK
      rw [if_neg hg]; exact hK
theorem expr_Check_ok {a : Option Addr} {k c : Nat} {l : List Nd} {h : Hp} {R : Value → Hp → Prop} (S : SlP encN h a k l) (hK : ∀ h', h.le h' → R (ifv (errV (exprF l))) h') : CallOK Tryd.prog 42 [vsl a k c] h R := by
  refine ok_expr_Check ?_
  unfold VC_expr_Check
  have hk := S.1
  subst hk
  refine ⟨fun e => ?_, fun e => ?_⟩
  · have : exprF l = 2 := by unfold exprF; rw [if_pos (by have := of_decide_eq_true e; omega)]
    rw [this] at hK; exact hK h (Hp.le_refl h)
  have h40 : l.length ≤ 40 := by have := of_decide_eq_false e; omega
  have e1 : exprF l = chkGo [] 0 l := by unfold exprF; rw [if_neg (by omega)]
  rw [e1] at hK
  refine ⟨fun vs hh => ∃ (i : Nat) (a : Option Addr) (c : Nat) (st : List Int), vs = [vsl a st.length c, vi i] ∧ i ≤ l.length ∧ st.length ≤ i ∧ chkGo [] 0 l = chkGo st i (l.drop i) ∧ OwnV h hh 3 1 a st.length c (st.reverse.map vi), fun vs hh => l.length - (vint vs 1).toNat,
    ⟨0, none, 0, [], rfl, Nat.zero_le _, Nat.le_refl _, rfl, OwnV.nil (Hp.le_refl h) _ _⟩, ?_⟩
  rintro vs hh ⟨i, a1, c1, st, rfl, hi, hst, hc, O⟩
  refine ⟨_, _, _, _, rfl, fun q => ?_, fun q => ?_⟩
  · have hlt : i < l.length := by have := of_decide_eq_true q; omega
    have hx : l[i]? = some l[i] := List.getElem?_eq_getElem hlt
    rw [drop_get hlt] at hc
    obtain ⟨b, o, ha, hr⟩ := (S.le O.le).get encN_len (by decide) hx
    generalize l[i] = n at *
    refine ⟨b, o, ⟨ha, by omega, by omega⟩, _, _, _, _, _, _, hr, expr_one_ok (n := n) ⟨_, rfl, fun q2 => ?_, fun q2 => expr_Arity_ok ⟨_, rfl, ?_⟩⟩⟩
    · rw [errV_some] at q2
      have hf : nodeF n ≠ 0 := by simpa using q2
      rw [chk_fault rfl hf] at hc
      rw [hc] at hK; exact hK hh O.le
    rw [errV_some] at q2
    have hf : nodeF n = 0 := by simpa using q2
    have har : 0 ≤ arI n.op := nodeF_ar hf
    have SI : SlI hh a1 st.length st.reverse := by have := O.sli; exact this
    have hbad : popN n st = none → R (ifv (errV 3)) hh := fun hp => by
      rw [chk_none hf hp] at hc
      rw [hc] at hK; exact hK hh O.le
    have hcap := O.own.cap
    have hgood : ∀ s, popN n st = some s → ∀ x : Int, x = (st.length : Nat) - arI n.op → ∀ K : Value → Hp → Prop, (∀ (a46 : Option Addr) (n46 c46 : Nat) (h45 : Hp), OwnV h h45 3 1 a46 n46 c46 ((((i : Int) :: s).reverse).map vi) → n46 = s.length + 1 → K (vsl a46 n46 c46) h45) →
        ∃ (a38 : Option Addr) (n38 c38 : Nat), (Rd Tryd.prog (Instr.sliceAt 84 (vsl a1 st.length c1) none (some (vi x)) none) hh (vsl a38 n38 c38)) ∧ (∀ (b42 : Nat), hh b42 = none → SemOK Tryd.prog (Builtin.append_ #[84, 84] 84 #[(vsl a38 n38 c38), (vsl (some (⟨b42, 0, none⟩ : Addr)) 1 1)]) (Hp.set hh b42 (cellsO [(vi i)] 3)) K) := by
      intro s hs x hx K hK
      rw [hx]
      obtain ⟨p1, p2⟩ := popN_some har hs
      rw [← p1]
      refine ⟨_, _, _, rd_slice_h (e := 3) (by kernel_rfl) (by kernel_rfl) (by omega) (by omega), fun b42 hb42 => ?_⟩
      rw [Int.toNat_natCast]
      have OC : OwnV h hh 3 1 a1 s.length c1 (s.reverse.map vi) := by
        have := O.cut (m := s.length) (by omega)
        rw [Nat.mul_one, ← List.map_take, p2] at this
        exact this
      refine OwnV.append elInt (OwnV.set hb42 _ OC) (HasRow.new _ _ [vi i] _) (m := 1) rfl (by simp [Value.oneCell']) (by omega) (by omega) fun a2 c2 h2 O2 _ _ => hK _ _ _ _ ?_ rfl
      rw [List.reverse_cons, List.map_append]
      exact O2
    have hnext : ∀ s, popN n st = some s → ∀ (a46 : Option Addr) (n46 c46 : Nat) (h45 : Hp), OwnV h h45 3 1 a46 n46 c46 ((((i : Int) :: s).reverse).map vi) → n46 = s.length + 1 → ∃ (x48 : Int), IsW x48 ((i : Int) + 1) ∧ (∃ (i' : Nat) (a : Option Addr) (c : Nat) (st : List Int), [vsl a46 n46 c46, vi x48] = [vsl a st.length c, vi i'] ∧ i' ≤ l.length ∧ st.length ≤ i' ∧ chkGo [] 0 l = chkGo st i' (l.drop i') ∧ OwnV h h45 3 1 a st.length c (st.reverse.map vi)) ∧ l.length - (vint [vsl a46 n46 c46, vi x48] 1).toNat < l.length - (vint [vsl a1 st.length c1, vi i] 1).toNat := by
      intro s hs a46 n46 c46 h45 O45 hn
      subst hn
      obtain ⟨p1, p2⟩ := popN_some har hs
      refine ⟨_, isW (by unfold InR; omega), ⟨i + 1, a46, c46, (i : Int) :: s, rfl, by omega, by simp; omega, ?_, O45⟩, by simp [vint]; omega⟩
      rw [hc, chk_some hf hs]
    refine ⟨fun q3 => ?_, fun q3 => ?_⟩
    · have hlt2 := of_decide_eq_true q3
      have : popN n st = none := by
        cases hp : popN n st with
        | none => rfl
        | some s => have := (popN_some har hp).1; omega
      exact hbad this
    have hge := of_decide_eq_false q3
    have hw : ∀ {K : Int → Prop}, K ((st.length : Nat) - arI n.op) → ∃ x, IsW x (((st.length : Nat) : Int) - arI n.op) ∧ K x := fun hk => ⟨_, isW (by unfold InR; omega), hk⟩
    refine hw ?_
    have hsz : szT Tryd.prog 3 = 1 := by kernel_rfl
    have rdl := fun (x : Int) (h0 : 0 ≤ x) (h1 : x ≤ st.length) => rd_slice_l (P := Tryd.prog) (h := hh) (t := 84) (e := 3) (by kernel_rfl) (by kernel_rfl) (a := a1) (n := st.length) (c := c1) h0 h1
    rw [hsz] at rdl
    refine ⟨_, _, _, rdl _ (by omega) (by omega), ?_⟩
    have SD := SI.drop (i := ((st.length : Nat) - arI n.op).toNat) (c := c1) (by omega) hcap
    rcases arI_range har with h0 | h0 | h0
    · have hs : popN n st = some st := by unfold popN; rw [if_pos h0]
      rw [h0]
      refine ⟨0, 0, fun g => (by cases g), 0, fun g => (by cases g), 0, 0, fun g => (by cases g.2), 0, fun g => (by cases g.2), fun g => ?_, fun _ => ⟨_, isW (by unfold InR; omega), hgood st hs _ (by rw [h0]) _ fun a46 n46 c46 h45 O e => ⟨_, _, _, rfl, hnext st hs a46 n46 c46 h45 O e⟩⟩⟩
      exfalso
      simp only [cand, cor] at g
      have := of_decide_eq_true g
      omega
    · match st with
      | [] => exfalso; simp at hge; omega
      | z :: s =>
        have hx29 : (((z :: s).length : Nat) : Int) - arI n.op = (s.length : Nat) := by rw [h0]; simp
        rw [hx29] at SD ⊢
        rw [Int.toNat_natCast] at SD ⊢
        have ed : ((z :: s).reverse).drop s.length = [z] := by rw [List.reverse_cons, List.drop_left' (by simp)]
        rw [ed] at SD
        obtain ⟨q, p, hq, hcell⟩ := SD.get (i := 0) (by simp)
        rw [h0]
        by_cases hz : z = n.x
        · have hs : popN n (z :: s) = some s := by unfold popN; rw [if_neg (by omega), if_pos h0]; simp [hz]
          refine ⟨q, p, fun g => ⟨hq, by omega, by simp⟩, z, fun g => hcell, 0, 0, fun g => (by cases g.2), 0, fun g => (by cases g.2), fun g => ?_, fun _ => ?_⟩
          · exfalso
            simp only [cand, cor] at g
            have := of_decide_eq_true g
            omega
          · exact ⟨_, isW (by have : (z :: s).length ≤ i := hst; unfold InR; omega), hgood s hs _ hx29.symm _ fun a46 n46 c46 h45 O e => ⟨_, _, _, rfl, hnext s hs a46 n46 c46 h45 O e⟩⟩
        · have hs : popN n (z :: s) = none := by unfold popN; rw [if_neg (by omega), if_pos h0]; simp [hz]
          have := hbad hs
          refine ⟨q, p, fun g => ⟨hq, by omega, by simp⟩, z, fun g => hcell, 0, 0, fun g => (by cases g.2), 0, fun g => (by cases g.2), fun _ => this, fun g => ?_⟩
          exfalso
          simp only [cand, cor] at g
          have := of_decide_eq_false g
          omega
    · match st with
      | [] => exfalso; simp at hge; omega
      | [z] => exfalso; simp at hge; omega
      | z :: y :: s =>
        have hx29 : (((z :: y :: s).length : Nat) : Int) - arI n.op = (s.length : Nat) := by rw [h0]; simp; omega
        rw [hx29] at SD ⊢
        rw [Int.toNat_natCast] at SD ⊢
        have ed : ((z :: y :: s).reverse).drop s.length = [y, z] := by rw [List.reverse_cons, List.reverse_cons, List.append_assoc, List.drop_left' (by simp)]; rfl
        rw [ed] at SD
        have en : (z :: y :: s).length - s.length = 2 := by simp; omega
        rw [en] at SD ⊢
        obtain ⟨q, p, hq, hcell⟩ := SD.get (i := 0) (by simp)
        obtain ⟨q', p', hq', hcell'⟩ := SD.get (i := 1) (by simp)
        rw [h0]
        by_cases hz : y = n.x ∧ z = n.y
        · have hs : popN n (z :: y :: s) = some s := by unfold popN; rw [if_neg (by omega), if_neg (by omega)]; simp [hz.1, hz.2]
          refine ⟨q, p, fun g => ⟨hq, by omega, by decide⟩, y, fun g => hcell, q', p', fun g => ⟨hq', by omega, by decide⟩, z, fun g => hcell', fun g => ?_, fun _ => ?_⟩
          · exfalso
            simp only [cand, cor] at g
            have := of_decide_eq_true g
            omega
          · exact ⟨_, isW (by have : (z :: y :: s).length ≤ i := hst; unfold InR; omega), hgood s hs _ hx29.symm _ fun a46 n46 c46 h45 O e => ⟨_, _, _, rfl, hnext s hs a46 n46 c46 h45 O e⟩⟩
        · have hs : popN n (z :: y :: s) = none := by unfold popN; rw [if_neg (by omega), if_neg (by omega)]; simp; intro h1 h2; exact hz ⟨h1, h2⟩
          have := hbad hs
          refine ⟨q, p, fun g => ⟨hq, by omega, by decide⟩, y, fun g => hcell, q', p', fun g => ⟨hq', by omega, by decide⟩, z, fun g => hcell', fun _ => this, fun g => ?_⟩
          exfalso
          simp only [cand, cor] at g
          have := of_decide_eq_false g
          omega
  · have hge : i = l.length := by have := of_decide_eq_false q; omega
    subst hge
    rw [List.drop_eq_nil_of_le (Nat.le_refl _), chkGo] at hc
    refine ⟨fun q2 => ?_, fun q2 => ?_⟩
    · rw [if_neg (by have := of_decide_eq_true q2; omega)] at hc
      rw [hc] at hK; exact hK hh O.le
    · rw [if_pos (by have := of_decide_eq_false q2; omega)] at hc
      rw [hc] at hK; exact hK hh O.le
end Go.Proofs.YtonlacplogbodaaDoor
/-
  Contracts: package query: Check. Conditions: those stated at each.
-/
namespace Go.Proofs.YtonlacplogbodaaDoor
open Go Go.Vc Go.Txt
set_option linter.unusedVariables false
set_option maxRecDepth 100000

def aggRw : Int → Value → List Value := fun k v => [vi k, v]
theorem aggRw_len (k : Int) (v : Value) : (aggRw k v).length = 2 := rfl
/-- A question as it lies. -/
structure QAt (h : Hp) (q : Qy) (a1 : Option Addr) (n1 : Nat) (a2 : Option Addr) (n2 : Nat) (a3 : Option Addr) (n3 : Nat) : Prop where
  g : GTab encN aggRw h a1 n1 q.aggs
  w : SlP encN h a2 n2 q.wh
  b : SlP encN h a3 n3 q.by_
theorem QAt.le {h h' : Hp} {q : Qy} {a1 a2 a3 : Option Addr} {n1 n2 n3 : Nat} (Q : QAt h q a1 n1 a2 n2 a3 n3) (l : h.le h') : QAt h' q a1 n1 a2 n2 a3 n3 := ⟨Q.g.le l, Q.w.le l, Q.b.le l⟩
/-- The value of a question. -/
abbrev qV (a1 : Option Addr) (n1 c1 : Nat) (a2 : Option Addr) (n2 c2 : Nat) (a3 : Option Addr) (n3 c3 : Nat) (q : Qy) : Value := vag [vsl a1 n1 c1, vsl a2 n2 c2, vsl a3 n3 c3, vi q.size, vi q.slide, vi q.delay, vi q.late]
/-- Not greater than any memory has room for. -/
structure QBig (q : Qy) : Prop where
  w : q.wh.length ≤ 1000000
  b : q.by_.length ≤ 1000000
  g : ∀ a ∈ q.aggs, a.2.length ≤ 1000000
  n : q.aggs.length ≤ 1000000
theorem errV_3 (f : Int) (h : f ≠ 0) : some (50, vi f) = errV f := by unfold errV; rw [if_neg h]
theorem query_typed_ok {a : Option Addr} {k c : Nat} {l : List Nd} {kind : Int} {h : Hp} {R : Value → Hp → Prop} (S : SlP encN h a k l) (hl : l.length ≤ 1000000) (hK : ∀ h', h.le h' → R (ifv (errV (typedF l kind))) h') : CallOK Tryd.prog 29 [vsl a k c, vi kind] h R := by
  refine ok_query_typed ?_
  unfold VC_query_typed
  unfold typedF at hK
  refine expr_Check_ok S fun h2 l2 => ⟨_, rfl, fun e => ?_, fun e => ?_⟩
  · rw [errV_some] at e
    have e2 : exprF l ≠ 0 := by simpa using e
    rw [if_pos e2] at hK
    exact hK h2 l2
  · rw [errV_some] at e
    have e2 : exprF l = 0 := by simpa using e
    rw [if_neg (fun h => h e2)] at hK
    refine expr_Type_ok (S.le l2) (exprF_ok e2).1 hl fun h6 l6 => ⟨_, _, rfl, ?_⟩
    have hc : (bif (bif (bif (Option.isNone (errV (typE l).2)) then (decide ((kind : Int) ≠ 0)) else false) then (decide (((typE l).1 : Int) ≠ kind)) else false) then (decide (((typE l).1 : Int) ≠ 0)) else false) = decide ((((typE l).2 = 0 ∧ kind ≠ 0) ∧ (typE l).1 ≠ kind) ∧ (typE l).1 ≠ 0) := by
      rw [errV_none, cand, cand, cand]
    rw [hc]
    intro J11
    refine ⟨fun q => ?_, fun q => ?_⟩
    · have q := of_decide_eq_true q
      rw [if_neg (fun h => h q.1.1.1), if_pos ⟨q.1.1.2, q.1.2, q.2⟩] at hK
      exact hK h6 (Hp.le_trans l2 l6)
    · have q := of_decide_eq_false q
      have := hK h6 (Hp.le_trans l2 l6)
      by_cases h5 : (typE l).2 ≠ 0
      · rw [if_pos h5] at this; exact this
      · have h5 : (typE l).2 = 0 := Decidable.not_not.1 h5
        rw [if_neg (fun h => h h5), if_neg (fun h => q ⟨⟨⟨h5, h.1⟩, h.2.1⟩, h.2.2⟩)] at this
        show R (ifv (errV (typE l).2)) h6
        rw [h5]; exact this
theorem cell_lit2 (h : Hp) (b : Nat) (x y : Int) (T : TypeId) {i : Nat} (hi : i < 2) : (h.set b (cellsO [vi x, vi y] T)).cell b (0 + (i : Int).toNat * 1) = some (vi (if i = 0 then x else y)) := by
  match i, hi with
  | 0, _ => exact cell_cells (Hp.set_same _ _ _) rfl
  | 1, _ => exact cell_cells (Hp.set_same _ _ _) rfl
theorem query_numbers_ok {q : Qy} {a1 : Option Addr} {n1 c1 : Nat} {a2 : Option Addr} {n2 c2 : Nat} {a3 : Option Addr} {n3 c3 : Nat} {h : Hp} {R : Value → Hp → Prop} (hK : ∀ h', h.le h' → R (ifv (errV (numsF q))) h') : CallOK Tryd.prog 30 [qV a1 n1 c1 a2 n2 c2 a3 n3 c3 q] h R := by
  refine ok_query_numbers ?_
  unfold VC_query_numbers
  intro b1 hb1 h2
  have l2 : h.le h2 := Hp.le_set (Hp.le_refl h) hb1 _
  refine ⟨fun vs' hh => hh = h2 ∧ ∃ i : Nat, vs' = [vi i] ∧ i ≤ 2 ∧ (1 ≤ i → 1 ≤ q.size ∧ q.size ≤ 1000) ∧ (2 ≤ i → 1 ≤ q.slide ∧ q.slide ≤ 1000), fun vs' hh => 2 - (vint vs' 0).toNat, ⟨rfl, 0, rfl, by omega, by omega, by omega⟩, ?_⟩
  rintro vs' hh ⟨rfl, i, rfl, hi, i1, i2⟩
  refine ⟨i, rfl, fun e => ?_, fun e => ?_⟩
  · have hlt : i < 2 := by have := of_decide_eq_true e; omega
    refine ⟨b1, 0, ⟨rfl, by omega, by omega⟩, _, cell_lit2 h b1 q.size q.slide 3 hlt, ?_⟩
    rw [cor]
    refine ⟨fun g => ?_, fun g => ?_⟩
    · have g := of_decide_eq_true g
      have e1 : numsF q = 1 := by
        unfold numsF
        rw [if_pos]
        split at g <;> omega
      rw [e1] at hK
      exact hK _ l2
    · have g := of_decide_eq_false g
      refine ⟨_, isW (by unfold InR; omega), ⟨rfl, i + 1, rfl, by omega, fun h => ?_, fun h => ?_⟩, by simp [vint]; omega⟩
      · by_cases h0 : i = 0
        · rw [if_pos h0] at g; omega
        · exact i1 (by omega)
      · have h0 : ¬ i = 0 := by omega
        rw [if_neg h0] at g; omega
  · have hge : i = 2 := by have := of_decide_eq_false e; omega
    subst hge
    have j1 := i1 (by omega)
    have j2 := i2 (by omega)
    intro b16 hb16 h17
    have l17 : h.le h17 := Hp.le_set l2 hb16 _
    refine ⟨fun vs' hh => hh = h17 ∧ ∃ i : Nat, vs' = [vi i] ∧ i ≤ 2 ∧ (1 ≤ i → 0 ≤ q.delay ∧ q.delay ≤ 1000) ∧ (2 ≤ i → 0 ≤ q.late ∧ q.late ≤ 1000), fun vs' hh => 2 - (vint vs' 0).toNat, ⟨rfl, 0, rfl, by omega, by omega, by omega⟩, ?_⟩
    rintro vs' hh ⟨rfl, i, rfl, hi, i1, i2⟩
    refine ⟨i, rfl, fun e => ?_, fun e => ?_⟩
    · have hlt : i < 2 := by have := of_decide_eq_true e; omega
      refine ⟨b16, 0, ⟨rfl, by omega, by omega⟩, _, cell_lit2 h2 b16 q.delay q.late 3 hlt, ?_⟩
      rw [cor]
      refine ⟨fun g => ?_, fun g => ?_⟩
      · have g := of_decide_eq_true g
        have e1 : numsF q = 1 := by
          unfold numsF
          rw [if_pos]
          split at g <;> omega
        rw [e1] at hK
        exact hK _ l17
      · have g := of_decide_eq_false g
        refine ⟨_, isW (by unfold InR; omega), ⟨rfl, i + 1, rfl, by omega, fun h => ?_, fun h => ?_⟩, by simp [vint]; omega⟩
        · by_cases h0 : i = 0
          · rw [if_pos h0] at g; omega
          · exact i1 (by omega)
        · have h0 : ¬ i = 0 := by omega
          rw [if_neg h0] at g; omega
    · have hge : i = 2 := by have := of_decide_eq_false e; omega
      subst hge
      have j3 := i1 (by omega)
      have j4 := i2 (by omega)
      refine ⟨4 * q.slide, fun _ => isW (by unfold InR; omega), ?_⟩
      rw [cor]
      have hn : numsF q = if q.slide > q.size ∨ q.size > 4 * q.slide then 3 else 0 := by
        unfold numsF
        rw [if_neg (by omega)]
      rw [hn] at hK
      refine ⟨fun g => ?_, fun g => ?_⟩
      · rw [if_pos (of_decide_eq_true g)] at hK
        exact hK _ l17
      · rw [if_neg (of_decide_eq_false g)] at hK
        exact hK _ l17
theorem take_all {α : Type} {l : List α} {g : α → Int} {i : Nat} (hi : i < l.length) (h : ∀ y ∈ l.take i, g y = 0) (h2 : g l[i] = 0) : ∀ y ∈ l.take (i + 1), g y = 0 := by
  intro y hy
  rw [List.take_succ_eq_append_getElem hi] at hy
  rcases List.mem_append.1 hy with h3 | h3
  · exact h y h3
  · rw [List.mem_singleton.1 h3]; exact h2
theorem nil_len {α : Type} {l : List α} : l = [] ↔ l.length = 0 := List.length_eq_zero_iff.symm
theorem query_Check_ok {q : Qy} {a1 : Option Addr} {n1 c1 : Nat} {a2 : Option Addr} {n2 c2 : Nat} {a3 : Option Addr} {n3 c3 : Nat} {h : Hp} {R : Value → Hp → Prop} (Q : QAt h q a1 n1 a2 n2 a3 n3) (B : QBig q) (hK : ∀ h', h.le h' → R (ifv (errV (qryF q))) h') : CallOK Tryd.prog 16 [qV a1 n1 c1 a2 n2 c2 a3 n3 c3 q] h R := by
  refine ok_query_Check ?_
  unfold VC_query_Check
  have hn1 := Q.g.len
  have hn2 := Q.w.1
  have hn3 := Q.b.1
  have hB := B.n
  rw [cor]
  refine ⟨fun e => ?_, fun e => ?_⟩
  · have e := of_decide_eq_true e
    have : qryF q = 2 := by unfold qryF; rw [if_pos (by omega)]
    rw [this] at hK
    exact hK h (Hp.le_refl h)
  have e := of_decide_eq_false e
  have hq : qryF q = if firstF (q.aggs.map aggF) ≠ 0 then firstF (q.aggs.map aggF) else tailF q := by unfold qryF; rw [if_neg (by omega)]
  rw [hq] at hK
  clear hq
  refine ⟨fun vs' hh => h.le hh ∧ ∃ i : Nat, vs' = [vi i] ∧ i ≤ n1 ∧ ∀ y ∈ q.aggs.take i, aggF y = 0, fun vs' hh => n1 - (vint vs' 0).toNat, ⟨Hp.le_refl h, 0, rfl, Nat.zero_le _, by simp⟩, ?_⟩
  rintro vs' hh ⟨lh, i, rfl, hi, hz⟩
  refine ⟨i, rfl, fun g => ?_, fun g => ?_⟩
  · have hlt : i < n1 := by have := of_decide_eq_true g; omega
    have hlt2 : i < q.aggs.length := by omega
    have hx : q.aggs[i]? = some q.aggs[i] := List.getElem?_eq_getElem hlt2
    have hbig := B.g _ (List.mem_of_getElem? hx)
    have hall := @take_all _ q.aggs aggF i hlt2 hz
    generalize q.aggs[i] = y at hx hbig hall
    obtain ⟨k, l⟩ := y
    obtain ⟨b, o, a', c', ha, hrow, hS⟩ := (Q.g.le lh).row aggRw_len (by decide) hx
    have bad : ∀ f, f ≠ 0 → aggF (k, l) = f → ∀ h', h.le h' → R (ifv (errV f)) h' := by
      intro f hf hk h' l'
      have h1 := firstF_at (g := aggF) hz hx (by rw [hk]; exact hf)
      rw [h1, hk, if_pos hf] at hK
      exact hK h' l'
    intro J25
    refine ⟨b, o, ⟨ha, by omega, by omega⟩, k, a', l.length, c', by rw [Int.toNat_natCast]; exact hrow, ?_⟩
    have good : aggF (k, l) = 0 → ∀ h', h.le h' → J25 h' := fun hk h' l' => ⟨_, isW (by unfold InR; omega), ⟨l', i + 1, rfl, by omega, hall hk⟩, by simp [vint]; omega⟩
    clear_value J25
    rw [cor, cand, cor]
    have hnil : l ≠ [] ↔ (l.length : Int) > 0 := by rw [ne_eq, nil_len]; omega
    refine ⟨fun g2 => ?_, fun g2 => ⟨fun g3 => ?_, fun g3 => ?_⟩⟩
    · have g2 := of_decide_eq_true g2
      refine bad 3 (by decide) ?_ hh lh
      unfold aggF
      rw [if_pos (by simp only [hnil]; omega)]
    · have g2 := of_decide_eq_false g2
      have g3 := of_decide_eq_true g3
      refine good ?_ hh lh
      unfold aggF
      rw [if_neg (by simp only [hnil]; omega), if_pos g3]
    · have g2 := of_decide_eq_false g2
      have g3 := of_decide_eq_false g3
      have hf : aggF (k, l) = typedF l (if k = 2 then 0 else 1) := by
        unfold aggF
        rw [if_neg (by simp only [hnil]; omega), if_neg g3]
      intro J19
      have hJ : J19 (if k = 2 then 0 else 1) := by
        refine query_typed_ok hS hbig fun h' l' => ⟨_, rfl, fun g4 => ?_, fun g4 => ?_⟩
        · rw [errV_some] at g4
          exact bad _ (by simpa using g4) hf h' (Hp.le_trans lh l')
        · rw [errV_some] at g4
          exact good (by rw [hf]; simpa using g4) h' (Hp.le_trans lh l')
      clear_value J19
      refine ⟨fun g4 => ?_, fun g4 => ?_⟩
      · rw [if_pos (of_decide_eq_true g4)] at hJ; exact hJ
      · rw [if_neg (of_decide_eq_false g4)] at hJ; exact hJ
  · have hge : i = n1 := by have := of_decide_eq_false g; omega
    have hz0 : firstF (q.aggs.map aggF) = 0 := firstF_zero (by
      intro x hx
      obtain ⟨y, hy, rfl⟩ := List.mem_map.1 hx
      exact hz y (by rw [List.take_of_length_le (by omega)]; exact hy))
    rw [hz0, if_neg (fun h => h rfl)] at hK
    unfold tailF at hK
    have Q := Q.le lh
    intro J33
    have hJ33 : ∀ h', hh.le h' → (if q.wh = [] then 0 else typedF q.wh 2) = 0 → J33 h' := by
      intro h' l' hw
      rw [hw, firstF, if_neg (fun h => h rfl)] at hK
      unfold J33
      intro J40
      have hJ40 : ∀ h2, h'.le h2 → (if q.by_ = [] then 0 else typedF q.by_ 0) = 0 → J40 h2 := by
        intro h2 l2 hb
        rw [hb, firstF, if_neg (fun h => h rfl)] at hK
        refine query_numbers_ok (q := q) fun h3 l3 => ⟨_, rfl, ?_⟩
        have := hK h3 (Hp.le_trans lh (Hp.le_trans l' (Hp.le_trans l2 l3)))
        rw [firstF, firstF] at this
        by_cases hn : numsF q ≠ 0
        · rw [if_pos hn] at this; exact this
        · rw [if_neg hn] at this
          rw [Decidable.not_not.1 hn]; exact this
      clear_value J40
      refine ⟨fun g2 => ?_, fun g2 => ?_⟩
      · have hne : ¬ q.by_ = [] := by have := of_decide_eq_true g2; rw [nil_len]; omega
        rw [if_neg hne] at hJ40 hK
        refine query_typed_ok (Q.le l').b B.b fun h2 l2 => ⟨_, rfl, fun g4 => ?_, fun g4 => ?_⟩
        · rw [errV_some] at g4
          rw [firstF, if_pos (by simpa using g4)] at hK
          exact hK h2 (Hp.le_trans lh (Hp.le_trans l' l2))
        · rw [errV_some] at g4
          exact hJ40 h2 l2 (by simpa using g4)
      · have hnil : q.by_ = [] := by have := of_decide_eq_false g2; rw [nil_len]; omega
        exact hJ40 h' (Hp.le_refl h') (if_pos hnil)
    clear_value J33
    refine ⟨fun g2 => ?_, fun g2 => ?_⟩
    · have hne : ¬ q.wh = [] := by have := of_decide_eq_true g2; rw [nil_len]; omega
      rw [if_neg hne] at hJ33 hK
      refine query_typed_ok Q.w B.w fun h2 l2 => ⟨_, rfl, fun g4 => ?_, fun g4 => ?_⟩
      · rw [errV_some] at g4
        rw [firstF, if_pos (by simpa using g4)] at hK
        exact hK h2 (Hp.le_trans lh l2)
      · rw [errV_some] at g4
        exact hJ33 h2 l2 (by simpa using g4)
    · have hnil : q.wh = [] := by have := of_decide_eq_false g2; rw [nil_len]; omega
      exact hJ33 hh (Hp.le_refl hh) (if_pos hnil)
end Go.Proofs.YtonlacplogbodaaDoor
/-
  Contracts: package query: Parse. Conditions: that the library's tables and errors and the names of fields lie as laid.
-/
namespace Go.Proofs.YtonlacplogbodaaDoor
open Go Go.Vc Go.Txt
set_option linter.unusedVariables false
set_option maxRecDepth 100000

theorem elAgg : ElT Tryd.prog 22 44 2 32 := .of (by kernel_rfl) (by kernel_rfl) (by decide)
abbrev AggB (G : Nat → Prop) := GTabB encN aggRw 2 44 G
theorem RdAt.keep {h0 h h' : Hp} {g : Nat} {s : RS} (D : RdAt h0 h g s) (hb : h' g = h g) (l : h0.le h') : RdAt h0 h' g s := by
  obtain ⟨a, c, hb', hS, hc⟩ := D.b
  exact ⟨⟨a, c, hb.trans hb', hS, hc⟩, l, D.n, D.w⟩
/-- One more of what is gathered. -/
theorem agg_app {h0 hB h1 : Hp} {g : Nat} {a : Option Addr} {c : Nat} {L : List Ag} {s : RS} (B : AggB (At g) h0 h1 a c L) (D : RdAt h0 h1 g s) (hBg : hB g ≠ none) (hBa : ∀ b, a = some ⟨b, 0, none⟩ → hB b ≠ none) {k : Int} {a2 : Option Addr} {c2 : Nat} {l : List Nd} (N : NdAt hB h1 a2 l.length l) (hL : L.length ≤ 1000)
    {b : Nat} (hb : h1 b = none) {K : Value → Hp → Prop} (hK : ∀ a' c' h', AggB (At g) h0 h' a' c' (L ++ [(k, l)]) → RdAt h0 h' g s → K (vsl a' (L.length + 1) c') h') :
    SemOK Tryd.prog (Builtin.append_ #[22, 22] 22 #[vsl a L.length c, vsl (some ⟨b, 0, none⟩) 1 1]) (h1.set b (cellsO [vi k, vsl a2 l.length c2] 44)) K := by
  refine B.app (x := k) (c2 := c2) elAgg (Hp.le_refl h1) (fun b' e => by rw [show b' = g from e]; exact hBg) hBa N.s.2 N.nw ?_ rfl (fun b' e => by rw [show b' = g from e]; exact D.al) (by omega) (by omega) hb fun a' c' h' B' hk => hK a' c' h' B' ?_
  · intro u hu
    have : u = vi k ∨ u = vsl a2 l.length c2 := by simpa [aggRw] using hu
    rcases this with rfl | rfl <;> rfl
  · obtain ⟨o, ho⟩ : ∃ o, h1 g = some o := by
      cases e : h1 g with
      | none => exact absurd e D.al
      | some o => exact ⟨o, rfl⟩
    exact D.keep ((hk g o ho (B.ne rfl)).trans ho.symm) B'.le0
theorem nds_of {hB h : Hp} {a : Option Addr} {n : Nat} {l : List Nd} (N : NdAt hB h a n l) : SlP encN h a n l := N.s
theorem endQ_goes {s : RS} (h : s.good) (L : List Ag) (wh by_ : List Nd) : (endQ L wh by_ s).1.aggs = L ∧ (endQ L wh by_ s).1.wh = wh ∧ (endQ L wh by_ s).1.by_ = by_ := ⟨rfl, rfl, rfl⟩
theorem noQ_at (h : Hp) : QAt h noQ none 0 none 0 none 0 := ⟨⟨[], rfl, rfl, .inl rfl, fun r hr => by cases hr⟩, ⟨rfl, .inl rfl⟩, ⟨rfl, .inl rfl⟩⟩
set_option maxHeartbeats 1000000 in
theorem query_Parse_ok {l : List UInt8} {h : Hp} (T : TabQ h) {R : Value → Hp → Prop} (hK : ∀ a1 n1 c1 a2 n2 c2 a3 n3 c3 h', h.le h' → QAt h' (parseQ l).1 a1 n1 a2 n2 a3 n3 → R (vtup [qV a1 n1 c1 a2 n2 c2 a3 n3 c3 (parseQ l).1, ifv (errV (parseQ l).2)]) h') : CallOK Tryd.prog 4 [vs (bs l)] h R := by
  refine ok_query_Parse ?_
  unfold VC_query_Parse
  refine lexer_Words_ok fun wa wn wc h2 O => ⟨_, _, _, _, rfl, ?_⟩
  have lw := wordsL_words l
  have l02 := O.le
  unfold parseQ at hK
  generalize wordsL l = WW at *
  obtain ⟨W, fw⟩ := WW
  simp only at hK lw O
  show (Option.isSome (errV fw) = true → R (vtup [qV none 0 0 none 0 0 none 0 0 noQ, ifv (errV fw)]) h2) ∧ (Option.isSome (errV fw) = false → _)
  rw [errV_some]
  refine ⟨fun e => ?_, fun e => ?_⟩
  · have e2 : fw ≠ 0 := by simpa using e
    rw [if_pos e2] at hK
    exact hK none 0 0 none 0 0 none 0 0 h2 l02 (noQ_at h2)
  have e2 : ¬ fw ≠ 0 := by simpa using e
  rw [if_neg e2] at hK
  clear e e2
  have hS := O.slp encB_len (by decide)
  obtain rfl := hS.1
  intro b6 hb6 h7
  have l7 : h2.le h7 := Hp.le_set (Hp.le_refl h2) hb6 _
  have D7 : RdAt h2 h7 b6 ⟨W, 0, 0⟩ := ⟨⟨wa, wc, Hp.set_same _ _ _, hS, O.own.cap⟩, l7, hb6, fun x hx => Nat.le_trans (lw.2 x hx) (by decide)⟩
  have E7 : EnvQ h2 h7 b6 := ⟨T.le l02, l7, hb6⟩
  have F : Reads 13 (allP (W.length + 1)).o (W.length + 1) := (reads_all (W.length + 1)).1
  have kp := (keeps_all (W.length + 1)).1
  have g0 : (⟨W, 0, 0⟩ : RS).good := fun h => absurd rfl h
  have S7 : SOk (W.length + 1) ⟨W, 0, 0⟩ := ⟨g0, Nat.lt_succ_self _, by show W.length ≤ 1000; omega, Int.le_refl _, by show (0 : Int) + (W.length : Int) ≤ 1000000; omega⟩
  have hAll := allA_ok W
  unfold parseW at hK
  rw [readQ_eq] at hK
  unfold allA firstA at hK hAll
  generalize (allP (W.length + 1)).o = o at *
  have G1 := goes_must g0 wSelect
  refine reader_must_ok D7 (by show W.length ≤ 1000000; omega) fun h9 D9 M9 => ⟨rfl, ?_⟩
  have D9 : RdAt h2 h9 b6 ((⟨W, 0, 0⟩ : RS).must wSelect) := D9
  generalize (⟨W, 0, 0⟩ : RS).must wSelect = s1 at *
  have S9 := S7.goes G1
  have G2 := goes_agg kp S9.good (Nat.le_of_lt S9.len)
  have hs1 : s1.ws.length ≤ 80 := Nat.le_trans G1.len lw.1
  refine reader_agg_ok F kp D9 (E7.mut M9) S9 fun a13 c13 h11 D11 N11 M11 => ⟨_, _, _, _, rfl, ?_⟩
  generalize aggP o s1 = A at *
  obtain ⟨⟨k1, l1⟩, s2⟩ := A
  simp -zeta only at hK D11 N11 G2 hAll ⊢
  have S11 := S9.goes G2.1
  have l11 : h2.le h11 := D11.l
  intro b14 hb14 h15
  refine agg_app (L := []) (a := none) (c := 0) (hB := h9) (k := k1) (GTabB.nil l11) D11 D9.al (fun b e => by cases e) N11 (by decide) hb14 fun a18 c18 h17 B17 D17 => ⟨_, _, _, rfl, ?_⟩
  intro J48
  -- the rest, behind what is gathered
  have hRest : ∀ (L : List Ag) (t : RS) (a : Option Addr) (c : Nat) (hE : Hp), AggB (At b6) h2 hE a c L → RdAt h2 hE b6 t → SOk (W.length + 1) t → aggsP o (s2.ws.length + 1) [(k1, l1)] s2 = (L, t) → L.length ≤ 1000 → J48 a L.length c none 0 0 none 0 0 hE := by
    intro L t a c hE BE DE SE hL hLn
    rw [hL] at hK hAll
    simp only at hK hAll
    have EE : EnvQ h2 hE b6 := ⟨E7.t, DE.l, hb6⟩
    have hgE := DE.al
    have hG2 : ∀ b, At b6 b → h2 b = none := fun b e => by rw [show b = b6 from e]; exact hb6
    have G3 := goes_must SE.good wFrom
    refine reader_must_ok DE (by have := SE.big; omega) fun h261 D261 M261 => ⟨rfl, ?_⟩
    have D261 : RdAt h2 h261 b6 (t.must wFrom) := D261
    have S261 := SE.goes G3
    have G4 := G3.trans (goes_must G3.ok wEvents)
    refine reader_must_ok D261 (by have := S261.big; omega) fun h263 D263 M263 => ⟨rfl, ?_⟩
    have D263 : RdAt h2 h263 b6 ((t.must wFrom).must wEvents) := D263
    have ME := M261.trans M263
    have S263 := SE.goes G4
    unfold restQ at hK
    generalize (t.must wFrom).must wEvents = t2 at *
    clear G3 D261 S261
    intro b264 hb264 h265
    have l265 : h263.le h265 := Hp.le_set (Hp.le_refl h263) hb264 _
    have gi := goes_is S263.good [wWhere]
    have io := @is_one t2 wWhere (by decide)
    refine reader_is_ok (D263.le l265) (slb_one h263 b264 wWhere) (by decide) (by have := S263.big; omega) fun h267 D267 M267 => ⟨_, rfl, _, rd_neBs (b := []), ?_⟩
    have D267 : RdAt h2 h267 b6 (t2.is [wWhere]).2 := D267
    have M267' := (ME.trans (Mut.of_le l265)).trans M267
    intro J275
    have h275 : ∀ (wh : List Nd) (aw : Option Addr) (cw : Nat) (u : RS) (h315 : Hp), optP wWhere o t2 = (wh, u) → RdAt h2 h315 b6 u → SOk (W.length + 1) u → NdAt hE h315 aw wh.length wh → NdsOK wh → Mut (At b6) hE (At b6) h315 → J275 aw wh.length cw h315 := by
      intro wh aw cw u h315 hw D315 S315 N315 Kw M315
      rw [hw] at hK
      simp only at hK
      unfold byQ at hK
      intro b316 hb316 h317
      have l317 : h315.le h317 := Hp.le_set (Hp.le_refl h315) hb316 _
      have gi := goes_is S315.good [wGroup]
      have io := @is_one u wGroup (by decide)
      refine reader_is_ok (D315.le l317) (slb_one h315 b316 wGroup) (by decide) (by have := S315.big; omega) fun h319 D319 M319 => ⟨_, rfl, _, rd_neBs (b := []), ?_⟩
      have D319 : RdAt h2 h319 b6 (u.is [wGroup]).2 := D319
      have M319' := (M315.trans (Mut.of_le l317)).trans M319
      intro J329
      have h329 : ∀ (by_ : List Nd) (ab : Option Addr) (cb : Nat) (v : RS) (h354 : Hp), optP wGroup (fun s => o (s.must wBy)) u = (by_, v) → RdAt h2 h354 b6 v → SOk (W.length + 1) v → NdAt hE h354 aw wh.length wh → NdAt hE h354 ab by_.length by_ → NdsOK by_ → Mut (At b6) hE (At b6) h354 → J329 ab by_.length cb h354 := by
        intro by_ ab cb v h354 hv D354 S354 Nw N354 Kb M354
        rw [hv] at hK
        simp only at hK
        unfold endQ at hK
        simp only at hK
        have Ga := goes_must S354.good wWindow
        refine reader_must_ok D354 (by have := S354.big; omega) fun h356 D356 M356 => ⟨rfl, ?_⟩
        have D356 : RdAt h2 h356 b6 (v.must wWindow) := D356
        have Sa := S354.goes Ga
        generalize v.must wWindow = v1 at *
        have Gb := goes_number Sa.good 1000
        refine reader_number_ok D356 (EE.mut (M354.trans M356)) (by have := Sa.big; omega) (by decide) (by decide) fun h358 D358 M358 => ⟨_, rfl, ?_⟩
        have Sb := Sa.goes Gb
        generalize v1.number 1000 = Z at *
        obtain ⟨z, v2⟩ := Z
        simp -zeta only at hK D358 Sb ⊢
        have Gc := goes_optN Sb.good wSlide z
        refine reader_optional_ok (w := wSlide) D358 (EE.mut ((M354.trans M356).trans M358)) Sb (by decide) fun h361 D361 M361 => ⟨_, rfl, ?_⟩
        have Sc := Sb.goes Gc
        generalize optN wSlide z v2 = Z at *
        obtain ⟨sl, v3⟩ := Z
        simp -zeta only at hK D361 Sc ⊢
        have Gd := goes_optN Sc.good wDelay 0
        refine reader_optional_ok (w := wDelay) D361 (EE.mut (((M354.trans M356).trans M358).trans M361)) Sc (by decide) fun h364 D364 M364 => ⟨_, rfl, ?_⟩
        have Sd := Sc.goes Gd
        generalize optN wDelay 0 v3 = Z at *
        obtain ⟨d, v4⟩ := Z
        simp -zeta only at hK D364 Sd ⊢
        have Ge := goes_optN Sd.good wLate 0
        refine reader_optional_ok (w := wLate) D364 (EE.mut ((((M354.trans M356).trans M358).trans M361).trans M364)) Sd (by decide) fun h367 D367 M367 => ⟨_, rfl, ?_⟩
        have Se := Sd.goes Ge
        generalize optN wLate 0 v4 = Z at *
        obtain ⟨lt, v5⟩ := Z
        simp -zeta only at hK D367 Se ⊢
        have M367' := ((((M354.trans M356).trans M358).trans M361).trans M364).trans M367
        have M36 := ((((M356).trans M358).trans M361).trans M364).trans M367
        obtain ⟨qa, qc, hq⟩ := D367.c0
        refine ⟨_, D367.c2, _, _, _, fun _ => hq, ?_⟩
        intro J374
        have h374 : ∀ (h375 : Hp) (y : RS), y.f = (if v5.f = 0 ∧ v5.ws ≠ [] then v5.fail 4 else v5).f → RdAt h2 h375 b6 y → Mut (At b6) h367 (At b6) h375 → J374 h375 := by
          intro h375 y hy D375 M375
          rw [← hy] at hK
          have M375' := M367'.trans M375
          have BE2 : AggB (At b6) h2 h375 a c L := BE.keep hG2 M375'.keep
          have Nw2 := Nw.mut hgE (M36.trans M375)
          have N2 := N354.mut hgE (M36.trans M375)
          have QE : QAt h375 ⟨L, wh, by_, z, sl, d, lt⟩ a L.length aw wh.length ab by_.length := ⟨BE2.tab, Nw2.s, N2.s⟩
          refine ⟨_, D375.c2, ?_⟩
          intro J383
          have h383 : ∀ (h384 : Hp) (f : Int), h384.cell b6 (0 + 2) = some (ifv (errV f)) → h.le h384 → (f ≠ 0 → ∀ h', h.le h' → R (vtup [qV none 0 0 none 0 0 none 0 0 noQ, ifv (errV f)]) h') → (f = 0 → R (vtup [qV a L.length c aw wh.length cw ab by_.length cb ⟨L, wh, by_, z, sl, d, lt⟩, ifv none]) h384) → J383 h384 := by
            intro h384 f hc lh hb hg
            refine ⟨_, hc, fun e => ⟨_, hc, hc, ?_⟩, fun e => ?_⟩
            · rw [errV_some] at e
              exact hb (by simpa using e) h384 lh
            · rw [errV_some] at e
              exact hg (by simpa using e)
          clear_value J383
          refine ⟨fun e => ?_, fun e => ?_⟩
          · rw [errV_none] at e
            have e : y.f = 0 := of_decide_eq_true e
            rw [e, if_neg (fun h => h rfl)] at hK
            have hbig : QBig ⟨L, wh, by_, z, sl, d, lt⟩ := ⟨Nat.le_trans Kw.1 (by decide), Nat.le_trans Kb.1 (by decide), fun x hx => Nat.le_trans (hAll x hx).1 (by decide), by show L.length ≤ 1000000; omega⟩
            refine query_Check_ok (q := ⟨L, wh, by_, z, sl, d, lt⟩) (c1 := c) (c2 := cw) (c3 := cb) QE hbig fun h378 l378 => ⟨errV (qryF ⟨L, wh, by_, z, sl, d, lt⟩), rfl, ?_⟩
            refine (D375.le l378).put2 fun h380 D380 M380 => ?_
            have lh : h.le h380 := Hp.le_trans l02 D380.l
            refine h383 h380 _ D380.c2 lh (fun hf h' l' => ?_) fun hf => ?_
            · rw [if_pos hf] at hK
              exact hK none 0 0 none 0 0 none 0 0 h' l' (noQ_at h')
            · rw [if_neg (fun h => h hf)] at hK
              have M2 := (Mut.of_le l378).trans M380
              exact hK _ _ c _ _ cw _ _ cb h380 lh ⟨(BE2.keep hG2 M2.keep).tab, (Nw2.mut hgE M2).s, (N2.mut hgE M2).s⟩
          · rw [errV_none] at e
            have e : y.f ≠ 0 := of_decide_eq_false e
            rw [if_pos e] at hK
            refine h383 h375 y.f D375.c2 (Hp.le_trans l02 D375.l) (fun hf h' l' => ?_) fun hf => absurd hf e
            exact hK none 0 0 none 0 0 none 0 0 h' l' (noQ_at h')
        clear_value J374
        have hcond : (bif Option.isNone (errV v5.f) then decide (((v5.ws.length : Nat) : Int) > 0) else false) = decide (v5.f = 0 ∧ v5.ws ≠ []) := by
          rw [errV_none, cand]
          refine decide_eq_decide.2 ?_
          rw [ne_eq, nil_len]
          constructor
          · rintro ⟨h1, h2⟩; exact ⟨h1, by omega⟩
          · rintro ⟨h1, h2⟩; exact ⟨h1, by omega⟩
        rw [hcond]
        refine ⟨fun e => ?_, fun e => ?_⟩
        · have e := of_decide_eq_true e
          refine (D367.put2 (f := 4) fun h371 D371 M371 => h374 h371 _ ?_ D371 M371)
          rw [if_pos e]
          unfold RS.fail
          rw [if_pos e.1]
        · have e := of_decide_eq_false e
          exact h374 h367 v5 (by rw [if_neg e]) D367 (Mut.of_le (Hp.le_refl _))
      clear_value J329
      have Nw := (N315.mut hgE ((Mut.of_le l317).trans M319))
      refine ⟨fun e => ?_, fun e => ?_⟩
      · have e : (u.is [wGroup]).1 ≠ [] := by simpa using e
        have hop : optP wGroup (fun s => o (s.must wBy)) u = o ((u.is [wGroup]).2.must wBy) := by unfold optP; rw [if_neg e]
        rw [hop] at h329
        have Su := S315.goes gi
        have Gy := goes_must Su.good wBy
        refine reader_must_ok D319 (by have := Su.big; omega) fun h323 D323 M323 => ⟨rfl, ?_⟩
        have D323 : RdAt h2 h323 b6 ((u.is [wGroup]).2.must wBy) := D323
        have S323 := Su.goes Gy
        have k2 := kp _ S323.good (Nat.le_of_lt S323.len)
        have M323' := M319'.trans M323
        refine F D323 (EE.mut M323') S323 fun a c h325 D325 N325 M325 => ⟨_, _, _, rfl, ?_⟩
        exact h329 _ _ _ _ h325 rfl D325 (S323.goes k2.goes) ((Nw.mut hgE M323).mut hgE M325) (N325.base (M323'.up D323.al)) k2.nds (M323'.trans M325)
      · have e : (u.is [wGroup]).1 = [] := by simpa using e
        have hop : optP wGroup (fun s => o (s.must wBy)) u = ([], u) := by unfold optP; rw [if_pos e]
        rw [io e] at D319
        exact h329 [] none 0 u h319 hop D319 S315 Nw (nd_nil _ _) nds_nil M319'
    clear_value J275
    refine ⟨fun e => ?_, fun e => ?_⟩
    · have e : (t2.is [wWhere]).1 ≠ [] := by simpa using e
      have hop : optP wWhere o t2 = o (t2.is [wWhere]).2 := by unfold optP; rw [if_neg e]
      rw [hop] at h275
      have Su := S263.goes gi
      have k2 := kp _ Su.good (Nat.le_of_lt Su.len)
      refine F D267 (EE.mut M267') Su fun a c h271 D271 N271 M271 => ⟨_, _, _, rfl, ?_⟩
      exact h275 _ _ _ _ h271 rfl D271 (Su.goes k2.goes) (N271.base (M267'.up D267.al)) k2.nds (M267'.trans M271)
    · have e : (t2.is [wWhere]).1 = [] := by simpa using e
      have hop : optP wWhere o t2 = ([], t2) := by unfold optP; rw [if_pos e]
      rw [io e] at D267
      exact h275 [] none 0 t2 h267 hop D267 S263 (nd_nil _ _) nds_nil M267'
  clear_value J48
  -- what is gathered, one behind the other
  refine ⟨fun vs' hh => ∃ (k : Nat) (L : List Ag) (t : RS) (a : Option Addr) (c : Nat), vs' = [vsl a L.length c, vsl none 0 0, vsl none 0 0, vi 0, vi 0, vi 0, vi 0] ∧ AggB (At b6) h2 hh a c L ∧ RdAt h2 hh b6 t ∧ SOk (W.length + 1) t ∧ t.ws.length < k ∧ aggsP o (s2.ws.length + 1) [(k1, l1)] s2 = aggsP o k L t ∧ L.length + t.ws.length ≤ 100, fun _ hh => wordsN hh b6, ⟨_, [(k1, l1)], s2, a18, c18, rfl, B17, D17, S11, Nat.lt_succ_self _, rfl, ?_⟩, ?_⟩
  · have := G2.1.len
    show 1 + s2.ws.length ≤ 100
    omega
  rintro vs' hh ⟨k, L, t, a, c, rfl, B, D, S, hk, hrow, hL⟩
  obtain ⟨k, rfl⟩ : ∃ j, k = j + 1 := ⟨k - 1, by omega⟩
  have hst : aggsP o (k + 1) L t = if (t.is [wComma]).1 = [] then (L, t) else aggsP o k (L ++ [(aggP o (t.is [wComma]).2).1]) (aggP o (t.is [wComma]).2).2 := rfl
  rw [hst] at hrow
  clear hst
  refine ⟨_, _, _, _, _, _, _, _, _, _, _, _, _, rfl, ?_⟩
  intro b31 hb31 h32
  have l32 : hh.le h32 := Hp.le_set (Hp.le_refl hh) hb31 _
  have gi := goes_is S.good [wComma]
  have io := @is_one t wComma (by decide)
  have tk := @taken t [wComma]
  have hG2 : ∀ b, At b6 b → h2 b = none := fun b e => by rw [show b = b6 from e]; exact hb6
  have hwn := D.wn
  refine reader_is_ok (D.le l32) (slb_one hh b31 wComma) (by decide) (by have := S.big; omega) fun h34 D34 M34 => ⟨_, rfl, _, rd_neBs (b := []), fun e => ?_, fun e => ?_⟩
  · have e : (t.is [wComma]).1 ≠ [] := by simpa using e
    rw [if_neg e] at hrow
    have tk := tk e
    have D34 : RdAt h2 h34 b6 (t.is [wComma]).2 := D34
    have B34 := (B.grow l32).keep hG2 M34.keep
    have St := S.goes gi
    have Ga := goes_agg kp St.good (Nat.le_of_lt St.len)
    have E34 : EnvQ h2 h34 b6 := ⟨E7.t, D34.l, hb6⟩
    refine reader_agg_ok F kp D34 E34 St fun a42 c42 h40 D40 N40 M40 => ⟨_, _, _, _, rfl, ?_⟩
    generalize aggP o (t.is [wComma]).2 = A at *
    obtain ⟨⟨k2, l2⟩, t2⟩ := A
    simp -zeta only at hrow D40 N40 Ga ⊢
    have B40 := B34.keep hG2 M40.keep
    intro b43 hb43 h44
    have hlen := Ga.1.len
    refine agg_app (hB := h34) (k := k2) B40 D40 D34.al (fun b e => B34.al e) N40 (by omega) hb43 fun a47 c47 h46 B46 D46 => ⟨_, _, _, rfl, ⟨k, L ++ [(k2, l2)], t2, a47, c47, by simp, B46, D46, St.goes Ga.1, by omega, hrow, by simp; omega⟩, ?_⟩
    have h46n := D46.wn
    show wordsN h46 b6 < wordsN hh b6
    omega
  · have e : (t.is [wComma]).1 = [] := by simpa using e
    rw [if_pos e] at hrow
    rw [io e] at D34
    exact hRest L t a c h34 ((B.grow l32).keep hG2 M34.keep) D34 S hrow (by omega)
end Go.Proofs.YtonlacplogbodaaDoor
/-
  Plain law: words of a text that is put together. Conditions: none.
-/
namespace Go.Proofs.YtonlacplogbodaaDoor
open Go Go.Vc
set_option linter.unusedVariables false

theorem getD_dropX (l : List UInt8) (i j : Nat) : (l.drop i).getD j 0 = l.getD (i + j) 0 := by
  rw [List.getD_eq_getElem?_getD, List.getElem?_drop, ← List.getD_eq_getElem?_getD]
/-- Where a word ends hangs on what follows alone. -/
theorem endW_dropX {l : List UInt8} {i : Nat} (h : i < l.length) : endW l i = i + endW (l.drop i) 0 := by
  have g0 : (l.drop i).getD 0 0 = l.getD i 0 := getD_dropX l i 0
  have g1 : (l.drop i).getD (0 + 1) 0 = l.getD (i + 1) 0 := getD_dropX l i 1
  have gd : (l.drop i).drop (0 + 1) = l.drop (i + 1) := by rw [List.drop_drop]
  unfold endW
  rw [g0, g1, List.length_drop, gd]
  have e : (0 + 1 < l.length - i) ↔ (i + 1 < l.length) := by omega
  by_cases h40 : kindB (l.getD i 0) = 40
  · rw [if_pos h40, if_pos h40]
    simp only [e]
    split <;> omega
  · rw [if_neg h40, if_neg h40]
    omega
theorem kind32X : kindB 32 = 32 := by decide
/-- A text and its words. -/
inductive Lx : List UInt8 → List (List UInt8) → Prop
  | nil : Lx [] []
  | blank {l : List UInt8} {ws : List (List UInt8)} : Lx l ws → Lx (32 :: l) ws
  | word {w l : List UInt8} {ws : List (List UInt8)} : w ≠ [] → kindB (w.getD 0 0) ≠ 32 → endW (w ++ l) 0 = w.length → Lx l ws → Lx (w ++ l) (w :: ws)
theorem lex_rel {s : List UInt8} {ws : List (List UInt8)} (H : Lx s ws) : ∀ {l : List UInt8} {k i : Nat} {acc : List (List UInt8)}, l.drop i = s → i ≤ l.length → l.length < i + k → acc.length ≤ 80 → lexF l k i acc = if acc.length + ws.length ≤ 80 then (acc ++ ws, 0) else ([], 2) := by
  induction H with
  | nil =>
    intro l k i acc hs hi hk ha
    obtain ⟨k, rfl⟩ : ∃ j, k = j + 1 := ⟨k - 1, by omega⟩
    have : l.length ≤ i := by
      have := congrArg List.length hs
      rw [List.length_drop] at this
      simp at this
      omega
    rw [lexF, if_pos this, if_pos (by simpa using ha), List.append_nil]
  | @blank l' ws H ih =>
    intro l k i acc hs hi hk ha
    obtain ⟨k, rfl⟩ : ∃ j, k = j + 1 := ⟨k - 1, by omega⟩
    have hlt : i < l.length := by
      have := congrArg List.length hs
      rw [List.length_drop] at this
      simp at this
      omega
    have hc : l.getD i 0 = 32 := by
      have := getD_dropX l i 0
      rw [hs] at this
      exact this.symm
    rw [lexF, if_neg (by omega), if_pos hc]
    refine ih ?_ (by omega) (by omega) ha
    rw [← List.drop_drop, hs]
    rfl
  | @word w l' ws h1 h2 h3 H ih =>
    intro l k i acc hs hi hk ha
    obtain ⟨k, rfl⟩ : ∃ j, k = j + 1 := ⟨k - 1, by omega⟩
    have hw := List.length_pos_iff.2 h1
    have hlen := congrArg List.length hs
    rw [List.length_drop, List.length_append] at hlen
    have hlt : i < l.length := by omega
    have hc : l.getD i 0 = w.getD 0 0 := by
      have := getD_dropX l i 0
      rw [hs] at this
      rw [Nat.add_zero] at this
      rw [← this, List.getD_eq_getElem?_getD, List.getElem?_append_left hw, ← List.getD_eq_getElem?_getD]
    have he : endW l i = i + w.length := by rw [endW_dropX hlt, hs, h3]
    have h32 : ¬ l.getD i 0 = 32 := by
      rw [hc]
      intro e
      rw [e] at h2
      exact h2 kind32X
    rw [lexF, if_neg (by omega), if_neg h32, hc, if_neg h2]
    split
    · rename_i h4
      rw [if_neg (by simp; omega)]
    · rename_i h4
      have htk : (l.drop i).take (endW l i - i) = w := by
        rw [he, Nat.add_sub_cancel_left, hs, List.take_left]
      rw [htk, he, ih (by rw [← List.drop_drop, hs, List.drop_left]) (by omega) (by omega) (by rw [List.length_append]; simp; omega)]
      simp only [List.length_append, List.length_cons, List.length_nil, List.append_assoc, List.cons_append, List.nil_append]
      by_cases h5 : acc.length + (ws.length + 1) ≤ 80
      · rw [if_pos (by omega), if_pos h5]
      · rw [if_neg (by omega), if_neg h5]
theorem words_rel {s : List UInt8} {ws : List (List UInt8)} (H : Lx s ws) : wordsL s = if s.length > 240 then ([], 2) else if ws.length ≤ 80 then (ws, 0) else ([], 2) := by
  unfold wordsL
  split
  · rfl
  · have := lex_rel H (l := s) (k := s.length + 1) (i := 0) (acc := []) rfl (Nat.zero_le _) (by omega) (by simp)
    rw [this]
    simp
/-- What may follow a word. -/
def Start (b : List UInt8) : Prop := b = [] ∨ ∃ c r, b = c :: r ∧ (c = 32 ∨ c = 41 ∨ c = 40 ∨ c = 44)
theorem start_cons {c : UInt8} {r : List UInt8} (h : c = 32 ∨ c = 41 ∨ c = 40 ∨ c = 44) : Start (c :: r) := .inr ⟨c, r, rfl, h⟩
theorem runP_end {p : UInt8 → Bool} {l r : List UInt8} (hl : ∀ x ∈ l, p x = true) (hr : r = [] ∨ ∃ c t, r = c :: t ∧ p c = false) : runP p (l ++ r) = l.length := by
  unfold runP
  induction l with
  | nil =>
    rcases hr with rfl | ⟨c, t, rfl, h⟩
    · rfl
    · simp [h]
  | cons x l ih =>
    rw [List.cons_append, List.takeWhile_cons, if_pos (hl x (List.mem_cons_self ..)), List.length_cons, ih fun y hy => hl y (List.mem_cons_of_mem _ hy), List.length_cons]
theorem lx_kind {k : Nat} (hk : k = 97 ∨ k = 48) {w b : List UInt8} {ws : List (List UInt8)} (hw : w ≠ []) (ha : ∀ x ∈ w, kindB x = k) (hb : Start b) (H : Lx b ws) : Lx (w ++ b) (w :: ws) := by
  match w, hw with
  | c :: t, _ =>
    have hc : kindB c = k := ha c (List.mem_cons_self ..)
    refine .word (by simp) (by show kindB c ≠ 32; rw [hc]; omega) ?_ H
    unfold endW
    have q0 : ((c :: t) ++ b).getD 0 0 = c := rfl
    have q1 : ((c :: t) ++ b).drop (0 + 1) = t ++ b := rfl
    rw [q0, q1, if_neg (by rw [hc]; omega)]
    rw [runP_end (p := fun x => kindB x == kindB c) (fun x hx => by
      have := ha x (List.mem_cons_of_mem _ hx)
      simp [this, hc])]
    · simp; omega
    · rcases hb with rfl | ⟨d, r, rfl, hd⟩
      · exact .inl rfl
      · refine .inr ⟨d, r, rfl, ?_⟩
        have : kindB d = 32 ∨ kindB d = 40 := by
          rcases hd with rfl | rfl | rfl | rfl
          · exact .inl (by decide)
          · exact .inr (by decide)
          · exact .inr (by decide)
          · exact .inr (by decide)
        rw [hc]
        simp
        omega
theorem lx_sign {c : UInt8} (hc : c = 40 ∨ c = 41 ∨ c = 44 ∨ c = 42 ∨ c = 43 ∨ c = 45 ∨ c = 61) {b : List UInt8} {ws : List (List UInt8)} (H : Lx b ws) : Lx (c :: b) ([c] :: ws) := by
  have h40 : kindB c = 40 := by rcases hc with rfl | rfl | rfl | rfl | rfl | rfl | rfl <;> decide
  refine Lx.word (w := [c]) (by simp) (by show kindB c ≠ 32; rw [h40]; decide) ?_ H
  unfold endW
  have q0 : ([c] ++ b).getD 0 0 = c := rfl
  rw [q0, if_pos h40, if_neg]
  · rfl
  · rintro ⟨_, h | h⟩
    · rcases hc with rfl | rfl | rfl | rfl | rfl | rfl | rfl <;> exact absurd h.1 (by decide)
    · rcases hc with rfl | rfl | rfl | rfl | rfl | rfl | rfl <;> exact absurd h.1 (by decide)
theorem lx_lt {b : List UInt8} {ws : List (List UInt8)} (hb : Start b) (H : Lx b ws) : Lx (60 :: b) ([60] :: ws) := by
  refine Lx.word (w := [60]) (by simp) (by decide) ?_ H
  unfold endW
  have q0 : ([60] ++ b).getD 0 0 = 60 := rfl
  rw [q0, if_pos (by decide), if_neg]
  · rfl
  · rintro ⟨h0, h | h⟩
    · rcases hb with rfl | ⟨d, r, rfl, hd⟩
      · simp at h0
      · have q1 : ([60] ++ d :: r).getD (0 + 1) 0 = d := rfl
        rw [q1] at h
        rcases hd with rfl | rfl | rfl | rfl <;> rcases h.2 with h2 | h2 <;> exact absurd h2 (by decide)
    · exact absurd h.1 (by decide)
end Go.Proofs.YtonlacplogbodaaDoor
/-
  Plain law: the text of a question. Conditions: none.
-/
namespace Go.Proofs.YtonlacplogbodaaDoor
open Go Go.Vc Go.Txt
set_option linter.unusedVariables false

def signW (op : Int) : Wd := if op = 6 then [43] else if op = 7 then [45] else if op = 8 then [42] else if op = 9 then wAnd else if op = 10 then wOr else if op = 11 then [60] else [61]
/-- The text of a node, of those of its own. -/
def txF (n : Nd) (a b : Wd) : Wd :=
  if n.op = 1 then (if n.v.2 < 0 then [40, 48, 32, 45, 32] ++ Lib.itoa (-n.v.2) ++ [41] else textV n.v)
  else if n.op = 2 then fieldW.getD n.n.toNat []
  else if n.op = 3 then [40, 45, 32] ++ a ++ [41]
  else if n.op = 4 then [40, 110, 111, 116, 32] ++ a ++ [41]
  else if n.op = 5 then [40] ++ a ++ [32, 105, 115, 32, 110, 117, 108, 108, 41]
  else [40] ++ a ++ [32] ++ signW n.op ++ [32] ++ b ++ [41]
abbrev txAt (l : List Nd) (i : Nat) : Wd := fAt [] txF l i
def txE (l : List Nd) : Wd := txAt l (l.length - 1)
theorem own_txF : Own2 txF := by
  intro n a b a' b' h ha hb
  unfold txF
  by_cases h1 : n.op = 1
  · rw [if_pos h1, if_pos h1]
  rw [if_neg h1, if_neg h1]
  by_cases h2 : n.op = 2
  · rw [if_pos h2, if_pos h2]
  rw [if_neg h2, if_neg h2]
  have ar := ar0 h
  rw [ha (by omega)]
  by_cases h3 : n.op = 3
  · rw [if_pos h3, if_pos h3]
  rw [if_neg h3, if_neg h3]
  by_cases h4 : n.op = 4
  · rw [if_pos h4, if_pos h4]
  rw [if_neg h4, if_neg h4]
  by_cases h5 : n.op = 5
  · rw [if_pos h5, if_pos h5]
  rw [if_neg h5, if_neg h5]
  have : arI n.op = 2 := by
    rcases arI_range h with q | q | q
    · omega
    · exfalso
      unfold arI at q
      split at q
      · omega
      · split at q <;> omega
    · exact q
  rw [hb (by omega)]
theorem nodeF_v {n : Nd} (hm : nodeF n = 0) : goodV n.v := by
  unfold nodeF at hm
  repeat' split at hm
  all_goals first | cases hm | skip
  rename_i h1
  exact Decidable.not_not.1 h1
theorem fieldW_len (i : Nat) : (fieldW.getD i []).length ≤ 1 := by
  match i with
  | 0 => decide
  | 1 => decide
  | 2 => decide
  | 3 => decide
  | n + 4 => exact Nat.zero_le _
theorem signW_len (op : Int) : (signW op).length ≤ 3 := by
  unfold signW
  repeat' split
  all_goals decide
theorem textV_len {v : Int × Int} (h : goodV v) : (textV v).length ≤ 14 := by
  unfold textV
  split
  · decide
  · split
    · unfold goodV at h
      exact itoa_len (by omega) (by omega)
    · split <;> decide
theorem leaf_len {n : Nd} (h : goodV n.v) (h0 : arI n.op = 0) (a b : Wd) : (txF n a b).length ≤ 20 := by
  have h12 : n.op = 1 ∨ n.op = 2 := by
    unfold arI at h0
    split at h0
    · assumption
    · split at h0
      · cases h0
      · split at h0 <;> cases h0
  unfold txF
  rcases h12 with h1 | h1
  · rw [if_pos h1]
    split
    · have := itoa_len (n := -n.v.2) (by unfold goodV at h; omega) (by unfold goodV at h; omega)
      simp only [List.length_append, List.length_cons, List.length_nil]
      omega
    · exact Nat.le_trans (textV_len h) (by decide)
  · rw [if_neg (by omega), if_pos h1]
    exact Nat.le_trans (fieldW_len _) (by decide)
theorem one_len {n : Nd} (h0 : arI n.op = 1) (a b : Wd) : (txF n a b).length ≤ a.length + 20 := by
  have ar : n.op = 3 ∨ n.op = 4 ∨ n.op = 5 := by
    unfold arI at h0
    split at h0
    · cases h0
    · split at h0
      · omega
      · split at h0 <;> cases h0
  unfold txF
  rw [if_neg (by omega), if_neg (by omega)]
  rcases ar with h | h | h
  · rw [if_pos h]; simp only [List.length_append, List.length_cons, List.length_nil]; omega
  · rw [if_neg (by omega), if_pos h]; simp only [List.length_append, List.length_cons, List.length_nil]; omega
  · rw [if_neg (by omega), if_neg (by omega), if_pos h]; simp only [List.length_append, List.length_cons, List.length_nil]; omega
theorem two_len {n : Nd} (h0 : arI n.op = 2) (a b : Wd) : (txF n a b).length ≤ a.length + b.length + 20 := by
  have ar : 6 ≤ n.op := by
    unfold arI at h0
    split at h0
    · cases h0
    · split at h0
      · cases h0
      · split at h0
        · omega
        · cases h0
  unfold txF
  have := signW_len n.op
  rw [if_neg (by omega), if_neg (by omega), if_neg (by omega), if_neg (by omega), if_neg (by omega)]
  simp only [List.length_append, List.length_cons, List.length_nil]
  omega
theorem Blk.txl {l : List Nd} (W : WfL l) (hN : ∀ n ∈ l, nodeF n = 0) {f e : Nat} (B : Blk l f e) : (txAt l (e - 1)).length ≤ 20 * (e - f) := by
  induction B with
  | @leaf j n h h0 =>
    rw [Nat.add_sub_cancel, txAt, fAt_wf own_txF h (W j n h)]
    have := leaf_len (nodeF_v (hN n (List.mem_of_getElem? h))) h0 (fAt [] txF l n.x.toNat) (fAt [] txF l n.y.toNat)
    omega
  | @one f j n B h h0 hx ih =>
    have hlt := B.lt
    rw [Nat.add_sub_cancel, txAt, fAt_wf own_txF h (W j n h)]
    have := one_len h0 (fAt [] txF l n.x.toNat) (fAt [] txF l n.y.toNat)
    rw [show n.x.toNat = j - 1 by omega] at this ⊢
    have ih : (fAt [] txF l (j - 1)).length ≤ 20 * (j - f) := ih
    omega
  | @two f g j n B B' h h0 hx hy ih1 ih2 =>
    have hlt := B.lt
    have hlt' := B'.lt
    rw [Nat.add_sub_cancel, txAt, fAt_wf own_txF h (W j n h)]
    have := two_len h0 (fAt [] txF l n.x.toNat) (fAt [] txF l n.y.toNat)
    rw [show n.x.toNat = g - 1 by omega, show n.y.toNat = j - 1 by omega] at this ⊢
    have ih1 : (fAt [] txF l (g - 1)).length ≤ 20 * (g - f) := ih1
    have ih2 : (fAt [] txF l (j - 1)).length ≤ 20 * (j - g) := ih2
    omega
theorem tx_len {l : List Nd} (O : OkE l) (hl : l.length ≤ 40) {i : Nat} (hi : i < l.length) : (txAt l i).length ≤ 800 := by
  obtain ⟨g, _, B⟩ := O.b.sub i (Nat.zero_le _) hi
  have := B.txl O.wf O.n
  rw [Nat.add_sub_cancel] at this
  have hb := B.lt
  omega
/-- What is gathered, as a text. -/
def aggT (a : Ag) : Wd := aggsW.getD a.1.toNat [] ++ [40] ++ (if a.1 = 1 then [42] else txE a.2) ++ [41]
def wSel : Wd := [115, 101, 108, 101, 99, 116, 32]
def wFrE : Wd := [32, 102, 114, 111, 109, 32, 101, 118, 101, 110, 116, 115]
def wWhr : Wd := [32, 119, 104, 101, 114, 101, 32]
def wGrp : Wd := [32, 103, 114, 111, 117, 112, 32, 98, 121, 32]
def wWin : Wd := [32, 119, 105, 110, 100, 111, 119, 32]
def wSli : Wd := [32, 115, 108, 105, 100, 101, 32]
def wDel : Wd := [32, 100, 101, 108, 97, 121, 32]
def wLat : Wd := [32, 108, 97, 116, 101, 32]
def wSep : Wd := [44, 32]
def numsT (s : Wd) (q : Qy) : Wd := s ++ wWin ++ Lib.itoa q.size ++ wSli ++ Lib.itoa q.slide ++ wDel ++ Lib.itoa q.delay ++ wLat ++ Lib.itoa q.late
def whT (s : Wd) (q : Qy) : Wd := if q.wh = [] then s else s ++ (wWhr ++ txE q.wh)
def byT (s : Wd) (q : Qy) : Wd := if q.by_ = [] then s else s ++ (wGrp ++ txE q.by_)
/-- The text of a question. -/
def queryT (q : Qy) : Wd := numsT (byT (whT (wSel ++ Lib.join (q.aggs.map aggT) wSep ++ wFrE) q) q) q
theorem join_snoc (xs : List Wd) (x sep : Wd) : Lib.join (xs ++ [x]) sep = if xs = [] then x else Lib.join xs sep ++ sep ++ x := by
  unfold Lib.join
  induction xs with
  | nil => simp [List.intercalate]
  | cons y ys ih =>
    rw [if_neg (by simp)]
    cases ys with
    | nil => simp [List.intercalate]
    | cons z zs =>
      rw [if_neg (by simp)] at ih
      simp only [List.cons_append, List.intercalate, List.intersperse_cons_cons, List.flatten_cons] at ih ⊢
      rw [ih]
      simp [List.append_assoc]
theorem join_len (xs : List Wd) (sep : Wd) (k : Nat) (h : ∀ x ∈ xs, x.length ≤ k) : (Lib.join xs sep).length ≤ xs.length * (k + sep.length) := by
  induction xs with
  | nil => simp [Lib.join, List.intercalate]
  | cons y ys ih =>
    have h1 := h y (List.mem_cons_self ..)
    have h2 := ih fun x hx => h x (List.mem_cons_of_mem _ hx)
    cases ys with
    | nil =>
      simp [Lib.join, List.intercalate]
      omega
    | cons z zs =>
      unfold Lib.join at h2 ⊢
      simp only [List.intercalate, List.intersperse_cons_cons, List.flatten_cons, List.length_append, List.length_cons] at h2 ⊢
      rw [Nat.succ_mul]
      omega
/-- What a question that may be is. -/
structure QOk (q : Qy) : Prop where
  n1 : 1 ≤ q.aggs.length
  n2 : q.aggs.length ≤ 4
  g : ∀ a ∈ q.aggs, 1 ≤ a.1 ∧ a.1 ≤ 5 ∧ (a.1 ≠ 1 → exprF a.2 = 0) ∧ (a.1 = 1 → a.2 = [])
  w : q.wh ≠ [] → exprF q.wh = 0
  b : q.by_ ≠ [] → exprF q.by_ = 0
  s : 1 ≤ q.size ∧ q.size ≤ 1000
  l : 1 ≤ q.slide ∧ q.slide ≤ 1000
  d : 0 ≤ q.delay ∧ q.delay ≤ 1000
  t : 0 ≤ q.late ∧ q.late ≤ 1000
  r : q.slide ≤ q.size ∧ q.size ≤ 4 * q.slide
  ga : ∀ a ∈ q.aggs, a.1 ≠ 1 → typedF a.2 (if a.1 = 2 then 0 else 1) = 0
  wa : q.wh ≠ [] → typedF q.wh 2 = 0
  ba : q.by_ ≠ [] → typedF q.by_ 0 = 0
theorem typedF_expr {l : List Nd} {k : Int} (h : typedF l k = 0) : exprF l = 0 := by
  unfold typedF at h
  split at h
  · rename_i q; exact absurd h q
  · rename_i q; exact Decidable.not_not.1 q
theorem qok_of {q : Qy} (h : qryF q = 0) : QOk q := by
  unfold qryF at h
  split at h
  · cases h
  rename_i h1
  split at h
  · rename_i h2; exact absurd h h2
  rename_i h2
  have h2 := firstF_all (Decidable.not_not.1 h2)
  have h3 := firstF_all h
  have ha : ∀ a ∈ q.aggs, aggF a = 0 := fun a ha => h2 _ (List.mem_map.2 ⟨a, ha, rfl⟩)
  have hw := h3 (if q.wh = [] then 0 else typedF q.wh 2) (by simp)
  have hb := h3 (if q.by_ = [] then 0 else typedF q.by_ 0) (by simp)
  have hn := h3 (numsF q) (by simp)
  have hga : ∀ a ∈ q.aggs, 1 ≤ a.1 ∧ a.1 ≤ 5 ∧ (a.1 ≠ 1 → typedF a.2 (if a.1 = 2 then 0 else 1) = 0) ∧ (a.1 = 1 → a.2 = []) := by
    intro a h4
    have h5 := ha a h4
    unfold aggF at h5
    split at h5
    · cases h5
    · rename_i h6
      refine ⟨by omega, by omega, fun h7 => ?_, fun h7 => ?_⟩
      · rw [if_neg h7] at h5; exact h5
      · exact Decidable.byContradiction fun h8 => h6 (.inr (.inr ⟨h7, h8⟩))
  have hwa : q.wh ≠ [] → typedF q.wh 2 = 0 := fun h4 => by rw [if_neg h4] at hw; exact hw
  have hba : q.by_ ≠ [] → typedF q.by_ 0 = 0 := fun h4 => by rw [if_neg h4] at hb; exact hb
  have hnn : ¬ (q.size < 1 ∨ q.size > 1000 ∨ q.slide < 1 ∨ q.slide > 1000 ∨ q.delay < 0 ∨ q.delay > 1000 ∨ q.late < 0 ∨ q.late > 1000) ∧ ¬ (q.slide > q.size ∨ q.size > 4 * q.slide) := by
    unfold numsF at hn
    split at hn
    · cases hn
    · rename_i h4
      split at hn
      · cases hn
      · rename_i h5; exact ⟨h4, h5⟩
  exact ⟨by omega, by omega, fun a h4 => ⟨(hga a h4).1, (hga a h4).2.1, fun h5 => typedF_expr ((hga a h4).2.2.1 h5), (hga a h4).2.2.2⟩, fun h4 => typedF_expr (hwa h4), fun h4 => typedF_expr (hba h4), by omega, by omega, by omega, by omega, by omega, fun a h4 h5 => (hga a h4).2.2.1 h5, hwa, hba⟩
theorem txE_len {l : List Nd} (h : exprF l = 0) : (txE l).length ≤ 800 := by
  obtain ⟨O, hl⟩ := exprF_ok h
  have := O.pos
  exact tx_len O hl (by omega)
theorem aggT_len {q : Qy} (Q : QOk q) {a : Ag} (ha : a ∈ q.aggs) : (aggT a).length ≤ 810 := by
  obtain ⟨h1, h2, h3, h4⟩ := Q.g a ha
  have hk : (aggsW.getD a.1.toNat []).length ≤ 5 := by
    have : a.1.toNat = 1 ∨ a.1.toNat = 2 ∨ a.1.toNat = 3 ∨ a.1.toNat = 4 ∨ a.1.toNat = 5 := by omega
    rcases this with h | h | h | h | h <;> rw [h] <;> decide
  have hc : (if a.1 = 1 then ([42] : Wd) else txE a.2).length ≤ 800 := by
    split
    · decide
    · rename_i h5; exact txE_len (h3 h5)
  unfold aggT
  simp only [List.length_append, List.length_cons, List.length_nil]
  omega
end Go.Proofs.YtonlacplogbodaaDoor
/-
  Plain law: an expression's text is read as it. Conditions: none.
-/
namespace Go.Proofs.YtonlacplogbodaaDoor
open Go Go.Vc
set_option linter.unusedVariables false

theorem nodeF_plain {n : Nd} (h : nodeF n = 0) (h1 : arI n.op ≠ 0) : n.n = 0 ∧ n.v = (0, 0) := by
  have h12 : n.op ≠ 1 ∧ n.op ≠ 2 := by
    unfold arI at h1
    constructor <;> intro e <;> rw [e] at h1 <;> simp at h1
  unfold nodeF at h
  split at h
  · cases h
  · split at h
    · cases h
    · rename_i h2
      refine ⟨Decidable.byContradiction fun q => h2 (.inr (.inl ⟨h12.2, q⟩)), Decidable.byContradiction fun q => h2 (.inl ⟨h12.1, q⟩)⟩
theorem nodeF_y {n : Nd} (h : nodeF n = 0) (h1 : arI n.op < 2) : n.y = 0 := by
  unfold nodeF at h
  split at h
  · cases h
  · split at h
    · cases h
    · rename_i h2
      exact Decidable.byContradiction fun q => h2 (.inr (.inr (.inl ⟨h1, q⟩)))
/-- What is put together out of what is cut out. -/
theorem cut_two {l : List Nd} (hN : ∀ n ∈ l, nodeF n = 0) {f g i : Nat} {n : Nd} (hf : f < g) (hg : g < i) (hi : i ≤ l.length) (B : Blk l f g) (B' : Blk l g i) (h : l[i]? = some n) (h0 : arI n.op = 2) (hx : n.x = (g : Int) - 1) (hy : n.y = (i : Int) - 1) : cutL l f (i + 1) = joinL n.op (cutL l f g) (cutL l g i) := by
  have l1 := cutL_length B
  have l2 := cutL_length B'
  unfold joinL
  rw [l1, l2]
  unfold cutL
  rw [seg_snoc (by omega) h, seg_app (f := f) (g := g) (e := i) (by omega) (by omega), List.map_append, List.map_append, List.map_map]
  have hz := hN n (List.mem_of_getElem? h)
  have e1 : (shN ((g - f : Nat) : Int)) ∘ (shN (-(g : Int))) = shN (-(f : Int)) := by
    funext m
    unfold shN
    simp only [Function.comp_apply]
    congr 1 <;> split <;> omega
  rw [e1]
  congr 1
  have hn := nodeF_plain hz (by omega : arI n.op ≠ 0)
  simp only [List.map_cons, List.map_nil]
  congr 1
  obtain ⟨op, x, y, k, v⟩ := n
  simp only at hn h0 hx hy
  unfold shN
  simp only [Nd.mk.injEq]
  refine ⟨trivial, ?_, ?_, hn.1, hn.2⟩
  · rw [if_pos (by omega), hx]; omega
  · rw [if_pos (by omega), if_pos (by omega), hy]; omega
theorem cut_one {l : List Nd} (hN : ∀ n ∈ l, nodeF n = 0) {f i : Nat} {n : Nd} (hf : f < i) (hi : i ≤ l.length) (B : Blk l f i) (h : l[i]? = some n) (h0 : arI n.op = 1) (hx : n.x = (i : Int) - 1) : cutL l f (i + 1) = joinL n.op (cutL l f i) [] := by
  have l1 := cutL_length B
  unfold joinL
  rw [l1]
  unfold cutL
  rw [seg_snoc (by omega) h, List.map_append]
  have hz := hN n (List.mem_of_getElem? h)
  rw [List.map_nil, List.append_nil]
  congr 1
  have hn := nodeF_plain hz (by omega : arI n.op ≠ 0)
  have hny := nodeF_y hz (by omega : arI n.op < 2)
  simp only [List.map_cons, List.map_nil]
  congr 1
  obtain ⟨op, x, y, k, v⟩ := n
  simp only at hn h0 hx hny
  unfold shN
  simp only [Nd.mk.injEq]
  refine ⟨trivial, ?_, ?_, hn.1, hn.2⟩
  · rw [if_pos (by omega), hx]; omega
  · rw [if_neg (by omega), if_neg (by omega), hny]
theorem cut_leaf {l : List Nd} {i : Nat} {n : Nd} (h : l[i]? = some n) (h0 : arI n.op = 0) : cutL l i (i + 1) = [n] := by
  unfold cutL
  rw [seg_snoc (Nat.le_refl _) h, seg_nil, List.nil_append, List.map_cons, List.map_nil]
  congr 1
  obtain ⟨op, x, y, k, v⟩ := n
  simp only at h0
  unfold shN
  simp only
  rw [if_neg (show ¬ 0 < arI op by omega), if_neg (show ¬ 1 < arI op by omega)]
/-- The words of a node, of those of its own. -/
def tkF (n : Nd) (a b : List Wd) : List Wd :=
  if n.op = 1 then [textV n.v]
  else if n.op = 2 then [fieldW.getD n.n.toNat []]
  else if n.op = 3 then wOpen :: wMinus :: (a ++ [wClose])
  else if n.op = 4 then wOpen :: wNot :: (a ++ [wClose])
  else if n.op = 5 then wOpen :: (a ++ [wIs, wNull, wClose])
  else wOpen :: (a ++ signW n.op :: (b ++ [wClose]))
abbrev tkAt (l : List Nd) (i : Nat) : List Wd := fAt [] tkF l i
def tkE (l : List Nd) : List Wd := tkAt l (l.length - 1)
theorem own_tkF : Own2 tkF := by
  intro n a b a' b' h ha hb
  unfold tkF
  by_cases h1 : n.op = 1
  · rw [if_pos h1, if_pos h1]
  rw [if_neg h1, if_neg h1]
  by_cases h2 : n.op = 2
  · rw [if_pos h2, if_pos h2]
  rw [if_neg h2, if_neg h2]
  have ar := ar0 h
  rw [ha (by have := arI_range h; omega)]
  by_cases h3 : n.op = 3
  · rw [if_pos h3, if_pos h3]
  rw [if_neg h3, if_neg h3]
  by_cases h4 : n.op = 4
  · rw [if_pos h4, if_pos h4]
  rw [if_neg h4, if_neg h4]
  by_cases h5 : n.op = 5
  · rw [if_pos h5, if_pos h5]
  rw [if_neg h5, if_neg h5]
  rw [hb (by have := arI_range h; omega)]
theorem kind_dig {c : UInt8} (h : 48 ≤ c.toNat ∧ c.toNat ≤ 57) : kindB c = 48 := by
  unfold kindB isL isD
  rw [if_neg (by simp; omega), if_pos (by simp; omega)]
theorem itoa_dig {k : Int} (hk : 0 ≤ k) : Lib.itoa k = Lib.decDigits k.toNat ∧ (∀ c ∈ Lib.itoa k, 48 ≤ c.toNat ∧ c.toNat ≤ 57) ∧ Lib.itoa k ≠ [] := by
  have e : Lib.itoa k = Lib.decDigits k.toNat := by unfold Lib.itoa; rw [if_neg (by omega)]
  have d := Txt.dec_spec k.toNat
  rw [e]
  exact ⟨rfl, fun c hc => d.1 c hc, d.2.2.1⟩
theorem lx_itoa {k : Int} (hk : 0 ≤ k) {b : List UInt8} {ws : List Wd} (hb : Start b) (H : Lx b ws) : Lx (Lib.itoa k ++ b) (Lib.itoa k :: ws) := by
  obtain ⟨_, h2, h3⟩ := itoa_dig hk
  exact lx_kind (.inr rfl) h3 (fun x hx => kind_dig (h2 x hx)) hb H
theorem lx_word {w : Wd} (hw : w ≠ []) (ha : ∀ x ∈ w, kindB x = 97) {b : List UInt8} {ws : List Wd} (hb : Start b) (H : Lx b ws) : Lx (w ++ b) (w :: ws) := lx_kind (.inl rfl) hw ha hb H
theorem lx_textV {v : Int × Int} (hv : goodV v) (hp : 0 ≤ v.2) {b : List UInt8} {ws : List Wd} (hb : Start b) (H : Lx b ws) : Lx (textV v ++ b) (textV v :: ws) := by
  unfold textV
  split
  · exact lx_word (by decide) (by decide) hb H
  · split
    · exact lx_itoa hp hb H
    · split
      · exact lx_word (by decide) (by decide) hb H
      · exact lx_word (by decide) (by decide) hb H
theorem lx_field {i : Nat} (hi : i < 4) {b : List UInt8} {ws : List Wd} (hb : Start b) (H : Lx b ws) : Lx (fieldW.getD i [] ++ b) (fieldW.getD i [] :: ws) := by
  match i, hi with
  | 0, _ => exact lx_word (by decide) (by decide) hb H
  | 1, _ => exact lx_word (by decide) (by decide) hb H
  | 2, _ => exact lx_word (by decide) (by decide) hb H
  | 3, _ => exact lx_word (by decide) (by decide) hb H
theorem lx_op {op : Int} (h1 : 6 ≤ op) (h2 : op ≤ 12) {b : List UInt8} {ws : List Wd} (hb : Start b) (H : Lx b ws) : Lx (signW op ++ b) (signW op :: ws) := by
  have hop : op = 6 ∨ op = 7 ∨ op = 8 ∨ op = 9 ∨ op = 10 ∨ op = 11 ∨ op = 12 := by omega
  rcases hop with rfl | rfl | rfl | rfl | rfl | rfl | rfl
  · exact lx_sign (c := 43) (by decide) H
  · exact lx_sign (c := 45) (by decide) H
  · exact lx_sign (c := 42) (by decide) H
  · exact lx_word (w := wAnd) (by decide) (by decide) hb H
  · exact lx_word (w := wOr) (by decide) (by decide) hb H
  · exact lx_lt hb H
  · exact lx_sign (c := 61) (by decide) H
theorem ar_ops {op : Int} (h : 0 ≤ arI op) : (arI op = 1 → op = 3 ∨ op = 4 ∨ op = 5) ∧ (arI op = 2 → 6 ≤ op ∧ op ≤ 12) ∧ (arI op = 0 → op = 1 ∨ op = 2) := by
  have := ar0 h
  exact ⟨this.2.1.1, this.2.2.1, this.1.1⟩
/-- The words of an expression's text. -/
theorem tx_lx {l : List Nd} (W : WfL l) (hN : ∀ n ∈ l, nodeF n = 0) (hp : ∀ n ∈ l, 0 ≤ n.v.2) {f e : Nat} (B : Blk l f e) : ∀ (b : List UInt8) (ws : List Wd), Start b → Lx b ws → Lx (txAt l (e - 1) ++ b) (tkAt l (e - 1) ++ ws) := by
  induction B with
  | @leaf j n h h0 =>
    intro b ws hb H
    have hm := List.mem_of_getElem? h
    have hw := W j n h
    rw [Nat.add_sub_cancel, txAt, tkAt, fAt_wf own_txF h hw, fAt_wf own_tkF h hw]
    rcases (ar_ops hw.a).2.2 h0 with h1 | h1
    · unfold txF tkF
      rw [if_pos h1, if_pos h1, if_neg (by have := hp n hm; omega)]
      exact lx_textV (nodeF_v (hN n hm)) (hp n hm) hb H
    · unfold txF tkF
      rw [if_neg (by omega), if_pos h1, if_neg (by omega), if_pos h1]
      have := hw.f h1
      exact lx_field (by omega) hb H
  | @one f j n B h h0 hx ih =>
    intro b ws hb H
    have hw := W j n h
    have hlt := B.lt
    rw [Nat.add_sub_cancel, txAt, tkAt, fAt_wf own_txF h hw, fAt_wf own_tkF h hw]
    rw [show n.x.toNat = j - 1 by omega]
    have ih : ∀ (b : List UInt8) (ws : List Wd), Start b → Lx b ws → Lx (fAt [] txF l (j - 1) ++ b) (fAt [] tkF l (j - 1) ++ ws) := ih
    generalize fAt [] txF l (j - 1) = t at *
    generalize fAt [] tkF l (j - 1) = k at *
    unfold txF tkF
    rcases (ar_ops hw.a).1 h0 with h1 | h1 | h1
    · rw [if_neg (by omega), if_neg (by omega), if_pos h1, if_neg (by omega), if_neg (by omega), if_pos h1]
      have q := lx_sign (c := 40) (by decide) (lx_sign (c := 45) (by decide) (.blank (ih _ _ (start_cons (by decide)) (lx_sign (c := 41) (by decide) H))))
      simpa [List.append_assoc, wOpen, wMinus, wClose] using q
    · rw [if_neg (by omega), if_neg (by omega), if_neg (by omega), if_pos h1, if_neg (by omega), if_neg (by omega), if_neg (by omega), if_pos h1]
      have q := lx_sign (c := 40) (by decide) (lx_word (w := wNot) (by decide) (by decide) (start_cons (by decide)) (.blank (ih _ _ (start_cons (by decide)) (lx_sign (c := 41) (by decide) H))))
      simpa [List.append_assoc, wOpen, wNot, wClose] using q
    · rw [if_neg (by omega), if_neg (by omega), if_neg (by omega), if_neg (by omega), if_pos h1, if_neg (by omega), if_neg (by omega), if_neg (by omega), if_neg (by omega), if_pos h1]
      have q := lx_sign (c := 40) (by decide) (ih _ _ (start_cons (by decide)) (.blank (lx_word (w := wIs) (by decide) (by decide) (start_cons (by decide)) (.blank (lx_word (w := wNull) (by decide) (by decide) (start_cons (by decide)) (lx_sign (c := 41) (by decide) H))))))
      simpa [List.append_assoc, wOpen, wIs, wNull, wClose] using q
  | @two f g j n B B' h h0 hx hy ih1 ih2 =>
    intro b ws hb H
    have hw := W j n h
    have hlt := B.lt
    have hlt' := B'.lt
    rw [Nat.add_sub_cancel, txAt, tkAt, fAt_wf own_txF h hw, fAt_wf own_tkF h hw]
    rw [show n.x.toNat = g - 1 by omega, show n.y.toNat = j - 1 by omega]
    have ih1 : ∀ (b : List UInt8) (ws : List Wd), Start b → Lx b ws → Lx (fAt [] txF l (g - 1) ++ b) (fAt [] tkF l (g - 1) ++ ws) := ih1
    have ih2 : ∀ (b : List UInt8) (ws : List Wd), Start b → Lx b ws → Lx (fAt [] txF l (j - 1) ++ b) (fAt [] tkF l (j - 1) ++ ws) := ih2
    generalize fAt [] txF l (j - 1) = t2 at *
    generalize fAt [] tkF l (j - 1) = k2 at *
    generalize fAt [] txF l (g - 1) = t1 at *
    generalize fAt [] tkF l (g - 1) = k1 at *
    have hop := (ar_ops hw.a).2.1 h0
    unfold txF tkF
    rw [if_neg (by omega), if_neg (by omega), if_neg (by omega), if_neg (by omega), if_neg (by omega), if_neg (by omega), if_neg (by omega), if_neg (by omega), if_neg (by omega), if_neg (by omega)]
    have q := lx_sign (c := 40) (by decide) (ih1 _ _ (start_cons (by decide)) (.blank (lx_op hop.1 hop.2 (start_cons (by decide)) (.blank (ih2 _ _ (start_cons (by decide)) (lx_sign (c := 41) (by decide) H))))))
    simpa [List.append_assoc, wOpen, wClose] using q
/-- A reader reads these words as these nodes, or it is too much; behind them nothing that it would go on with. -/
def RdS (P : Ps) (T : List Wd) (x : List Nd) (stop : Wd → Prop) : Prop := ∀ (rest : List Wd) (d : Int), (∀ w r, rest = w :: r → ¬ stop w) → (P ⟨T ++ rest, d, 0⟩).2.f = 2 ∨ P ⟨T ++ rest, d, 0⟩ = (x, ⟨rest, d, 0⟩)
theorem RdS.weak {P : Ps} {T : List Wd} {x : List Nd} {s s' : Wd → Prop} (H : RdS P T x s) (h : ∀ w, s w → s' w) : RdS P T x s' := fun rest d hs => H rest d fun w r e h2 => hs w r e (h w h2)
theorem is_no {l : List Wd} {rest : List Wd} {d : Int} (h : ∀ w r, rest = w :: r → w ∉ l) : (⟨rest, d, 0⟩ : RS).is l = ([], ⟨rest, d, 0⟩) := by
  unfold RS.is
  cases rest with
  | nil => rfl
  | cons w r => exact if_neg (h w r rfl)
theorem is_yes {l : List Wd} {w : Wd} {r : List Wd} {d : Int} (h : w ∈ l) : (⟨w :: r, d, 0⟩ : RS).is l = (w, ⟨r, d, 0⟩) := by
  unfold RS.is
  exact if_pos h
theorem joinP_f {op : Int} {x y : List Nd} {s : RS} (h : s.f ≠ 0) : (joinP op x y s).2.f = s.f := by
  unfold joinP
  split
  · exact RS.fail_f _ _ h
  · rfl
theorem joinP_ok {op : Int} {x y : List Nd} {s : RS} (h : x.length + y.length < 40) : joinP op x y s = (joinL op x y, s) := by
  unfold joinP
  rw [if_neg (by omega)]
theorem rowL_f {P : Ps} {ops : List (Wd × Int)} {k : Nat} {x : List Nd} {s : RS} (h : s.f ≠ 0) : (rowL P ops k x s).2.f = s.f := by
  cases k with
  | zero => rfl
  | succ k => rw [rowL, if_pos h]
theorem rowP_f {P : Ps} {ops : List (Wd × Int)} {s : RS} (h : (P s).2.f = 2) : (rowP P ops s).2.f = 2 := by
  unfold rowP
  rw [rowL_f (by rw [h]; decide), h]
theorem RdS.row {P : Ps} {ops : List (Wd × Int)} {T : List Wd} {x : List Nd} {s : Wd → Prop} (H : RdS P T x s) : RdS (rowP P ops) T x (fun w => s w ∨ w ∈ ops.map (·.1)) := by
  intro rest d hs
  rcases H rest d (fun w r e h => hs w r e (.inl h)) with h | h
  · exact .inl (rowP_f h)
  · right
    unfold rowP
    rw [h]
    simp only
    rw [rowL, if_neg (by simp), is_no (fun w r e h => hs w r e (.inr h))]
    rfl
theorem RdS.row2 {P : Ps} {ops : List (Wd × Int)} {T T2 : List Wd} {x y : List Nd} {s s2 : Wd → Prop} {w : Wd} (H : RdS P T x s) (H2 : RdS P T2 y s2) (hw : w ∈ ops.map (·.1)) (hne : w ≠ []) (hns : ¬ s w) (hlen : x.length + y.length < 40) : RdS (rowP P ops) (T ++ w :: T2) (joinL (opOf ops w) x y) (fun v => s2 v ∨ v ∈ ops.map (·.1)) := by
  intro rest d hs
  rw [List.append_assoc, List.cons_append]
  rcases H (w :: (T2 ++ rest)) d (fun w' r e => by cases e; exact hns) with h | h
  · exact .inl (rowP_f h)
  · unfold rowP
    rw [h]
    simp only
    rw [rowL, if_neg (by simp), is_yes hw]
    simp only
    rw [if_neg hne]
    rcases H2 rest d (fun v r e h => hs v r e (.inl h)) with h2 | h2
    · left
      rw [rowL_f (by rw [joinP_f (by rw [h2]; decide), h2]; decide), joinP_f (by rw [h2]; decide), h2]
    · right
      rw [h2, joinP_ok hlen]
      simp only [List.length_cons]
      rw [rowL, if_neg (by simp), is_no (fun v r e h => hs v r e (.inr h))]
      rfl
def cmpW2 : List Wd := [wLt, wGt, wLe, wGe, wEq, wNe, wIs]
theorem cmp_stuck {P : Ps} {s : RS} (h : (P s).2.f = 2) (hg : (P s).2.good) : (cmpP P s).2.f = 2 := by
  have hw := hg (by rw [h]; decide)
  have hi : (P s).2.is [wLt, wGt, wLe, wGe, wEq, wNe, wIs] = ([], (P s).2) := by
    unfold RS.is
    rw [hw]
  unfold cmpP
  simp only
  rw [hi]
  simp only
  rw [if_neg (by decide), if_neg (by decide), if_neg (by decide), if_neg (by decide), if_neg (by decide), if_neg (by decide), if_neg (by decide)]
  exact h
theorem RdS.cmp {P : Ps} {n : Nat} (kp : ∀ s : RS, s.good → (P s).2.good) {T : List Wd} {x : List Nd} {s : Wd → Prop} (H : RdS P T x s) : RdS (cmpP P) T x (fun w => s w ∨ w ∈ cmpW2) := by
  intro rest d hs
  rcases H rest d (fun w r e h => hs w r e (.inl h)) with h | h
  · exact .inl (cmp_stuck h (kp _ (fun q => absurd rfl q)))
  · right
    unfold cmpP
    rw [h]
    simp only
    rw [is_no (l := [wLt, wGt, wLe, wGe, wEq, wNe, wIs]) (fun w r e h => hs w r e (.inr h))]
    simp only
    rw [if_neg (by decide), if_neg (by decide), if_neg (by decide), if_neg (by decide), if_neg (by decide), if_neg (by decide), if_neg (by decide)]
theorem RdS.cmp2 {P : Ps} (kp : ∀ s : RS, s.good → (P s).2.good) {T T2 : List Wd} {x y : List Nd} {s s2 : Wd → Prop} {w : Wd} {op : Int} (hw : (w = wLt ∧ op = 11) ∨ (w = wEq ∧ op = 12)) (H : RdS P T x s) (H2 : RdS P T2 y s2) (hns : ¬ s w) (hlen : x.length + y.length < 40) : RdS (cmpP P) (T ++ w :: T2) (joinL op x y) s2 := by
  intro rest d hs
  rw [List.append_assoc, List.cons_append]
  rcases H (w :: (T2 ++ rest)) d (fun w' r e => by cases e; exact hns) with h | h
  · exact .inl (cmp_stuck h (kp _ (fun q => absurd rfl q)))
  · unfold cmpP
    rw [h]
    simp only
    rw [is_yes (by rcases hw with ⟨rfl, _⟩ | ⟨rfl, _⟩ <;> decide)]
    simp only
    rcases hw with ⟨rfl, rfl⟩ | ⟨rfl, rfl⟩
    · rw [if_pos rfl]
      rcases H2 rest d hs with h2 | h2
      · left; rw [joinP_f (by rw [h2]; decide), h2]
      · right; rw [h2, joinP_ok hlen]
    · rw [if_neg (by decide), if_neg (by decide), if_neg (by decide), if_neg (by decide), if_pos rfl]
      rcases H2 rest d hs with h2 | h2
      · left; rw [joinP_f (by rw [h2]; decide), h2]
      · right; rw [h2, joinP_ok hlen]
theorem RdS.isn {P : Ps} (kp : ∀ s : RS, s.good → (P s).2.good) {T : List Wd} {x : List Nd} {s : Wd → Prop} (H : RdS P T x s) (hns : ¬ s wIs) (hlen : x.length < 40) : RdS (cmpP P) (T ++ [wIs, wNull]) (joinL 5 x []) (fun _ => False) := by
  intro rest d hs
  rw [List.append_assoc]
  rcases H (wIs :: wNull :: rest) d (fun w' r e => by cases e; exact hns) with h | h
  · exact .inl (cmp_stuck h (kp _ (fun q => absurd rfl q)))
  · right
    unfold cmpP
    have e : T ++ ([wIs, wNull] ++ rest) = T ++ (wIs :: wNull :: rest) := rfl
    rw [e, h]
    simp only
    rw [is_yes (by decide)]
    simp only
    rw [if_neg (by decide), if_neg (by decide), if_neg (by decide), if_neg (by decide), if_neg (by decide), if_neg (by decide), if_pos trivial]
    rw [is_no (l := [wNot]) (fun w r e => by cases e; decide)]
    simp only
    rw [if_neg (fun h => h rfl)]
    have hm : (⟨wNull :: rest, d, 0⟩ : RS).must wNull = ⟨rest, d, 0⟩ := by
      unfold RS.must
      rw [is_yes (by decide)]
      rfl
    rw [hm, joinP_ok (by simpa using hlen)]
theorem RdS.down {P : Ps} (kp : ∀ s : RS, s.good → s.f ≠ 0 → (P s).2.f = s.f) {T : List Wd} {x : List Nd} {s : Wd → Prop} (H : RdS P T x s) : RdS (downP P) T x s := by
  intro rest d hs
  unfold downP
  simp only
  by_cases hd : d + 1 > 12
  · rw [if_pos hd]
    left
    show (P _).2.f = 2
    rw [kp _ (RS.fail_good _ _) (by unfold RS.fail; simp)]
    unfold RS.fail
    simp
  · rw [if_neg hd]
    rcases H rest (d + 1) hs with h | h
    · exact .inl h
    · right
      rw [h]
      simp only
      rw [Int.add_sub_cancel]
theorem RdS.notp {N C : Ps} {w0 : Wd} {T : List Wd} {x : List Nd} {s : Wd → Prop} (H : RdS C (w0 :: T) x s) (h0 : w0 ≠ wNot) : RdS (notP N C) (w0 :: T) x s := by
  intro rest d hs
  have e : (⟨(w0 :: T) ++ rest, d, 0⟩ : RS).is [wNot] = ([], ⟨(w0 :: T) ++ rest, d, 0⟩) := is_no (fun w r e => by cases e; simpa using h0)
  unfold notP
  rw [e]
  exact H rest d hs
theorem RdS.unp {N C : Ps} {w0 : Wd} {T : List Wd} {x : List Nd} {s : Wd → Prop} (H : RdS C (w0 :: T) x s) (h0 : w0 ≠ wMinus) : RdS (unaryP N C) (w0 :: T) x s := by
  intro rest d hs
  have e : (⟨(w0 :: T) ++ rest, d, 0⟩ : RS).is [wMinus] = ([], ⟨(w0 :: T) ++ rest, d, 0⟩) := is_no (fun w r e => by cases e; simpa using h0)
  unfold unaryP
  rw [e]
  exact H rest d hs
theorem RdS.notn {N C : Ps} {T : List Wd} {x : List Nd} {s : Wd → Prop} (H : RdS (downP N) T x s) (hlen : x.length < 40) : RdS (notP N C) (wNot :: T) (joinL 4 x []) s := by
  intro rest d hs
  have e : (⟨(wNot :: T) ++ rest, d, 0⟩ : RS).is [wNot] = (wNot, ⟨T ++ rest, d, 0⟩) := is_yes (by decide)
  unfold notP
  rw [e]
  simp only
  rw [if_neg (by decide)]
  rcases H rest d hs with h | h
  · left; rw [joinP_f (by rw [h]; decide), h]
  · right; rw [h, joinP_ok (by simpa using hlen)]
theorem RdS.unn {N C : Ps} {T : List Wd} {x : List Nd} {s : Wd → Prop} (H : RdS (downP N) T x s) (hlen : x.length < 40) : RdS (unaryP N C) (wMinus :: T) (joinL 3 x []) s := by
  intro rest d hs
  have e : (⟨(wMinus :: T) ++ rest, d, 0⟩ : RS).is [wMinus] = (wMinus, ⟨T ++ rest, d, 0⟩) := is_yes (by decide)
  unfold unaryP
  rw [e]
  simp only
  rw [if_neg (by decide)]
  rcases H rest d hs with h | h
  · left; rw [joinP_f (by rw [h]; decide), h]
  · right; rw [h, joinP_ok (by simpa using hlen)]
theorem must_f {s : RS} {w : Wd} (hg : s.good) (h : s.f ≠ 0) : (s.must w).f = s.f := (goes_must hg w).fst h
theorem RdS.paren {O : Ps} (kg : ∀ s : RS, s.good → (downP O s).2.good) {T : List Wd} {x : List Nd} {s : Wd → Prop} (H : RdS (downP O) T x s) (hns : ¬ s wClose) : RdS (atomP O) (wOpen :: (T ++ [wClose])) x (fun _ => False) := by
  intro rest d hs
  have e : (⟨(wOpen :: (T ++ [wClose])) ++ rest, d, 0⟩ : RS).is ([wOpen] ++ constW ++ fieldW) = (wOpen, ⟨T ++ (wClose :: rest), d, 0⟩) := by
    rw [List.cons_append, List.append_assoc]
    exact is_yes (by decide)
  unfold atomP
  rw [e]
  simp only
  rw [if_pos trivial]
  rcases H (wClose :: rest) d (fun w' r e => by cases e; exact hns) with h | h
  · left
    show ((downP O ⟨T ++ wClose :: rest, d, 0⟩).2.must wClose).f = 2
    rw [must_f (kg _ (fun q => absurd rfl q)) (by rw [h]; decide), h]
  · right
    rw [h]
    have hm : (⟨wClose :: rest, d, 0⟩ : RS).must wClose = ⟨rest, d, 0⟩ := by
      unfold RS.must
      rw [is_yes (by decide)]
      rfl
    simp only
    rw [hm]
theorem RdS.constA {O : Ps} {v : Int × Int} (hv : goodV v) (hp : 0 ≤ v.2) : RdS (atomP O) [textV v] [⟨1, 0, 0, 0, v⟩] (fun _ => False) := by
  intro rest d hs
  right
  have hcase : textV v ∈ constW ∧ constV (textV v) = v ∨ v.1 = 1 ∧ textV v = Lib.itoa v.2 := by
    obtain ⟨k, m⟩ := v
    unfold goodV at hv
    simp only at hv hp
    rcases hv with ⟨h1, h2⟩ | ⟨h1, _, _⟩ | ⟨h1, h2 | h2⟩
    · subst h1 h2; exact .inl (by decide)
    · exact .inr ⟨h1, by unfold textV; simp only; rw [if_neg (by omega), if_pos h1]⟩
    · subst h1 h2; exact .inl (by decide)
    · subst h1 h2; exact .inl (by decide)
  rcases hcase with ⟨hc, hcv⟩ | ⟨h1, ht⟩
  · have e : (⟨[textV v] ++ rest, d, 0⟩ : RS).is ([wOpen] ++ constW ++ fieldW) = (textV v, ⟨rest, d, 0⟩) := is_yes (List.mem_append_left _ (List.mem_append_right _ hc))
    have hno : textV v ≠ wOpen := by
      intro h2; rw [h2] at hc; exact absurd hc (by decide)
    unfold atomP
    rw [e]
    simp only
    rw [if_neg hno, if_pos hc, hcv]
  · obtain ⟨i1, i2, i3⟩ := itoa_dig hp
    have hnm : textV v ∉ ([wOpen] ++ constW ++ fieldW) := by
      intro hm
      have hq : ∀ w ∈ ([wOpen] ++ constW ++ fieldW), ∃ c ∈ w, ¬ (48 ≤ c.toNat ∧ c.toNat ≤ 57) := by decide
      obtain ⟨c, hc, hn⟩ := hq _ hm
      rw [ht] at hc
      exact hn (i2 c hc)
    have e : (⟨[textV v] ++ rest, d, 0⟩ : RS).is ([wOpen] ++ constW ++ fieldW) = ([], ⟨[textV v] ++ rest, d, 0⟩) := is_no (fun w r e => by cases e; exact hnm)
    have hn : (⟨[textV v] ++ rest, d, 0⟩ : RS).number 1000000000 = (v.2, ⟨rest, d, 0⟩) := by
      have hnat : Txt.natF (textV v) 1000000000 false = v.2 := by
        rw [ht]
        rw [Txt.natF_eq i3 (by decide)]
        have d4 := Txt.dec_spec v.2.toNat
        rw [i1, d4.2.1, if_pos ⟨d4.1, by unfold goodV at hv; omega⟩]
        omega
      show (if Txt.natF (textV v) 1000000000 false < 0 then _ else _) = _
      rw [hnat, if_neg (by omega)]
      rfl
    unfold atomP
    rw [e]
    simp only
    rw [if_neg (by decide), if_neg (by decide), if_pos trivial, hn, ← h1]
theorem RdS.fieldA {O : Ps} {i : Nat} (hi : i < 4) : RdS (atomP O) [fieldW.getD i []] [⟨2, 0, 0, i, (0, 0)⟩] (fun _ => False) := by
  intro rest d hs
  right
  have hf : fieldW.getD i [] ∈ fieldW ∧ fieldW.idxOf (fieldW.getD i []) = i ∧ fieldW.getD i [] ≠ wOpen ∧ fieldW.getD i [] ∉ constW ∧ fieldW.getD i [] ≠ [] := by
    match i, hi with
    | 0, _ => decide
    | 1, _ => decide
    | 2, _ => decide
    | 3, _ => decide
  have e : (⟨[fieldW.getD i []] ++ rest, d, 0⟩ : RS).is ([wOpen] ++ constW ++ fieldW) = (fieldW.getD i [], ⟨rest, d, 0⟩) := is_yes (List.mem_append_right _ hf.1)
  unfold atomP
  rw [e]
  simp only
  rw [if_neg hf.2.2.1, if_neg hf.2.2.2.1, if_neg hf.2.2.2.2, hf.2.1]
end Go.Proofs.YtonlacplogbodaaDoor
/-
  Plain law: an expression's text is read as it, whole. Conditions: none.
-/
namespace Go.Proofs.YtonlacplogbodaaDoor
open Go Go.Vc
set_option linter.unusedVariables false

theorem KP.less {P : Ps} {n m : Nat} (h : KP P n) (hm : m ≤ n) : KP P m := fun s hs hl => h s hs (Nat.le_trans hl hm)
def KA (P : Ps) : Prop := ∀ m, KP P m
theorem keepsA (n : Nat) : KA (allP n).o ∧ KA (allP n).n ∧ KA (allP n).u := by
  induction n with
  | zero => exact ⟨keeps_noP, keeps_noP, keeps_noP⟩
  | succ n ih =>
    rw [allP_succ]
    have key := fun m => keeps_S (t := allP n) (n := m) ⟨ih.1 m, ih.2.1 m, ih.2.2 m⟩
    exact ⟨fun m => (key m).1.less (Nat.le_succ m), fun m => (key m).2.1.less (Nat.le_succ m), fun m => (key m).2.2.1.less (Nat.le_succ m)⟩
theorem keepsL (n : Nat) : KA (sumS (allP n)) ∧ KA (orS (allP n)) ∧ KA (notS (allP n)) ∧ KA (unS (allP n)) := by
  have ih := keepsA n
  have key := fun m => keeps_S (t := allP n) (n := m) ⟨ih.1 m, ih.2.1 m, ih.2.2 m⟩
  exact ⟨fun m => (key m).2.2.2.2.1.less (Nat.le_succ m), fun m => (key m).1.less (Nat.le_succ m), fun m => (key m).2.1.less (Nat.le_succ m), fun m => (key m).2.2.1.less (Nat.le_succ m)⟩
theorem KA.good {P : Ps} (h : KA P) : ∀ s : RS, s.good → (P s).2.good := fun s hs => (h s.ws.length s hs (Nat.le_refl _)).ok
theorem KA.f {P : Ps} (h : KA P) : ∀ s : RS, s.good → s.f ≠ 0 → (P s).2.f = s.f := fun s hs hf => (h s.ws.length s hs (Nat.le_refl _)).fst hf
theorem KA.down {P : Ps} (h : KA P) : ∀ s : RS, s.good → (downP P s).2.good := fun s hs => (keeps_down (h s.ws.length) (Goes.refl hs) (Nat.le_refl _)).ok
def L1 : List Wd := [wStar]
def L2 : List Wd := L1 ++ [wPlus, wMinus]
def L3 : List Wd := L2 ++ cmpW2
def L4 : List Wd := L3 ++ [wAnd]
def L5 : List Wd := L4 ++ [wOr]
def Non : Wd → Prop := fun _ => False
section
variable {t : Three} {T T2 : List Wd} {x y : List Nd}
theorem up_prod (H : RdS (unS t) T x Non) : RdS (prodS t) T x (· ∈ L1) := (RdS.row (ops := [(wStar, 8)]) H).weak fun w h => by
  rcases h with h | h
  · exact h.elim
  · exact h
theorem up_sum (H : RdS (prodS t) T x (· ∈ L1)) : RdS (sumS t) T x (· ∈ L2) := (RdS.row (ops := [(wPlus, 6), (wMinus, 7)]) H).weak fun w h => by
  rcases h with h | h
  · exact List.mem_append_left _ h
  · exact List.mem_append_right _ h
theorem up_cmp (kg : ∀ s : RS, s.good → (sumS t s).2.good) (H : RdS (sumS t) T x (· ∈ L2)) : RdS (cmpS t) T x (· ∈ L3) := (RdS.cmp (n := 0) kg H).weak fun w h => by
  rcases h with h | h
  · exact List.mem_append_left _ h
  · exact List.mem_append_right _ h
theorem up_and (H : RdS (notS t) T x (· ∈ L3)) : RdS (andS t) T x (· ∈ L4) := (RdS.row (ops := [(wAnd, 9)]) H).weak fun w h => by
  rcases h with h | h
  · exact List.mem_append_left _ h
  · exact List.mem_append_right _ h
theorem up_or (H : RdS (andS t) T x (· ∈ L4)) : RdS (orS t) T x (· ∈ L5) := (RdS.row (ops := [(wOr, 10)]) H).weak fun w h => by
  rcases h with h | h
  · exact List.mem_append_left _ h
  · exact List.mem_append_right _ h
/-- From an atom up. -/
structure Lev (t : Three) (T : List Wd) (x : List Nd) : Prop where
  u : RdS (unS t) T x Non
  p : RdS (prodS t) T x (· ∈ L1)
  s : RdS (sumS t) T x (· ∈ L2)
  c : RdS (cmpS t) T x (· ∈ L3)
  n : RdS (notS t) T x (· ∈ L3)
  a : RdS (andS t) T x (· ∈ L4)
  o : RdS (orS t) T x (· ∈ L5)
theorem lev_of (kg : ∀ s : RS, s.good → (sumS t s).2.good) {w0 : Wd} {r : List Wd} (h2 : w0 ≠ wNot) (H : RdS (unS t) (w0 :: r) x Non) : Lev t (w0 :: r) x :=
  have p := up_prod H
  have s := up_sum p
  have c := up_cmp kg s
  have n : RdS (notS t) (w0 :: r) x (· ∈ L3) := RdS.notp c h2
  have a := up_and n
  ⟨H, p, s, c, n, a, up_or a⟩
end
section
variable {t : Three} {T : List Wd} {x : List Nd} {s : Wd → Prop}
theorem dn_u {M : Nat} (H : RdS (unS (allP M)) T x s) : RdS (downP (allP (M + 1)).u) T x s := by
  have h := (keepsL M).2.2.2.f
  rw [allP_succ]
  exact RdS.down (P := unS (allP M)) h H
theorem dn_n {M : Nat} (H : RdS (notS (allP M)) T x s) : RdS (downP (allP (M + 1)).n) T x s := by
  have h := (keepsL M).2.2.1.f
  rw [allP_succ]
  exact RdS.down (P := notS (allP M)) h H
theorem dn_o {M : Nat} (H : RdS (orS (allP M)) T x s) : RdS (downP (allP (M + 1)).o) T x s := by
  have h := (keepsL M).2.1.f
  rw [allP_succ]
  exact RdS.down (P := orS (allP M)) h H
theorem un_neg (H : RdS (downP t.u) T x s) (hl : x.length < 40) : RdS (unS t) (wMinus :: T) (joinL 3 x []) s := RdS.unn H hl
theorem not_not (H : RdS (downP t.n) T x s) (hl : x.length < 40) : RdS (notS t) (wNot :: T) (joinL 4 x []) s := RdS.notn H hl
theorem un_at (H : RdS (atomP t.o) T x s) {w0 : Wd} {r : List Wd} (e : T = w0 :: r) (h0 : w0 ≠ wMinus) : RdS (unS t) T x s := by
  subst e
  exact RdS.unp H h0
theorem pa_o {M : Nat} (H : RdS (orS (allP M)) T x (· ∈ L5)) : RdS (atomP (allP (M + 1)).o) (wOpen :: (T ++ [wClose])) x Non := RdS.paren (O := (allP (M + 1)).o) (keepsA (M + 1)).1.down (dn_o H) (by decide)
end
theorem textV_first {v : Int × Int} (hv : goodV v) (hp : 0 ≤ v.2) : textV v ≠ wMinus ∧ textV v ≠ wNot ∧ textV v ≠ wStar := by
  unfold textV
  split
  · decide
  · split
    · obtain ⟨_, h2, h3⟩ := itoa_dig hp
      have key : ∀ w : Wd, (∃ c ∈ w, ¬ (48 ≤ c.toNat ∧ c.toNat ≤ 57)) → Lib.itoa v.2 ≠ w := by
        rintro w ⟨c, hc, hn⟩ e
        rw [← e] at hc
        exact hn (h2 c hc)
      exact ⟨key _ (by decide), key _ (by decide), key _ (by decide)⟩
    · split <;> decide
theorem first_tok {l : List Nd} (W : WfL l) (hN : ∀ n ∈ l, nodeF n = 0) (hp : ∀ n ∈ l, 0 ≤ n.v.2) {f e : Nat} (B : Blk l f e) : ∃ w r, tkAt l (e - 1) = w :: r ∧ w ≠ wMinus ∧ w ≠ wNot ∧ w ≠ wStar := by
  cases B with
  | @leaf j n h h0 =>
    have hm := List.mem_of_getElem? h
    have hw := W f n h
    rw [Nat.add_sub_cancel, tkAt, fAt_wf own_tkF h hw]
    unfold tkF
    rcases (ar_ops hw.a).2.2 h0 with h1 | h1
    · rw [if_pos h1]
      exact ⟨_, _, rfl, textV_first (nodeF_v (hN n hm)) (hp n hm)⟩
    · rw [if_neg (by omega), if_pos h1]
      refine ⟨_, _, rfl, ?_⟩
      have := hw.f h1
      have hi : n.n.toNat = 0 ∨ n.n.toNat = 1 ∨ n.n.toNat = 2 ∨ n.n.toNat = 3 := by omega
      rcases hi with h | h | h | h <;> rw [h] <;> decide
  | @one _ j n B h h0 hx =>
    have hw := W j n h
    rw [Nat.add_sub_cancel, tkAt, fAt_wf own_tkF h hw]
    unfold tkF
    rcases (ar_ops hw.a).1 h0 with h1 | h1 | h1
    · rw [if_neg (by omega), if_neg (by omega), if_pos h1]; exact ⟨_, _, rfl, by decide⟩
    · rw [if_neg (by omega), if_neg (by omega), if_neg (by omega), if_pos h1]; exact ⟨_, _, rfl, by decide⟩
    · rw [if_neg (by omega), if_neg (by omega), if_neg (by omega), if_neg (by omega), if_pos h1]; exact ⟨_, _, rfl, by decide⟩
  | @two _ g j n B B' h h0 hx hy =>
    have hw := W j n h
    have hop := (ar_ops hw.a).2.1 h0
    rw [Nat.add_sub_cancel, tkAt, fAt_wf own_tkF h hw]
    unfold tkF
    rw [if_neg (by omega), if_neg (by omega), if_neg (by omega), if_neg (by omega), if_neg (by omega)]
    exact ⟨_, _, rfl, by decide⟩
set_option maxHeartbeats 2000000 in
theorem rt {l : List Nd} (W : WfL l) (hN : ∀ n ∈ l, nodeF n = 0) (hp : ∀ n ∈ l, 0 ≤ n.v.2) (hl : l.length ≤ 40) {f e : Nat} (B : Blk l f e) : ∀ N, (tkAt l (e - 1)).length ≤ N → RdS (atomP (allP N).o) (tkAt l (e - 1)) (cutL l f e) Non := by
  induction B with
  | @leaf j n h h0 =>
    intro N hlen
    have hm := List.mem_of_getElem? h
    have hw := W j n h
    have hz := hN n hm
    rw [Nat.add_sub_cancel, tkAt, fAt_wf own_tkF h hw, cut_leaf h h0]
    unfold tkF
    have hy := nodeF_y hz (by omega)
    have hx : n.x = 0 := by
      unfold nodeF at hz
      split at hz
      · cases hz
      · split at hz
        · cases hz
        · rename_i h2
          exact Decidable.byContradiction fun q => h2 (.inr (.inr (.inr ⟨by omega, q⟩)))
    rcases (ar_ops hw.a).2.2 h0 with h1 | h1
    · rw [if_pos h1]
      have hnn : n.n = 0 := by
        unfold nodeF at hz
        split at hz
        · cases hz
        · split at hz
          · cases hz
          · rename_i h2
            exact Decidable.byContradiction fun q => h2 (.inr (.inl ⟨by omega, q⟩))
      have en : n = ⟨1, 0, 0, 0, n.v⟩ := by
        obtain ⟨op, x, y, k, v⟩ := n
        simp only at h1 hx hy hnn
        rw [h1, hx, hy, hnn]
      have := RdS.constA (O := (allP N).o) (nodeF_v hz) (hp n hm)
      rw [← en] at this
      exact this
    · rw [if_neg (by omega), if_pos h1]
      have hf := hw.f h1
      have hvv : n.v = (0, 0) := by
        unfold nodeF at hz
        split at hz
        · cases hz
        · split at hz
          · cases hz
          · rename_i h2
            exact Decidable.byContradiction fun q => h2 (.inl ⟨by omega, q⟩)
      have en : n = ⟨2, 0, 0, (n.n.toNat : Int), (0, 0)⟩ := by
        obtain ⟨op, x, y, k, v⟩ := n
        simp only at h1 hx hy hvv hf
        rw [h1, hx, hy, hvv, Int.toNat_of_nonneg hf.1]
      have := RdS.fieldA (O := (allP N).o) (i := n.n.toNat) (by omega)
      rw [← en] at this
      exact this
  | @one f j n B h h0 hx ih =>
    intro N hlen
    have hw := W j n h
    have hlt := B.lt
    have hcl := cutL_length B
    have hjl := (List.getElem?_eq_some_iff.1 h).1
    obtain ⟨w0, r0, hft, hf1, hf2, hf3⟩ := first_tok W hN hp B
    rw [cut_one hN hlt.1 hlt.2 B h h0 hx]
    rw [Nat.add_sub_cancel, tkAt, fAt_wf own_tkF h hw] at hlen ⊢
    rw [show n.x.toNat = j - 1 by omega] at hlen ⊢
    have ih : ∀ N, (fAt [] tkF l (j - 1)).length ≤ N → RdS (atomP (allP N).o) (fAt [] tkF l (j - 1)) (cutL l f j) Non := ih
    have hft : fAt [] tkF l (j - 1) = w0 :: r0 := hft
    rw [hft] at ih hlen ⊢
    unfold tkF at hlen ⊢
    rcases (ar_ops hw.a).1 h0 with h1 | h1 | h1
    · rw [if_neg (by omega), if_neg (by omega), if_pos h1] at hlen ⊢
      rw [h1]
      simp only [List.length_cons, List.length_append, List.length_nil] at hlen
      obtain ⟨M, rfl⟩ : ∃ M, N = M + 2 := ⟨N - 2, by omega⟩
      have hu := un_at (t := allP M) (ih M (by simp only [List.length_cons]; omega)) rfl hf1
      have hun := un_neg (t := allP (M + 1)) (dn_u hu) (by omega)
      have hlv := lev_of (t := allP (M + 1)) (keepsL (M + 1)).1.good (by decide) hun
      have key := pa_o (M := M + 1) hlv.o
      rw [List.cons_append] at key
      exact key
    · rw [if_neg (by omega), if_neg (by omega), if_neg (by omega), if_pos h1] at hlen ⊢
      rw [h1]
      simp only [List.length_cons, List.length_append, List.length_nil] at hlen
      obtain ⟨M, rfl⟩ : ∃ M, N = M + 2 := ⟨N - 2, by omega⟩
      have hu := un_at (t := allP M) (ih M (by simp only [List.length_cons]; omega)) rfl hf1
      have hlv := lev_of (t := allP M) (keepsL M).1.good hf2 hu
      have hnn := not_not (t := allP (M + 1)) (dn_n hlv.n) (by omega)
      have key := pa_o (M := M + 1) (up_or (t := allP (M + 1)) (up_and hnn))
      rw [List.cons_append] at key
      exact key
    · rw [if_neg (by omega), if_neg (by omega), if_neg (by omega), if_neg (by omega), if_pos h1] at hlen ⊢
      rw [h1]
      simp only [List.length_cons, List.length_append, List.length_nil] at hlen
      obtain ⟨M, rfl⟩ : ∃ M, N = M + 1 := ⟨N - 1, by omega⟩
      have hu := un_at (t := allP M) (ih M (by simp only [List.length_cons]; omega)) rfl hf1
      have hlv := lev_of (t := allP M) (keepsL M).1.good hf2 hu
      have hc : RdS (cmpS (allP M)) ((w0 :: r0) ++ [wIs, wNull]) (joinL 5 (cutL l f j) []) Non := RdS.isn (keepsL M).1.good hlv.s (by decide) (by omega)
      have hn : RdS (notS (allP M)) ((w0 :: r0) ++ [wIs, wNull]) (joinL 5 (cutL l f j) []) (· ∈ L3) := RdS.notp (hc.weak fun _ h => h.elim) hf2
      have := pa_o (up_or (t := allP M) (up_and hn))
      simpa [List.append_assoc] using this
  | @two f g j n B B' h h0 hx hy ih1 ih2 =>
    intro N hlen
    have hw := W j n h
    have hlt := B.lt
    have hlt' := B'.lt
    have hcl := cutL_length B
    have hcl' := cutL_length B'
    have hjl := (List.getElem?_eq_some_iff.1 h).1
    obtain ⟨w0, r0, hft, hf1, hf2, hf3⟩ := first_tok W hN hp B
    obtain ⟨w1, r1, hgt, hg1, hg2, hg3⟩ := first_tok W hN hp B'
    have hop := (ar_ops hw.a).2.1 h0
    rw [cut_two hN hlt.1 hlt'.1 hlt'.2 B B' h h0 hx hy]
    rw [Nat.add_sub_cancel, tkAt, fAt_wf own_tkF h hw] at hlen ⊢
    rw [show n.x.toNat = g - 1 by omega, show n.y.toNat = j - 1 by omega] at hlen ⊢
    have ih1 : ∀ N, (fAt [] tkF l (g - 1)).length ≤ N → RdS (atomP (allP N).o) (fAt [] tkF l (g - 1)) (cutL l f g) Non := ih1
    have ih2 : ∀ N, (fAt [] tkF l (j - 1)).length ≤ N → RdS (atomP (allP N).o) (fAt [] tkF l (j - 1)) (cutL l g j) Non := ih2
    have hft : fAt [] tkF l (g - 1) = w0 :: r0 := hft
    have hgt : fAt [] tkF l (j - 1) = w1 :: r1 := hgt
    rw [hft, hgt] at hlen ⊢
    rw [hft] at ih1
    rw [hgt] at ih2
    unfold tkF at hlen ⊢
    rw [if_neg (by omega), if_neg (by omega), if_neg (by omega), if_neg (by omega), if_neg (by omega)] at hlen ⊢
    simp only [List.length_cons, List.length_append, List.length_nil] at hlen
    obtain ⟨M, rfl⟩ : ∃ M, N = M + 1 := ⟨N - 1, by omega⟩
    have hu1 := un_at (t := allP M) (ih1 M (by simp only [List.length_cons]; omega)) rfl hf1
    have hu2 := un_at (t := allP M) (ih2 M (by simp only [List.length_cons]; omega)) rfl hg1
    have la := lev_of (t := allP M) (keepsL M).1.good hf2 hu1
    have lb := lev_of (t := allP M) (keepsL M).1.good hg2 hu2
    have hsum : (cutL l f g).length + (cutL l g j).length < 40 := by omega
    have fin : RdS (orS (allP M)) ((w0 :: r0) ++ signW n.op :: (w1 :: r1)) (joinL n.op (cutL l f g) (cutL l g j)) (· ∈ L5) := by
      have up_p : RdS (prodS (allP M)) ((w0 :: r0) ++ signW n.op :: (w1 :: r1)) (joinL n.op (cutL l f g) (cutL l g j)) (· ∈ L1) → RdS (orS (allP M)) ((w0 :: r0) ++ signW n.op :: (w1 :: r1)) (joinL n.op (cutL l f g) (cutL l g j)) (· ∈ L5) := fun H => up_or (up_and (RdS.notp (up_cmp (keepsL M).1.good (up_sum H)) hf2))
      have up_s : RdS (sumS (allP M)) ((w0 :: r0) ++ signW n.op :: (w1 :: r1)) (joinL n.op (cutL l f g) (cutL l g j)) (· ∈ L2) → RdS (orS (allP M)) ((w0 :: r0) ++ signW n.op :: (w1 :: r1)) (joinL n.op (cutL l f g) (cutL l g j)) (· ∈ L5) := fun H => up_or (up_and (RdS.notp (up_cmp (keepsL M).1.good H) hf2))
      have up_c : RdS (cmpS (allP M)) ((w0 :: r0) ++ signW n.op :: (w1 :: r1)) (joinL n.op (cutL l f g) (cutL l g j)) (· ∈ L3) → RdS (orS (allP M)) ((w0 :: r0) ++ signW n.op :: (w1 :: r1)) (joinL n.op (cutL l f g) (cutL l g j)) (· ∈ L5) := fun H => up_or (up_and (RdS.notp H hf2))
      have hops : n.op = 6 ∨ n.op = 7 ∨ n.op = 8 ∨ n.op = 9 ∨ n.op = 10 ∨ n.op = 11 ∨ n.op = 12 := by omega
      rcases hops with h1 | h1 | h1 | h1 | h1 | h1 | h1
      · refine up_s ?_
        rw [h1]
        refine (RdS.row2 (ops := [(wPlus, 6), (wMinus, 7)]) (w := wPlus) la.p lb.p (by decide) (by decide) (by decide) hsum).weak fun w h => ?_
        rcases h with h | h
        · exact List.mem_append_left _ h
        · exact List.mem_append_right _ h
      · refine up_s ?_
        rw [h1]
        refine (RdS.row2 (ops := [(wPlus, 6), (wMinus, 7)]) (w := wMinus) la.p lb.p (by decide) (by decide) (by decide) hsum).weak fun w h => ?_
        rcases h with h | h
        · exact List.mem_append_left _ h
        · exact List.mem_append_right _ h
      · refine up_p ?_
        rw [h1]
        refine (RdS.row2 (ops := [(wStar, 8)]) (w := wStar) la.u lb.u (by decide) (by decide) (fun h => h) hsum).weak fun w h => ?_
        rcases h with h | h
        · exact h.elim
        · exact h
      · refine up_or ?_
        rw [h1]
        refine (RdS.row2 (ops := [(wAnd, 9)]) (w := wAnd) la.n lb.n (by decide) (by decide) (by decide) hsum).weak fun w h => ?_
        rcases h with h | h
        · exact List.mem_append_left _ h
        · exact List.mem_append_right _ h
      · rw [h1]
        refine (RdS.row2 (ops := [(wOr, 10)]) (w := wOr) la.a lb.a (by decide) (by decide) (by decide) hsum).weak fun w h => ?_
        rcases h with h | h
        · exact List.mem_append_left _ h
        · exact List.mem_append_right _ h
      · refine up_c ?_
        rw [h1]
        exact (RdS.cmp2 (keepsL M).1.good (.inl ⟨rfl, rfl⟩) la.s lb.s (by decide) hsum).weak fun w h => List.mem_append_left _ h
      · refine up_c ?_
        rw [h1]
        exact (RdS.cmp2 (keepsL M).1.good (.inr ⟨rfl, rfl⟩) la.s lb.s (by decide) hsum).weak fun w h => List.mem_append_left _ h
    have := pa_o fin
    simpa [List.append_assoc] using this
/-- A whole expression: its words, and how they are read. -/
theorem rtE {l : List Nd} (h : exprF l = 0) (hp : ∀ n ∈ l, 0 ≤ n.v.2) {N : Nat} (hN : (tkE l).length < N) : RdS (allP N).o (tkE l) l (· ∈ L5) := by
  obtain ⟨O, hl⟩ := exprF_ok h
  obtain ⟨M, rfl⟩ : ∃ M, N = M + 1 := ⟨N - 1, by omega⟩
  obtain ⟨w0, r0, hft, hf1, hf2, hf3⟩ := first_tok O.wf O.n hp O.b
  have h1 := rt O.wf O.n hp hl O.b M (by have : tkE l = tkAt l (l.length - 1) := rfl; rw [← this]; omega)
  rw [hft] at h1
  have h2 := un_at (t := allP M) h1 rfl hf1
  have h3 := (lev_of (t := allP M) (keepsL M).1.good hf2 h2).o
  have e : cutL l 0 l.length = l := by
    unfold cutL
    rw [seg_all]
    exact map_sh0 l
  rw [e, ← hft] at h3
  rw [allP_succ]
  exact h3
end Go.Proofs.YtonlacplogbodaaDoor
/-
  Plain law: a question's text is read as the question, or it is too much. Conditions: none.
-/
namespace Go.Proofs.YtonlacplogbodaaDoor
open Go Go.Vc Go.Txt
set_option linter.unusedVariables false

/-! What was read has no sign of its own. -/
def PosL (l : List Nd) : Prop := ∀ n ∈ l, 0 ≤ n.v.2
def PP (P : Ps) : Prop := ∀ s, PosL (P s).1
theorem pos_one {n : Nd} (h : 0 ≤ n.v.2) : PosL [n] := fun m hm => by rw [List.mem_singleton.1 hm]; exact h
theorem pos_join {op : Int} {x y : List Nd} (hx : PosL x) (hy : PosL y) : PosL (joinL op x y) := by
  intro n hn
  unfold joinL at hn
  rcases List.mem_append.1 hn with h | h
  · rcases List.mem_append.1 h with h | h
    · exact hx n h
    · obtain ⟨m, hm, rfl⟩ := List.mem_map.1 h
      exact hy m hm
  · rw [List.mem_singleton.1 h]
    exact Int.le_refl _
theorem pos_joinP {op : Int} {x y : List Nd} {s : RS} (hx : PosL x) (hy : PosL y) : PosL (joinP op x y s).1 := by
  unfold joinP
  split
  · exact pos_one (by decide)
  · exact pos_join hx hy
theorem pos_nil : PosL [] := fun n h => by cases h
theorem number_pos (s : RS) (m : Int) : 0 ≤ (s.number m).1 := by
  unfold RS.number
  split
  · exact Int.le_refl _
  · split
    · exact Int.le_refl _
    · rename_i h; simp only; omega
theorem pp_down {P : Ps} (h : PP P) : PP (downP P) := by
  intro s
  unfold downP
  exact h _
theorem pp_atom {o : Ps} (h : PP o) : PP (atomP o) := by
  intro s
  unfold atomP
  simp only
  split
  · exact pp_down h _
  · split
    · refine pos_one ?_
      simp only
      unfold constV
      split
      · decide
      · simp only
        split <;> decide
    · split
      · exact pos_one (number_pos _ _)
      · exact pos_one (Int.le_refl _)
theorem pp_unary {u a : Ps} (hu : PP u) (ha : PP a) : PP (unaryP u a) := by
  intro s
  unfold unaryP
  split
  · exact ha s
  · exact pos_joinP (pp_down hu _) pos_nil
theorem pp_not {u a : Ps} (hu : PP u) (ha : PP a) : PP (notP u a) := by
  intro s
  unfold notP
  split
  · exact ha s
  · exact pos_joinP (pp_down hu _) pos_nil
theorem pp_rowL {P : Ps} (h : PP P) {ops : List (Wd × Int)} : ∀ (k : Nat) (x : List Nd) (s : RS), PosL x → PosL (rowL P ops k x s).1
  | 0, x, s, hx => hx
  | k + 1, x, s, hx => by
    rw [rowL]
    split
    · exact hx
    · simp only
      split
      · exact hx
      · exact pp_rowL h k _ _ (pos_joinP hx (h _))
theorem pp_row {P : Ps} (h : PP P) {ops : List (Wd × Int)} : PP (rowP P ops) := fun s => pp_rowL h _ _ _ (h s)
theorem pp_cmp {P : Ps} (h : PP P) : PP (cmpP P) := by
  intro s
  unfold cmpP
  simp only
  split
  · exact pos_joinP (h _) (h _)
  · split
    · exact pos_joinP (h _) (h _)
    · split
      · exact pos_joinP (pos_joinP (h _) (h _)) pos_nil
      · split
        · exact pos_joinP (pos_joinP (h _) (h _)) pos_nil
        · split
          · exact pos_joinP (h _) (h _)
          · split
            · exact pos_joinP (pos_joinP (h _) (h _)) pos_nil
            · split
              · split
                · exact pos_joinP (pos_joinP (h _) pos_nil) pos_nil
                · exact pos_joinP (h _) pos_nil
              · exact h _
theorem pp_S {t : Three} (ho : PP t.o) (hn : PP t.n) (hu : PP t.u) : PP (orS t) ∧ PP (notS t) ∧ PP (unS t) := by
  have h1 : PP (unS t) := pp_unary hu (pp_atom ho)
  have h3 : PP (sumS t) := pp_row (pp_row h1)
  have h5 : PP (notS t) := pp_not hn (pp_cmp h3)
  exact ⟨pp_row (pp_row h5), h5, h1⟩
theorem pp_noP : PP noP := fun s => pos_one (by decide)
theorem pp_all (n : Nat) : PP (allP n).o ∧ PP (allP n).n ∧ PP (allP n).u := by
  induction n with
  | zero => exact ⟨pp_noP, pp_noP, pp_noP⟩
  | succ n ih =>
    rw [allP_succ]
    exact pp_S ih.1 ih.2.1 ih.2.2
/-- Of a whole question. -/
structure PosQ (q : Qy) : Prop where
  g : ∀ a ∈ q.aggs, PosL a.2
  w : PosL q.wh
  b : PosL q.by_
theorem pos_ite {c : Prop} [Decidable c] {x y : Ag × RS} (hx : PosL x.1.2) (hy : PosL y.1.2) : PosL (if c then x else y).1.2 := by
  split
  · exact hx
  · exact hy
theorem pp_agg {o : Ps} (h : PP o) (s : RS) : PosL (aggP o s).1.2 := by
  unfold aggP
  exact pos_ite pos_nil (h _)
theorem pp_aggs {o : Ps} (h : PP o) : ∀ (k : Nat) (l : List Ag) (s : RS), (∀ a ∈ l, PosL a.2) → ∀ a ∈ (aggsP o k l s).1, PosL a.2
  | 0, l, s, hl => hl
  | k + 1, l, s, hl => by
    rw [aggsP]
    split
    · exact hl
    · refine pp_aggs h k _ _ fun a ha => ?_
      rcases List.mem_append.1 ha with h1 | h1
      · exact hl a h1
      · rw [List.mem_singleton.1 h1]; exact pp_agg h _
theorem pp_opt {P : Ps} (h : PP P) {w : Wd} {s : RS} : PosL (optP w P s).1 := by
  unfold optP
  split
  · exact pos_nil
  · exact h _
theorem posQ_read (ws : List Wd) : PosQ (readQ ws).1 := by
  have ho := (pp_all (ws.length + 1)).1
  rw [readQ_eq]
  generalize (allP (ws.length + 1)).o = o at ho ⊢
  refine ⟨pp_aggs ho _ _ _ fun a ha => ?_, pp_opt ho, pp_opt (fun s => ho _)⟩
  rw [List.mem_singleton.1 ha]; exact pp_agg ho _
theorem posQ_parse {s : List UInt8} (h : (parseQ s).2 = 0) : QOk (parseQ s).1 ∧ PosQ (parseQ s).1 := by
  unfold parseQ at h ⊢
  split at h
  · rename_i h1; exact absurd h h1
  · rename_i h1
    rw [if_neg h1]
    unfold parseW at h ⊢
    split at h
    · rename_i h2; exact absurd h h2
    · rename_i h2
      rw [if_neg h2]
      split at h
      · rename_i h3; exact absurd h h3
      · rename_i h3
        rw [if_neg h3]
        exact ⟨qok_of (Decidable.not_not.1 h3), posQ_read _⟩

/-! The words of a question's text. -/
def tkA (a : Ag) : List Wd := aggsW.getD a.1.toNat [] :: wOpen :: ((if a.1 = 1 then [wStar] else tkE a.2) ++ [wClose])
def tkAs : List Ag → List Wd
  | [] => []
  | [a] => tkA a
  | a :: b :: r => tkA a ++ wComma :: tkAs (b :: r)
def tkW (l : List Nd) : List Wd := if l = [] then [] else wWhere :: tkE l
def tkB (l : List Nd) : List Wd := if l = [] then [] else wGroup :: wBy :: tkE l
def tkN (q : Qy) : List Wd := [wWindow, Lib.itoa q.size, wSlide, Lib.itoa q.slide, wDelay, Lib.itoa q.delay, wLate, Lib.itoa q.late]
def tkQ (q : Qy) : List Wd := wSelect :: (tkAs q.aggs ++ wFrom :: wEvents :: (tkW q.wh ++ (tkB q.by_ ++ tkN q)))
theorem lx_expr {l : List Nd} (h : exprF l = 0) (hp : PosL l) {b : List UInt8} {ws : List Wd} (hb : Start b) (H : Lx b ws) : Lx (txE l ++ b) (tkE l ++ ws) := by
  obtain ⟨O, hl⟩ := exprF_ok h
  exact tx_lx O.wf O.n hp O.b b ws hb H
structure AgOk (a : Ag) : Prop where
  k : 1 ≤ a.1 ∧ a.1 ≤ 5
  e : a.1 ≠ 1 → exprF a.2 = 0
  n : a.1 = 1 → a.2 = []
  p : PosL a.2
theorem lx_agg {a : Ag} (A : AgOk a) {b : List UInt8} {ws : List Wd} (H : Lx b ws) : Lx (aggT a ++ b) (tkA a ++ ws) := by
  have hc := lx_sign (c := 41) (by decide) H
  have hm : Lx ((if a.1 = 1 then ([42] : Wd) else txE a.2) ++ 41 :: b) ((if a.1 = 1 then [wStar] else tkE a.2) ++ wClose :: ws) := by
    by_cases h1 : a.1 = 1
    · rw [if_pos h1, if_pos h1]
      exact lx_sign (c := 42) (by decide) hc
    · rw [if_neg h1, if_neg h1]
      exact lx_expr (A.e h1) A.p (start_cons (by decide)) hc
  have ho := lx_sign (c := 40) (by decide) hm
  have hk : a.1.toNat = 1 ∨ a.1.toNat = 2 ∨ a.1.toNat = 3 ∨ a.1.toNat = 4 ∨ a.1.toNat = 5 := by have := A.k; omega
  have hk1 : aggsW.getD a.1.toNat [] ≠ [] := by rcases hk with h | h | h | h | h <;> rw [h] <;> decide
  have hk2 : ∀ x ∈ aggsW.getD a.1.toNat [], kindB x = 97 := by rcases hk with h | h | h | h | h <;> rw [h] <;> decide
  have key := lx_word hk1 hk2 (start_cons (c := 40) (by decide)) ho
  unfold aggT tkA
  simpa [List.append_assoc, wOpen, wClose] using key
theorem lx_aggs : ∀ (gs : List Ag), (∀ a ∈ gs, AgOk a) → ∀ {b : List UInt8} {ws : List Wd}, Lx b ws → Lx (Lib.join (gs.map aggT) wSep ++ b) (tkAs gs ++ ws)
  | [], _, b, ws, H => H
  | [a], hA, b, ws, H => by
    have e : Lib.join ([a].map aggT) wSep = aggT a := by simp [Lib.join, List.intercalate]
    rw [e]
    exact lx_agg (hA a (List.mem_singleton_self _)) H
  | a :: c :: r, hA, b, ws, H => by
    have ih := lx_aggs (c :: r) (fun x hx => hA x (List.mem_cons_of_mem _ hx)) H
    have e : Lib.join ((a :: c :: r).map aggT) wSep = aggT a ++ (44 :: 32 :: Lib.join ((c :: r).map aggT) wSep) := by
      unfold Lib.join
      simp [List.intercalate, List.intersperse_cons_cons, wSep]
    have h1 := lx_agg (hA a (List.mem_cons_self ..)) (lx_sign (c := 44) (by decide) (.blank ih))
    rw [e, tkAs]
    simpa [List.append_assoc, wComma] using h1
theorem lx_nums {q : Qy} (Q : QOk q) : Lx (wWin ++ (Lib.itoa q.size ++ (wSli ++ (Lib.itoa q.slide ++ (wDel ++ (Lib.itoa q.delay ++ (wLat ++ (Lib.itoa q.late ++ [])))))))) (tkN q) := by
  have h1 := Q.s
  have h2 := Q.l
  have h3 := Q.d
  have h4 := Q.t
  have st : ∀ {w b : List UInt8}, Start (32 :: w ++ b) := fun {w b} => start_cons (c := 32) (r := w ++ b) (by decide)
  have key := lx_itoa (k := q.late) (by omega) (.inl rfl) .nil
  have key := Lx.blank (lx_word (w := wLate) (by decide) (by decide) (start_cons (c := 32) (by decide)) (.blank key))
  have key := lx_itoa (k := q.delay) (by omega) (start_cons (c := 32) (by decide)) key
  have key := Lx.blank (lx_word (w := wDelay) (by decide) (by decide) (start_cons (c := 32) (by decide)) (.blank key))
  have key := lx_itoa (k := q.slide) (by omega) (start_cons (c := 32) (by decide)) key
  have key := Lx.blank (lx_word (w := wSlide) (by decide) (by decide) (start_cons (c := 32) (by decide)) (.blank key))
  have key := lx_itoa (k := q.size) (by omega) (start_cons (c := 32) (by decide)) key
  have key := Lx.blank (lx_word (w := wWindow) (by decide) (by decide) (start_cons (c := 32) (by decide)) (.blank key))
  unfold tkN
  exact key
theorem wseg {l : List Nd} (h : l ≠ [] → exprF l = 0) (hp : PosL l) {b : List UInt8} {ws : List Wd} (H : Lx (32 :: b) ws) : Lx ((if l = [] then [] else wWhr ++ txE l) ++ 32 :: b) (tkW l ++ ws) := by
  unfold tkW
  by_cases h0 : l = []
  · rw [if_pos h0, if_pos h0]; exact H
  · rw [if_neg h0, if_neg h0]
    have h1 := Lx.blank (lx_word (w := wWhere) (by decide) (by decide) (start_cons (c := 32) (by decide)) (.blank (lx_expr (h h0) hp (start_cons (c := 32) (by decide)) H)))
    rw [List.append_assoc]
    exact h1
theorem bseg {l : List Nd} (h : l ≠ [] → exprF l = 0) (hp : PosL l) {b : List UInt8} {ws : List Wd} (H : Lx (32 :: b) ws) : Lx ((if l = [] then [] else wGrp ++ txE l) ++ 32 :: b) (tkB l ++ ws) := by
  unfold tkB
  by_cases h0 : l = []
  · rw [if_pos h0, if_pos h0]; exact H
  · rw [if_neg h0, if_neg h0]
    have h1 := Lx.blank (lx_word (w := wGroup) (by decide) (by decide) (start_cons (c := 32) (by decide)) (.blank (lx_word (w := wBy) (by decide) (by decide) (start_cons (c := 32) (by decide)) (.blank (lx_expr (h h0) hp (start_cons (c := 32) (by decide)) H)))))
    rw [List.append_assoc]
    exact h1
theorem queryT_eq (q : Qy) : queryT q = wSel ++ (Lib.join (q.aggs.map aggT) wSep ++ (wFrE ++ ((if q.wh = [] then [] else wWhr ++ txE q.wh) ++ ((if q.by_ = [] then [] else wGrp ++ txE q.by_) ++ (wWin ++ (Lib.itoa q.size ++ (wSli ++ (Lib.itoa q.slide ++ (wDel ++ (Lib.itoa q.delay ++ (wLat ++ (Lib.itoa q.late ++ [])))))))))))) := by
  unfold queryT numsT byT whT
  by_cases h1 : q.wh = [] <;> by_cases h2 : q.by_ = [] <;> simp [h1, h2, List.append_assoc]
theorem lx_query {q : Qy} (Q : QOk q) (hq : PosQ q) : Lx (queryT q) (tkQ q) := by
  have hA : ∀ a ∈ q.aggs, AgOk a := fun a ha => ⟨⟨(Q.g a ha).1, (Q.g a ha).2.1⟩, (Q.g a ha).2.2.1, (Q.g a ha).2.2.2, hq.g a ha⟩
  rw [queryT_eq]
  have h1 := lx_nums Q
  have h2 := bseg Q.b hq.b h1
  obtain ⟨b, hb⟩ : ∃ b, (if q.by_ = [] then [] else wGrp ++ txE q.by_) ++ (wWin ++ (Lib.itoa q.size ++ (wSli ++ (Lib.itoa q.slide ++ (wDel ++ (Lib.itoa q.delay ++ (wLat ++ (Lib.itoa q.late ++ [])))))))) = 32 :: b := by
    by_cases h0 : q.by_ = []
    · rw [if_pos h0]; exact ⟨_, rfl⟩
    · rw [if_neg h0]; exact ⟨_, rfl⟩
  have h2 : Lx (32 :: b) (tkB q.by_ ++ tkN q) := by rw [← hb]; exact h2
  rw [hb]
  have h3 := wseg Q.w hq.w h2
  obtain ⟨c, hc⟩ : ∃ c, (if q.wh = [] then [] else wWhr ++ txE q.wh) ++ 32 :: b = 32 :: c := by
    by_cases h0 : q.wh = []
    · rw [if_pos h0]; exact ⟨_, rfl⟩
    · rw [if_neg h0]; exact ⟨_, rfl⟩
  rw [hc] at h3 ⊢
  have h4 := Lx.blank (lx_word (w := wFrom) (by decide) (by decide) (start_cons (c := 32) (by decide)) (.blank (lx_word (w := wEvents) (by decide) (by decide) (start_cons (c := 32) (by decide)) h3)))
  have h5 := lx_aggs q.aggs hA h4
  exact lx_word (w := wSelect) (by decide) (by decide) (start_cons (c := 32) (by decide)) (.blank h5)

/-! They are read back. -/
def Bad (s : RS) : Prop := s.f = 2 ∧ s.ws = []
theorem bad_is {s : RS} (h : Bad s) (l : List Wd) : s.is l = ([], s) := by
  unfold RS.is
  rw [h.2]
theorem bad_fail {s : RS} (h : Bad s) (f : Int) : Bad (s.fail f) := ⟨(s.fail_f f (by rw [h.1]; decide)).trans h.1, rfl⟩
theorem bad_must {s : RS} (h : Bad s) (w : Wd) : Bad (s.must w) := by
  unfold RS.must
  rw [bad_is h]
  exact bad_fail h 4
theorem bad_num {s : RS} (h : Bad s) (m : Int) : Bad (s.number m).2 := by
  unfold RS.number
  rw [h.2]
  exact bad_fail h 4
theorem bad_o {o : Ps} (ho : KA o) {s : RS} (h : Bad s) : Bad (o s).2 := by
  have g : s.good := fun _ => h.2
  have k := ho s.ws.length s g (Nat.le_refl _)
  have e : (o s).2.f = 2 := (k.fst (by rw [h.1]; decide)).trans h.1
  exact ⟨e, k.ok (by rw [e]; decide)⟩
theorem bad_of {o : Ps} (ho : KA o) {s : RS} (hs : s.f = 0) (h : (o s).2.f = 2) : Bad (o s).2 := by
  have k := ho s.ws.length s (fun q => absurd hs q) (Nat.le_refl _)
  exact ⟨h, k.ok (by rw [h]; decide)⟩
theorem bad_aggs {o : Ps} {s : RS} (h : Bad s) (k : Nat) (l : List Ag) : aggsP o k l s = (l, s) := by
  cases k with
  | zero => rfl
  | succ k => rw [aggsP, bad_is h]; exact if_pos rfl
theorem must_yes {w : Wd} {r : List Wd} {d : Int} (hw : w ≠ []) : (⟨w :: r, d, 0⟩ : RS).must w = ⟨r, d, 0⟩ := by
  unfold RS.must
  rw [is_yes (List.mem_singleton_self w)]
  exact if_neg hw
theorem num_yes {n m : Int} (h0 : 0 ≤ n) (hm : n ≤ m) {r : List Wd} {d : Int} : (⟨Lib.itoa n :: r, d, 0⟩ : RS).number m = (n, ⟨r, d, 0⟩) := by
  obtain ⟨h1, h2, h3⟩ := itoa_dig h0
  have d1 := Txt.dec_spec n.toNat
  have e : natF (Lib.itoa n) m false = n := by
    have hv : (valF 0 (Lib.itoa n) : Int) = n := by rw [h1]; have := d1.2.1; omega
    rw [natF_eq h3 (by omega), if_pos ⟨fun c hc => h2 c hc, by omega⟩, hv]
  unfold RS.number
  simp only
  rw [e, if_neg (by omega)]
/-- One that is gathered. -/
theorem rd_agg {N : Nat} {a : Ag} (A : AgOk a) (hN : (tkA a).length ≤ N) {rest : List Wd} {d : Int} : Bad (aggP (allP N).o ⟨tkA a ++ rest, d, 0⟩).2 ∨ aggP (allP N).o ⟨tkA a ++ rest, d, 0⟩ = (a, ⟨rest, d, 0⟩) := by
  have hk : a.1.toNat = 1 ∨ a.1.toNat = 2 ∨ a.1.toNat = 3 ∨ a.1.toNat = 4 ∨ a.1.toNat = 5 := by have := A.k; omega
  have hw : aggsW.getD a.1.toNat [] ∈ [wCount, wSum, wMin, wMax] := by rcases hk with h | h | h | h | h <;> rw [h] <;> decide
  have hw0 : aggsW.getD a.1.toNat [] ≠ [] := by rcases hk with h | h | h | h | h <;> rw [h] <;> decide
  have hc : aggsW.getD a.1.toNat [] = wCount ↔ a.1 ≤ 2 := by
    have := A.k
    rcases hk with h | h | h | h | h <;> rw [h]
    · exact ⟨fun _ => by omega, fun _ => rfl⟩
    · exact ⟨fun _ => by omega, fun _ => rfl⟩
    · exact ⟨fun h2 => absurd h2 (by decide), fun _ => by omega⟩
    · exact ⟨fun h2 => absurd h2 (by decide), fun _ => by omega⟩
    · exact ⟨fun h2 => absurd h2 (by decide), fun _ => by omega⟩
  have hK : ¬ a.1 ≤ 2 → aggKind (aggsW.getD a.1.toNat []) = a.1 := by
    intro h2
    rcases hk with h | h | h | h | h <;> rw [h]
    · omega
    · omega
    · show (3 : Int) = _; omega
    · show (4 : Int) = _; omega
    · show (5 : Int) = _; omega
  have hko : KA (allP N).o := (keepsA N).1
  have e0 : (⟨tkA a ++ rest, d, 0⟩ : RS) = ⟨aggsW.getD a.1.toNat [] :: wOpen :: (((if a.1 = 1 then [wStar] else tkE a.2) ++ [wClose]) ++ rest), d, 0⟩ := rfl
  unfold aggP
  rw [e0, is_yes hw]
  simp only
  rw [if_neg hw0, must_yes (by decide)]
  by_cases h1 : a.1 = 1
  · right
    rw [if_pos h1]
    have e1 : (⟨[wStar] ++ [wClose] ++ rest, d, 0⟩ : RS).is [wStar] = (wStar, ⟨wClose :: rest, d, 0⟩) := is_yes (by decide)
    rw [e1, if_pos ⟨hc.2 (by omega), by simp [wStar]⟩]
    simp only
    rw [must_yes (by decide)]
    obtain ⟨k, l⟩ := a
    have hn := A.n h1
    simp only at h1 hn
    rw [h1, hn]
  · rw [if_neg h1]
    have hx := A.e h1
    have hlen : (tkE a.2).length < N := by
      unfold tkA at hN
      rw [if_neg h1] at hN
      simp only [List.length_cons, List.length_append, List.length_nil] at hN
      omega
    have R := rtE hx A.p hlen (wClose :: rest) d (fun w r e h => by cases e; exact absurd h (by decide))
    obtain ⟨O, hl⟩ := exprF_ok hx
    obtain ⟨w0, r0, hft, hf1, hf2, hf3⟩ := first_tok O.wf O.n A.p O.b
    have hft : tkE a.2 = w0 :: r0 := hft
    have e2 : (⟨tkE a.2 ++ [wClose] ++ rest, d, 0⟩ : RS).is [wStar] = ([], ⟨tkE a.2 ++ [wClose] ++ rest, d, 0⟩) := by
      refine is_no fun w r e => ?_
      rw [hft] at e
      cases e
      simpa using hf3
    rw [e2, if_neg (fun h => h.2 rfl)]
    simp only
    rw [List.append_assoc]
    have ea : (⟨tkE a.2 ++ ([wClose] ++ rest), d, 0⟩ : RS) = ⟨tkE a.2 ++ wClose :: rest, d, 0⟩ := rfl
    rw [ea]
    rcases R with h | h
    · left
      exact bad_must (bad_of hko rfl h) _
    · right
      rw [h]
      simp only
      rw [must_yes (by decide)]
      obtain ⟨k, l⟩ := a
      simp only at h1 hc hK ⊢
      by_cases h2 : k ≤ 2
      · rw [if_pos (hc.2 h2)]
        have := A.k
        simp only at this
        rw [show k = 2 by omega]
      · rw [if_neg (fun q => h2 (hc.1 q)), hK h2]
/-- The others. -/
theorem rd_aggs {N : Nat} : ∀ (gs : List Ag) (k : Nat) (L : List Ag) (rest : List Wd) (d : Int), (∀ a ∈ gs, AgOk a ∧ (tkA a).length ≤ N) → gs.length < k → (∀ w r, rest = w :: r → w ≠ wComma) → Bad (aggsP (allP N).o k L ⟨(gs.map fun a => wComma :: tkA a).flatten ++ rest, d, 0⟩).2 ∨ aggsP (allP N).o k L ⟨(gs.map fun a => wComma :: tkA a).flatten ++ rest, d, 0⟩ = (L ++ gs, ⟨rest, d, 0⟩)
  | [], k, L, rest, d, _, hk, hr => by
    obtain ⟨k, rfl⟩ : ∃ j, k = j + 1 := ⟨k - 1, by simp at hk; omega⟩
    right
    have e : (⟨(([] : List Ag).map fun a => wComma :: tkA a).flatten ++ rest, d, 0⟩ : RS) = ⟨rest, d, 0⟩ := rfl
    rw [e, aggsP, is_no (l := [wComma]) fun w r e => by simpa using hr w r e]
    rw [List.append_nil]
    exact if_pos rfl
  | a :: gs, k, L, rest, d, hA, hk, hr => by
    obtain ⟨k, rfl⟩ : ∃ j, k = j + 1 := ⟨k - 1, by simp at hk; omega⟩
    have e : (⟨((a :: gs).map fun a => wComma :: tkA a).flatten ++ rest, d, 0⟩ : RS) = ⟨wComma :: (tkA a ++ ((gs.map fun a => wComma :: tkA a).flatten ++ rest)), d, 0⟩ := by
      simp [List.append_assoc]
    rw [e, aggsP, is_yes (l := [wComma]) (by decide)]
    rw [if_neg (by simp [wComma])]
    simp only
    have hA1 := hA a (List.mem_cons_self ..)
    rcases rd_agg hA1.1 hA1.2 (rest := (gs.map fun a => wComma :: tkA a).flatten ++ rest) (d := d) with h | h
    · left
      rw [bad_aggs h]
      exact h
    · rw [h]
      simp only
      have := rd_aggs gs k (L ++ [a]) rest d (fun x hx => hA x (List.mem_cons_of_mem _ hx)) (by simp at hk; omega) hr
      rw [List.append_assoc] at this
      exact this
theorem tkAs_eq : ∀ (a : Ag) (gs : List Ag), tkAs (a :: gs) = tkA a ++ (gs.map fun a => wComma :: tkA a).flatten
  | a, [] => by simp [tkAs]
  | a, b :: r => by rw [tkAs, tkAs_eq b r]; simp
theorem rd_opt {N : Nat} {w : Wd} (hw : w ≠ []) {P : Ps} {T : List Wd} {l : List Nd} {r : List Wd} {d : Int} (H : Bad (P ⟨T ++ r, d, 0⟩).2 ∨ P ⟨T ++ r, d, 0⟩ = (l, ⟨r, d, 0⟩)) : Bad (optP w P ⟨w :: (T ++ r), d, 0⟩).2 ∨ optP w P ⟨w :: (T ++ r), d, 0⟩ = (l, ⟨r, d, 0⟩) := by
  unfold optP
  rw [is_yes (List.mem_singleton_self w), if_neg hw]
  exact H
theorem opt_no {w : Wd} {P : Ps} {ws : List Wd} {d : Int} (h : ∀ v r, ws = v :: r → v ≠ w) : optP w P ⟨ws, d, 0⟩ = ([], ⟨ws, d, 0⟩) := by
  unfold optP
  rw [is_no (l := [w]) fun v r e => by simpa using h v r e]
  exact if_pos rfl
theorem optN_yes {w : Wd} (hw : w ≠ []) {n : Int} (h0 : 0 ≤ n) (hm : n ≤ 1000) {r : List Wd} {d df : Int} : optN w df ⟨w :: Lib.itoa n :: r, d, 0⟩ = (n, ⟨r, d, 0⟩) := by
  unfold optN
  rw [is_yes (List.mem_singleton_self w), if_neg hw]
  exact num_yes h0 hm
theorem bad_optP {w : Wd} {P : Ps} {s : RS} (h : Bad s) : optP w P s = ([], s) := by
  unfold optP
  rw [bad_is h]
  exact if_pos rfl
theorem bad_optN {w : Wd} {df : Int} {s : RS} (h : Bad s) : optN w df s = (df, s) := by
  unfold optN
  rw [bad_is h]
  exact if_pos rfl
theorem bad_end {L : List Ag} {wh by_ : List Nd} {s : RS} (h : Bad s) : (endQ L wh by_ s).2.f = 2 := by
  have h1 := bad_num (bad_must h wWindow) 1000
  unfold endQ
  simp only
  rw [bad_optN h1]
  simp only
  rw [bad_optN h1]
  simp only
  rw [bad_optN h1]
  simp only
  rw [if_neg (by rw [h1.1]; exact fun q => absurd q.1 (by decide))]
  exact h1.1
theorem bad_by {o : Ps} {L : List Ag} {wh : List Nd} {s : RS} (h : Bad s) : (byQ o L wh s).2.f = 2 := by
  unfold byQ
  simp only
  rw [bad_optP h]
  exact bad_end h
theorem bad_rest {o : Ps} {L : List Ag} {s : RS} (h : Bad s) : (restQ o L s).2.f = 2 := by
  unfold restQ
  simp only
  rw [bad_optP (bad_must (bad_must h _) _)]
  exact bad_by (bad_must (bad_must h _) _)
theorem rd_end {q : Qy} (Q : QOk q) {d : Int} : endQ q.aggs q.wh q.by_ ⟨tkN q, d, 0⟩ = (q, ⟨[], d, 0⟩) := by
  have h1 := Q.s
  have h2 := Q.l
  have h3 := Q.d
  have h4 := Q.t
  unfold endQ tkN
  simp only
  rw [must_yes (by decide), num_yes (by omega) (by omega)]
  simp only
  rw [optN_yes (by decide) (by omega) (by omega)]
  simp only
  rw [optN_yes (by decide) (by omega) (by omega)]
  simp only
  rw [optN_yes (by decide) (by omega) (by omega)]
  simp
theorem rd_ex {N : Nat} {l : List Nd} (h : exprF l = 0) (hp : PosL l) (hN : (tkE l).length < N) {rest : List Wd} {d : Int} (hs : ∀ w r, rest = w :: r → w ∉ L5) : Bad ((allP N).o ⟨tkE l ++ rest, d, 0⟩).2 ∨ (allP N).o ⟨tkE l ++ rest, d, 0⟩ = (l, ⟨rest, d, 0⟩) := by
  rcases rtE h hp hN rest d hs with h1 | h1
  · exact .inl (bad_of (keepsA N).1 rfl h1)
  · exact .inr h1
theorem rd_by {N : Nat} {q : Qy} (Q : QOk q) (hq : PosQ q) (hN : (tkB q.by_).length ≤ N) {d : Int} : (byQ (allP N).o q.aggs q.wh ⟨tkB q.by_ ++ tkN q, d, 0⟩).2.f = 2 ∨ byQ (allP N).o q.aggs q.wh ⟨tkB q.by_ ++ tkN q, d, 0⟩ = (q, ⟨[], d, 0⟩) := by
  unfold byQ
  simp only
  by_cases h0 : q.by_ = []
  · right
    have e : tkB q.by_ = [] := by unfold tkB; exact if_pos h0
    rw [e, List.nil_append, opt_no (w := wGroup) (fun v r e => by unfold tkN at e; cases e; decide)]
    have := rd_end Q (d := d)
    rw [h0] at this
    exact this
  · have e : tkB q.by_ = wGroup :: (wBy :: tkE q.by_) := by unfold tkB; exact if_neg h0
    rw [e] at hN ⊢
    simp only [List.length_cons] at hN
    have key := rd_opt (N := N) (w := wGroup) (P := fun s => (allP N).o (s.must wBy)) (T := wBy :: tkE q.by_) (l := q.by_) (r := tkN q) (d := d) (by decide) (by
      have e2 : (⟨(wBy :: tkE q.by_) ++ tkN q, d, 0⟩ : RS).must wBy = ⟨tkE q.by_ ++ tkN q, d, 0⟩ := must_yes (by decide)
      rw [e2]
      exact rd_ex (Q.b h0) hq.b (by omega) (fun w r e => by unfold tkN at e; cases e; decide))
    rw [List.cons_append]
    rcases key with k | k
    · exact .inl (bad_end k)
    · right
      rw [k]
      exact rd_end Q
theorem tkB_head (q : Qy) : ∀ v r, tkB q.by_ ++ tkN q = v :: r → v ∉ L5 ∧ v ≠ wWhere := by
  intro v r e
  unfold tkB at e
  split at e
  · unfold tkN at e; cases e; decide
  · cases e; decide
theorem rd_rest {N : Nat} {q : Qy} (Q : QOk q) (hq : PosQ q) (hN : (tkB q.by_).length ≤ N) (hW : (tkW q.wh).length ≤ N) {d : Int} : (restQ (allP N).o q.aggs ⟨wFrom :: wEvents :: (tkW q.wh ++ (tkB q.by_ ++ tkN q)), d, 0⟩).2.f = 2 ∨ restQ (allP N).o q.aggs ⟨wFrom :: wEvents :: (tkW q.wh ++ (tkB q.by_ ++ tkN q)), d, 0⟩ = (q, ⟨[], d, 0⟩) := by
  unfold restQ
  simp only
  rw [must_yes (by decide), must_yes (by decide)]
  by_cases h0 : q.wh = []
  · have e : tkW q.wh = [] := by unfold tkW; exact if_pos h0
    rw [e, List.nil_append, opt_no (w := wWhere) (fun v r e => (tkB_head q v r e).2)]
    have := rd_by Q hq hN (d := d)
    rw [h0] at this
    exact this
  · have e : tkW q.wh = wWhere :: tkE q.wh := by unfold tkW; exact if_neg h0
    rw [e] at hW ⊢
    simp only [List.length_cons] at hW
    have key := rd_opt (N := N) (w := wWhere) (P := (allP N).o) (T := tkE q.wh) (l := q.wh) (r := tkB q.by_ ++ tkN q) (d := d) (by decide) (rd_ex (Q.w h0) hq.w (by omega) (fun w r e => (tkB_head q w r e).1))
    rw [List.cons_append]
    rcases key with k | k
    · exact .inl (bad_by k)
    · rw [k]
      exact rd_by Q hq hN
theorem tkAs_len : ∀ (gs : List Ag) (a : Ag), a ∈ gs → (tkA a).length ≤ (tkAs gs).length
  | [], a, h => by cases h
  | b :: r, a, h => by
    rw [tkAs_eq, List.length_append]
    rcases List.mem_cons.1 h with rfl | h
    · omega
    · have : (tkA a).length ≤ ((r.map fun a => wComma :: tkA a).flatten).length := by
        clear tkAs_len
        induction r with
        | nil => cases h
        | cons c r ih =>
          simp only [List.map_cons, List.flatten_cons, List.length_append, List.length_cons]
          rcases List.mem_cons.1 h with rfl | h
          · omega
          · have := ih (List.mem_cons_of_mem _ h) h; omega
      omega
theorem few_aggs : ∀ (gs : List Ag), gs.length ≤ ((gs.map fun a => wComma :: tkA a).flatten).length
  | [] => Nat.le_refl _
  | a :: r => by
    have := few_aggs r
    simp only [List.map_cons, List.flatten_cons, List.length_append, List.length_cons]
    omega
/-- A question's words are read as it, or it is too deep. -/
theorem rd_query {q : Qy} (Q : QOk q) (hq : PosQ q) : (readQ (tkQ q)).2.f = 2 ∨ readQ (tkQ q) = (q, ⟨[], 0, 0⟩) := by
  have hA : ∀ a ∈ q.aggs, AgOk a := fun a ha => ⟨⟨(Q.g a ha).1, (Q.g a ha).2.1⟩, (Q.g a ha).2.2.1, (Q.g a ha).2.2.2, hq.g a ha⟩
  have hlen : (tkQ q).length = 1 + (tkAs q.aggs).length + 2 + (tkW q.wh).length + (tkB q.by_).length + 8 := by
    unfold tkQ tkN
    simp only [List.length_cons, List.length_append, List.length_nil]
    omega
  have hLn : ∀ a ∈ q.aggs, (tkA a).length ≤ (tkQ q).length + 1 := fun a ha => by have := tkAs_len _ a ha; omega
  rw [readQ_eq]
  have hB : (tkB q.by_).length ≤ (tkQ q).length + 1 := by omega
  have hW : (tkW q.wh).length ≤ (tkQ q).length + 1 := by omega
  generalize (tkQ q).length + 1 = N at hLn hB hW ⊢
  have hR := rd_rest Q hq hB hW (d := 0)
  unfold allA firstA tkQ
  rw [must_yes (by decide)]
  generalize hr : wFrom :: wEvents :: (tkW q.wh ++ (tkB q.by_ ++ tkN q)) = rest at hR ⊢
  have hrest : ∀ w r, rest = w :: r → w ≠ wComma := fun w r e => by rw [← hr] at e; cases e; decide
  have n1 := Q.n1
  cases hg : q.aggs with
  | nil => rw [hg] at n1; simp at n1
  | cons a r =>
    rw [hg] at hA hLn hR
    rw [tkAs_eq, List.append_assoc]
    have ha := List.mem_cons_self (a := a) (l := r)
    rcases rd_agg (hA a ha) (hLn a ha) (rest := (r.map fun a => wComma :: tkA a).flatten ++ rest) (d := 0) with h | h
    · left
      rw [bad_aggs h]
      exact bad_rest h
    · rw [h]
      simp only
      have few := few_aggs r
      have := rd_aggs (N := N) r (((r.map fun a => wComma :: tkA a).flatten ++ rest).length + 1) [a] rest 0 (fun x hx => ⟨hA x (List.mem_cons_of_mem _ hx), hLn x (List.mem_cons_of_mem _ hx)⟩) (by rw [List.length_append]; omega) hrest
      rcases this with k | k
      · exact .inl (bad_rest k)
      · rw [k]
        exact hR
/-- A text of a question that was read. -/
theorem text_read {s : List UInt8} (h : (parseQ s).2 = 0) : (parseQ (queryT (parseQ s).1)).2 = 2 ∨ parseQ (queryT (parseQ s).1) = ((parseQ s).1, 0) := by
  have hz : qryF (parseQ s).1 = 0 := by
    unfold parseQ at h ⊢
    split at h
    · rename_i h1; exact absurd h h1
    · rename_i h1
      rw [if_neg h1]
      unfold parseW at h ⊢
      split at h
      · rename_i h2; exact absurd h h2
      · rename_i h2
        rw [if_neg h2]
        split at h
        · rename_i h3; exact absurd h h3
        · rename_i h3
          rw [if_neg h3]
          exact Decidable.not_not.1 h3
  obtain ⟨Q, hq⟩ := posQ_parse h
  generalize (parseQ s).1 = q at hz Q hq ⊢
  unfold parseQ
  rw [words_rel (lx_query Q hq)]
  split
  · left; rfl
  · split
    · rename_i h1 h2
      simp only
      rw [if_neg (by decide)]
      unfold parseW
      rcases rd_query Q hq with k | k
      · left
        rw [if_pos (by rw [k]; decide)]
        exact k
      · right
        rw [k]
        simp only
        rw [if_neg (by decide), if_neg (by rw [hz]; decide)]
    · left; rfl
end Go.Proofs.YtonlacplogbodaaDoor
/-
  What functions of the program ask, in words: each is what the framework reckons from the loaded code (the kernel holds the two together), and gives the function's call. Conditions: none.
-/
namespace Go.Proofs.YtonlacplogbodaaDoor
open Go Go.Vc
set_option maxRecDepth 100000
set_option linter.unusedVariables false
/-- What 'penstock/penstocklaw.same' asks. -/
def VC_law_same (u_err : Option (TypeId × Value)) (u_f : Int) (h : Hp) (R : Value → Hp → Prop) : Prop :=
  (((Option.isNone u_err) = true → R (vb (decide ((u_f : Int) = 0))) h) ∧ ((Option.isNone u_err) = false → (∃ (x2 : Int) (p3 : Bool), (Rd Tryd.prog (Instr.typeAssert (ifv u_err) 27 50 true) h (vtup [(vi x2), (vb p3)])) ∧ R (vb (bif (bif p3 then (decide ((u_f : Int) > 0)) else false) then (decide ((x2 : Int) = u_f)) else false)) h)))
end Go.Proofs.YtonlacplogbodaaDoor
/-
  A contract: an error, told by its number. Conditions: that the number is not below nought.
-/
namespace Go.Proofs.YtonlacplogbodaaDoor
open Go Go.Vc
set_option linter.unusedVariables false

theorem assertErrno (v : Value) (w : World) : (Instr.typeAssert (.iface 50 v) 27 50 true).run Tryd.prog w = .ok (.tuple #[v, .bool true]) w := by kernel_rfl
end Go.Proofs.YtonlacplogbodaaDoor
/-
  What functions of the program ask, in words: each is what the framework reckons from the loaded code (the kernel holds the two together), and gives the function's call. Conditions: none.
-/
namespace Go.Proofs.YtonlacplogbodaaDoor
open Go Go.Vc
set_option maxRecDepth 100000
set_option linter.unusedVariables false
/-- What 'penstock/penstocktop.asked' asks. -/
def VC_top_asked (u_s : ByteArray) (h : Hp) (R : Value → Hp → Prop) : Prop :=
  (((decide ((((ByteArray.size u_s : Nat) : Int) : Int) > 400)) = true → R (vtup [(vag [(vsl none 0 0), (vsl none 0 0), (vsl none 0 0), (vi 0), (vi 0), (vi 0), (vi 0)]), (vb false)]) h) ∧ ((decide ((((ByteArray.size u_s : Nat) : Int) : Int) > 400)) = false → (CallOK Tryd.prog 4 [(vs u_s)] h fun v2 h3 => ∃ (a4 : Option Addr) (n4 c4 : Nat) (a5 : Option Addr) (n5 c5 : Nat) (a6 : Option Addr) (n6 c6 : Nat) (x7 : Int) (x8 : Int) (x9 : Int) (x10 : Int) (e11 : Option (TypeId × Value)), v2 = (vtup [(vag [(vsl a4 n4 c4), (vsl a5 n5 c5), (vsl a6 n6 c6), (vi x7), (vi x8), (vi x9), (vi x10)]), (ifv e11)]) ∧ R (vtup [(vag [(vsl a4 n4 c4), (vsl a5 n5 c5), (vsl a6 n6 c6), (vi x7), (vi x8), (vi x9), (vi x10)]), (vb (Option.isNone e11))]) h3)))
theorem ok_top_asked {u_s : ByteArray} {h : Hp} {R : Value → Hp → Prop} (H : VC_top_asked u_s h R) : CallOK Tryd.prog 6 [(vs u_s)] h R :=
  call_of (cfg := ⟨[], [], [(4, [0, 1, 2, 3, 4])]⟩) noNG mixed Tryd.func6 [.one (.v (vs u_s))] (by kernel_rfl) rfl (by kernel_rfl) H

/-- What 'penstock/penstocktop.number' asks. -/
def VC_top_number (u_err : Option (TypeId × Value)) (h : Hp) (R : Value → Hp → Prop) : Prop :=
  (((Option.isNone u_err) = true → R (vi 0) h) ∧ ((Option.isNone u_err) = false → (∃ (x2 : Int) (p3 : Bool), (Rd Tryd.prog (Instr.typeAssert (ifv u_err) 27 50 true) h (vtup [(vi x2), (vb p3)])) ∧ (((!p3) = true → R (vi (-1)) h) ∧ ((!p3) = false → R (vi x2) h)))))
theorem ok_top_number {u_err : Option (TypeId × Value)} {h : Hp} {R : Value → Hp → Prop} (H : VC_top_number u_err h R) : CallOK Tryd.prog 7 [(ifv u_err)] h R :=
  call_of (cfg := ⟨[], [], []⟩) noNG mixed Tryd.func7 [.one (.ifc u_err)] (by kernel_rfl) rfl (by kernel_rfl) H

end Go.Proofs.YtonlacplogbodaaDoor
/-
  What a text asked is read as; the number of an error. Conditions: that the library's tables lie as laid.
-/
namespace Go.Proofs.YtonlacplogbodaaDoor
open Go Go.Vc Go.Txt
set_option linter.unusedVariables false

theorem top_number_ok {f : Int} {h : Hp} {R : Value → Hp → Prop} (hK : R (vi f) h) : CallOK Tryd.prog 7 [ifv (errV f)] h R := by
  refine ok_top_number ?_
  unfold VC_top_number
  by_cases h0 : f = 0
  · have e : errV f = none := by simp [errV, h0]
    rw [e]
    refine ⟨fun _ => ?_, fun e => by simp at e⟩
    rw [h0] at hK; exact hK
  · have e : errV f = some (50, vi f) := by simp [errV, h0]
    rw [e]
    refine ⟨fun e => by simp at e, fun _ => ⟨f, true, fun w _ => assertErrno _ w, fun e => (by cases e), fun _ => hK⟩⟩
/-- A question of a text, if the text is not long and is one. -/
theorem top_asked_ok {s : Wd} {h : Hp} (T : TabQ h) {R : Value → Hp → Prop} (bad : ∀ a1 n1 c1 a2 n2 c2 a3 n3 c3 x4 x5 x6 x7 h', h.le h' → R (vtup [vag [vsl a1 n1 c1, vsl a2 n2 c2, vsl a3 n3 c3, vi x4, vi x5, vi x6, vi x7], vb false]) h')
    (hK : (parseQ s).2 = 0 → QOk (parseQ s).1 → ∀ a1 n1 c1 a2 n2 c2 a3 n3 c3 h', h.le h' → QAt h' (parseQ s).1 a1 n1 a2 n2 a3 n3 → R (vtup [qV a1 n1 c1 a2 n2 c2 a3 n3 c3 (parseQ s).1, vb true]) h') : CallOK Tryd.prog 6 [vs (bs s)] h R := by
  refine ok_top_asked ?_
  unfold VC_top_asked
  refine ⟨fun e => bad _ _ _ _ _ _ _ _ _ _ _ _ _ h (Hp.le_refl _), fun _ => ?_⟩
  refine query_Parse_ok T fun a1 n1 c1 a2 n2 c2 a3 n3 c3 h' l' Q => ⟨_, _, _, _, _, _, _, _, _, _, _, _, _, _, rfl, ?_⟩
  rw [errV_none]
  by_cases hf : (parseQ s).2 = 0
  · rw [decide_eq_true hf]
    exact hK hf (posQ_parse hf).1 a1 n1 c1 a2 n2 c2 a3 n3 c3 h' l' Q
  · rw [decide_eq_false hf]
    exact bad _ _ _ _ _ _ _ _ _ _ _ _ _ h' l'
theorem qbig_of {q : Qy} (Q : QOk q) : QBig q := by
  have w : q.wh.length ≤ 40 := by
    by_cases h : q.wh = []
    · rw [h]; exact Nat.zero_le _
    · exact (exprF_ok (Q.w h)).2
  have b : q.by_.length ≤ 40 := by
    by_cases h : q.by_ = []
    · rw [h]; exact Nat.zero_le _
    · exact (exprF_ok (Q.b h)).2
  refine ⟨by omega, by omega, fun a ha => ?_, by have := Q.n2; omega⟩
  by_cases h : a.1 = 1
  · rw [(Q.g a ha).2.2.2 h]; exact Nat.zero_le _
  · have := (exprF_ok ((Q.g a ha).2.2.1 h)).2; omega
end Go.Proofs.YtonlacplogbodaaDoor
/-
  What functions of the program ask, in words: each is what the framework reckons from the loaded code (the kernel holds the two together), and gives the function's call. Conditions: none.
-/
namespace Go.Proofs.YtonlacplogbodaaDoor
open Go Go.Vc
set_option maxRecDepth 100000
set_option linter.unusedVariables false
/-- What 'penstock/penstockref.SameQuery' asks. -/
def VC_R_SameQuery (u_aAggsa : Option Addr) (u_aAggsn u_aAggsc : Nat) (u_aWherea : Option Addr) (u_aWheren u_aWherec : Nat) (u_aBya : Option Addr) (u_aByn u_aByc : Nat) (u_aSize : Int) (u_aSlide : Int) (u_aDelay : Int) (u_aLate : Int) (u_bAggsa : Option Addr) (u_bAggsn u_bAggsc : Nat) (u_bWherea : Option Addr) (u_bWheren u_bWherec : Nat) (u_bBya : Option Addr) (u_bByn u_bByc : Nat) (u_bSize : Int) (u_bSlide : Int) (u_bDelay : Int) (u_bLate : Int) (h : Hp) (R : Value → Hp → Prop) : Prop :=
  (CallOK Tryd.prog 20 [(vsl u_aWherea u_aWheren u_aWherec), (vsl u_bWherea u_bWheren u_bWherec)] h fun v1 h2 => ∃ (p3 : Bool), v1 = (vb p3) ∧ (CallOK Tryd.prog 20 [(vsl u_aBya u_aByn u_aByc), (vsl u_bBya u_bByn u_bByc)] h2 fun v4 h5 => ∃ (p6 : Bool), v4 = (vb p6) ∧ (((bif (bif (decide ((((u_aAggsn : Nat) : Int) : Int) ≠ ((u_bAggsn : Nat) : Int))) then true else (!p3)) then true else (!p6)) = true → R (vb false) h5) ∧ ((bif (bif (decide ((((u_aAggsn : Nat) : Int) : Int) ≠ ((u_bAggsn : Nat) : Int))) then true else (!p3)) then true else (!p6)) = false → (∃ (I9 : List Value → Hp → Prop) (m10 : List Value → Hp → Nat), I9 [(vi 0)] h5 ∧ ∀ (vs11 : List Value) (h12 : Hp), I9 vs11 h12 → ∃ (x13 : Int), vs11 = [(vi x13)] ∧ (((decide ((x13 : Int) < ((u_aAggsn : Nat) : Int))) = true → (∃ (b16 o17 : Nat), (u_aAggsa = some ⟨b16, o17, none⟩ ∧ (0 : Int) ≤ x13 ∧ x13 < ((u_aAggsn : Nat) : Int)) ∧ (∃ (a18 : Option Addr) (n18 c18 : Nat), (Hp.cell h12 b16 ((o17 + x13.toNat * 2) + 1) = some (vsl a18 n18 c18)) ∧ (∃ (b19 o20 : Nat), (u_bAggsa = some ⟨b19, o20, none⟩ ∧ (0 : Int) ≤ x13 ∧ x13 < ((u_bAggsn : Nat) : Int)) ∧ (∃ (a21 : Option Addr) (n21 c21 : Nat), (Hp.cell h12 b19 ((o20 + x13.toNat * 2) + 1) = some (vsl a21 n21 c21)) ∧ (CallOK Tryd.prog 20 [(vsl a18 n18 c18), (vsl a21 n21 c21)] h12 fun v22 h23 => ∃ (p24 : Bool), v22 = (vb p24) ∧ (∃ (b25 o26 : Nat), (u_aAggsa = some ⟨b25, o26, none⟩ ∧ (0 : Int) ≤ x13 ∧ x13 < ((u_aAggsn : Nat) : Int)) ∧ (∃ (x27 : Int), (Hp.cell h23 b25 (o26 + x13.toNat * 2) = some (vi x27)) ∧ (∃ (b28 o29 : Nat), (u_bAggsa = some ⟨b28, o29, none⟩ ∧ (0 : Int) ≤ x13 ∧ x13 < ((u_bAggsn : Nat) : Int)) ∧ (∃ (x30 : Int), (Hp.cell h23 b28 (o29 + x13.toNat * 2) = some (vi x30)) ∧ (((bif (decide ((x27 : Int) ≠ x30)) then true else (!p24)) = true → R (vb false) h23) ∧ ((bif (decide ((x27 : Int) ≠ x30)) then true else (!p24)) = false → (∃ (x32 : Int), (IsW x32 (x13 + 1)) ∧ (I9 [(vi x32)] h23 ∧ m10 [(vi x32)] h23 < m10 vs11 h12)))))))))))))) ∧ ((decide ((x13 : Int) < ((u_aAggsn : Nat) : Int))) = false → R (vb (bif (bif (bif (decide ((u_aSize : Int) = u_bSize)) then (decide ((u_aSlide : Int) = u_bSlide)) else false) then (decide ((u_aDelay : Int) = u_bDelay)) else false) then (decide ((u_aLate : Int) = u_bLate)) else false)) h12)))))))
theorem ok_R_SameQuery {u_aAggsa : Option Addr} {u_aAggsn u_aAggsc : Nat} {u_aWherea : Option Addr} {u_aWheren u_aWherec : Nat} {u_aBya : Option Addr} {u_aByn u_aByc : Nat} {u_aSize : Int} {u_aSlide : Int} {u_aDelay : Int} {u_aLate : Int} {u_bAggsa : Option Addr} {u_bAggsn u_bAggsc : Nat} {u_bWherea : Option Addr} {u_bWheren u_bWherec : Nat} {u_bBya : Option Addr} {u_bByn u_bByc : Nat} {u_bSize : Int} {u_bSlide : Int} {u_bDelay : Int} {u_bLate : Int} {h : Hp} {R : Value → Hp → Prop} (H : VC_R_SameQuery u_aAggsa u_aAggsn u_aAggsc u_aWherea u_aWheren u_aWherec u_aBya u_aByn u_aByc u_aSize u_aSlide u_aDelay u_aLate u_bAggsa u_bAggsn u_bAggsc u_bWherea u_bWheren u_bWherec u_bBya u_bByn u_bByc u_bSize u_bSlide u_bDelay u_bLate h R) : CallOK Tryd.prog 8 [(vag [(vsl u_aAggsa u_aAggsn u_aAggsc), (vsl u_aWherea u_aWheren u_aWherec), (vsl u_aBya u_aByn u_aByc), (vi u_aSize), (vi u_aSlide), (vi u_aDelay), (vi u_aLate)]), (vag [(vsl u_bAggsa u_bAggsn u_bAggsc), (vsl u_bWherea u_bWheren u_bWherec), (vsl u_bBya u_bByn u_bByc), (vi u_bSize), (vi u_bSlide), (vi u_bDelay), (vi u_bLate)])] h R :=
  call_of (cfg := ⟨[], [(6, ([7], [.one (.int .i64)], []))], [(8, [0, 1, 2, 3, 4, 5, 6, 7, 8, 9, 10, 11, 12, 13]), (9, [0, 1, 2, 3, 4, 5, 6, 7, 8, 9, 10, 11, 12, 13, 14, 15, 16])]⟩) noNG mixed Tryd.func8 [.ag [.v (vsl u_aAggsa u_aAggsn u_aAggsc), .v (vsl u_aWherea u_aWheren u_aWherec), .v (vsl u_aBya u_aByn u_aByc), .v (vi u_aSize), .v (vi u_aSlide), .v (vi u_aDelay), .v (vi u_aLate)], .ag [.v (vsl u_bAggsa u_bAggsn u_bAggsc), .v (vsl u_bWherea u_bWheren u_bWherec), .v (vsl u_bBya u_bByn u_bByc), .v (vi u_bSize), .v (vi u_bSlide), .v (vi u_bDelay), .v (vi u_bLate)]] (by kernel_rfl) rfl (by kernel_rfl) H

end Go.Proofs.YtonlacplogbodaaDoor
/-
  What functions of the program ask, in words: each is what the framework reckons from the loaded code (the kernel holds the two together), and gives the function's call. Conditions: none.
-/
namespace Go.Proofs.YtonlacplogbodaaDoor
open Go Go.Vc
set_option maxRecDepth 100000
set_option linter.unusedVariables false
/-- What 'penstock/penstockref.SameNodes' asks. -/
def VC_R_SameNodes (u_aa : Option Addr) (u_an u_ac : Nat) (u_ba : Option Addr) (u_bn u_bc : Nat) (h : Hp) (R : Value → Hp → Prop) : Prop :=
  (((decide ((((u_an : Nat) : Int) : Int) ≠ ((u_bn : Nat) : Int))) = true → R (vb false) h) ∧ ((decide ((((u_an : Nat) : Int) : Int) ≠ ((u_bn : Nat) : Int))) = false → (∃ (I3 : List Value → Hp → Prop) (m4 : List Value → Hp → Nat), I3 [(vi 0)] h ∧ ∀ (vs5 : List Value) (h6 : Hp), I3 vs5 h6 → ∃ (x7 : Int), vs5 = [(vi x7)] ∧ (((decide ((x7 : Int) < ((u_an : Nat) : Int))) = true → (∃ (b10 o11 : Nat), (u_aa = some ⟨b10, o11, none⟩ ∧ (0 : Int) ≤ x7 ∧ x7 < ((u_an : Nat) : Int)) ∧ (∃ (x12 : Int) (x13 : Int) (x14 : Int) (x15 : Int) (x16 : Int) (x17 : Int), (Hp.row h6 b10 (o11 + x7.toNat * 6) 6 = some [(vi x12), (vi x13), (vi x14), (vi x15), (vi x16), (vi x17)]) ∧ (∃ (b18 o19 : Nat), (u_ba = some ⟨b18, o19, none⟩ ∧ (0 : Int) ≤ x7 ∧ x7 < ((u_bn : Nat) : Int)) ∧ (∃ (x20 : Int) (x21 : Int) (x22 : Int) (x23 : Int) (x24 : Int) (x25 : Int), (Hp.row h6 b18 (o19 + x7.toNat * 6) 6 = some [(vi x20), (vi x21), (vi x22), (vi x23), (vi x24), (vi x25)]) ∧ (∃ (p26 : Bool), (Rd Tryd.prog ((eqGuard .neq 69 (.tmp 20) (.tmp 24) (vag [(vi x12), (vi x13), (vi x14), (vi x15), (vi x16), (vi x17)]) (vag [(vi x20), (vi x21), (vi x22), (vi x23), (vi x24), (vi x25)]) >>= fun _ => binOp .neq 69 (vag [(vi x12), (vi x13), (vi x14), (vi x15), (vi x16), (vi x17)]) (vag [(vi x20), (vi x21), (vi x22), (vi x23), (vi x24), (vi x25)]))) h6 (vb p26)) ∧ ((p26 = true → R (vb false) h6) ∧ (p26 = false → (∃ (x28 : Int), (IsW x28 (x7 + 1)) ∧ (I3 [(vi x28)] h6 ∧ m4 [(vi x28)] h6 < m4 vs5 h6)))))))))) ∧ ((decide ((x7 : Int) < ((u_an : Nat) : Int))) = false → R (vb true) h6)))))
theorem ok_R_SameNodes {u_aa : Option Addr} {u_an u_ac : Nat} {u_ba : Option Addr} {u_bn u_bc : Nat} {h : Hp} {R : Value → Hp → Prop} (H : VC_R_SameNodes u_aa u_an u_ac u_ba u_bn u_bc h R) : CallOK Tryd.prog 20 [(vsl u_aa u_an u_ac), (vsl u_ba u_bn u_bc)] h R :=
  call_of (cfg := ⟨[], [(4, ([5], [.one (.int .i64)], []))], [(6, [0, 1, 2, 3, 4, 5, 6, 7, 8])]⟩) noNG mixed Tryd.func20 [.one (.v (vsl u_aa u_an u_ac)), .one (.v (vsl u_ba u_bn u_bc))] (by kernel_rfl) rfl (by kernel_rfl) H

end Go.Proofs.YtonlacplogbodaaDoor
/-
  What functions of the program ask, in words: each is what the framework reckons from the loaded code (the kernel holds the two together), and gives the function's call. Conditions: none.
-/
namespace Go.Proofs.YtonlacplogbodaaDoor
open Go Go.Vc
set_option maxRecDepth 100000
set_option linter.unusedVariables false
/-- What 'penstock/penstocklaw.LightNodes' asks. -/
def VC_law_LightNodes (u_la : Option Addr) (u_ln u_lc : Nat) (h : Hp) (R : Value → Hp → Prop) : Prop :=
  R (vb (decide ((((u_ln : Nat) : Int) : Int) ≤ 50))) h
end Go.Proofs.YtonlacplogbodaaDoor
/-
  Contracts: lists of nodes that are the same; how many are light. Conditions: that they are the same.
-/
namespace Go.Proofs.YtonlacplogbodaaDoor
open Go Go.Vc
set_option linter.unusedVariables false
set_option maxRecDepth 100000

theorem eqFl_N (a b c d e f a' b' c' d' e' f' : Int) : eqFl Tryd.prog 8 69 [vi a, vi b, vi c, vi d, vi e, vi f] [vi a', vi b', vi c', vi d', vi e', vi f'] =
    some (decide (a = a') && (decide (b = b') && (decide (c = c') && (decide (d = d') && ((decide (e = e') && (decide (f = f') && true)) && true))))) := by kernel_rfl
theorem rd_neqN {h : Hp} {x y : Operand} {a : Nd} : Rd Tryd.prog (eqGuard .neq 69 x y (vag (encN a)) (vag (encN a)) >>= fun _ => binOp .neq 69 (vag (encN a)) (vag (encN a))) h (vb false) := by
  have := rd_neq (P := Tryd.prog) (h := h) (t := 69) (x := x) (y := y) (eqFl_N a.op a.x a.y a.n a.v.1 a.v.2 a.op a.x a.y a.n a.v.1 a.v.2) (by kernel_rfl) (by kernel_rfl)
  have e : (!(decide (a.op = a.op) && (decide (a.x = a.x) && (decide (a.y = a.y) && (decide (a.n = a.n) && ((decide (a.v.1 = a.v.1) && (decide (a.v.2 = a.v.2) && true)) && true)))))) = false := by simp
  rw [e] at this
  exact this
theorem R_SameNodes_ok {a a2 : Option Addr} {n n2 c c2 : Nat} {l : List Nd} {h : Hp} {R : Value → Hp → Prop} (S : SlP encN h a n l) (S2 : SlP encN h a2 n2 l) (hl : l.length ≤ 1000000) (hK : R (vb true) h) : CallOK Tryd.prog 20 [vsl a n c, vsl a2 n2 c2] h R := by
  refine ok_R_SameNodes ?_
  unfold VC_R_SameNodes
  obtain rfl := S.1
  obtain rfl := S2.1
  refine ⟨fun g => by simp at g, fun _ => ⟨fun vs hh => hh = h ∧ ∃ i : Nat, vs = [vi i] ∧ i ≤ l.length, fun vs hh => l.length - (vint vs 0).toNat, ⟨rfl, 0, rfl, Nat.zero_le _⟩, ?_⟩⟩
  rintro vs hh ⟨rfl, i, rfl, hi⟩
  refine ⟨i, rfl, fun q => ?_, fun _ => hK⟩
  have hlt : i < l.length := by have := of_decide_eq_true q; omega
  have hx : l[i]? = some l[i] := List.getElem?_eq_getElem hlt
  obtain ⟨b, o, ha, hr⟩ := S.get encN_len (by decide) hx
  obtain ⟨b', o', ha', hr'⟩ := S2.get encN_len (by decide) hx
  generalize l[i] = y at *
  exact ⟨b, o, ⟨ha, by omega, by omega⟩, _, _, _, _, _, _, hr, b', o', ⟨ha', by omega, by omega⟩, _, _, _, _, _, _, hr', _, rd_neqN (a := y), fun g => (by cases g), fun _ => ⟨_, isW (by unfold InR; omega), ⟨rfl, i + 1, rfl, by omega⟩, by simp [vint]; omega⟩⟩
end Go.Proofs.YtonlacplogbodaaDoor
/-
  Contracts: what the document finds wrong with a question; two that are the same. Conditions: those stated at each.
-/
namespace Go.Proofs.YtonlacplogbodaaDoor
open Go Go.Vc Go.Txt
set_option linter.unusedVariables false
set_option maxRecDepth 100000

theorem typE_2 (l : List Nd) : 0 ≤ (typE l).2 := by
  unfold typE
  split
  · exact Int.le_refl _
  · show (0 : Int) ≤ 3
    decide
theorem typedF_2 (l : List Nd) (k : Int) : 0 ≤ typedF l k := by
  have e2 := exprF_2 l
  have t2 := typE_2 l
  unfold typedF
  split
  · exact e2
  · split
    · exact t2
    · split <;> decide
theorem R_SameQuery_ok {q : Qy} {a1 : Option Addr} {n1 c1 : Nat} {a2 : Option Addr} {n2 c2 : Nat} {a3 : Option Addr} {n3 c3 : Nat} {b1 : Option Addr} {m1 d1 : Nat} {b2 : Option Addr} {m2 d2 : Nat} {b3 : Option Addr} {m3 d3 : Nat} {h : Hp} {R : Value → Hp → Prop} (Q : QAt h q a1 n1 a2 n2 a3 n3) (Q' : QAt h q b1 m1 b2 m2 b3 m3) (B : QBig q) (hK : R (vb true) h) : CallOK Tryd.prog 8 [qV a1 n1 c1 a2 n2 c2 a3 n3 c3 q, qV b1 m1 d1 b2 m2 d2 b3 m3 d3 q] h R := by
  refine ok_R_SameQuery ?_
  unfold VC_R_SameQuery
  have hn1 := Q.g.len
  have hm1 := Q'.g.len
  have hB := B.n
  refine R_SameNodes_ok Q.w Q'.w B.w ⟨_, rfl, R_SameNodes_ok Q.b Q'.b B.b ⟨_, rfl, ?_⟩⟩
  have hc : (bif (bif (decide (((n1 : Nat) : Int) ≠ ((m1 : Nat) : Int))) then true else (!true)) then true else (!true)) = false := by
    rw [decide_eq_false (by omega)]; rfl
  rw [hc]
  refine ⟨fun e => by (cases e), fun _ => ?_⟩
  refine ⟨fun vs' hh => hh = h ∧ ∃ i : Nat, vs' = [vi i] ∧ i ≤ n1, fun vs' hh => n1 - (vint vs' 0).toNat, ⟨rfl, 0, rfl, Nat.zero_le _⟩, ?_⟩
  rintro vs' hh ⟨rfl, i, rfl, hi⟩
  refine ⟨i, rfl, fun g => ?_, fun g => ?_⟩
  · have hlt : i < n1 := by have := of_decide_eq_true g; omega
    have hx : q.aggs[i]? = some q.aggs[i] := List.getElem?_eq_getElem (by omega)
    have hbig := B.g _ (List.mem_of_getElem? hx)
    generalize q.aggs[i] = y at hx hbig
    obtain ⟨k, l⟩ := y
    obtain ⟨b, o, a', c', ha, hrow, hS⟩ := Q.g.row aggRw_len (by decide) hx
    obtain ⟨b', o', a'', c'', ha', hrow', hS'⟩ := Q'.g.row aggRw_len (by decide) hx
    have r0 := Hp.row_cell hrow (i := 0) (x := vi k) rfl
    have r1 := Hp.row_cell hrow (i := 1) (x := vsl a' l.length c') rfl
    have s0 := Hp.row_cell hrow' (i := 0) (x := vi k) rfl
    have s1 := Hp.row_cell hrow' (i := 1) (x := vsl a'' l.length c'') rfl
    refine ⟨b, o, ⟨ha, by omega, by omega⟩, a', l.length, c', by rw [Int.toNat_natCast]; exact r1, b', o', ⟨ha', by omega, by omega⟩, a'', l.length, c'', by rw [Int.toNat_natCast]; exact s1, ?_⟩
    refine R_SameNodes_ok hS hS' hbig ⟨_, rfl, b, o, ⟨ha, by omega, by omega⟩, k, by rw [Int.toNat_natCast]; exact r0, b', o', ⟨ha', by omega, by omega⟩, k, by rw [Int.toNat_natCast]; exact s0, ?_⟩
    have hc2 : (bif (decide ((k : Int) ≠ k)) then true else (!true)) = false := by simp
    rw [hc2]
    exact ⟨fun e => by (cases e), fun _ => ⟨_, isW (by unfold InR; omega), ⟨rfl, i + 1, rfl, by omega⟩, by simp [vint]; omega⟩⟩
  · have : (bif (bif (bif (decide ((q.size : Int) = q.size)) then (decide ((q.slide : Int) = q.slide)) else false) then (decide ((q.delay : Int) = q.delay)) else false) then (decide ((q.late : Int) = q.late)) else false) = true := by simp
    rw [this]
    exact hK
end Go.Proofs.YtonlacplogbodaaDoor
