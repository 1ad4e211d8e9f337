/-
  Laws and contracts on which the statement's proof stands, part 3. Conditions: those stated at each.
-/
import Derived.Lib.ItoaNum
import Derived.Lib.AtoiAll
import Derived.Lib.ConvBytes
import Derived.MapKept
import Derived.Shelf.Strings.Builder1
import Derived.Shelf.Strings.Builder2
import Derived.Shelf.Strings.OnBuilder
import Derived.Shelf.Small.Strs
import Derived.Shelf.Strings.BuilderF
import Derived.Shelf.Strings.BuilderK
import Derived.Shelf.Strings.Builder2Cap
import Derived.Shelf.Strconv.Atoi
import Derived.Shelf.Strconv.Itoa0
import Derived.Shelf.Strconv.Itoa1
import Derived.Shelf.LaysM
import Derived.Shelf.Strconv.Itoa2
import Derived.Shelf.Strconv.Itoa3
import Derived.Shelf.Strconv.AtoiErrFast
import Derived.Shelf.Strconv.ParseIntEmpty
import Derived.Shelf.Strconv.AtoiFail
import Derived.Shelf.Strconv.Clone
import Derived.Shelf.Strconv.SyntaxError
import Derived.Shelf.LaysC
import Derived.Shelf.Strconv.ToError
import Derived.Shelf.Strconv.AtoiErr
import Derived.Shelf.Strconv.ErrVar
import Derived.Shelf.Strconv.Lower
import Derived.Shelf.Strconv.ParseUint10
import Derived.Shelf.Strconv.ParseUint10Empty
import Derived.Shelf.Strconv.ParseUint10Any
import Derived.Shelf.Strconv.ParseInt10
import Derived.Shelf.Strconv.AtoiLong
import Derived.Shelf.Strconv.AtoiInnerAll
import Derived.Shelf.Strconv.RangeError
import Derived.Shelf.Strconv.ToErrorRange
import Derived.Shelf.Strconv.AtoiAll
import Derived.Shelf.Strconv.ErrVarAll
import Derived.Shelf.Strconv.ParseUintEmpty
import Derived.Shelf.Strconv.ParseUint10b64
import Derived.Shelf.Strconv.ParseUint10b32
import Derived.Shelf.Strconv.ParseUint10b16
import Derived.Shelf.Strconv.ParseUint10b8
import Derived.Shelf.Strconv.ParseUint10At
import Derived.Shelf.Strconv.ParseInt10At64
import Derived.Shelf.Strconv.ParseInt10At32
import Derived.Shelf.Strconv.ParseInt10At16
import Derived.Shelf.Strconv.ParseInt10At8
import Derived.Shelf.Strconv.ParseInt10All
import Derived.Shelf.Strings.Search1
import Derived.Shelf.Strings.BuilderCap
import Derived.Shelf.Slices.Turned
import Derived.Test.YtonlacplogbodaaDoorProg
import Derived.WalkKit
import Derived.Deep.RegionWith
import Derived.Below
import Derived.Test.YtonlacplogbodaaDoorTx2
/-
  The plain law of expressions: which may be, what they are worth, of which kind they are, what is cut out of them and put together. No program in sight. Conditions: none.
-/
namespace Go.Proofs.YtonlacplogbodaaDoor
open Go Go.Vc
set_option linter.unusedVariables false

structure Nd where
  op : Int
  x : Int
  y : Int
  n : Int
  v : Int × Int
deriving DecidableEq
def arI (op : Int) : Int := if op = 1 ∨ op = 2 then 0 else if 3 ≤ op ∧ op ≤ 5 then 1 else if 6 ≤ op ∧ op ≤ 12 then 2 else -1
/-- What is wrong with a node as it stands. -/
def nodeF (n : Nd) : Int :=
  if arI n.op < 0 then 3 else if (n.op ≠ 1 ∧ n.v ≠ (0, 0)) ∨ (n.op ≠ 2 ∧ n.n ≠ 0) ∨ (arI n.op < 2 ∧ n.y ≠ 0) ∨ (arI n.op < 1 ∧ n.x ≠ 0) then 3 else if n.op = 2 ∧ (n.n < 0 ∨ n.n > 3) then 1 else if ¬ goodV n.v then 3 else 0
/-- Those that are nobody's yet, the last one ahead: a node takes its own. -/
def popN (n : Nd) (st : List Int) : Option (List Int) :=
  if arI n.op = 0 then some st else if arI n.op = 1 then
    match st with
    | a :: s => if a = n.x then some s else none
    | [] => none
  else
    match st with
    | b :: a :: s => if a = n.x ∧ b = n.y then some s else none
    | _ => none
def chkGo (st : List Int) (i : Nat) : List Nd → Int
  | [] => if st.length = 1 then 0 else 3
  | n :: l => if nodeF n ≠ 0 then nodeF n else match popN n st with
    | none => 3
    | some s => chkGo (i :: s) (i + 1) l
def exprF (l : List Nd) : Int := if l.length > 40 then 2 else chkGo [] 0 l
theorem nodeF_2 (n : Nd) : 0 ≤ nodeF n := by unfold nodeF; split <;> (try split) <;> (try split) <;> (try split) <;> decide
theorem chkGo_2 : ∀ (l : List Nd) (st : List Int) (i : Nat), 0 ≤ chkGo st i l
  | [], st, i => by rw [chkGo]; split <;> decide
  | n :: l, st, i => by
    rw [chkGo]
    split
    · exact nodeF_2 n
    · split
      · decide
      · exact chkGo_2 l _ _
theorem exprF_2 (l : List Nd) : 0 ≤ exprF l := by
  unfold exprF
  split
  · decide
  · exact chkGo_2 _ _ _

/-- Nodes f up to e are one expression, its root the last. -/
inductive Blk (l : List Nd) : Nat → Nat → Prop where
  | leaf {i : Nat} {n : Nd} : l[i]? = some n → arI n.op = 0 → Blk l i (i + 1)
  | one {f i : Nat} {n : Nd} : Blk l f i → l[i]? = some n → arI n.op = 1 → n.x = (i : Int) - 1 → Blk l f (i + 1)
  | two {f g i : Nat} {n : Nd} : Blk l f g → Blk l g i → l[i]? = some n → arI n.op = 2 → n.x = (g : Int) - 1 → n.y = (i : Int) - 1 → Blk l f (i + 1)
theorem Blk.lt {l : List Nd} {f e : Nat} (B : Blk l f e) : f < e ∧ e ≤ l.length := by
  induction B with
  | leaf h _ => exact ⟨Nat.lt_succ_self _, (List.getElem?_eq_some_iff.1 h).1⟩
  | one _ h _ _ ih => exact ⟨by omega, (List.getElem?_eq_some_iff.1 h).1⟩
  | two _ _ h _ _ _ ih1 ih2 => exact ⟨by omega, (List.getElem?_eq_some_iff.1 h).1⟩
/-- What stands open: expressions, one behind the other. -/
inductive Stk (l : List Nd) : List Int → Nat → Prop where
  | nil : Stk l [] 0
  | push {s : List Int} {f e : Nat} : Stk l s f → Blk l f e → Stk l (((e : Int) - 1) :: s) e
theorem arI_range {op : Int} (h : 0 ≤ arI op) : arI op = 0 ∨ arI op = 1 ∨ arI op = 2 := by
  unfold arI at *
  split <;> (try split) <;> (try split) <;> simp_all
theorem nodeF_ar {n : Nd} (h : nodeF n = 0) : 0 ≤ arI n.op := by
  unfold nodeF at h
  split at h
  · cases h
  · omega
theorem popN_stk {l : List Nd} {st s : List Int} {i : Nat} {n : Nd} (hn : l[i]? = some n) (h0 : nodeF n = 0) (S : Stk l st i) (h : popN n st = some s) : Stk l ((i : Int) :: s) (i + 1) := by
  have key : ∀ {f : Nat} {s : List Int}, Stk l s f → Blk l f (i + 1) → Stk l ((i : Int) :: s) (i + 1) := by
    intro f s S B
    have := Stk.push S B
    rw [show ((i + 1 : Nat) : Int) - 1 = i by omega] at this
    exact this
  unfold popN at h
  rcases arI_range (nodeF_ar h0) with h1 | h1 | h1
  · rw [if_pos h1] at h
    cases h
    exact key S (.leaf hn h1)
  · rw [if_neg (by omega), if_pos h1] at h
    cases S with
    | nil => cases h
    | push S B =>
      simp only at h
      split at h
      · rename_i hx
        cases h
        exact key S (.one B hn h1 hx.symm)
      · cases h
  · rw [if_neg (by omega), if_neg (by omega)] at h
    cases S with
    | nil => cases h
    | push S B =>
      cases S with
      | nil => cases h
      | push S B' =>
        simp only at h
        split at h
        · rename_i hx
          cases h
          exact key S (.two B' B hn h1 hx.1.symm hx.2.symm)
        · cases h
theorem chkGo_ok (l : List Nd) : ∀ (r : List Nd) (st : List Int) (i : Nat), l.drop i = r → i ≤ l.length → Stk l st i → chkGo st i r = 0 → (∀ n ∈ r, nodeF n = 0) ∧ ∃ z, Stk l [z] l.length
  | [], st, i, hr, hi, S, h => by
    have : i = l.length := by
      have := congrArg List.length hr
      simp at this
      omega
    subst this
    rw [chkGo] at h
    split at h
    · rename_i h1
      match st, h1 with
      | [z], _ => exact ⟨by simp, z, S⟩
    · cases h
  | n :: r, st, i, hr, hi, S, h => by
    have hlt : i < l.length := by
      have := congrArg List.length hr
      simp at this
      omega
    have hn : l[i]? = some n := by
      have := congrArg List.head? hr
      rw [List.head?_drop] at this
      exact this
    have hr' : l.drop (i + 1) = r := by
      rw [← List.drop_drop, hr]; rfl
    rw [chkGo] at h
    split at h
    · rename_i h1; exact absurd h h1
    · rename_i h1
      have h0 : nodeF n = 0 := by simpa using h1
      split at h
      · cases h
      · rename_i s hs
        obtain ⟨q1, q2⟩ := chkGo_ok l r _ (i + 1) hr' hlt (popN_stk hn h0 S hs) h
        refine ⟨fun m hm => ?_, q2⟩
        rcases List.mem_cons.1 hm with rfl | hm
        · exact h0
        · exact q1 m hm
theorem stk_one {l : List Nd} {z : Int} {e : Nat} (S : Stk l [z] e) : Blk l 0 e := by
  cases S with
  | push S B =>
    cases S with
    | nil => exact B
/-- An expression that may be. -/
structure OkE (l : List Nd) : Prop where
  n : ∀ n ∈ l, nodeF n = 0
  b : Blk l 0 l.length
theorem chkGo_okE {l : List Nd} (h : chkGo [] 0 l = 0) : OkE l := by
  obtain ⟨h1, z, h2⟩ := chkGo_ok l l [] 0 rfl (Nat.zero_le _) .nil h
  exact ⟨h1, stk_one h2⟩
theorem exprF_ok {l : List Nd} (h : exprF l = 0) : OkE l ∧ l.length ≤ 40 := by
  unfold exprF at h
  split at h
  · cases h
  · exact ⟨chkGo_okE h, by omega⟩
theorem OkE.pos {l : List Nd} (O : OkE l) : 0 < l.length := O.b.lt.1

/-- Each node ends an expression. -/
theorem Blk.sub {l : List Nd} {f e : Nat} (B : Blk l f e) : ∀ i, f ≤ i → i < e → ∃ g, f ≤ g ∧ Blk l g (i + 1) := by
  induction B with
  | @leaf j n h h0 => intro i h1 h2; obtain rfl : i = j := by omega
                      exact ⟨i, Nat.le_refl _, .leaf h h0⟩
  | @one f j n B h h0 hx ih =>
    intro i h1 h2
    by_cases hij : i = j
    · subst hij; exact ⟨f, Nat.le_refl _, .one B h h0 hx⟩
    · exact ih i h1 (by omega)
  | @two f g j n B B' h h0 hx hy ih1 ih2 =>
    intro i h1 h2
    have := B.lt
    by_cases hij : i = j
    · subst hij; exact ⟨f, Nat.le_refl _, .two B B' h h0 hx hy⟩
    · by_cases hg : i < g
      · exact ih1 i h1 hg
      · obtain ⟨k, hk, hb⟩ := ih2 i (by omega) (by omega)
        exact ⟨k, by omega, hb⟩
/-- What a node looks at stands ahead of it. -/
structure WfN (i : Nat) (n : Nd) : Prop where
  a : 0 ≤ arI n.op
  f : n.op = 2 → 0 ≤ n.n ∧ n.n ≤ 3
  x : 1 ≤ arI n.op → 0 ≤ n.x ∧ n.x < i
  y : 2 ≤ arI n.op → 0 ≤ n.y ∧ n.y < i
def WfL (l : List Nd) : Prop := ∀ (i : Nat) (n : Nd), l[i]? = some n → WfN i n
theorem nodeF_f {n : Nd} (h : nodeF n = 0) (h2 : n.op = 2) : 0 ≤ n.n ∧ n.n ≤ 3 := by
  unfold nodeF at h
  split at h
  · cases h
  · split at h
    · cases h
    · split at h
      · cases h
      · omega
theorem OkE.wf {l : List Nd} (O : OkE l) : WfL l := by
  intro i n hn
  have hlt := (List.getElem?_eq_some_iff.1 hn).1
  have h0 := O.n n (List.mem_of_getElem? hn)
  obtain ⟨g, _, B⟩ := O.b.sub i (Nat.zero_le _) hlt
  refine ⟨nodeF_ar h0, nodeF_f h0, fun h1 => ?_, fun h1 => ?_⟩
  · cases B with
    | leaf h ha => rw [hn] at h; cases h; omega
    | one B h ha hx => rw [hn] at h; cases h; have := B.lt; omega
    | two B B' h ha hx hy => rw [hn] at h; cases h; have := B.lt; have := B'.lt; omega
  · cases B with
    | leaf h ha => rw [hn] at h; cases h; omega
    | one B h ha hx => rw [hn] at h; cases h; omega
    | two B B' h ha hx hy => rw [hn] at h; cases h; have := B.lt; have := B'.lt; omega

/-- A node whose own stand elsewhere. -/
def shN (d : Int) (n : Nd) : Nd := { n with x := if 0 < arI n.op then n.x + d else n.x, y := if 1 < arI n.op then n.y + d else n.y }
theorem shN_op (d : Int) (n : Nd) : (shN d n).op = n.op := rfl
theorem shN_0 (n : Nd) : shN 0 n = n := by
  unfold shN
  simp
theorem shN_F {d : Int} {n : Nd} (h : nodeF n = 0) : nodeF (shN d n) = 0 := by
  have ha := nodeF_ar h
  have hy : (arI n.op < 2 ∧ (shN d n).y ≠ 0) ↔ (arI n.op < 2 ∧ n.y ≠ 0) := by
    unfold shN
    simp only
    constructor <;> (rintro ⟨h1, h2⟩; rw [if_neg (by omega)] at *; exact ⟨h1, h2⟩)
  have hx : (arI n.op < 1 ∧ (shN d n).x ≠ 0) ↔ (arI n.op < 1 ∧ n.x ≠ 0) := by
    unfold shN
    simp only
    constructor <;> (rintro ⟨h1, h2⟩; rw [if_neg (by omega)] at *; exact ⟨h1, h2⟩)
  have e : nodeF (shN d n) = nodeF n := by
    unfold nodeF
    rw [shN_op]
    simp only [hx, hy]
    rfl
  rw [e]; exact h
def seg (l : List Nd) (f e : Nat) : List Nd := (l.drop f).take (e - f)
theorem seg_snoc {l : List Nd} {f i : Nat} {n : Nd} (hf : f ≤ i) (h : l[i]? = some n) : seg l f (i + 1) = seg l f i ++ [n] := by
  unfold seg
  rw [show i + 1 - f = (i - f) + 1 by omega, List.take_add_one, List.getElem?_drop, show f + (i - f) = i by omega, h]
  rfl
theorem seg_nil {l : List Nd} {f : Nat} : seg l f f = [] := by unfold seg; simp
theorem seg_app {l : List Nd} {f g e : Nat} (h1 : f ≤ g) (h2 : g ≤ e) : seg l f e = seg l f g ++ seg l g e := by
  unfold seg
  rw [show e - f = (g - f) + (e - g) by omega, List.take_add, List.drop_drop, show f + (g - f) = g by omega]
theorem seg_all (l : List Nd) : seg l 0 l.length = l := by unfold seg; simp
theorem Blk.seg_mem {l : List Nd} {f e : Nat} : ∀ n ∈ seg l f e, n ∈ l := fun n hn => List.mem_of_mem_drop (List.mem_of_mem_take hn)
/-- An expression, elsewhere: it is one there. -/
theorem Blk.chk {l : List Nd} (hN : ∀ n ∈ l, nodeF n = 0) {f e : Nat} (B : Blk l f e) : ∀ (st : List Int) (i : Nat) (r : List Nd),
    chkGo st i ((seg l f e).map (shN ((i : Int) - f)) ++ r) = chkGo ((((i + (e - f) : Nat) : Int) - 1) :: st) (i + (e - f)) r := by
  induction B with
  | @leaf j n h h0 =>
    intro st i r
    rw [seg_snoc (Nat.le_refl _) h, seg_nil]
    simp only [List.nil_append, List.map_cons, List.map_nil, List.cons_append]
    rw [chkGo, if_neg (by simp [shN_F (hN n (List.mem_of_getElem? h))])]
    unfold popN
    rw [shN_op, if_pos h0]
    simp only
    rw [show j + 1 - j = 1 by omega, show ((i + 1 : Nat) : Int) - 1 = i by omega]
  | @one f j n B h h0 hx ih =>
    intro st i r
    have hlt := B.lt
    rw [seg_snoc (by omega) h, List.map_append, List.append_assoc, ih]
    simp only [List.map_cons, List.map_nil, List.cons_append, List.nil_append]
    rw [chkGo, if_neg (by simp [shN_F (hN n (List.mem_of_getElem? h))])]
    unfold popN
    rw [shN_op, if_neg (by omega), if_pos h0]
    have e1 : (((i + (j - f) : Nat) : Int) - 1) = (shN ((i : Int) - f) n).x := by
      unfold shN
      simp only
      rw [if_pos (by omega), hx]
      omega
    simp only
    rw [if_pos e1, show j + 1 - f = (j - f) + 1 by omega]
    simp only
    rw [show ((i + (j - f + 1) : Nat) : Int) - 1 = ((i + (j - f) : Nat) : Int) by omega, ← Nat.add_assoc]
  | @two f g j n B B' h h0 hx hy ih1 ih2 =>
    intro st i r
    have hlt := B.lt
    have hlt' := B'.lt
    rw [seg_snoc (by omega) h, seg_app (g := g) (by omega) (by omega), List.map_append, List.map_append, List.append_assoc, List.append_assoc, ih1]
    have e0 : ((i : Int) - f) = (((i + (g - f) : Nat) : Int) - g) := by omega
    have e00 : (seg l g j).map (shN ((i : Int) - f)) = (seg l g j).map (shN (((i + (g - f) : Nat) : Int) - g)) := by rw [e0]
    rw [e00, ih2]
    simp only [List.map_cons, List.map_nil, List.cons_append, List.nil_append]
    rw [chkGo, if_neg (by simp [shN_F (hN n (List.mem_of_getElem? h))])]
    unfold popN
    rw [shN_op, if_neg (by omega), if_neg (by omega)]
    have e1 : (((i + (g - f) : Nat) : Int) - 1) = (shN ((i : Int) - f) n).x := by
      unfold shN
      simp only
      rw [if_pos (by omega), hx]
      omega
    have e2 : (((i + (g - f) + (j - g) : Nat) : Int) - 1) = (shN ((i : Int) - f) n).y := by
      unfold shN
      simp only
      rw [if_pos (by omega), hy]
      omega
    simp only
    rw [if_pos ⟨e1, e2⟩]
    simp only
    rw [show i + (g - f) + (j - g) + 1 = i + (j + 1 - f) by omega, show ((i + (g - f) + (j - g) : Nat) : Int) = ((i + (j + 1 - f) : Nat) : Int) - 1 by omega]
def cutL (l : List Nd) (f e : Nat) : List Nd := (seg l f e).map (shN (-(f : Int)))
theorem cutL_chk {l : List Nd} (hN : ∀ n ∈ l, nodeF n = 0) {f e : Nat} (B : Blk l f e) : chkGo [] 0 (cutL l f e) = 0 := by
  have := B.chk hN [] 0 []
  rw [List.append_nil, show ((0 : Nat) : Int) - f = -(f : Int) by omega] at this
  unfold cutL
  rw [this]
  rfl
theorem cutL_length {l : List Nd} {f e : Nat} (B : Blk l f e) : (cutL l f e).length = e - f := by
  have := B.lt
  unfold cutL seg
  rw [List.length_map, List.length_take, List.length_drop]
  omega
theorem cutL_ok {l : List Nd} (hN : ∀ n ∈ l, nodeF n = 0) (hl : l.length ≤ 40) {f e : Nat} (B : Blk l f e) : exprF (cutL l f e) = 0 := by
  have := B.lt
  unfold exprF
  rw [if_neg (by rw [cutL_length B]; omega)]
  exact cutL_chk hN B
def joinL (op : Int) (l m : List Nd) : List Nd := l ++ m.map (shN l.length) ++ [⟨op, (l.length : Int) - 1, if 1 < arI op then ((l.length + m.length : Nat) : Int) - 1 else 0, 0, (0, 0)⟩]
theorem joinL_length (op : Int) (l m : List Nd) : (joinL op l m).length = l.length + m.length + 1 := by simp [joinL]; omega
theorem OkE.chk {l : List Nd} (O : OkE l) (st : List Int) (i : Nat) (r : List Nd) : chkGo st i (l.map (shN (i : Int)) ++ r) = chkGo ((((i + l.length : Nat) : Int) - 1) :: st) (i + l.length) r := by
  have := O.b.chk O.n st i r
  rw [seg_all, Nat.sub_zero, show ((i : Int) - (0 : Nat)) = i by omega] at this
  exact this
theorem map_sh0 (l : List Nd) : l.map (shN ((0 : Nat) : Int)) = l := by
  have : shN ((0 : Nat) : Int) = id := by funext n; exact shN_0 n
  rw [this, List.map_id]
theorem goodV0 : goodV (0, 0) := by unfold goodV; simp
theorem joinL_chk2 {op : Int} (ho : arI op = 2) {l m : List Nd} (O : OkE l) (O' : OkE m) : chkGo [] 0 (joinL op l m) = 0 := by
  have h1 := O.chk [] 0 (m.map (shN (l.length : Int)) ++ [⟨op, (l.length : Int) - 1, if 1 < arI op then ((l.length + m.length : Nat) : Int) - 1 else 0, 0, (0, 0)⟩])
  rw [map_sh0, Nat.zero_add] at h1
  unfold joinL
  rw [List.append_assoc, h1, O'.chk]
  have hF : nodeF ⟨op, (l.length : Int) - 1, if 1 < arI op then ((l.length + m.length : Nat) : Int) - 1 else 0, 0, (0, 0)⟩ = 0 := by
    unfold nodeF
    simp only
    rw [if_neg (by omega), if_neg (by rintro (⟨_, h⟩ | ⟨_, h⟩ | ⟨h, _⟩ | ⟨h, _⟩) <;> first | exact h rfl | omega), if_neg (by omega), if_neg (by simp [goodV0])]
  have hp : popN ⟨op, (l.length : Int) - 1, if 1 < arI op then ((l.length + m.length : Nat) : Int) - 1 else 0, 0, (0, 0)⟩ [((l.length + m.length : Nat) : Int) - 1, (l.length : Int) - 1] = some [] := by
    unfold popN
    rw [if_neg (by omega : ¬ arI op = 0), if_neg (by omega : ¬ arI op = 1)]
    exact if_pos ⟨rfl, by simp only; rw [if_pos (by omega)]⟩
  rw [chkGo, if_neg (fun h => h hF), hp]
  rfl
theorem joinL_chk1 {op : Int} (ho : arI op = 1) {l : List Nd} (O : OkE l) : chkGo [] 0 (joinL op l []) = 0 := by
  have h1 := O.chk [] 0 ([⟨op, (l.length : Int) - 1, if 1 < arI op then ((l.length + ([] : List Nd).length : Nat) : Int) - 1 else 0, 0, (0, 0)⟩])
  rw [map_sh0, Nat.zero_add] at h1
  unfold joinL
  rw [List.map_nil, List.append_nil, h1]
  have hF : nodeF ⟨op, (l.length : Int) - 1, if 1 < arI op then ((l.length + ([] : List Nd).length : Nat) : Int) - 1 else 0, 0, (0, 0)⟩ = 0 := by
    unfold nodeF
    simp only
    rw [if_neg (by omega), if_neg (by rw [if_neg (by omega)]; rintro (⟨_, h⟩ | ⟨_, h⟩ | ⟨_, h⟩ | ⟨h, _⟩) <;> first | exact h rfl | omega), if_neg (by omega), if_neg (by simp [goodV0])]
  have hp : popN ⟨op, (l.length : Int) - 1, if 1 < arI op then ((l.length + ([] : List Nd).length : Nat) : Int) - 1 else 0, 0, (0, 0)⟩ [(l.length : Int) - 1] = some [] := by
    unfold popN
    rw [if_neg (by omega : ¬ arI op = 0), if_pos ho]
    exact if_pos rfl
  rw [chkGo, if_neg (fun h => h hF), hp]
  rfl
end Go.Proofs.YtonlacplogbodaaDoor
/-
  The plain law of expressions, part 2: values and kinds, node by node; what they are in what is put together. No program in sight. Conditions: none.
-/
namespace Go.Proofs.YtonlacplogbodaaDoor
open Go Go.Vc
set_option linter.unusedVariables false

section
variable {β : Type} (d : β) (F : Nd → β → β → β)
/-- What each node is worth, from the first on. -/
def fwd (l : List Nd) : List β := l.foldl (fun outs n => outs ++ [F n (outs.getD n.x.toNat d) (outs.getD n.y.toNat d)]) []
def fAt (l : List Nd) (i : Nat) : β := (fwd d F l).getD i d
/-- A node looks at its own alone. -/
def Own2 : Prop := ∀ (n : Nd) (a b a' b' : β), 0 ≤ arI n.op → (1 ≤ arI n.op → a = a') → (2 ≤ arI n.op → b = b') → F n a b = F n a' b'
end
section
variable {β : Type} {d : β} {F : Nd → β → β → β}
theorem fwd_snoc (l : List Nd) (n : Nd) : fwd d F (l ++ [n]) = fwd d F l ++ [F n ((fwd d F l).getD n.x.toNat d) ((fwd d F l).getD n.y.toNat d)] := by
  unfold fwd
  rw [List.foldl_append]
  rfl
theorem fwd_nil : fwd d F [] = [] := rfl
theorem fwd_length (l : List Nd) : (fwd d F l).length = l.length := by
  have key : ∀ (l : List Nd) (o : List β), (l.foldl (fun outs n => outs ++ [F n (outs.getD n.x.toNat d) (outs.getD n.y.toNat d)]) o).length = o.length + l.length := by
    intro l
    induction l with
    | nil => intro o; rfl
    | cons n l ih => intro o; rw [List.foldl_cons, ih]; simp; omega
  have := key l []
  simpa [fwd] using this
theorem fwd_pre (l r : List Nd) : ∃ t, fwd d F (l ++ r) = fwd d F l ++ t := by
  have key : ∀ (l : List Nd) (o : List β), ∃ t, l.foldl (fun outs n => outs ++ [F n (outs.getD n.x.toNat d) (outs.getD n.y.toNat d)]) o = o ++ t := by
    intro l
    induction l with
    | nil => intro o; exact ⟨[], by simp⟩
    | cons n l ih =>
      intro o
      rw [List.foldl_cons]
      obtain ⟨t, ht⟩ := ih (o ++ [F n (o.getD n.x.toNat d) (o.getD n.y.toNat d)])
      exact ⟨_, by rw [ht, List.append_assoc]⟩
  unfold fwd
  rw [List.foldl_append]
  exact key r _
theorem fAt_pre (l r : List Nd) {i : Nat} (h : i < l.length) : fAt d F (l ++ r) i = fAt d F l i := by
  obtain ⟨t, ht⟩ := fwd_pre (d := d) (F := F) l r
  unfold fAt
  rw [ht, List.getD_eq_getElem?_getD, List.getElem?_append_left (by rw [fwd_length]; exact h), ← List.getD_eq_getElem?_getD]
theorem fAt_take (l : List Nd) {i k : Nat} (h : i < k) (hk : k ≤ l.length) : (fwd d F (l.take k)).getD i d = fAt d F l i := by
  have := fAt_pre (d := d) (F := F) (l.take k) (l.drop k) (i := i) (by rw [List.length_take]; omega)
  rw [List.take_append_drop] at this
  rw [this]
  rfl
theorem fwd_take (l : List Nd) {i : Nat} {n : Nd} (hn : l[i]? = some n) : fwd d F (l.take (i + 1)) = fwd d F (l.take i) ++ [fAt d F l i] := by
  have hlt := (List.getElem?_eq_some_iff.1 hn).1
  have e : l.take (i + 1) = l.take i ++ [n] := by rw [List.take_add_one, hn]; rfl
  have e2 : fAt d F l i = F n ((fwd d F (l.take i)).getD n.x.toNat d) ((fwd d F (l.take i)).getD n.y.toNat d) := by
    rw [← fAt_take l (Nat.lt_succ_self i) hlt, e, fwd_snoc, List.getD_eq_getElem?_getD, List.getElem?_append_right (by rw [fwd_length, List.length_take]; omega)]
    rw [fwd_length, List.length_take, Nat.min_eq_left (by omega), Nat.sub_self]
    rfl
  rw [e, fwd_snoc, ← e2]
theorem fAt_wf (hF : Own2 F) {l : List Nd} {i : Nat} {n : Nd} (hn : l[i]? = some n) (W : WfN i n) : fAt d F l i = F n (fAt d F l n.x.toNat) (fAt d F l n.y.toNat) := by
  have hlt := (List.getElem?_eq_some_iff.1 hn).1
  have e : l.take (i + 1) = l.take i ++ [n] := by rw [List.take_add_one, hn]; rfl
  rw [← fAt_take l (Nat.lt_succ_self i) hlt, e, fwd_snoc, List.getD_eq_getElem?_getD, List.getElem?_append_right (by rw [fwd_length, List.length_take]; omega)]
  rw [fwd_length, List.length_take, Nat.min_eq_left (by omega), Nat.sub_self]
  refine hF n _ _ _ _ W.a (fun h => ?_) fun h => ?_
  · have := W.x h; exact fAt_take l (by omega) (by omega)
  · have := W.y h; exact fAt_take l (by omega) (by omega)
theorem WfN.sh {i d : Nat} {n : Nd} (W : WfN i n) : WfN (d + i) (shN d n) where
  a := W.a
  f := W.f
  x := fun h => by
    have h : 1 ≤ arI n.op := h
    have := W.x h
    unfold shN
    simp only
    rw [if_pos (by omega)]
    omega
  y := fun h => by
    have h : 2 ≤ arI n.op := h
    have := W.y h
    unfold shN
    simp only
    rw [if_pos (by omega)]
    omega
theorem fAt_sh (hF : Own2 F) (hS : ∀ (k : Int) n a b, F (shN k n) a b = F n a b) {m : List Nd} (W : WfL m) (l r : List Nd) : ∀ k, k < m.length → fAt d F (l ++ m.map (shN l.length) ++ r) (l.length + k) = fAt d F m k := by
  intro k
  induction k using Nat.strongRecOn with
  | _ k ih =>
    intro hk
    have hm : m[k]? = some m[k] := List.getElem?_eq_getElem hk
    have hj : (l ++ m.map (shN l.length) ++ r)[l.length + k]? = some (shN l.length m[k]) := by
      rw [List.append_assoc, List.getElem?_append_right (by omega), show l.length + k - l.length = k by omega, List.getElem?_append_left (by simpa using hk), List.getElem?_map, hm]
      rfl
    have Wk := W k _ hm
    rw [fAt_wf hF hj Wk.sh, fAt_wf hF hm Wk, hS]
    refine hF _ _ _ _ _ Wk.a (fun h => ?_) fun h => ?_
    · have hx := Wk.x h
      have : (shN (l.length : Int) m[k]).x.toNat = l.length + m[k].x.toNat := by
        unfold shN
        simp only
        rw [if_pos (by omega)]
        omega
      rw [this]
      exact ih _ (by omega) (by omega)
    · have hy := Wk.y h
      have : (shN (l.length : Int) m[k]).y.toNat = l.length + m[k].y.toNat := by
        unfold shN
        simp only
        rw [if_pos (by omega)]
        omega
      rw [this]
      exact ih _ (by omega) (by omega)
end

def fieldV (e : EvL) (n : Int) : Int × Int := if n = 0 then numV e.1 else if n = 1 then e.2.1 else if n = 2 then e.2.2.1 else e.2.2.2
def stepF (e : EvL) (n : Nd) (a b : Int × Int) : Int × Int :=
  if n.op = 1 then n.v else if n.op = 2 then fieldV e n.n else if n.op = 3 then negV a else if n.op = 4 then notV a else if n.op = 5 then truthV (decide (a.1 = 0)) else doV n.op a b
abbrev vAt (e : EvL) (l : List Nd) (i : Nat) : Int × Int := fAt (0, 0) (stepF e) l i
def wantT (op : Int) : Int := if op = 4 ∨ op = 9 ∨ op = 10 then 2 else 1
def tyG (op : Int) : Option Int → Option Int → Option Int
  | some a, some b => if op = 5 then some 2 else if (a ≠ 0 ∧ a ≠ wantT op) ∨ (b ≠ 0 ∧ b ≠ wantT op) then none else if op = 11 ∨ op = 12 then some 2 else some (wantT op)
  | _, _ => none
def tyF (n : Nd) (a b : Option Int) : Option Int := if n.op = 1 then some n.v.1 else if n.op = 2 then some 1 else tyG n.op a (if arI n.op = 2 then b else a)
abbrev tAt (l : List Nd) (i : Nat) : Option Int := fAt none tyF l i
theorem ar0 {op : Int} (h : 0 ≤ arI op) : (arI op = 0 ↔ op = 1 ∨ op = 2) ∧ (arI op = 1 ↔ op = 3 ∨ op = 4 ∨ op = 5) ∧ (arI op = 2 ↔ 6 ≤ op ∧ op ≤ 12) := by
  unfold arI at *
  split
  · omega
  · split
    · omega
    · split
      · omega
      · rename_i h1 h2 h3; rw [if_neg h1, if_neg h2, if_neg h3] at h; cases h
theorem own_stepF (e : EvL) : Own2 (stepF e) := by
  intro n a b a' b' h ha hb
  have := ar0 h
  unfold stepF
  split
  · rfl
  · split
    · rfl
    · have h1 : 1 ≤ arI n.op := by rcases arI_range h with q | q | q <;> omega
      rw [ha h1]
      split
      · rfl
      · split
        · rfl
        · split
          · rfl
          · rw [hb (by rcases arI_range h with q | q | q <;> omega)]
theorem own_tyF : Own2 tyF := by
  intro n a b a' b' h ha hb
  have := ar0 h
  unfold tyF
  split
  · rfl
  · split
    · rfl
    · have h1 : 1 ≤ arI n.op := by rcases arI_range h with q | q | q <;> omega
      rw [ha h1]
      split
      · rename_i h2; rw [hb (by omega)]
      · rfl
theorem stepF_sh (e : EvL) (k : Int) (n : Nd) (a b : Int × Int) : stepF e (shN k n) a b = stepF e n a b := rfl
theorem tyF_op {n : Nd} (h1 : ¬ n.op = 1) (h2 : ¬ n.op = 2) (a b : Option Int) : tyF n a b = tyG n.op a (if arI n.op = 2 then b else a) := by
  unfold tyF
  rw [if_neg h1, if_neg h2]
theorem stepF_do (e : EvL) {n : Nd} (h : 6 ≤ n.op) (a b : Int × Int) : stepF e n a b = doV n.op a b := by
  unfold stepF
  rw [if_neg (by omega), if_neg (by omega), if_neg (by omega), if_neg (by omega), if_neg (by omega)]
theorem tyG_none (op : Int) (b : Option Int) : tyG op none b = none ∧ tyG op b none = none := by
  cases b <;> exact ⟨rfl, rfl⟩
/-- A node that has a kind: so do all that it has. -/
theorem Blk.ty {l : List Nd} (W : WfL l) {f e : Nat} (B : Blk l f e) : tAt l (e - 1) ≠ none → ∀ i, f ≤ i → i < e → tAt l i ≠ none := by
  induction B with
  | @leaf j n h h0 => intro ht i h1 h2; obtain rfl : i = j := by omega
                      exact ht
  | @one f j n B h h0 hx ih =>
    intro ht i h1 h2
    by_cases hij : i = j
    · subst hij; exact ht
    · have hw := W j n h
      have := ar0 hw.a
      have hlt := B.lt
      refine ih (fun hn => ht ?_) i h1 (by omega)
      rw [Nat.add_sub_cancel, tAt, fAt_wf own_tyF h hw]
      rw [tyF_op (by omega) (by omega), show n.x.toNat = j - 1 by omega, (show fAt none tyF l _ = none from hn)]
      exact (tyG_none _ _).1
  | @two f g j n B B' h h0 hx hy ih1 ih2 =>
    intro ht i h1 h2
    have hlt := B.lt
    have hlt' := B'.lt
    have hw := W j n h
    have := ar0 hw.a
    by_cases hij : i = j
    · subst hij; exact ht
    · by_cases hg : i < g
      · refine ih1 (fun hn => ht ?_) i h1 hg
        rw [Nat.add_sub_cancel, tAt, fAt_wf own_tyF h hw]
        rw [tyF_op (by omega) (by omega), show n.x.toNat = g - 1 by omega, (show fAt none tyF l _ = none from hn)]
        exact (tyG_none _ _).1
      · refine ih2 (fun hn => ht ?_) i (by omega) (by omega)
        rw [Nat.add_sub_cancel, tAt, fAt_wf own_tyF h hw]
        rw [tyF_op (by omega) (by omega), if_pos h0, show n.y.toNat = j - 1 by omega, (show fAt none tyF l _ = none from hn)]
        exact (tyG_none _ _).2
/-- The value of a whole expression; its kind. -/
def valE (e : EvL) (l : List Nd) : Int × Int := vAt e l (l.length - 1)
def typE (l : List Nd) : Int × Int := match tAt l (l.length - 1) with
  | some t => (t, 0)
  | none => (0, 3)
theorem WfL.join {op : Int} (ho : 0 ≤ arI op) {l m : List Nd} (W : WfL l) (W' : WfL m) (hl : 0 < l.length) (hm : 2 ≤ arI op → 0 < m.length) (h2 : op ≠ 2) : WfL (joinL op l m) := by
  intro i n hn
  unfold joinL at hn
  by_cases h1 : i < l.length
  · rw [List.append_assoc, List.getElem?_append_left h1] at hn
    exact W i n hn
  · rw [List.append_assoc, List.getElem?_append_right (by omega)] at hn
    by_cases h3 : i - l.length < m.length
    · rw [List.getElem?_append_left (by simpa using h3), List.getElem?_map, Option.map_eq_some_iff] at hn
      obtain ⟨n', hn', rfl⟩ := hn
      have := (W' _ _ hn').sh (d := l.length)
      rw [show l.length + (i - l.length) = i by omega] at this
      exact this
    · rw [List.getElem?_append_right (by simp; omega), List.getElem?_singleton] at hn
      split at hn
      · rename_i h4
        cases hn
        rw [List.length_map] at h4
        refine ⟨ho, fun h => absurd h h2, fun h => ?_, fun h => ?_⟩
        · simp only; omega
        · simp only at h ⊢
          have := hm h
          rw [if_pos (by omega)]
          omega
      · cases hn
theorem valE_join2 (e : EvL) {op : Int} (ho : arI op = 2) {l m : List Nd} (W : WfL l) (W' : WfL m) (hl : 0 < l.length) (hm : 0 < m.length) : valE e (joinL op l m) = doV op (valE e l) (valE e m) := by
  have ha := ar0 (op := op) (by omega)
  have WJ := WfL.join (op := op) (by omega) W W' hl (fun _ => hm) (by omega)
  unfold valE
  rw [joinL_length, show l.length + m.length + 1 - 1 = l.length + m.length by omega]
  have hj : (joinL op l m)[l.length + m.length]? = some ⟨op, (l.length : Int) - 1, if 1 < arI op then ((l.length + m.length : Nat) : Int) - 1 else 0, 0, (0, 0)⟩ := by
    unfold joinL
    rw [List.getElem?_append_right (by simp)]
    simp
  rw [vAt, fAt_wf (own_stepF e) hj (WJ _ _ hj)]
  rw [stepF_do e (by simp only; omega)]
  simp only
  rw [if_pos (by omega : 1 < arI op)]
  have e1 : ((l.length : Int) - 1).toNat = l.length - 1 := by omega
  have e2 : (((l.length + m.length : Nat) : Int) - 1).toNat = l.length + (m.length - 1) := by omega
  rw [e1, e2]
  have q1 : fAt (0, 0) (stepF e) (joinL op l m) (l.length - 1) = fAt (0, 0) (stepF e) l (l.length - 1) := by
    unfold joinL
    rw [List.append_assoc]
    exact fAt_pre _ _ (by omega)
  have q2 : fAt (0, 0) (stepF e) (joinL op l m) (l.length + (m.length - 1)) = fAt (0, 0) (stepF e) m (m.length - 1) :=
    fAt_sh (own_stepF e) (stepF_sh e) W' l _ _ (by omega)
  rw [q1, q2]
theorem valE_joinN (e : EvL) {l : List Nd} (W : WfL l) (hl : 0 < l.length) : valE e (joinL 5 l []) = truthV (decide ((valE e l).1 = 0)) := by
  have WJ := WfL.join (op := 5) (by decide) W (m := []) (by intro i n hn; cases hn) hl (fun h => absurd h (by decide)) (by decide)
  unfold valE
  rw [joinL_length, show l.length + ([] : List Nd).length + 1 - 1 = l.length by simp]
  have hj : (joinL 5 l [])[l.length]? = some ⟨5, (l.length : Int) - 1, 0, 0, (0, 0)⟩ := by
    unfold joinL
    rw [List.getElem?_append_right (by simp)]
    simp [arI]
  rw [vAt, fAt_wf (own_stepF e) hj (WJ _ _ hj)]
  have e1 : ((l.length : Int) - 1).toNat = l.length - 1 := by omega
  have q1 : fAt (0, 0) (stepF e) (joinL 5 l []) (l.length - 1) = fAt (0, 0) (stepF e) l (l.length - 1) := by
    unfold joinL
    rw [List.append_assoc]
    exact fAt_pre _ _ (by omega)
  simp only [e1, q1]
  rfl
end Go.Proofs.YtonlacplogbodaaDoor
/-
  The plain law of numbers as texts: what is read is what is written, and nothing else. No program in sight. Conditions: none.
-/
namespace Go.Txt
open Go.Lib
set_option linter.unusedVariables false

def isD (c : UInt8) : Prop := 48 ≤ c.toNat ∧ c.toNat ≤ 57
instance (c : UInt8) : Decidable (isD c) := by unfold isD; infer_instance
def dv (c : UInt8) : Nat := c.toNat - 48
def valF : Nat → List UInt8 → Nat
  | a, [] => a
  | a, c :: l => valF (10 * a + dv c) l
theorem valF_snoc : ∀ (l : List UInt8) (a : Nat) (c : UInt8), valF a (l ++ [c]) = 10 * valF a l + dv c
  | [], a, c => rfl
  | x :: l, a, c => by
    exact valF_snoc l (10 * a + dv x) c
theorem valF_ge : ∀ (l : List UInt8) (a : Nat), a ≤ valF a l
  | [], a => Nat.le_refl _
  | c :: l, a => by
    have := valF_ge l (10 * a + dv c)
    have e : valF a (c :: l) = valF (10 * a + dv c) l := rfl
    omega
theorem ofNat_toNat {d : Nat} (h : d < 10) : (UInt8.ofNat (48 + d)).toNat = 48 + d := by
  simp
  omega
theorem dec_spec : ∀ u : Nat, (∀ c ∈ decDigits u, isD c) ∧ valF 0 (decDigits u) = u ∧ decDigits u ≠ [] ∧ ((decDigits u).head? = some 48 → u = 0) := by
  intro u
  induction u using Nat.strongRecOn with
  | _ u ih =>
    by_cases h : u < 10
    · rw [decDigits_one h]
      have e := ofNat_toNat h
      refine ⟨fun c hc => ?_, ?_, by simp, fun hh => ?_⟩
      · rw [List.mem_singleton] at hc; subst hc; unfold isD; omega
      · show 10 * 0 + dv (UInt8.ofNat (48 + u)) = u
        unfold dv; omega
      · simp only [List.head?_cons, Option.some.injEq] at hh
        have := congrArg UInt8.toNat hh
        rw [e] at this
        simp at this
        omega
    · obtain ⟨h1, h2, h3, h4⟩ := ih (u / 10) (by omega)
      have hd : decDigits u = decDigits (u / 10) ++ [UInt8.ofNat (48 + u % 10)] := by rw [decDigits, dif_neg h]
      have e := ofNat_toNat (d := u % 10) (by omega)
      rw [hd]
      refine ⟨fun c hc => ?_, ?_, by simp, fun hh => ?_⟩
      · rcases List.mem_append.1 hc with hc | hc
        · exact h1 c hc
        · rw [List.mem_singleton] at hc; subst hc; unfold isD; omega
      · rw [valF_snoc, h2]; unfold dv; omega
      · match hx : decDigits (u / 10), h3 with
        | x :: l, _ =>
          rw [hx] at hh h4
          have := h4 hh
          omega
/-- Digits without noughts ahead are what is written of their number. -/
theorem digits_dec : ∀ (k : Nat) (l : List UInt8), l.length = k → l ≠ [] → (∀ c ∈ l, isD c) → (l.head? = some 48 → l.length = 1) → decDigits (valF 0 l) = l := by
  intro k
  induction k using Nat.strongRecOn with
  | _ k ih =>
    intro l hk hne hd hh
    obtain ⟨l', c, rfl⟩ : ∃ l' c, l = l' ++ [c] := ⟨l.dropLast, l.getLast hne, (List.dropLast_concat_getLast hne).symm⟩
    have hc := hd c (by simp)
    unfold isD at hc
    have ec : UInt8.ofNat (48 + dv c) = c := by
      unfold dv
      rw [show 48 + (c.toNat - 48) = c.toNat by omega]
      simp
    rw [valF_snoc]
    match l', hk, hd, hh, hne with
    | [], _, _, _, _ =>
      show decDigits (10 * 0 + dv c) = [c]
      rw [Nat.mul_zero, Nat.zero_add, decDigits_one (by unfold dv; omega), ec]
    | x :: l2, hk, hd, hh, _ =>
      have hx : x ≠ 48 := fun e => by
        have := hh (by rw [e]; rfl)
        simp at this
      have h1 := ih (x :: l2).length (by simp at hk ⊢; omega) (x :: l2) rfl (by simp) (fun c hc => hd c (List.mem_append_left _ hc)) (fun e => absurd (by simpa using e) hx)
      have h2 : valF 0 (x :: l2) ≠ 0 := fun e => by
        rw [e, decDigits_one (by decide)] at h1
        have := congrArg List.head? h1
        simp at this
        exact hx this.symm
      have e1 : (10 * valF 0 (x :: l2) + dv c) / 10 = valF 0 (x :: l2) := by unfold dv; omega
      have e2 : (10 * valF 0 (x :: l2) + dv c) % 10 = dv c := by unfold dv; omega
      rw [decDigits, dif_neg (by omega), e1, e2, h1, ec]
/-- A natural number of a text, as the document reads it. -/
def natGo (most : Int) : Int → List UInt8 → Int
  | a, [] => a
  | a, c :: l => if c.toNat < 48 ∨ c.toNat > 57 then -1 else if 10 * a + ((c.toNat : Int) - 48) > most then -1 else natGo most (10 * a + ((c.toNat : Int) - 48)) l
def natF (l : List UInt8) (most : Int) (plain : Bool) : Int := if l = [] ∨ (plain = true ∧ l.head? = some 48 ∧ 1 < l.length) then -1 else natGo most 0 l
theorem natGo_spec (most : Int) : ∀ (l : List UInt8) (a : Nat), (a : Int) ≤ most → natGo most a l = if (∀ c ∈ l, isD c) ∧ (valF a l : Int) ≤ most then (valF a l : Int) else -1
  | [], a, ha => by
    have hv0 : valF a [] = a := rfl
    rw [natGo, hv0, if_pos ⟨by simp, ha⟩]
  | c :: l, a, ha => by
    have hv0 : valF a (c :: l) = valF (10 * a + dv c) l := rfl
    rw [natGo, hv0]
    by_cases hc : isD c
    · have hc' := hc
      unfold isD at hc'
      have e : (10 * (a : Int) + ((c.toNat : Int) - 48)) = ((10 * a + dv c : Nat) : Int) := by unfold dv; omega
      rw [if_neg (by omega), e]
      by_cases hm : ((10 * a + dv c : Nat) : Int) > most
      · rw [if_pos hm, if_neg]
        rintro ⟨_, h⟩
        have := valF_ge l (10 * a + dv c)
        omega
      · rw [if_neg hm, natGo_spec most l _ (by omega)]
        have : (∀ x ∈ c :: l, isD x) ↔ ∀ x ∈ l, isD x := ⟨fun h x hx => h x (List.mem_cons_of_mem _ hx), fun h x hx => by
          rcases List.mem_cons.1 hx with rfl | hx
          · exact hc
          · exact h x hx⟩
        simp only [this]
    · have hc' := hc
      unfold isD at hc'
      rw [if_pos (by omega), if_neg]
      rintro ⟨h, _⟩
      exact hc (h c (List.mem_cons_self ..))
/-- It reads what is written, and nothing else. -/
theorem natF_dec {k : Nat} {most : Int} (h : (k : Int) ≤ most) (hm : 0 ≤ most) : natF (decDigits k) most true = k := by
  obtain ⟨h1, h2, h3, h4⟩ := dec_spec k
  unfold natF
  rw [if_neg]
  · have := natGo_spec most (decDigits k) 0 hm
    rw [h2, if_pos ⟨h1, h⟩] at this
    exact this
  · rintro (h | ⟨_, h, h5⟩)
    · exact h3 h
    · have := h4 h
      subst this
      rw [decDigits_one (by decide)] at h5
      simp at h5
theorem natF_inv {l : List UInt8} {most : Int} (hm : 0 ≤ most) (h : 0 ≤ natF l most true) : l = decDigits (natF l most true).toNat ∧ natF l most true ≤ most := by
  unfold natF at h ⊢
  split at h
  · omega
  · rename_i h1
    have hg := natGo_spec most l 0 hm
    simp only [Int.natCast_zero] at hg
    rw [if_neg h1]
    rw [hg] at h ⊢
    split at h
    · rename_i h2
      rw [if_pos h2]
      refine ⟨?_, h2.2⟩
      rw [Int.toNat_natCast]
      refine (digits_dec _ l rfl (fun e => h1 (.inl e)) h2.1 fun e => ?_).symm
      have : ¬ 1 < l.length := fun h3 => h1 (.inr ⟨rfl, e, h3⟩)
      have : l ≠ [] := fun e => h1 (.inl e)
      have := List.length_pos_iff.2 this
      omega
    · omega
theorem parse_spec : ∀ (l : List UInt8) (a : Nat), (∀ c ∈ l, isD c) → valF a l < 1844674407370955162 → parseUint10 a l = .ok (valF a l)
  | [], a, _, _ => rfl
  | c :: l, a, hd, hv => by
    have hc := hd c (List.mem_cons_self ..)
    have hc' := hc
    unfold isD at hc'
    have hv0 : valF a (c :: l) = valF (10 * a + dv c) l := rfl
    rw [hv0] at hv ⊢
    have hg := valF_ge l (10 * a + dv c)
    have ed : dv c = c.toNat - 48 := rfl
    rw [parseUint10, if_pos hc', if_neg (by omega), if_neg (by omega)]
    have := parse_spec l (10 * a + dv c) (fun x hx => hd x (List.mem_cons_of_mem _ hx)) hv
    rw [ed, Nat.mul_comm] at this
    rw [this, ed, Nat.mul_comm]
theorem atoi_itoa {n : Int} (h0 : -1000000000000 ≤ n) (h1 : n ≤ 1000000000000) : atoiAll (itoa n) = .ok n := by
  unfold itoa
  split
  · rename_i hn
    obtain ⟨d1, d2, d3, d4⟩ := dec_spec n.natAbs
    unfold atoiAll
    simp only
    rw [if_pos (.inr (by decide))]
    unfold parseMag
    rw [if_neg d3, parse_spec _ _ d1 (by rw [d2]; omega), d2]
    simp only
    rw [if_neg (by intro h; exact h.1 (by decide)), if_neg (by omega), if_pos (by decide)]
    congr 1
    omega
  · rename_i hn
    obtain ⟨d1, d2, d3, d4⟩ := dec_spec n.toNat
    have hp : parseMag (decDigits n.toNat) = .ok n.toNat := by
      unfold parseMag
      rw [if_neg d3, parse_spec _ _ d1 (by rw [d2]; omega), d2]
    unfold atoiAll
    match hx : decDigits n.toNat, d3 with
    | c :: r, _ =>
      rw [hx] at d1 hp
      have hc := d1 c (List.mem_cons_self ..)
      unfold isD at hc
      simp only
      rw [if_neg (by omega), hp]
      simp only
      rw [if_neg (by omega), if_neg (by omega), if_neg (by omega)]
      congr 1
      omega
end Go.Txt
/-
  Words of values. Conditions: none.
-/
namespace Go.Proofs.YtonlacplogbodaaDoor
def wNull : List UInt8 := [110, 117, 108, 108]
def wTrue : List UInt8 := [116, 114, 117, 101]
def wFalse : List UInt8 := [102, 97, 108, 115, 101]
end Go.Proofs.YtonlacplogbodaaDoor
/-
  Plain law: a question is read from words. Conditions: none.
-/
namespace Go.Proofs.YtonlacplogbodaaDoor
open Go Go.Vc Go.Txt
set_option linter.unusedVariables false

abbrev Wd := List UInt8
/-- What a reader has: words that are left, how deep it is, what is wrong (0: nothing); behind a fault there are no words. -/
structure RS where
  ws : List Wd
  deep : Int
  f : Int
def RS.fail (s : RS) (f : Int) : RS := ⟨[], s.deep, if s.f = 0 then f else s.f⟩
def RS.is (s : RS) (l : List Wd) : Wd × RS :=
  match s.ws with
  | [] => ([], s)
  | w :: r => if w ∈ l then (w, ⟨r, s.deep, s.f⟩) else ([], s)
def RS.must (s : RS) (w : Wd) : RS := if (s.is [w]).1 = [] then (s.is [w]).2.fail 4 else (s.is [w]).2
def RS.number (s : RS) (most : Int) : Int × RS :=
  match s.ws with
  | [] => (0, s.fail 4)
  | w :: r => if natF w most false < 0 then (0, s.fail 4) else (natF w most false, ⟨r, s.deep, s.f⟩)
def leafN : Nd := ⟨1, 0, 0, 0, (0, 0)⟩
def joinP (op : Int) (x y : List Nd) (s : RS) : List Nd × RS := if x.length + y.length ≥ 40 then ([leafN], s.fail 2) else (joinL op x y, s)
abbrev Ps := RS → List Nd × RS
def downP (p : Ps) : Ps := fun s =>
  let s1 : RS := ⟨s.ws, s.deep + 1, s.f⟩
  let s2 : RS := if s.deep + 1 > 12 then s1.fail 2 else s1
  let r := p s2
  (r.1, ⟨r.2.ws, r.2.deep - 1, r.2.f⟩)
def wOpen : Wd := [40]
def wClose : Wd := [41]
def wNot : Wd := [110, 111, 116]
def wIs : Wd := [105, 115]
def wAnd : Wd := [97, 110, 100]
def wOr : Wd := [111, 114]
def wStar : Wd := [42]
def wPlus : Wd := [43]
def wMinus : Wd := [45]
def wLt : Wd := [60]
def wGt : Wd := [62]
def wLe : Wd := [60, 61]
def wGe : Wd := [62, 61]
def wEq : Wd := [61]
def wNe : Wd := [60, 62]
def fieldW : List Wd := [[116], [107], [97], [98]]
/-- The value of such a word. -/
def constV (w : Wd) : Int × Int := if w = wNull then (0, 0) else (2, if w = wTrue then 1 else 0)
def constW : List Wd := [wNull, wTrue, wFalse]
def atomP (orP : Ps) : Ps := fun s =>
  let w := (s.is ([wOpen] ++ constW ++ fieldW)).1
  let s1 := (s.is ([wOpen] ++ constW ++ fieldW)).2
  if w = wOpen then ((downP orP s1).1, (downP orP s1).2.must wClose)
  else if w ∈ constW then ([⟨1, 0, 0, 0, constV w⟩], s1)
  else if w = [] then ([⟨1, 0, 0, 0, (1, (s1.number 1000000000).1)⟩], (s1.number 1000000000).2)
  else ([⟨2, 0, 0, fieldW.idxOf w, (0, 0)⟩], s1)
def unaryP (un atom : Ps) : Ps := fun s =>
  if (s.is [wMinus]).1 = [] then atom s else
    joinP 3 (downP un (s.is [wMinus]).2).1 [] (downP un (s.is [wMinus]).2).2
def opOf (ops : List (Wd × Int)) (w : Wd) : Int := ((ops.find? fun p => p.1 = w).map (·.2)).getD 0
def rowL (next : Ps) (ops : List (Wd × Int)) : Nat → List Nd → Ps
  | 0, x, s => (x, s)
  | k + 1, x, s => if s.f ≠ 0 then (x, s) else
    let w := (s.is (ops.map (·.1))).1
    let s1 := (s.is (ops.map (·.1))).2
    if w = [] then (x, s1) else
      let j := joinP (opOf ops w) x (next s1).1 (next s1).2
      rowL next ops k j.1 j.2
def rowP (next : Ps) (ops : List (Wd × Int)) : Ps := fun s => rowL next ops ((next s).2.ws.length + 1) (next s).1 (next s).2
def cmpP (sum : Ps) : Ps := fun s =>
  let x := (sum s).1
  let s0 := (sum s).2
  let w := (s0.is [wLt, wGt, wLe, wGe, wEq, wNe, wIs]).1
  let s1 := (s0.is [wLt, wGt, wLe, wGe, wEq, wNe, wIs]).2
  let y := (sum s1).1
  let s2 := (sum s1).2
  if w = wLt then joinP 11 x y s2
  else if w = wGt then joinP 11 y x s2
  else if w = wLe then joinP 4 (joinP 11 y x s2).1 [] (joinP 11 y x s2).2
  else if w = wGe then joinP 4 (joinP 11 x y s2).1 [] (joinP 11 x y s2).2
  else if w = wEq then joinP 12 x y s2
  else if w = wNe then joinP 4 (joinP 12 x y s2).1 [] (joinP 12 x y s2).2
  else if w = wIs then
    let n := (s1.is [wNot]).1
    let s3 := (s1.is [wNot]).2.must wNull
    let j := joinP 5 x [] s3
    if n ≠ [] then joinP 4 j.1 [] j.2 else j
  else (x, s1)
def notP (no cmp : Ps) : Ps := fun s =>
  if (s.is [wNot]).1 = [] then cmp s else
    joinP 4 (downP no (s.is [wNot]).2).1 [] (downP no (s.is [wNot]).2).2
structure Three where
  o : Ps
  n : Ps
  u : Ps
def unS (t : Three) : Ps := unaryP t.u (atomP t.o)
def prodS (t : Three) : Ps := rowP (unS t) [(wStar, 8)]
def sumS (t : Three) : Ps := rowP (prodS t) [(wPlus, 6), (wMinus, 7)]
def cmpS (t : Three) : Ps := cmpP (sumS t)
def notS (t : Three) : Ps := notP t.n (cmpS t)
def andS (t : Three) : Ps := rowP (notS t) [(wAnd, 9)]
def orS (t : Three) : Ps := rowP (andS t) [(wOr, 10)]
def noP : Ps := fun s => ([leafN], s)
/-- The readers of expressions, as deep as n words can go. -/
def allP : Nat → Three
  | 0 => ⟨noP, noP, noP⟩
  | n + 1 => ⟨orS (allP n), notS (allP n), unS (allP n)⟩

theorem joinL_pos (op : Int) (x y : List Nd) : 1 ≤ (joinL op x y).length := by rw [joinL_length]; omega
def RS.good (s : RS) : Prop := s.f ≠ 0 → s.ws = []
/-- What every reader keeps: behind a fault no words; never more words; nodes that go together. -/
structure Keeps (r : List Nd × RS) (s : RS) : Prop where
  len : r.2.ws.length ≤ s.ws.length
  ok : r.2.good
  deep : r.2.deep = s.deep
  pos : 1 ≤ r.1.length
  le : r.1.length ≤ 40
  wf : WfL r.1
  fst : s.f ≠ 0 → r.2.f = s.f
def KP (p : Ps) (n : Nat) : Prop := ∀ s : RS, s.good → s.ws.length ≤ n → Keeps (p s) s
theorem RS.fail_good (s : RS) (f : Int) : (s.fail f).good := fun _ => rfl
theorem RS.fail_f (s : RS) (f : Int) (h : s.f ≠ 0) : (s.fail f).f = s.f := if_neg h
theorem RS.is_spec (s : RS) (l : List Wd) : ((s.is l).1 = [] ∧ (s.is l).2 = s) ∨ (∃ w r, s.ws = w :: r ∧ w ∈ l ∧ (s.is l).1 = w ∧ (s.is l).2 = ⟨r, s.deep, s.f⟩) := by
  unfold RS.is
  split
  · exact .inl ⟨rfl, rfl⟩
  · rename_i w r h
    split
    · rename_i hm; exact .inr ⟨w, r, h, hm, rfl, rfl⟩
    · exact .inl ⟨rfl, rfl⟩
/-- A step that keeps what readers keep of the state. -/
structure Goes (t s : RS) : Prop where
  len : t.ws.length ≤ s.ws.length
  ok : t.good
  deep : t.deep = s.deep
  fst : s.f ≠ 0 → t.f = s.f
theorem Goes.refl {s : RS} (h : s.good) : Goes s s := ⟨Nat.le_refl _, h, rfl, fun _ => rfl⟩
theorem Goes.trans {t s u : RS} (a : Goes t s) (b : Goes u t) : Goes u s := ⟨Nat.le_trans b.len a.len, b.ok, b.deep.trans a.deep, fun h => (b.fst (by rw [a.fst h]; exact h)).trans (a.fst h)⟩
theorem goes_fail (s : RS) (f : Int) : Goes (s.fail f) s := ⟨Nat.zero_le _, fun _ => rfl, rfl, fun h => s.fail_f f h⟩
theorem goes_is {s : RS} (h : s.good) (l : List Wd) : Goes (s.is l).2 s := by
  rcases s.is_spec l with ⟨_, e⟩ | ⟨w, r, h1, _, _, e⟩
  · rw [e]; exact Goes.refl h
  · rw [e]
    refine ⟨by rw [h1]; simp, fun hf => ?_, rfl, fun _ => rfl⟩
    have := h hf
    rw [h1] at this; cases this
theorem goes_must {s : RS} (h : s.good) (w : Wd) : Goes (s.must w) s := by
  unfold RS.must
  split
  · exact (goes_is h _).trans (goes_fail _ _)
  · exact goes_is h _
theorem goes_number {s : RS} (h : s.good) (m : Int) : Goes (s.number m).2 s := by
  unfold RS.number
  split
  · exact goes_fail _ _
  · rename_i w r e
    split
    · exact goes_fail _ _
    · refine ⟨by rw [e]; simp, fun hf => ?_, rfl, fun _ => rfl⟩
      have := h hf
      rw [e] at this; cases this
theorem taken {s : RS} {l : List Wd} (h : (s.is l).1 ≠ []) : (s.is l).2.ws.length + 1 = s.ws.length := by
  rcases s.is_spec l with ⟨e, _⟩ | ⟨w, r, h1, _, _, e⟩
  · exact absurd e h
  · rw [e, h1]; rfl
theorem Keeps.goes {r : List Nd × RS} {s : RS} (k : Keeps r s) : Goes r.2 s := ⟨k.len, k.ok, k.deep, k.fst⟩
theorem Keeps.mk2 {l : List Nd} {t s : RS} (g : Goes t s) (h1 : 1 ≤ l.length) (h2 : l.length ≤ 40) (h3 : WfL l) : Keeps (l, t) s := ⟨g.len, g.ok, g.deep, h1, h2, h3, g.fst⟩
theorem wf_one (n : Nd) (h : arI n.op = 0) (h2 : n.op = 2 → 0 ≤ n.n ∧ n.n ≤ 3) : WfL [n] := by
  intro i m hm
  match i, hm with
  | 0, hm =>
    cases hm
    exact ⟨by omega, h2, fun h3 => by omega, fun h3 => by omega⟩
theorem keeps_leaf {t s : RS} (g : Goes t s) (n : Nd) (h : arI n.op = 0) (h2 : n.op = 2 → 0 ≤ n.n ∧ n.n ≤ 3) : Keeps ([n], t) s := Keeps.mk2 g (by simp) (by simp) (wf_one n h h2)
/-- A sign that puts together. -/
def Opr (op : Int) : Prop := 0 ≤ arI op ∧ op ≠ 2
instance (op : Int) : Decidable (Opr op) := by unfold Opr; infer_instance
theorem wf_join {op : Int} (ho : Opr op) {x y : List Nd} (hx : WfL x) (hy : WfL y) (h1 : 1 ≤ x.length) (h2 : 1 < arI op → 1 ≤ y.length) : WfL (joinL op x y) :=
  WfL.join ho.1 hx hy h1 (fun h => h2 (by omega)) ho.2
theorem keeps_join {op : Int} (ho : Opr op) {x y : List Nd} {t s : RS} (g : Goes t s) (hx : WfL x) (hy : WfL y) (h1 : 1 ≤ x.length) (h2 : 1 < arI op → 1 ≤ y.length) : Keeps (joinP op x y t) s := by
  unfold joinP
  split
  · exact keeps_leaf (g.trans (goes_fail _ _)) leafN (by decide) (by decide)
  · exact Keeps.mk2 g (joinL_pos _ _ _) (by rw [joinL_length]; omega) (wf_join ho hx hy h1 h2)
theorem wf_nil : WfL [] := fun i n h => by simp at h
theorem keeps_down {p : Ps} {n : Nat} (hp : KP p n) {t s : RS} (g : Goes t s) (hl : t.ws.length ≤ n) : Keeps (downP p t) s := by
  unfold downP
  have key : ∀ u : RS, u.good → u.ws.length ≤ n → Goes u ⟨t.ws, t.deep + 1, t.f⟩ → Keeps ((p u).1, ⟨(p u).2.ws, (p u).2.deep - 1, (p u).2.f⟩) s := by
    intro u hu hul gu
    have k := hp u hu hul
    refine ⟨Nat.le_trans k.len (Nat.le_trans gu.len g.len), k.ok, ?_, k.pos, k.le, k.wf, fun h => ?_⟩
    · have e1 := k.deep
      have e2 := gu.deep
      have e3 := g.deep
      simp only at e2 ⊢
      omega
    · have e1 := g.fst h
      have e2 := gu.fst (by show t.f ≠ 0; rw [e1]; exact h)
      have e3 := k.fst (by rw [e2]; show t.f ≠ 0; rw [e1]; exact h)
      exact e3.trans (e2.trans e1)
  by_cases hd : t.deep + 1 > 12
  · simp only [if_pos hd]
    exact key _ (RS.fail_good _ _) (Nat.zero_le _) (goes_fail _ _)
  · simp only [if_neg hd]
    exact key _ g.ok hl (Goes.refl g.ok)
theorem keeps_atom {o : Ps} {n : Nat} (ho : KP o n) : KP (atomP o) (n + 1) := by
  intro s hs hl
  have g := goes_is hs ([wOpen] ++ constW ++ fieldW)
  have tk := @taken s ([wOpen] ++ constW ++ fieldW)
  unfold atomP
  simp only
  split
  · rename_i hw
    have k := keeps_down ho g (by have := tk (by rw [hw]; decide); omega)
    have gm := goes_must k.ok wClose
    exact Keeps.mk2 (k.goes.trans gm) k.pos k.le k.wf
  · split
    · exact keeps_leaf g _ (by simp [arI]) (by simp)
    · split
      · exact keeps_leaf (g.trans (goes_number g.ok _)) _ (by simp [arI]) (by simp)
      · rename_i h1 h2 h3
        refine keeps_leaf g _ (by simp [arI]) (fun _ => ?_)
        have hw : (s.is ([wOpen] ++ constW ++ fieldW)).1 ∈ fieldW := by
          rcases s.is_spec ([wOpen] ++ constW ++ fieldW) with ⟨e, _⟩ | ⟨w, r, _, hm, e, _⟩
          · exact absurd e h3
          · rw [e] at h1 h2 ⊢
            rcases List.mem_append.1 hm with h4 | h4
            · rcases List.mem_append.1 h4 with h5 | h5
              · exact absurd (by simpa using h5) h1
              · exact absurd h5 h2
            · exact h4
        have := List.idxOf_lt_length_of_mem hw
        have e4 : fieldW.length = 4 := rfl
        constructor <;> simp only <;> omega
theorem keeps_unary {u a : Ps} {n : Nat} (hu : KP u n) (ha : KP a (n + 1)) : KP (unaryP u a) (n + 1) := by
  intro s hs hl
  have g := goes_is hs [wMinus]
  have tk := @taken s [wMinus]
  unfold unaryP
  split
  · exact ha s hs hl
  · rename_i hw
    have k := keeps_down hu g (by have := tk hw; omega)
    exact keeps_join (by decide) k.goes k.wf wf_nil k.pos (by decide)
theorem keeps_not {u a : Ps} {n : Nat} (hu : KP u n) (ha : KP a (n + 1)) : KP (notP u a) (n + 1) := by
  intro s hs hl
  have g := goes_is hs [wNot]
  have tk := @taken s [wNot]
  unfold notP
  split
  · exact ha s hs hl
  · rename_i hw
    have k := keeps_down hu g (by have := tk hw; omega)
    exact keeps_join (by decide) k.goes k.wf wf_nil k.pos (by decide)
theorem opOf_opr {ops : List (Wd × Int)} (ho : ∀ q ∈ ops, Opr q.2) {w : Wd} (hw : w ∈ ops.map (·.1)) : Opr (opOf ops w) := by
  unfold opOf
  cases h : ops.find? (fun p => p.1 = w) with
  | none =>
    obtain ⟨q, hq, rfl⟩ := List.mem_map.1 hw
    have := List.find?_eq_none.1 h q hq
    simp at this
  | some q => exact ho q (List.mem_of_find?_eq_some h)
theorem is_mem {s : RS} {l : List Wd} (h : (s.is l).1 ≠ []) : (s.is l).1 ∈ l := by
  rcases s.is_spec l with ⟨e, _⟩ | ⟨w, r, _, hm, e, _⟩
  · exact absurd e h
  · rw [e]; exact hm
theorem keeps_rowL {p : Ps} {n : Nat} (hp : KP p n) {ops : List (Wd × Int)} (ho : ∀ q ∈ ops, Opr q.2) : ∀ (k : Nat) (x : List Nd) (t s : RS), Goes t s → t.ws.length ≤ n → 1 ≤ x.length → x.length ≤ 40 → WfL x → Keeps (rowL p ops k x t) s
  | 0, x, t, s, g, _, h1, h2, h3 => Keeps.mk2 g h1 h2 h3
  | k + 1, x, t, s, g, hl, h1, h2, h3 => by
    have gi := goes_is g.ok (ops.map (·.1))
    have gm := @is_mem t (ops.map (·.1))
    rw [rowL]
    by_cases hf : t.f ≠ 0
    · rw [if_pos hf]; exact Keeps.mk2 g h1 h2 h3
    · rw [if_neg hf]
      simp only
      generalize t.is (ops.map (·.1)) = A at gi gm ⊢
      obtain ⟨w, s1⟩ := A
      simp only at gi gm ⊢
      by_cases hw : w = []
      · rw [if_pos hw]; exact Keeps.mk2 (g.trans gi) h1 h2 h3
      · rw [if_neg hw]
        have hop := opOf_opr ho (gm hw)
        have kn := hp s1 gi.ok (Nat.le_trans gi.len hl)
        generalize opOf ops w = op at hop ⊢
        generalize p s1 = r at kn ⊢
        have kj : Keeps (joinP op x r.1 r.2) s := keeps_join hop ((g.trans gi).trans kn.goes) h3 kn.wf h1 (fun _ => kn.pos)
        have ka : Keeps (joinP op x r.1 r.2) t := keeps_join hop (gi.trans kn.goes) h3 kn.wf h1 (fun _ => kn.pos)
        generalize joinP op x r.1 r.2 = j at kj ka ⊢
        exact keeps_rowL hp ho k j.1 j.2 s kj.goes (Nat.le_trans ka.len hl) kj.pos kj.le kj.wf
theorem keeps_row {p : Ps} {n : Nat} (hp : KP p n) {ops : List (Wd × Int)} (ho : ∀ q ∈ ops, Opr q.2) : KP (rowP p ops) n := by
  intro s hs hl
  have k := hp s hs hl
  exact keeps_rowL hp ho _ _ _ _ k.goes (Nat.le_trans k.len hl) k.pos k.le k.wf
theorem keeps_cmp {p : Ps} {n : Nat} (hp : KP p n) : KP (cmpP p) n := by
  intro s hs hl
  have k := hp s hs hl
  have g := goes_is k.ok [wLt, wGt, wLe, wGe, wEq, wNe, wIs]
  have k2 := hp _ g.ok (Nat.le_trans g.len (Nat.le_trans k.len hl))
  have gg := (k.goes.trans g).trans k2.goes
  unfold cmpP
  simp only
  split
  · exact keeps_join (by decide) gg k.wf k2.wf k.pos (fun _ => k2.pos)
  · split
    · exact keeps_join (by decide) gg k2.wf k.wf k2.pos (fun _ => k.pos)
    · split
      · have j := keeps_join (op := 11) (by decide) gg k2.wf k.wf k2.pos (fun _ => k.pos)
        exact keeps_join (by decide) j.goes j.wf wf_nil j.pos (by decide)
      · split
        · have j := keeps_join (op := 11) (by decide) gg k.wf k2.wf k.pos (fun _ => k2.pos)
          exact keeps_join (by decide) j.goes j.wf wf_nil j.pos (by decide)
        · split
          · exact keeps_join (by decide) gg k.wf k2.wf k.pos (fun _ => k2.pos)
          · split
            · have j := keeps_join (op := 12) (by decide) gg k.wf k2.wf k.pos (fun _ => k2.pos)
              exact keeps_join (by decide) j.goes j.wf wf_nil j.pos (by decide)
            · split
              · have g3 := goes_is g.ok [wNot]
                have g4 := goes_must g3.ok wNull
                have j := keeps_join (op := 5) (by decide) (((k.goes.trans g).trans g3).trans g4) k.wf wf_nil k.pos (by decide)
                split
                · exact keeps_join (by decide) j.goes j.wf wf_nil j.pos (by decide)
                · exact j
              · exact Keeps.mk2 (k.goes.trans g) k.pos k.le k.wf
theorem keeps_S {t : Three} {n : Nat} (h : KP t.o n ∧ KP t.n n ∧ KP t.u n) : KP (orS t) (n + 1) ∧ KP (notS t) (n + 1) ∧ KP (unS t) (n + 1) ∧ KP (prodS t) (n + 1) ∧ KP (sumS t) (n + 1) ∧ KP (cmpS t) (n + 1) ∧ KP (andS t) (n + 1) := by
  have h1 : KP (unS t) (n + 1) := keeps_unary h.2.2 (keeps_atom h.1)
  have h2 : KP (prodS t) (n + 1) := keeps_row h1 (by decide)
  have h3 : KP (sumS t) (n + 1) := keeps_row h2 (by decide)
  have h4 : KP (cmpS t) (n + 1) := keeps_cmp h3
  have h5 : KP (notS t) (n + 1) := keeps_not h.2.1 h4
  have h6 : KP (andS t) (n + 1) := keeps_row h5 (by decide)
  exact ⟨keeps_row h6 (by decide), h5, h1, h2, h3, h4, h6⟩
theorem keeps_noP (n : Nat) : KP noP n := fun s hs _ => keeps_leaf (Goes.refl hs) leafN (by decide) (by decide)
theorem allP_succ (n : Nat) : allP (n + 1) = ⟨orS (allP n), notS (allP n), unS (allP n)⟩ := rfl
theorem keeps_all (n : Nat) : KP (allP n).o n ∧ KP (allP n).n n ∧ KP (allP n).u n := by
  induction n with
  | zero => exact ⟨keeps_noP 0, keeps_noP 0, keeps_noP 0⟩
  | succ n ih =>
    have h := keeps_S ih
    rw [allP_succ]
    exact ⟨h.1, h.2.1, h.2.2.1⟩
end Go.Proofs.YtonlacplogbodaaDoor
/-
  Plain law: a question is read from words: what is gathered, and the rest. Conditions: none.
-/
namespace Go.Proofs.YtonlacplogbodaaDoor
open Go Go.Vc Go.Txt
set_option linter.unusedVariables false

def wCount : Wd := [99, 111, 117, 110, 116]
def wSum : Wd := [115, 117, 109]
def wMin : Wd := [109, 105, 110]
def wMax : Wd := [109, 97, 120]
def wComma : Wd := [44]
def wSelect : Wd := [115, 101, 108, 101, 99, 116]
def wFrom : Wd := [102, 114, 111, 109]
def wEvents : Wd := [101, 118, 101, 110, 116, 115]
def wWhere : Wd := [119, 104, 101, 114, 101]
def wGroup : Wd := [103, 114, 111, 117, 112]
def wBy : Wd := [98, 121]
def wWindow : Wd := [119, 105, 110, 100, 111, 119]
def wSlide : Wd := [115, 108, 105, 100, 101]
def wDelay : Wd := [100, 101, 108, 97, 121]
def wLate : Wd := [108, 97, 116, 101]
/-- What is gathered: its kind, and of what. -/
abbrev Ag := Int × List Nd
/-- A question. -/
structure Qy where
  aggs : List Ag
  wh : List Nd
  by_ : List Nd
  size : Int
  slide : Int
  delay : Int
  late : Int
def noQ : Qy := ⟨[], [], [], 0, 0, 0, 0⟩
def aggKind (w : Wd) : Int := if w = wCount then 1 else if w = wSum then 3 else if w = wMin then 4 else if w = wMax then 5 else 0
/-- One that is gathered. -/
def aggP (o : Ps) (s : RS) : Ag × RS :=
  let w := (s.is [wCount, wSum, wMin, wMax]).1
  let s1 := (s.is [wCount, wSum, wMin, wMax]).2
  let s2 := (if w = [] then s1.fail 4 else s1).must wOpen
  if w = wCount ∧ (s2.is [wStar]).1 ≠ [] then ((1, []), (s2.is [wStar]).2.must wClose)
  else ((if w = wCount then 2 else aggKind w, (o s2).1), (o s2).2.must wClose)
/-- More of them. -/
def aggsP (o : Ps) : Nat → List Ag → RS → List Ag × RS
  | 0, l, s => (l, s)
  | k + 1, l, s => if (s.is [wComma]).1 = [] then (l, s) else aggsP o k (l ++ [(aggP o (s.is [wComma]).2).1]) (aggP o (s.is [wComma]).2).2
/-- A part behind a word. -/
def optP (w : Wd) (p : RS → List Nd × RS) (s : RS) : List Nd × RS := if (s.is [w]).1 = [] then ([], s) else p (s.is [w]).2
def optN (w : Wd) (d : Int) (s : RS) : Int × RS := if (s.is [w]).1 = [] then (d, s) else (s.is [w]).2.number 1000
/-- The whole, ahead of what is wrong with its numbers. -/
def readQ (ws : List Wd) : Qy × RS :=
  let o := (allP (ws.length + 1)).o
  let a := aggP o ((⟨ws, 0, 0⟩ : RS).must wSelect)
  let l := aggsP o (a.2.ws.length + 1) [a.1] a.2
  let e := (l.2.must wFrom).must wEvents
  let w := optP wWhere o e
  let g := optP wGroup (fun s => o (s.must wBy)) w.2
  let z := (g.2.must wWindow).number 1000
  let sl := optN wSlide z.1 z.2
  let d := optN wDelay 0 sl.2
  let t := optN wLate 0 d.2
  (⟨l.1, w.1, g.1, z.1, sl.1, d.1, t.1⟩, if t.2.f = 0 ∧ t.2.ws ≠ [] then t.2.fail 4 else t.2)
/-- Nodes that may be read on: none, or nodes that go together. -/
def NdsOK (l : List Nd) : Prop := l.length ≤ 40 ∧ WfL l
theorem Keeps.nds {r : List Nd × RS} {s : RS} (k : Keeps r s) : NdsOK r.1 := ⟨k.le, k.wf⟩
theorem nds_nil : NdsOK [] := ⟨by simp, wf_nil⟩
theorem goes_agg {o : Ps} {n : Nat} (ho : KP o n) {s : RS} (hs : s.good) (hl : s.ws.length ≤ n) : Goes (aggP o s).2 s ∧ NdsOK (aggP o s).1.2 := by
  have g1 := goes_is hs [wCount, wSum, wMin, wMax]
  have g2 : Goes ((if (s.is [wCount, wSum, wMin, wMax]).1 = [] then (s.is [wCount, wSum, wMin, wMax]).2.fail 4 else (s.is [wCount, wSum, wMin, wMax]).2).must wOpen) s := by
    split
    · exact (g1.trans (goes_fail _ _)).trans (goes_must (RS.fail_good _ _) _)
    · exact g1.trans (goes_must g1.ok _)
  unfold aggP
  simp only
  generalize (if (s.is [wCount, wSum, wMin, wMax]).1 = [] then (s.is [wCount, wSum, wMin, wMax]).2.fail 4 else (s.is [wCount, wSum, wMin, wMax]).2).must wOpen = s2 at g2 ⊢
  have g3 := goes_is g2.ok [wStar]
  have k := ho s2 g2.ok (Nat.le_trans g2.len hl)
  split
  · exact ⟨(g2.trans g3).trans (goes_must g3.ok _), nds_nil⟩
  · exact ⟨(g2.trans k.goes).trans (goes_must k.ok _), k.nds⟩
theorem goes_aggs {o : Ps} {n : Nat} (ho : KP o n) : ∀ (k : Nat) (l : List Ag) {s : RS}, s.good → s.ws.length ≤ n → (∀ a ∈ l, NdsOK a.2) → Goes (aggsP o k l s).2 s ∧ ∀ a ∈ (aggsP o k l s).1, NdsOK a.2
  | 0, l, s, hs, _, hL => ⟨Goes.refl hs, hL⟩
  | k + 1, l, s, hs, hl, hL => by
    rw [aggsP]
    split
    · exact ⟨Goes.refl hs, hL⟩
    · have g1 := goes_is hs [wComma]
      have g2 := goes_agg ho g1.ok (Nat.le_trans g1.len hl)
      have g3 := goes_aggs ho k (l ++ [(aggP o (s.is [wComma]).2).1]) g2.1.ok (Nat.le_trans (Nat.le_trans g2.1.len g1.len) hl) (by
        intro a ha
        rcases List.mem_append.1 ha with h1 | h1
        · exact hL a h1
        · rw [List.mem_singleton.1 h1]; exact g2.2)
      exact ⟨(g1.trans g2.1).trans g3.1, g3.2⟩
end Go.Proofs.YtonlacplogbodaaDoor
/-
  The framework, part Z: a text's bytes as a slice; calls of which less is told; what is kept beside a thing that changes. No program in sight. Conditions: none.
-/
namespace Go.Vc
open Go
set_option linter.unusedVariables false

section
variable {P : Program}
theorem CallOK.less {f : FuncId} {vs : List Value} {h : Hp} {R R' : Value → Hp → Prop} (H : CallOK P f vs h R) (hr : ∀ v h', R v h' → ∃ h2, h2.le h' ∧ R' v h2) : CallOK P f vs h R' :=
  fun w hs => (H w hs).mono fun e w' ⟨v, h', h1, h2, h3, h4⟩ => by
    obtain ⟨k, hk, hR⟩ := hr v h' h4
    refine ⟨v, k, h1, fun b o ho => h2 b o (hk b o ho), ⟨h3.os, h3.tape, h3.output, h3.size, fun b hb hn => ⟨(h3.keep b hb hn).1, ?_⟩⟩, hR⟩
    cases e : k b with
    | none => rfl
    | some o => have := hk b o e; rw [(h3.keep b hb hn).2] at this; cases this

theorem row_bytes {h : Hp} {b : Nat} {l : List UInt8} {tail : Array Value} {e : TypeId} {fz : Nat × Nat} (hb : h b = some (.cells ((l.map fun x => vk .u8 (x.toNat : Nat)).toArray ++ tail) e fz)) {i m : Nat} (him : i + m ≤ l.length) :
    h.row b (0 + i) ((l.drop i).take m).length = some (((l.drop i).take m).map fun x => vk .u8 (x.toNat : Nat)) := by
  have hl : ((l.drop i).take m).length = m := by simp; omega
  have hs : ((l.map fun x => vk .u8 (x.toNat : Nat)).toArray ++ tail).size = l.length + tail.size := by simp
  unfold Hp.row
  rw [hb, hl, Nat.zero_add]
  simp only
  rw [if_pos (by rw [hs]; omega), Array.toList_append, List.drop_append_of_le_length (by simp; omega), List.take_append_of_le_length (by simp; omega), List.map_take, List.map_drop]
theorem sem_fromStr {h : Hp} {src dst e : TypeId} (hs : P.underlying src = some .string) (hd : P.underlying dst = some (.slice e)) (he : P.underlying e = some (.int .u8)) {l : List UInt8} {K : Value → Hp → Prop}
    (hK : ∀ b cap tail fz, h b = none → l.length ≤ cap → K (vsl (some ⟨b, 0, none⟩) l.length cap) (h.set b (.cells ((l.map fun x => vk .u8 (x.toNat : Nat)).toArray ++ tail) e fz))) : SemOK P (convert src dst (vs (bs l))) h K := by
  intro w hsub
  have hr := Lib.run_convert_string_bytes (P := P) w src dst e (bs l) hs hd he
  rw [bs_size] at hr
  have e1 : Lib.bytesCells w e (bs l) = (l.map fun x => vk .u8 (x.toNat : Nat)).toArray ++ Array.replicate (grownCap w l.length 0 e - l.length) (.int .u8 0) := by
    unfold Lib.bytesCells
    rw [bs_size]
    simp [bs]
  have hnew := Lib.bytesWorld_at_new w e (bs l)
  rw [e1] at hnew
  have hn : h w.heap.size = none := hsub.none
  obtain ⟨fz, hnew⟩ : ∃ fz, (Lib.bytesWorld w e (bs l)).heap[w.heap.size]? = some (.cells ((l.map fun x => vk .u8 (x.toNat : Nat)).toArray ++ Array.replicate (grownCap w l.length 0 e - l.length) (.int .u8 0)) e fz) := ⟨_, hnew⟩
  refine ⟨_, _, _, hr, ?_, ⟨rfl, rfl, rfl, by rw [Lib.bytesWorld_size]; omega, fun b hb hnb => ⟨Lib.bytesWorld_at_old w e (bs l) b hb, ?_⟩⟩, hK w.heap.size _ (Array.replicate (grownCap w l.length 0 e - l.length) (.int .u8 0)) fz hn (grownCap_ge w l.length 0 e)⟩
  · intro b o hb
    by_cases hbe : b = w.heap.size
    · subst hbe
      rw [Hp.set_same] at hb
      cases hb
      exact hnew
    · rw [Hp.set_other _ _ hbe] at hb
      have := hsub b o hb
      rw [Lib.bytesWorld_at_old w e (bs l) b (Array.getElem?_eq_some_iff.1 this).1]
      exact this
  · rw [Hp.set_other _ _ (by omega)]
    exact hnb
end

/-- Boxes of the call's own (bx) beside what changes (F). -/
structure Bes (F : Nat → Prop) (h : Hp) (F' : Nat → Prop) (h' bx : Hp) : Prop where
  m : Mut F h F' h'
  al : ∀ b, F' b → h' b ≠ none
  x : bx.le h'
  n : ∀ b o, bx b = some o → (h b = none ∨ F b) ∧ ¬ F' b
section
variable {F F' F2 : Nat → Prop} {h h' h2 bx : Hp}
theorem Bes.start (al : ∀ b, F b → h b ≠ none) : Bes F h F h (fun _ => none) := ⟨Mut.of_le (Hp.le_refl h), al, (fun b o ho => by cases ho), (fun b o ho => by cases ho)⟩
theorem Bes.call (S : Bes F h F' h' bx) (M : Mut F' h' F2 h2) (al : ∀ b, F2 b → h2 b ≠ none) : Bes F h F2 h2 bx :=
  ⟨S.m.trans M, al, (fun b o ho => M.keep b o (S.n b o ho).2 (S.x b o ho)), (fun b o ho => ⟨(S.n b o ho).1, fun hf => by
    rcases M.new b hf with h1 | h1
    · exact (S.n b o ho).2 h1
    · rw [S.x b o ho] at h1; cases h1⟩)⟩
theorem Bes.grow (S : Bes F h F' h' bx) (l : h'.le h2) : Bes F h F' h2 bx := S.call (Mut.of_le l) (fun b hb e => by
  cases e2 : h' b with
  | none => exact S.al b hb e2
  | some o => rw [l b o e2] at e; cases e)
theorem Bes.fresh (S : Bes F h F' h' bx) {b : Nat} (hb : h' b = none) : h b = none ∨ F b := by
  by_cases hf : F b
  · exact .inr hf
  · left
    cases e : h b with
    | none => rfl
    | some o => rw [S.m.keep b o hf e] at hb; cases hb
theorem Bes.alloc (S : Bes F h F' h' bx) {b : Nat} (hb : h' b = none) (o : Obj) : Bes F h F' (h'.set b o) (bx.set b o) := by
  refine ⟨(S.grow (Hp.le_set (Hp.le_refl h') hb o)).m, (S.grow (Hp.le_set (Hp.le_refl h') hb o)).al, ?_, ?_⟩
  · intro b2 o2 h2
    by_cases e : b2 = b
    · subst e; rw [Hp.set_same] at h2 ⊢; exact h2
    · rw [Hp.set_other _ _ e] at h2 ⊢; exact S.x b2 o2 h2
  · intro b2 o2 h2
    by_cases e : b2 = b
    · subst e; exact ⟨S.fresh hb, fun hf => S.al _ hf hb⟩
    · rw [Hp.set_other _ _ e] at h2; exact S.n b2 o2 h2
theorem Bes.keepA (S : Bes F h F' h' bx) {b b2 : Nat} {o o2 : Obj} (hx : bx b2 = some o2) (hb : h' b = none) : (bx.set b o) b2 = some o2 := by
  rw [Hp.set_other]
  · exact hx
  · intro e; subst e; rw [S.x _ _ hx] at hb; cases hb
theorem Bes.put (S : Bes F h F' h' bx) {b : Nat} {u v : Value} {t : TypeId} (hx : bx b = some (cellsO [u] t)) {K : Hp → Prop} (hK : Bes F h F' (h'.set b (cellsO [v] t)) (bx.set b (cellsO [v] t)) → K (h'.set b (cellsO [v] t))) : h'.store b 0 [v] K := by
  have hb := S.x b _ hx
  refine store_cells hb (by simp) ?_
  have e : setL [u] 0 [v] = [v] := rfl
  rw [e]
  have hn := S.n b _ hx
  refine hK ⟨⟨fun b2 o hf ho => ?_, S.m.new⟩, fun b2 hf => ?_, ?_, ?_⟩
  · rw [Hp.set_other]
    · exact S.m.keep b2 o hf ho
    · intro e; subst e
      rcases hn.1 with h1 | h1
      · rw [h1] at ho; cases ho
      · exact hf h1
  · by_cases e : b2 = b
    · subst e; rw [Hp.set_same]; simp
    · rw [Hp.set_other _ _ e]; exact S.al b2 hf
  · intro b2 o2 h2
    by_cases e : b2 = b
    · subst e; rw [Hp.set_same] at h2 ⊢; exact h2
    · rw [Hp.set_other _ _ e] at h2 ⊢; exact S.x b2 o2 h2
  · intro b2 o2 h2
    by_cases e : b2 = b
    · subst e; exact hn
    · rw [Hp.set_other _ _ e] at h2; exact S.n b2 o2 h2
theorem Bes.get (S : Bes F h F' h' bx) {b : Nat} {u : Value} {t : TypeId} (hx : bx b = some (cellsO [u] t)) : h'.cell b 0 = some u := cell_cells (S.x b _ hx) rfl
/-- What a change of F leaves: only what is told of, and what was there. -/
theorem Mut.trim (M : Mut F h F' h') : ∃ h2 : Hp, h2.le h' ∧ Mut F h F' h2 ∧ (∀ b, F' b → ∀ o, h' b = some o → h2 b = some o) ∧ ∀ b o, h2 b = some o → (¬ F b ∧ h b = some o) ∨ F' b := by
  classical
  refine ⟨fun b => if (¬ F b ∧ h b ≠ none) ∨ F' b then h' b else none, fun b o ho => ?_, ⟨fun b o hf ho => ?_, M.new⟩, fun b hf o ho => ?_, fun b o ho => ?_⟩
  · simp only at ho; split at ho
    · exact ho
    · cases ho
  · rw [if_pos (.inl ⟨hf, by rw [ho]; simp⟩)]; exact M.keep b o hf ho
  · show (if (¬ F b ∧ h b ≠ none) ∨ F' b then h' b else none) = some o
    rw [if_pos (Or.inr hf)]; exact ho
  · simp only at ho; split at ho
    · rename_i hc
      rcases hc with ⟨h1, h2⟩ | h1
      · left
        refine ⟨h1, ?_⟩
        cases e : h b with
        | none => exact absurd e h2
        | some o2 => rw [M.keep b o2 h1 e] at ho; exact ho
      · exact .inr h1
    · cases ho
theorem Rec.cells {h : Hp} {g : Nat} {t : TypeId} {fs : List Fld} (R : Rec h g t fs) {b : Nat} (hb : ftR g fs b) {o : Obj} (ho : h b = some o) : o.isCells = true := by
  rcases hb with rfl | ⟨j, f, hf, hb⟩
  · rw [R.blk] at ho; cases ho; rfl
  · have O := R.own j f hf
    cases f with
    | v x => exact hb.elim
    | s e sz a n c xs =>
      rcases O.2 with ⟨h1, _⟩ | ⟨g', cur, h1, h2, _⟩
      · have hb' : a = some ⟨b, 0, none⟩ := hb
        rw [h1] at hb'; cases hb'
      · have hb' : a = some ⟨b, 0, none⟩ := hb
        rw [h1] at hb'; cases hb'; rw [h2] at ho; cases ho; rfl
end
end Go.Vc
/-
  The framework, part Mp: maps with keys that are texts or numbers: made, filled, looked up. No program in sight. Conditions: none.
-/
namespace Go.Vc
open Go Go.MapKept
set_option linter.unusedVariables false

section
variable {P : Program} {h : Hp}
theorem sem_makeMap {T : TypeId} {K : Value → Hp → Prop} (hK : ∀ b, h b = none → K (.map (some b)) (h.set b (.map #[] 0))) : SemOK P (Instr.makeMap T none) h K := by
  intro w hs
  refine ⟨.map (some w.heap.size), _, _, ?_, Sub.pushSet hs _, Fr.pushSet h w _, hK _ hs.none⟩
  simp [Instr.makeMap, newObj, Sem.run_bind, Sem.run]
theorem run_getObj {w : World} {r : Nat} {es : Array MapEntry} {c : Nat} (hb : w.heap[r]? = some (.map es c)) : (getObj r).run P w = .ok (.map es c) w := by simp [getObj, Sem.run, hb]
theorem Sub.mapSet {w : World} (hs : Sub h w) {b : Nat} {o o' : Obj} (hb : h b = some o) : Sub (h.set b o') { w with heap := w.heap.setIfInBounds b o' } ∧ Fr h (h.set b o') w { w with heap := w.heap.setIfInBounds b o' } := by
  have hw := hs b _ hb
  obtain ⟨k1, k2⟩ := heap_set (o' := o') hw
  refine ⟨fun c oc hc => ?_, ⟨rfl, rfl, rfl, by simp, fun c hc hn => ?_⟩⟩
  · by_cases e : c = b
    · subst e; rw [Hp.set_same] at hc; cases hc; exact k1
    · rw [Hp.set_other _ _ e] at hc; exact (k2 c e).trans (hs c oc hc)
  · have e : c ≠ b := fun e => by subst e; rw [hn] at hb; cases hb
    exact ⟨k2 c e, by rw [Hp.set_other _ _ e]; exact hn⟩
/-- A key that is not there yet is put in. -/
theorem sem_mapNew {T k e : TypeId} {d : TypeDesc} (hT : P.underlying T = some (.map k e)) (hd : P.underlying k = some d) {b : Nat} {es : Array MapEntry} {clock : Nat} (hb : h b = some (.map es clock)) {key v : Value} (hk : IsKey d key) (hf : Instr.findNow d key es.toList 0 = some none) {K : Hp → Prop}
    (hK : K (h.set b (.map (es.push { key := key, val := v, born := clock }) (clock + 1)))) : SemOKu P (Instr.mapUpdate T (.map (some b)) key v) h K := by
  intro w hs
  have hw := hs b _ hb
  obtain ⟨k1, k2⟩ := hs.mapSet (o' := .map (es.push { key := key, val := v, born := clock }) (clock + 1)) hb
  refine ⟨_, _, ?_, k1, k2, hK⟩
  simp only [Instr.mapUpdate, Sem.run_bind, run_underlying hT, Result.andThen_ok, run_getObj hw, run_checkKey hd hk, run_findKey hd hf, run_setObj_map _ hw]
/-- A key that is there is looked up. -/
theorem rd_lookup {T k e : TypeId} {d : TypeDesc} (hT : P.underlying T = some (.map k e)) (hd : P.underlying k = some d) {b : Nat} {es : Array MapEntry} {clock : Nat} (hb : h b = some (.map es clock)) {key v : Value} (hk : IsKey d key) {i : Nat} (hf : Instr.findNow d key es.toList 0 = some (some (i, v))) : Rd P (Instr.lookup T (.map (some b)) key false) h v := by
  intro w hs
  have hw := hs b _ hb
  simp only [Instr.lookup, Sem.run_bind, run_underlying hT, Result.andThen_ok, run_getObj hw, run_checkKey hd hk, run_findKey hd hf, Sem.run_pure]
  rfl
end
end Go.Vc
/-
  What functions of the program ask, in words: each is what the framework reckons from the loaded code (the kernel holds the two together), and gives the function's call. Conditions: none.
-/
namespace Go.Proofs.YtonlacplogbodaaDoor
open Go Go.Vc
set_option maxRecDepth 100000
set_option linter.unusedVariables false
/-- What 'penstock/expr.Arity' asks. -/
def VC_expr_Arity (u_op : Int) (h : Hp) (R : Value → Hp → Prop) : Prop :=
  (((bif (decide ((u_op : Int) = 1)) then true else (decide ((u_op : Int) = 2))) = true → R (vi 0) h) ∧ ((bif (decide ((u_op : Int) = 1)) then true else (decide ((u_op : Int) = 2))) = false → (((bif (bif (decide ((u_op : Int) = 3)) then true else (decide ((u_op : Int) = 4))) then true else (decide ((u_op : Int) = 5))) = true → R (vi 1) h) ∧ ((bif (bif (decide ((u_op : Int) = 3)) then true else (decide ((u_op : Int) = 4))) then true else (decide ((u_op : Int) = 5))) = false → (((bif (decide ((u_op : Int) ≥ 6)) then (decide ((u_op : Int) ≤ 12)) else false) = true → R (vi 2) h) ∧ ((bif (decide ((u_op : Int) ≥ 6)) then (decide ((u_op : Int) ≤ 12)) else false) = false → R (vi (-1)) h))))))
theorem ok_expr_Arity {u_op : Int} {h : Hp} {R : Value → Hp → Prop} (H : VC_expr_Arity u_op h R) : CallOK Tryd.prog 58 [(vi u_op)] h R :=
  call_of (cfg := ⟨[], [], []⟩) noNG mixed Tryd.func58 [.one (.v (vi u_op))] (by kernel_rfl) rfl (by kernel_rfl) H

/-- What 'penstock/expr.join' asks. -/
def VC_expr_join (u_a : Int) (u_b : Int) (h : Hp) (R : Value → Hp → Prop) : Prop :=
  (((decide ((u_a : Int) = 0)) = true → R (vtup [(vi u_b), (vb true)]) h) ∧ ((decide ((u_a : Int) = 0)) = false → (let J3 : Bool → Prop := fun (p4 : Bool) => ((p4 = true → R (vtup [(vi u_a), (vb true)]) h) ∧ (p4 = false → R (vtup [(vi 0), (vb false)]) h)); (((decide ((u_b : Int) = 0)) = true → (J3 (decide ((u_b : Int) = 0)))) ∧ ((decide ((u_b : Int) = 0)) = false → (J3 (decide ((u_a : Int) = u_b))))))))
theorem ok_expr_join {u_a : Int} {u_b : Int} {h : Hp} {R : Value → Hp → Prop} (H : VC_expr_join u_a u_b h R) : CallOK Tryd.prog 59 [(vi u_a), (vi u_b)] h R :=
  call_of (cfg := ⟨[], [], []⟩) noNG mixed Tryd.func59 [.one (.v (vi u_a)), .one (.v (vi u_b))] (by kernel_rfl) rfl (by kernel_rfl) H

/-- What 'penstock/expr.Type' asks. -/
def VC_expr_Type (u_la : Option Addr) (u_ln u_lc : Nat) (h : Hp) (R : Value → Hp → Prop) : Prop :=
  (SemOK Tryd.prog (Instr.makeSlice 84 (vi ((u_ln : Nat) : Int)) (vi ((u_ln : Nat) : Int))) h fun v1 h2 => ∃ (a3 : Option Addr) (n3 c3 : Nat), v1 = (vsl a3 n3 c3) ∧ (∃ (I5 : List Value → Hp → Prop) (m6 : List Value → Hp → Nat), I5 [(vi 0)] h2 ∧ ∀ (vs7 : List Value) (h8 : Hp), I5 vs7 h8 → ∃ (x9 : Int), vs7 = [(vi x9)] ∧ (((decide ((x9 : Int) < ((u_ln : Nat) : Int))) = true → (let J95 : Hp → Prop := fun (h96 : Hp) => (∃ (x97 : Int), (IsW x97 (x9 + 1)) ∧ (I5 [(vi x97)] h96 ∧ m6 [(vi x97)] h96 < m6 vs7 h8)); (∃ (b12 o13 : Nat), (u_la = some ⟨b12, o13, none⟩ ∧ (0 : Int) ≤ x9 ∧ x9 < ((u_ln : Nat) : Int)) ∧ (∃ (x14 : Int) (x15 : Int) (x16 : Int) (x17 : Int) (x18 : Int) (x19 : Int), (Hp.row h8 b12 (o13 + x9.toNat * 6) 6 = some [(vi x14), (vi x15), (vi x16), (vi x17), (vi x18), (vi x19)]) ∧ (let J39 : Int → Prop := fun (x60 : Int) => (CallOK Tryd.prog 58 [(vi x14)] h8 fun v61 h62 => ∃ (x63 : Int), v61 = (vi x63) ∧ (∀ (b64 : Nat), h62 b64 = none → let h65 : Hp := Hp.set h62 b64 (cellsO [(vi x15), (vi x16)] 3); (∃ (a66 : Option Addr) (n66 c66 : Nat), (Rd Tryd.prog (Instr.sliceAt 84 (vsl (some (⟨b64, 0, none⟩ : Addr)) 2 2) none (some (vi x63)) none) h65 (vsl a66 n66 c66)) ∧ (∃ (I68 : List Value → Hp → Prop) (m69 : List Value → Hp → Nat), I68 [(vi 0)] h65 ∧ ∀ (vs70 : List Value) (h71 : Hp), I68 vs70 h71 → ∃ (x72 : Int), vs70 = [(vi x72)] ∧ (((decide ((x72 : Int) < ((n66 : Nat) : Int))) = true → (∃ (b75 o76 : Nat), (a66 = some ⟨b75, o76, none⟩ ∧ (0 : Int) ≤ x72 ∧ x72 < ((n66 : Nat) : Int)) ∧ (∃ (x77 : Int), (Hp.cell h71 b75 (o76 + x72.toNat * 1) = some (vi x77)) ∧ (∃ (b78 o79 : Nat), (a3 = some ⟨b78, o79, none⟩ ∧ (0 : Int) ≤ x77 ∧ x77 < ((n3 : Nat) : Int)) ∧ (∃ (x80 : Int), (Hp.cell h71 b78 (o79 + x77.toNat * 1) = some (vi x80)) ∧ (CallOK Tryd.prog 59 [(vi x60), (vi x80)] h71 fun v81 h82 => ∃ (x83 : Int) (p84 : Bool), v81 = (vtup [(vi x83), (vb p84)]) ∧ (((!p84) = true → R (vtup [(vi 0), (ifv (some (50, (vi 3))))]) h82) ∧ ((!p84) = false → (∃ (x86 : Int), (IsW x86 (x72 + 1)) ∧ (I68 [(vi x86)] h82 ∧ m69 [(vi x86)] h82 < m69 vs70 h71)))))))))) ∧ ((decide ((x72 : Int) < ((n66 : Nat) : Int))) = false → (∃ (b87 o88 : Nat), (a3 = some ⟨b87, o88, none⟩ ∧ (0 : Int) ≤ x9 ∧ x9 < ((n3 : Nat) : Int)) ∧ (Hp.store h71 b87 (o88 + x9.toNat * 1) [(vi x60)] fun h89 => (((bif (decide ((x14 : Int) = 11)) then true else (decide ((x14 : Int) = 12))) = true → (∃ (b90 o91 : Nat), (a3 = some ⟨b90, o91, none⟩ ∧ (0 : Int) ≤ x9 ∧ x9 < ((n3 : Nat) : Int)) ∧ (Hp.store h89 b90 (o91 + x9.toNat * 1) [(vi 2)] fun h92 => (J95 h92)))) ∧ ((bif (decide ((x14 : Int) = 11)) then true else (decide ((x14 : Int) = 12))) = false → (J95 h89))))))))))); (((decide ((x14 : Int) = 1)) = true → (∃ (b20 o21 : Nat), (a3 = some ⟨b20, o21, none⟩ ∧ (0 : Int) ≤ x9 ∧ x9 < ((n3 : Nat) : Int)) ∧ (Hp.store h8 b20 (o21 + x9.toNat * 1) [(vi x18)] fun h22 => (J95 h22)))) ∧ ((decide ((x14 : Int) = 1)) = false → (((decide ((x14 : Int) = 2)) = true → (∃ (b24 o25 : Nat), (a3 = some ⟨b24, o25, none⟩ ∧ (0 : Int) ≤ x9 ∧ x9 < ((n3 : Nat) : Int)) ∧ (Hp.store h8 b24 (o25 + x9.toNat * 1) [(vi 1)] fun h26 => (J95 h26)))) ∧ ((decide ((x14 : Int) = 2)) = false → (((decide ((x14 : Int) = 5)) = true → (∃ (b28 o29 : Nat), (a3 = some ⟨b28, o29, none⟩ ∧ (0 : Int) ≤ x9 ∧ x9 < ((n3 : Nat) : Int)) ∧ (Hp.store h8 b28 (o29 + x9.toNat * 1) [(vi 2)] fun h30 => (J95 h30)))) ∧ ((decide ((x14 : Int) = 5)) = false → (let J35 : Bool → Prop := fun (p36 : Bool) => ((p36 = true → (J39 2)) ∧ (p36 = false → (J39 1))); (((decide ((x14 : Int) = 4)) = true → (J35 (decide ((x14 : Int) = 4)))) ∧ ((decide ((x14 : Int) = 4)) = false → (((decide ((x14 : Int) = 9)) = true → (J35 (decide ((x14 : Int) = 9)))) ∧ ((decide ((x14 : Int) = 9)) = false → (J35 (decide ((x14 : Int) = 10))))))))))))))))))) ∧ ((decide ((x9 : Int) < ((u_ln : Nat) : Int))) = false → (∃ (x98 : Int), (IsW x98 (((n3 : Nat) : Int) - 1)) ∧ (∃ (b99 o100 : Nat), (a3 = some ⟨b99, o100, none⟩ ∧ (0 : Int) ≤ x98 ∧ x98 < ((n3 : Nat) : Int)) ∧ (∃ (x101 : Int), (Hp.cell h8 b99 (o100 + x98.toNat * 1) = some (vi x101)) ∧ R (vtup [(vi x101), (ifv none)]) h8)))))))
theorem ok_expr_Type {u_la : Option Addr} {u_ln u_lc : Nat} {h : Hp} {R : Value → Hp → Prop} (H : VC_expr_Type u_la u_ln u_lc h R) : CallOK Tryd.prog 43 [(vsl u_la u_ln u_lc)] h R :=
  call_of (cfg := ⟨[], [(18, ([56], [.one (.int .i64)], [])), (3, ([17], [.one (.int .i64)], []))], [(17, [0, 1, 2, 3, 5, 6, 10, 7, 4, 8, 9])]⟩) noNG mixed Tryd.func43 [.one (.v (vsl u_la u_ln u_lc))] (by kernel_rfl) rfl (by kernel_rfl) H

/-- What 'penstock/expr.Cut' asks. -/
def VC_expr_Cut (u_la : Option Addr) (u_ln u_lc : Nat) (u_end : Int) (h : Hp) (R : Value → Hp → Prop) : Prop :=
  (∃ (b1 o2 : Nat), (u_la = some ⟨b1, o2, none⟩ ∧ (0 : Int) ≤ u_end ∧ u_end < ((u_ln : Nat) : Int)) ∧ (∃ (x3 : Int), (Hp.cell h b1 (o2 + u_end.toNat * 6) = some (vi x3)) ∧ (CallOK Tryd.prog 58 [(vi x3)] h fun v4 h5 => ∃ (x6 : Int), v4 = (vi x6) ∧ (∃ (I8 : List Value → Hp → Prop) (m9 : List Value → Hp → Nat), I8 [(vi u_end), (vi x6)] h5 ∧ ∀ (vs10 : List Value) (h11 : Hp), I8 vs10 h11 → ∃ (x12 : Int) (x13 : Int), vs10 = [(vi x12), (vi x13)] ∧ (((decide ((x13 : Int) > 0)) = true → (∃ (x16 : Int), (IsW x16 (x12 - 1)) ∧ (∃ (b17 o18 : Nat), (u_la = some ⟨b17, o18, none⟩ ∧ (0 : Int) ≤ x16 ∧ x16 < ((u_ln : Nat) : Int)) ∧ (∃ (x19 : Int), (Hp.cell h11 b17 (o18 + x16.toNat * 6) = some (vi x19)) ∧ (CallOK Tryd.prog 58 [(vi x19)] h11 fun v20 h21 => ∃ (x22 : Int), v20 = (vi x22) ∧ (∃ (x23 : Int), (IsW x23 (x22 - 1)) ∧ (∃ (x24 : Int), (IsW x24 (x13 + x23)) ∧ (I8 [(vi x16), (vi x24)] h21 ∧ m9 [(vi x16), (vi x24)] h21 < m9 vs10 h11)))))))) ∧ ((decide ((x13 : Int) > 0)) = false → (∃ (x25 : Int), (IsW x25 (u_end + 1)) ∧ (∃ (a26 : Option Addr) (n26 c26 : Nat), (Rd Tryd.prog (Instr.sliceAt 23 (vsl u_la u_ln u_lc) (some (vi x12)) (some (vi x25)) none) h11 (vsl a26 n26 c26)) ∧ (CallOK Tryd.prog 67 [(vsl a26 n26 c26)] h11 fun v27 h28 => ∃ (a29 : Option Addr) (n29 c29 : Nat), v27 = (vsl a29 n29 c29) ∧ (∃ (I31 : List Value → Hp → Prop) (m32 : List Value → Hp → Nat), I31 [(vi 0)] h28 ∧ ∀ (vs33 : List Value) (h34 : Hp), I31 vs33 h34 → ∃ (x35 : Int), vs33 = [(vi x35)] ∧ (((decide ((x35 : Int) < ((n29 : Nat) : Int))) = true → (let J70 : Hp → Prop := fun (h71 : Hp) => (∃ (x72 : Int), (IsW x72 (x35 + 1)) ∧ (I31 [(vi x72)] h71 ∧ m32 [(vi x72)] h71 < m32 vs33 h34)); (∃ (b38 o39 : Nat), (a29 = some ⟨b38, o39, none⟩ ∧ (0 : Int) ≤ x35 ∧ x35 < ((n29 : Nat) : Int)) ∧ (∃ (x40 : Int), (Hp.cell h34 b38 (o39 + x35.toNat * 6) = some (vi x40)) ∧ (CallOK Tryd.prog 58 [(vi x40)] h34 fun v41 h42 => ∃ (x43 : Int), v41 = (vi x43) ∧ (let J53 : Hp → Prop := fun (h54 : Hp) => (∃ (b55 o56 : Nat), (a29 = some ⟨b55, o56, none⟩ ∧ (0 : Int) ≤ x35 ∧ x35 < ((n29 : Nat) : Int)) ∧ (∃ (x57 : Int), (Hp.cell h54 b55 (o56 + x35.toNat * 6) = some (vi x57)) ∧ (CallOK Tryd.prog 58 [(vi x57)] h54 fun v58 h59 => ∃ (x60 : Int), v58 = (vi x60) ∧ (((decide ((x60 : Int) > 1)) = true → (∃ (b61 o62 : Nat), (a29 = some ⟨b61, o62, none⟩ ∧ (0 : Int) ≤ x35 ∧ x35 < ((n29 : Nat) : Int)) ∧ (∃ (x63 : Int), (Hp.cell h59 b61 ((o62 + x35.toNat * 6) + 2) = some (vi x63)) ∧ (∃ (x64 : Int), (IsW x64 (x63 - x12)) ∧ (∃ (b65 o66 : Nat), (a29 = some ⟨b65, o66, none⟩ ∧ (0 : Int) ≤ x35 ∧ x35 < ((n29 : Nat) : Int)) ∧ (Hp.store h59 b65 ((o66 + x35.toNat * 6) + 2) [(vi x64)] fun h67 => (J70 h67))))))) ∧ ((decide ((x60 : Int) > 1)) = false → (J70 h59)))))); (((decide ((x43 : Int) > 0)) = true → (∃ (b44 o45 : Nat), (a29 = some ⟨b44, o45, none⟩ ∧ (0 : Int) ≤ x35 ∧ x35 < ((n29 : Nat) : Int)) ∧ (∃ (x46 : Int), (Hp.cell h42 b44 ((o45 + x35.toNat * 6) + 1) = some (vi x46)) ∧ (∃ (x47 : Int), (IsW x47 (x46 - x12)) ∧ (∃ (b48 o49 : Nat), (a29 = some ⟨b48, o49, none⟩ ∧ (0 : Int) ≤ x35 ∧ x35 < ((n29 : Nat) : Int)) ∧ (Hp.store h42 b48 ((o49 + x35.toNat * 6) + 1) [(vi x47)] fun h50 => (J53 h50))))))) ∧ ((decide ((x43 : Int) > 0)) = false → (J53 h42))))))))) ∧ ((decide ((x35 : Int) < ((n29 : Nat) : Int))) = false → R (vsl a29 n29 c29) h34))))))))))))
/-- What 'penstock/expr.Join' asks. -/
def VC_expr_Join (u_op : Int) (u_xa : Option Addr) (u_xn u_xc : Nat) (u_ya : Option Addr) (u_yn u_yc : Nat) (h : Hp) (R : Value → Hp → Prop) : Prop :=
  (CallOK Tryd.prog 67 [(vsl u_xa u_xn u_xc)] h fun v1 h2 => ∃ (a3 : Option Addr) (n3 c3 : Nat), v1 = (vsl a3 n3 c3) ∧ (∃ (x4 : Int), (IsW x4 (((u_xn : Nat) : Int) - 1)) ∧ (∃ (I6 : List Value → Hp → Prop) (m7 : List Value → Hp → Nat), I6 [(vsl a3 n3 c3), (vi 0)] h2 ∧ ∀ (vs8 : List Value) (h9 : Hp), I6 vs8 h9 → ∃ (a10 : Option Addr) (n10 c10 : Nat) (x11 : Int), vs8 = [(vsl a10 n10 c10), (vi x11)] ∧ (((decide ((x11 : Int) < ((u_yn : Nat) : Int))) = true → (∃ (b14 o15 : Nat), (u_ya = some ⟨b14, o15, none⟩ ∧ (0 : Int) ≤ x11 ∧ x11 < ((u_yn : Nat) : Int)) ∧ (∃ (x16 : Int) (x17 : Int) (x18 : Int) (x19 : Int) (x20 : Int) (x21 : Int), (Hp.row h9 b14 (o15 + x11.toNat * 6) 6 = some [(vi x16), (vi x17), (vi x18), (vi x19), (vi x20), (vi x21)]) ∧ (CallOK Tryd.prog 58 [(vi x16)] h9 fun v22 h23 => ∃ (x24 : Int), v22 = (vi x24) ∧ (let J28 : Int → Prop := fun (x38 : Int) => (CallOK Tryd.prog 58 [(vi x16)] h23 fun v39 h40 => ∃ (x41 : Int), v39 = (vi x41) ∧ (let J45 : Int → Prop := fun (x48 : Int) => (∀ (b49 : Nat), h40 b49 = none → let h50 : Hp := Hp.set h40 b49 (cellsO [(vi x16), (vi x38), (vi x48), (vi x19), (vi x20), (vi x21)] 69); (SemOK Tryd.prog (Builtin.append_ #[23, 23] 23 #[(vsl a10 n10 c10), (vsl (some (⟨b49, 0, none⟩ : Addr)) 1 1)]) h50 fun v51 h52 => ∃ (a53 : Option Addr) (n53 c53 : Nat), v51 = (vsl a53 n53 c53) ∧ (∃ (x55 : Int), (IsW x55 (x11 + 1)) ∧ (I6 [(vsl a53 n53 c53), (vi x55)] h52 ∧ m7 [(vsl a53 n53 c53), (vi x55)] h52 < m7 vs8 h9)))); (((decide ((x41 : Int) > 1)) = true → (∃ (x42 : Int), (IsW x42 (x18 + ((u_xn : Nat) : Int))) ∧ (J45 x42))) ∧ ((decide ((x41 : Int) > 1)) = false → (J45 x18))))); (((decide ((x24 : Int) > 0)) = true → (∃ (x25 : Int), (IsW x25 (x17 + ((u_xn : Nat) : Int))) ∧ (J28 x25))) ∧ ((decide ((x24 : Int) > 0)) = false → (J28 x17)))))))) ∧ ((decide ((x11 : Int) < ((u_yn : Nat) : Int))) = false → (CallOK Tryd.prog 58 [(vi u_op)] h9 fun v56 h57 => ∃ (x58 : Int), v56 = (vi x58) ∧ (let J62 : Int → Prop := fun (x65 : Int) => (∀ (b66 : Nat), h57 b66 = none → let h67 : Hp := Hp.set h57 b66 (cellsO [(vi u_op), (vi x4), (vi x65), (vi 0), (vi 0), (vi 0)] 69); (SemOK Tryd.prog (Builtin.append_ #[23, 23] 23 #[(vsl a10 n10 c10), (vsl (some (⟨b66, 0, none⟩ : Addr)) 1 1)]) h67 fun v68 h69 => ∃ (a70 : Option Addr) (n70 c70 : Nat), v68 = (vsl a70 n70 c70) ∧ R (vsl a70 n70 c70) h69)); (((decide ((x58 : Int) > 1)) = true → (∃ (x59 : Int), (IsW x59 (((n10 : Nat) : Int) - 1)) ∧ (J62 x59))) ∧ ((decide ((x58 : Int) > 1)) = false → (J62 0))))))))))
theorem ok_expr_Join {u_op : Int} {u_xa : Option Addr} {u_xn u_xc : Nat} {u_ya : Option Addr} {u_yn u_yc : Nat} {h : Hp} {R : Value → Hp → Prop} (H : VC_expr_Join u_op u_xa u_xn u_xc u_ya u_yn u_yc h R) : CallOK Tryd.prog 49 [(vi u_op), (vsl u_xa u_xn u_xc), (vsl u_ya u_yn u_yc)] h R :=
  call_of (cfg := ⟨[], [(4, ([7, 20], [.one (.slice), .one (.int .i64)], []))], []⟩) noNG mixed Tryd.func49 [.one (.v (vi u_op)), .one (.v (vsl u_xa u_xn u_xc)), .one (.v (vsl u_ya u_yn u_yc))] (by kernel_rfl) rfl (by kernel_rfl) H

/-- What 'slices.Clone[[]penstock/api.Node,penstock/api.Node]' asks. -/
def VC_slices_Clone_api_Node_api_Node (u_sa : Option Addr) (u_sn u_sc : Nat) (h : Hp) (R : Value → Hp → Prop) : Prop :=
  (∃ (p1 : Bool), (Rd Tryd.prog ((eqGuard .eql 23 (.tmp 3) (.const (vsl none 0 0)) (vsl u_sa u_sn u_sc) (vsl none 0 0) >>= fun _ => binOp .eql 23 (vsl u_sa u_sn u_sc) (vsl none 0 0))) h (vb p1)) ∧ ((p1 = true → R (vsl none 0 0) h) ∧ (p1 = false → (∀ (b3 : Nat), h b3 = none → let h4 : Hp := Hp.set h b3 (cellsO [] 69); (SemOK Tryd.prog (Builtin.append_ #[23, 23] 23 #[(vsl (some (⟨b3, 0, none⟩ : Addr)) 0 0), (vsl u_sa u_sn u_sc)]) h4 fun v5 h6 => ∃ (a7 : Option Addr) (n7 c7 : Nat), v5 = (vsl a7 n7 c7) ∧ R (vsl a7 n7 c7) h6)))))
theorem ok_slices_Clone_api_Node_api_Node {u_sa : Option Addr} {u_sn u_sc : Nat} {h : Hp} {R : Value → Hp → Prop} (H : VC_slices_Clone_api_Node_api_Node u_sa u_sn u_sc h R) : CallOK Tryd.prog 67 [(vsl u_sa u_sn u_sc)] h R :=
  call_of (cfg := ⟨[], [], []⟩) noNG mixed Tryd.func67 [.one (.v (vsl u_sa u_sn u_sc))] (by kernel_rfl) rfl (by kernel_rfl) H

end Go.Proofs.YtonlacplogbodaaDoor
/-
  What functions of the program ask, in words: each is what the framework reckons from the loaded code (the kernel holds the two together), and gives the function's call. Conditions: none.
-/
namespace Go.Proofs.YtonlacplogbodaaDoor
open Go Go.Vc
set_option maxRecDepth 100000
set_option linter.unusedVariables false
/-- What 'penstock/penstockref.Arity' asks. -/
def VC_R_Arity (u_op : Int) (h : Hp) (R : Value → Hp → Prop) : Prop :=
  (((bif (decide ((u_op : Int) = 1)) then true else (decide ((u_op : Int) = 2))) = true → R (vi 0) h) ∧ ((bif (decide ((u_op : Int) = 1)) then true else (decide ((u_op : Int) = 2))) = false → (((bif (decide ((u_op : Int) ≥ 3)) then (decide ((u_op : Int) ≤ 5)) else false) = true → R (vi 1) h) ∧ ((bif (decide ((u_op : Int) ≥ 3)) then (decide ((u_op : Int) ≤ 5)) else false) = false → (((bif (decide ((u_op : Int) ≥ 6)) then (decide ((u_op : Int) ≤ 12)) else false) = true → R (vi 2) h) ∧ ((bif (decide ((u_op : Int) ≥ 6)) then (decide ((u_op : Int) ≤ 12)) else false) = false → R (vi (-1)) h))))))
end Go.Proofs.YtonlacplogbodaaDoor
/-
  What functions of the program ask, in words: each is what the framework reckons from the loaded code (the kernel holds the two together), and gives the function's call. Conditions: none.
-/
namespace Go.Proofs.YtonlacplogbodaaDoor
open Go Go.Vc
set_option maxRecDepth 100000
set_option linter.unusedVariables false
/-- What 'penstock/penstockref.Num' asks. -/
def VC_R_Num (u_n : Int) (h : Hp) (R : Value → Hp → Prop) : Prop :=
  (((bif (decide ((u_n : Int) < (-1000000000))) then true else (decide ((u_n : Int) > 1000000000))) = true → R (vag [(vi 0), (vi 0)]) h) ∧ ((bif (decide ((u_n : Int) < (-1000000000))) then true else (decide ((u_n : Int) > 1000000000))) = false → R (vag [(vi 1), (vi u_n)]) h))
/-- What 'penstock/penstockref.Truth' asks. -/
def VC_R_Truth (u_is : Bool) (h : Hp) (R : Value → Hp → Prop) : Prop :=
  ((u_is = true → R (vag [(vi 2), (vi 1)]) h) ∧ (u_is = false → R (vag [(vi 2), (vi 0)]) h))
end Go.Proofs.YtonlacplogbodaaDoor
/-
  Contracts: values, as the document has them. Conditions: none.
-/
namespace Go.Proofs.YtonlacplogbodaaDoor
open Go Go.Vc
set_option linter.unusedVariables false

theorem or10 (a b : Int × Int) : doV 10 a b = if (a.1 = 2 ∧ a.2 ≠ 0) ∨ (b.1 = 2 ∧ b.2 ≠ 0) then (2, 1) else if a.1 = 2 ∧ b.1 = 2 then (2, 0) else (0, 0) := by
  obtain ⟨a1, a2⟩ := a
  obtain ⟨b1, b2⟩ := b
  unfold doV andV notV truthV
  by_cases h1 : a1 = 2 <;> by_cases h2 : b1 = 2 <;> by_cases h3 : a2 = 0 <;> by_cases h4 : b2 = 0 <;> simp [h1, h2, h3, h4]
end Go.Proofs.YtonlacplogbodaaDoor
/-
  Nodes: how they lie. Conditions: none.
-/
namespace Go.Proofs.YtonlacplogbodaaDoor
open Go Go.Vc
set_option linter.unusedVariables false
set_option maxRecDepth 100000

def encN (n : Nd) : List Value := [vi n.op, vi n.x, vi n.y, vi n.n, vi n.v.1, vi n.v.2]
theorem encN_len (n : Nd) : (encN n).length = 6 := rfl
theorem one_encN (n : Nd) : ∀ u ∈ encN n, u.oneCell' = true := by
  intro u hu
  simp [encN] at hu
  rcases hu with rfl | rfl | rfl | rfl | rfl | rfl <;> rfl
theorem one_nds (l : List Nd) : ∀ u ∈ l.flatMap encN, u.oneCell' = true := by
  intro u hu
  obtain ⟨v, _, hv⟩ := List.mem_flatMap.1 hu
  exact one_encN v u hv
theorem elNd : ElT Tryd.prog 23 69 6 48 := .of (by kernel_rfl) (by kernel_rfl) (by decide)
end Go.Proofs.YtonlacplogbodaaDoor
/-
  Contracts: expressions, as the document has them. Conditions: those stated at each.
-/
namespace Go.Proofs.YtonlacplogbodaaDoor
open Go Go.Vc
set_option linter.unusedVariables false
set_option maxRecDepth 100000

theorem ne_pair (v : Int × Int) : (v ≠ (0, 0)) = (v.1 ≠ 0 ∨ v.2 ≠ 0) := by
  refine propext ⟨fun h => ?_, fun h e => ?_⟩
  · by_cases h1 : v.1 = 0
    · by_cases h2 : v.2 = 0
      · exact absurd (Prod.ext h1 h2) h
      · exact .inr h2
    · exact .inl h1
  · rw [e] at h; simp at h
/-- A node takes its own: what is left, and what it took. -/
theorem popN_some {n : Nd} {st s : List Int} (ha : 0 ≤ arI n.op) (h : popN n st = some s) : (s.length : Int) = st.length - arI n.op ∧ st.reverse.take s.length = s.reverse := by
  unfold popN at h
  rcases arI_range ha with h1 | h1 | h1
  · rw [if_pos h1] at h
    cases h
    refine ⟨by omega, ?_⟩
    rw [List.take_of_length_le (by simp)]
  · rw [if_neg (by omega), if_pos h1] at h
    match st, h with
    | a :: t, h =>
      simp only at h
      split at h
      · cases h
        refine ⟨by simp; omega, ?_⟩
        rw [List.reverse_cons, List.take_left' (by simp)]
      · cases h
  · rw [if_neg (by omega), if_neg (by omega)] at h
    match st, h with
    | b :: a :: t, h =>
      simp only at h
      split at h
      · cases h
        refine ⟨by simp; omega, ?_⟩
        rw [List.reverse_cons, List.reverse_cons, List.append_assoc, List.take_left' (by simp)]
      · cases h
theorem chk_none {n : Nd} {l : List Nd} {st : List Int} {i : Nat} (h0 : nodeF n = 0) (h : popN n st = none) : chkGo st i (n :: l) = 3 := by
  rw [chkGo, if_neg (fun q => q h0), h]
theorem chk_some {n : Nd} {l : List Nd} {st s : List Int} {i : Nat} (h0 : nodeF n = 0) (h : popN n st = some s) : chkGo st i (n :: l) = chkGo (i :: s) (i + 1) l := by
  rw [chkGo, if_neg (fun q => q h0), h]
theorem chk_fault {n : Nd} {l : List Nd} {st : List Int} {i : Nat} {f : Int} (h0 : nodeF n = f) (hf : f ≠ 0) : chkGo st i (n :: l) = f := by
  rw [chkGo, if_pos (by rw [h0]; exact hf), h0]
end Go.Proofs.YtonlacplogbodaaDoor
/-
  Contracts: package expr: Arity, Check. Conditions: those stated at each.
-/
namespace Go.Proofs.YtonlacplogbodaaDoor
open Go Go.Vc
set_option linter.unusedVariables false
set_option maxRecDepth 100000

theorem expr_Arity_ok {op : Int} {h : Hp} {R : Value → Hp → Prop} (hK : R (vi (arI op)) h) : CallOK Tryd.prog 58 [vi op] h R := by
  refine ok_expr_Arity ?_
  unfold VC_expr_Arity
  unfold arI at hK
  refine ⟨fun e => ?_, fun e => ⟨fun e2 => ?_, fun e2 => ⟨fun e3 => ?_, fun e3 => ?_⟩⟩⟩
  all_goals simp only [cand, cor] at *
  · rw [if_pos (of_decide_eq_true e)] at hK; exact hK
  · rw [if_neg (of_decide_eq_false e), if_pos (by have := of_decide_eq_true e2; omega)] at hK; exact hK
  · rw [if_neg (of_decide_eq_false e), if_neg (by have := of_decide_eq_false e2; omega), if_pos (by have := of_decide_eq_true e3; omega)] at hK; exact hK
  · rw [if_neg (of_decide_eq_false e), if_neg (by have := of_decide_eq_false e2; omega), if_neg (by have := of_decide_eq_false e3; omega)] at hK; exact hK
end Go.Proofs.YtonlacplogbodaaDoor
/-
  What functions of the program ask, in words: each is what the framework reckons from the loaded code (the kernel holds the two together), and gives the function's call. Conditions: none.
-/
namespace Go.Proofs.YtonlacplogbodaaDoor
open Go Go.Vc
set_option maxRecDepth 100000
set_option linter.unusedVariables false
end Go.Proofs.YtonlacplogbodaaDoor
/-
  Contracts: values of expressions, as the document has them. Conditions: that each node's own stand ahead of it.
-/
namespace Go.Proofs.YtonlacplogbodaaDoor
open Go Go.Vc
set_option linter.unusedVariables false
set_option maxRecDepth 100000

section
variable {a : Option Addr} {m c : Nat} {l : List Nd} {h : Hp}
end
end Go.Proofs.YtonlacplogbodaaDoor
/-
  Contracts: values and kinds of expressions, as the document has them. Conditions: that each node's own stand ahead of it.
-/
namespace Go.Proofs.YtonlacplogbodaaDoor
open Go Go.Vc
set_option linter.unusedVariables false
set_option maxRecDepth 100000

section
variable {a : Option Addr} {m c : Nat} {l : List Nd} {h : Hp}
theorem tyG_some (op a b : Int) : tyG op (some a) (some b) = if op = 5 then some 2 else if (a ≠ 0 ∧ a ≠ wantT op) ∨ (b ≠ 0 ∧ b ≠ wantT op) then none else if op = 11 ∨ op = 12 then some 2 else some (wantT op) := rfl
/-- A kind, as it is told. -/
def tyOut : Option Int → Value
  | some t => vtup [vi t, vb true]
  | none => vtup [vi 0, vb false]
end
end Go.Proofs.YtonlacplogbodaaDoor
/-
  Contracts: package expr: Eval, Type. Conditions: that each node's own stand ahead of it.
-/
namespace Go.Proofs.YtonlacplogbodaaDoor
open Go Go.Vc
set_option linter.unusedVariables false
set_option maxRecDepth 100000

/-- What is known of the nodes up to one. -/
theorem outs_get {β : Type} {d : β} {F : Nd → β → β → β} {l : List Nd} {outs : List β} {i k : Nat} (ho : outs.take i = fwd d F (l.take i)) (hi : i ≤ l.length) (hk : k < i) : outs[k]? = some (fAt d F l k) := by
  have h1 : outs[k]? = (outs.take i)[k]? := by rw [List.getElem?_take, if_pos hk]
  rw [h1, ho]
  have hlen : (fwd d F (l.take i)).length = i := by rw [fwd_length, List.length_take]; omega
  rw [← fAt_take l hk hi, List.getD_eq_getElem?_getD, List.getElem?_eq_getElem (by omega)]
  rfl
theorem outs_set {β : Type} {d : β} {F : Nd → β → β → β} {l : List Nd} {outs : List β} {i : Nat} {n : Nd} (ho : outs.take i = fwd d F (l.take i)) (hn : l[i]? = some n) (hl : outs.length = l.length) : (outs.set i (fAt d F l i)).take (i + 1) = fwd d F (l.take (i + 1)) := by
  have hlt := (List.getElem?_eq_some_iff.1 hn).1
  rw [fwd_take l hn, ← ho, List.take_succ_eq_append_getElem (by rw [List.length_set]; omega), List.take_set_of_le (Nat.le_refl _), List.getElem_set_self]
section
variable {a : Option Addr} {m c : Nat} {l : List Nd} {h : Hp}
theorem expr_join_ok {x y : Int} {R : Value → Hp → Prop} (hK : R (vtup [vi (if x = 0 then y else if y = 0 ∨ x = y then x else 0), vb (decide (x = 0 ∨ y = 0 ∨ x = y))]) h) : CallOK Tryd.prog 59 [vi x, vi y] h R := by
  refine ok_expr_join ?_
  unfold VC_expr_join
  refine ⟨fun q => ?_, fun q => ?_⟩
  · have q := of_decide_eq_true q
    rw [if_pos q, decide_eq_true (.inl q)] at hK; exact hK
  have q := of_decide_eq_false q
  rw [if_neg q] at hK
  intro J3
  refine ⟨fun q2 => ⟨fun _ => ?_, fun q3 => ?_⟩, fun q2 => ⟨fun q3 => ?_, fun q3 => ?_⟩⟩
  · have q2 := of_decide_eq_true q2
    rw [if_pos (.inl q2), decide_eq_true (.inr (.inl q2))] at hK; exact hK
  · rw [q2] at q3; cases q3
  · have q3 := of_decide_eq_true q3
    rw [if_pos (.inr q3), decide_eq_true (.inr (.inr q3))] at hK; exact hK
  · have q2 := of_decide_eq_false q2
    have q3 := of_decide_eq_false q3
    rw [if_neg (by omega), decide_eq_false (by omega)] at hK; exact hK
def encI (x : Int) : List Value := [vi x]
theorem encI_len (x : Int) : (encI x).length = 1 := rfl
theorem expr_Type_ok (S : SlP encN h a m l) (O : OkE l) (hm : l.length ≤ 1000000) {R : Value → Hp → Prop} (hK : ∀ h', h.le h' → R (vtup [vi (typE l).1, ifv (errV (typE l).2)]) h') : CallOK Tryd.prog 43 [vsl a m c] h R := by
  have W := O.wf
  have hl := O.pos
  refine ok_expr_Type ?_
  unfold VC_expr_Type
  obtain rfl := S.1
  refine Vec.make (enc := encI) (x := 0) elInt (z := [vi 0]) (by kernel_rfl) rfl rfl hm (by omega) fun a3 h2 V2 => ⟨_, _, _, rfl, ?_⟩
  refine ⟨fun vs hh => ∃ (i : Nat) (outs : List Int), vs = [vi i] ∧ i ≤ l.length ∧ outs.length = l.length ∧ (outs.map some).take i = fwd none tyF (l.take i) ∧ Vec encI 1 3 h hh a3 l.length outs, fun vs hh => l.length - (vint vs 0).toNat,
    ⟨0, _, rfl, Nat.zero_le _, by simp, rfl, V2⟩, ?_⟩
  rintro vs hh ⟨i, outs, rfl, hi, hlo, ho, V⟩
  have get : ∀ {k : Nat}, k < i → ∃ t, outs[k]? = some t ∧ tAt l k = some t := by
    intro k hk
    have := outs_get ho hi hk
    rw [List.getElem?_map, Option.map_eq_some_iff] at this
    obtain ⟨t, h1, h2⟩ := this
    exact ⟨t, h1, h2.symm⟩
  refine ⟨i, rfl, fun q => ?_, fun q => ?_⟩
  · have hlt : i < l.length := by have := of_decide_eq_true q; omega
    have hx : l[i]? = some l[i] := List.getElem?_eq_getElem hlt
    have Wn := W _ _ hx
    have hv : tAt l i = _ := fAt_wf own_tyF hx Wn
    have hset := fun t (e : tAt l i = some t) => (by
      have := outs_set (outs := outs.map some) ho hx (by simpa using hlo)
      rw [show fAt none tyF l i = some t from e, ← List.map_set] at this
      exact this : ((outs.set i t).map some).take (i + 1) = fwd none tyF (l.take (i + 1)))
    obtain ⟨b, o, ha, hr⟩ := (S.le V.le0).get encN_len (by decide) hx
    generalize l[i] = n at *
    have hout : outs[i]? = some (outs[i]'(by omega)) := List.getElem?_eq_getElem (by omega)
    obtain ⟨b3, o3, ha3, _⟩ := V.put encI_len (x' := 0) (k := 0) (vs := [vi 0]) hout (by decide) (by decide) rfl
    have A3 : ∀ {x : Int}, 0 ≤ x → x < l.length → a3 = some ⟨b3, o3, none⟩ ∧ (0 : Int) ≤ x ∧ x < (l.length : Nat) := fun h0 h1 => ⟨ha3, h0, h1⟩
    have put : ∀ (outs' : List Int) (hh' : Hp), outs'.length = l.length → Vec encI 1 3 h hh' a3 l.length outs' → ∀ (t : Int) (K : Hp → Prop), (∀ h', Vec encI 1 3 h h' a3 l.length (outs'.set i t) → K h') → hh'.store b3 (o3 + i * 1) [vi t] K := by
      intro outs' hh' h1 V' t K hK
      obtain ⟨b', o', ha', hp⟩ := V'.put encI_len (i := i) (x := outs'[i]'(by omega)) (x' := t) (k := 0) (vs := [vi t]) (List.getElem?_eq_getElem (by omega)) (Nat.succ_pos 0) (Nat.le_refl 1) rfl
      rw [ha3] at ha'
      cases ha'
      exact hp K hK
    intro J95
    have hJ : ∀ t, tAt l i = some t → ∀ h', Vec encI 1 3 h h' a3 l.length (outs.set i t) → J95 h' := by
      intro t e h' V'
      exact ⟨_, isW (by unfold InR; omega), ⟨i + 1, _, rfl, by omega, by rw [List.length_set]; exact hlo, hset t e, V'⟩, by simp [vint]; omega⟩
    clear_value J95
    have ar := ar0 Wn.a
    have hfold : tAt l = fAt none tyF l := rfl
    rw [← hfold] at hv
    have Ai : a3 = some ⟨b3, o3, none⟩ ∧ (0 : Int) ≤ i ∧ (i : Int) < (l.length : Nat) := A3 (by omega) (by omega)
    refine ⟨b, o, ⟨ha, by omega, by omega⟩, _, _, _, _, _, _, hr, ?_⟩
    intro J39
    have bad : tAt l i = none → ∀ h', h.le h' → R (vtup [vi 0, ifv (errV 3)]) h' := by
      intro e h' l'
      have : typE l = (0, 3) := by
        unfold typE
        cases ht : tAt l (l.length - 1) with
        | none => rfl
        | some t => exact absurd e (O.b.ty W (by rw [ht]; simp) i (Nat.zero_le _) hlt)
      rw [this] at hK
      exact hK h' l'
    have hJ39 : ¬ n.op = 1 → ¬ n.op = 2 → ¬ n.op = 5 → J39 (wantT n.op) := by
      intro p1 p2 p5
      have har : 1 ≤ arI n.op := by rcases arI_range Wn.a with h | h | h <;> omega
      rw [tyF_op p1 p2] at hv
      have hX := Wn.x har
      obtain ⟨tx, ox, ex⟩ := get (k := n.x.toNat) (by omega)
      have hy : ∃ ty, 2 ≤ arI n.op → outs[n.y.toNat]? = some ty ∧ tAt l n.y.toNat = some ty := by
        by_cases h2 : 2 ≤ arI n.op
        · have hY := Wn.y h2
          obtain ⟨ty, q⟩ := get (k := n.y.toNat) (by omega)
          exact ⟨ty, fun _ => q⟩
        · exact ⟨0, fun h => absurd h h2⟩
      obtain ⟨ty, hy⟩ := hy
      have hv2 : tAt l i = tyG n.op (some tx) (some (if arI n.op = 2 then ty else tx)) := by
        rw [hv, ex]
        by_cases h2 : arI n.op = 2
        · rw [if_pos h2, if_pos h2, (hy (by omega)).2]
        · rw [if_neg h2, if_neg h2]
      rw [tyG_some, if_neg p5] at hv2
      have hw0 : wantT n.op ≠ 0 := by unfold wantT; split <;> decide
      generalize hwd : wantT n.op = want at *
      refine expr_Arity_ok ⟨_, rfl, fun b64 hb64 => ?_⟩
      intro h65
      have S65 : SlI h65 (some ⟨b64, 0, none⟩) 2 [n.x, n.y] := ⟨rfl, HasRow.new _ _ [vi n.x, vi n.y] _⟩
      have V65 : Vec encI 1 3 h h65 a3 l.length outs := V.keep0 (Hp.le_set (Hp.le_refl hh) hb64 _)
      clear_value h65
      refine ⟨_, _, _, rd_slice_h (e := 3) (by kernel_rfl) (by kernel_rfl) (by omega) (by rcases arI_range Wn.a with h | h | h <;> omega), ?_⟩
      have rdo : ∀ {x t : Int}, 0 ≤ x → outs[x.toNat]? = some t → h65.cell b3 (o3 + x.toNat * 1) = some (vi t) := by
        intro x t h0 h1
        obtain ⟨b', o', ha', hr'⟩ := (V65.slp encI_len (by decide)).cell (j := 0) encI_len (by decide) h1 rfl
        rw [ha3] at ha'
        cases ha'
        exact hr'
      refine ⟨fun vs h' => h' = h65 ∧ ∃ j : Nat, vs = [vi j] ∧ (j : Int) ≤ arI n.op ∧ (1 ≤ j → tx = 0 ∨ tx = want) ∧ (2 ≤ j → ty = 0 ∨ ty = want), fun vs hh => (arI n.op).toNat - (vint vs 0).toNat, ⟨rfl, 0, rfl, by omega, by omega, by omega⟩, ?_⟩
      rintro vs h71 ⟨rfl, j, rfl, hj, f1, f2⟩
      refine ⟨j, rfl, fun g => ?_, fun g => ?_⟩
      · have hj2 : (j : Int) < arI n.op := by have := of_decide_eq_true g; omega
        have fact : ∃ x t : Int, [n.x, n.y].getD j 0 = x ∧ 0 ≤ x ∧ x < l.length ∧ outs[x.toNat]? = some t ∧ (¬ (t = 0 ∨ t = want) → tAt l i = none) ∧ (j = 0 → t = tx) ∧ (j = 1 → t = ty) := by
          by_cases hj0 : j = 0
          · subst hj0
            refine ⟨n.x, tx, rfl, hX.1, by omega, ox, fun hb => ?_, fun _ => rfl, fun h => by omega⟩
            rw [hv2, if_pos (by omega)]
          · have hj1 : j = 1 := by rcases arI_range Wn.a with h | h | h <;> omega
            subst hj1
            have hY := Wn.y (by omega)
            refine ⟨n.y, ty, rfl, hY.1, by omega, (hy (by omega)).1, fun hb => ?_, fun h => by omega, fun _ => rfl⟩
            rw [hv2, if_pos]
            rw [if_pos (by rcases arI_range Wn.a with h | h | h <;> omega)]
            omega
        obtain ⟨x, t, e0, h0, h1, e1, hb, u1, u2⟩ := fact
        obtain ⟨q, p, hq, hcell⟩ := S65.get (i := j) (by rcases arI_range Wn.a with h | h | h <;> omega)
        rw [e0] at hcell
        refine ⟨q, p, ⟨hq, by omega, by omega⟩, _, hcell, b3, o3, A3 h0 h1, _, rdo h0 e1, expr_join_ok ⟨_, _, rfl, fun g => ?_, fun g => ?_⟩⟩
        · rw [cnot] at g
          have g := of_decide_eq_true g
          exact bad (hb (by omega)) h71 V65.le0
        · rw [cnot] at g
          have g := of_decide_eq_false g
          refine ⟨_, isW (by unfold InR; rcases arI_range Wn.a with h | h | h <;> omega), ⟨rfl, j + 1, rfl, by omega, fun _ => ?_, fun h => ?_⟩, by simp [vint]; omega⟩
          · by_cases hj0 : j = 0
            · have := u1 hj0; omega
            · exact f1 (by omega)
          · have := u2 (by rcases arI_range Wn.a with h | h | h <;> omega); omega
      · have hje : (j : Int) = arI n.op := by have := of_decide_eq_false g; omega
        have hfine : tAt l i = some (if n.op = 11 ∨ n.op = 12 then 2 else want) := by
          rw [hv2, if_neg]
          · split <;> rfl
          · have := f1 (by omega)
            by_cases h2 : arI n.op = 2
            · rw [if_pos h2]
              have := f2 (by omega)
              omega
            · rw [if_neg h2]
              omega
        refine ⟨b3, o3, Ai, put outs _ hlo V65 want _ fun h89 V89 => ⟨fun g => ?_, fun g => ?_⟩⟩
        · rw [cor] at g
          have g := of_decide_eq_true g
          rw [if_pos g] at hfine
          refine ⟨b3, o3, Ai, put _ h89 (by rw [List.length_set]; exact hlo) V89 2 _ fun h92 V92 => hJ 2 hfine h92 ?_⟩
          rw [List.set_set] at V92
          exact V92
        · rw [cor] at g
          have g := of_decide_eq_false g
          rw [if_neg g] at hfine
          exact hJ want hfine h89 V89
    clear_value J39
    refine ⟨fun q => ?_, fun q1 => ⟨fun q => ?_, fun q2 => ⟨fun q => ?_, fun q5 => ?_⟩⟩⟩
    · have e : tAt l i = some n.v.1 := by rw [hv]; unfold tyF; exact if_pos (of_decide_eq_true q)
      exact ⟨b3, o3, Ai, put outs hh hlo V _ _ (hJ _ e)⟩
    · have e : tAt l i = some 1 := by rw [hv]; unfold tyF; rw [if_neg (of_decide_eq_false q1)]; exact if_pos (of_decide_eq_true q)
      exact ⟨b3, o3, Ai, put outs hh hlo V _ _ (hJ _ e)⟩
    · have h5 := of_decide_eq_true q
      have hX := Wn.x (by omega)
      obtain ⟨tx, ox, ex⟩ := get (k := n.x.toNat) (by omega)
      have e : tAt l i = some 2 := by
        rw [hv, tyF_op (by omega) (by omega), if_neg (by omega), ex, tyG_some, if_pos h5]
      exact ⟨b3, o3, Ai, put outs hh hlo V _ _ (hJ _ e)⟩
    · have p1 := of_decide_eq_false q1
      have p2 := of_decide_eq_false q2
      have p5 := of_decide_eq_false q5
      have hw := hJ39 p1 p2 p5
      unfold wantT at hw
      intro J35
      refine ⟨fun g => ⟨fun _ => ?_, fun g2 => ?_⟩, fun g1 => ⟨fun g => ⟨fun _ => ?_, fun g2 => ?_⟩, fun g2 => ⟨fun g => ?_, fun g => ?_⟩⟩⟩
      · rw [if_pos (.inl (of_decide_eq_true g))] at hw; exact hw
      · rw [g] at g2; cases g2
      · rw [if_pos (.inr (.inl (of_decide_eq_true g)))] at hw; exact hw
      · rw [g] at g2; cases g2
      · rw [if_pos (.inr (.inr (of_decide_eq_true g)))] at hw; exact hw
      · have a1 := of_decide_eq_false g1
        have a2 := of_decide_eq_false g2
        have a3 := of_decide_eq_false g
        rw [if_neg (by omega)] at hw; exact hw
  · have hge : i = l.length := by have := of_decide_eq_false q; omega
    subst hge
    obtain ⟨t, ot, et⟩ := get (k := l.length - 1) (by omega)
    obtain ⟨b', o', ha', hr'⟩ := (V.slp encI_len (by decide)).cell (j := 0) encI_len (by decide) ot rfl
    refine ⟨_, isW (by unfold InR; omega), b', o', ⟨ha', by omega, by omega⟩, t, ?_, ?_⟩
    · have e1 : (((l.length : Nat) : Int) - 1).toNat = l.length - 1 := by omega
      rw [e1]
      exact hr'
    · have : typE l = (t, 0) := by unfold typE; rw [et]
      rw [this] at hK
      exact hK hh V.le0
end
end Go.Proofs.YtonlacplogbodaaDoor
/-
  Contracts: package expr: Cut, Join. Conditions: those stated at each.
-/
namespace Go.Proofs.YtonlacplogbodaaDoor
open Go Go.Vc
set_option linter.unusedVariables false
set_option maxRecDepth 100000

abbrev NdVec := Vec encN 6 69
theorem cloneN_ok {a : Option Addr} {n c : Nat} {l : List Nd} {h : Hp} {R : Value → Hp → Prop} (S : SlP encN h a n l) (hn : n ≤ 1000000) (hK : ∀ a' c' h', NdVec h h' a' c' l → R (vsl a' l.length c') h') :
    CallOK Tryd.prog 67 [vsl a n c] h R := by
  refine ok_slices_Clone_api_Node_api_Node ?_
  unfold VC_slices_Clone_api_Node_api_Node
  have hl := S.1
  subst hl
  have hfl : (l.flatMap encN).length = l.length * 6 := by rw [flatMap_length encN_len]
  refine ⟨_, rd_eqNilS (e := 69) (by kernel_rfl), fun e => ?_, fun e => ?_⟩
  · have h0 : l.flatMap encN = [] := by
      rcases S.2 with h1 | ⟨b, o, ha, _⟩
      · exact h1
      · rw [ha] at e; cases e
    rw [h0] at hfl
    have hn0 : l = [] := List.eq_nil_of_length_eq_zero (by simp at hfl; omega)
    subst hn0
    exact hK none 0 h (OwnV.nil (Hp.le_refl h) _ _)
  · intro b3 hb3 h4
    have O0 : OwnV h h4 69 6 (some ⟨b3, 0, none⟩) 0 0 [] := OwnV.mk_new (Hp.le_refl h) hb3 _ [] rfl (by simp [maxLen])
    refine OwnV.append elNd O0 (S.le (Hp.le_set (Hp.le_refl h) hb3 _)).2 hfl (one_nds l) (by omega) (by omega) fun a' c' h' O' _ _ => ⟨_, _, _, rfl, ?_⟩
    rw [Nat.zero_add, List.nil_append] at *
    exact hK a' c' h' O'
/-- Expressions that are yet to be passed, on the way down to f. -/
inductive Pend (l : List Nd) (f : Nat) : Nat → Nat → Prop where
  | nil : Pend l f f 0
  | cons {g e k : Nat} : Blk l g e → Pend l f g k → Pend l f e (k + 1)
theorem Pend.open {l : List Nd} {f g i k : Nat} {n : Nd} (B : Blk l g (i + 1)) (Q : Pend l f g k) (hn : l[i]? = some n) : Pend l f i (k + (arI n.op).toNat) := by
  cases B with
  | leaf h ha =>
    rw [hn] at h
    cases h
    rw [ha]
    exact Q
  | one B h ha _ =>
    rw [hn] at h
    cases h
    rw [ha]
    exact .cons B Q
  | two B B' h ha _ _ =>
    rw [hn] at h
    cases h
    rw [ha]
    exact .cons B' (.cons B Q)
section
variable {a : Option Addr} {m c : Nat} {l : List Nd} {h : Hp}
theorem expr_Join_ok {op : Int} {a2 : Option Addr} {m2 c2 : Nat} {l2 : List Nd} (S : SlP encN h a m l) (S2 : SlP encN h a2 m2 l2) (W2 : WfL l2) (hm : l.length ≤ 1000000) (hm2 : l2.length ≤ 1000000) {R : Value → Hp → Prop}
    (hK : ∀ a' c' h', NdVec h h' a' c' (joinL op l l2) → R (vsl a' (joinL op l l2).length c') h') : CallOK Tryd.prog 49 [vi op, vsl a m c, vsl a2 m2 c2] h R := by
  refine ok_expr_Join ?_
  unfold VC_expr_Join
  obtain rfl := S.1
  obtain rfl := S2.1
  refine cloneN_ok S hm fun a3 c3 h2 V2 => ⟨_, _, _, rfl, _, isW (by unfold InR; omega), ?_⟩
  refine ⟨fun vs hh => ∃ (i : Nat) (a : Option Addr) (c : Nat), vs = [vsl a (l ++ (l2.take i).map (shN l.length)).length c, vi i] ∧ i ≤ l2.length ∧ NdVec h hh a c (l ++ (l2.take i).map (shN l.length)), fun vs hh => l2.length - (vint vs 1).toNat,
    ⟨0, a3, c3, by simp, Nat.zero_le _, by simpa using V2⟩, ?_⟩
  rintro vs hh ⟨i, a4, c4, rfl, hi, V⟩
  have hlen : (l ++ (l2.take i).map (shN l.length)).length = l.length + i := by simp; omega
  refine ⟨_, _, _, _, rfl, fun g => ?_, fun g => ?_⟩
  · have hlt : i < l2.length := by have := of_decide_eq_true g; omega
    have hx : l2[i]? = some l2[i] := List.getElem?_eq_getElem hlt
    have wn := W2 _ _ hx
    obtain ⟨b, o, ha, hr⟩ := (S2.le V.le0).get encN_len (by decide) hx
    have tk : (l2.take (i + 1)).map (shN l.length) = (l2.take i).map (shN l.length) ++ [shN l.length l2[i]] := by
      rw [List.take_succ_eq_append_getElem hlt, List.map_append]; rfl
    generalize l2[i] = y at *
    refine ⟨b, o, ⟨ha, by omega, by omega⟩, _, _, _, _, _, _, hr, expr_Arity_ok ⟨_, rfl, ?_⟩⟩
    intro J28
    have fin : ∀ (x' y' : Int), x' = (shN (l.length : Int) y).x → y' = (shN (l.length : Int) y).y → ∀ (b49 : Nat), hh b49 = none → SemOK Tryd.prog (Builtin.append_ #[23, 23] 23 #[(vsl a4 (l ++ (l2.take i).map (shN l.length)).length c4), (vsl (some (⟨b49, 0, none⟩ : Addr)) 1 1)]) (Hp.set hh b49 (cellsO [(vi y.op), (vi x'), (vi y'), (vi y.n), (vi y.v.1), (vi y.v.2)] 69)) fun v51 h52 => ∃ (a53 : Option Addr) (n53 c53 : Nat), v51 = (vsl a53 n53 c53) ∧ (∃ (x55 : Int), (IsW x55 ((i : Int) + 1)) ∧ ((∃ (i' : Nat) (a : Option Addr) (c : Nat), [vsl a53 n53 c53, vi x55] = [vsl a (l ++ (l2.take i').map (shN l.length)).length c, vi i'] ∧ i' ≤ l2.length ∧ NdVec h h52 a c (l ++ (l2.take i').map (shN l.length))) ∧ l2.length - (vint [vsl a53 n53 c53, vi x55] 1).toNat < l2.length - (vint [vsl a4 (l ++ (l2.take i).map (shN l.length)).length c4, vi i] 1).toNat)) := by
      rintro x' y' rfl rfl b49 hb49
      refine V.app (x := shN (l.length : Int) y) elNd encN_len one_encN (by omega) (by omega) hb49 fun a' c' h' V' => ⟨_, _, _, rfl, _, isW (by unfold InR; omega), ⟨i + 1, a', c', ?_, by omega, ?_⟩, by simp [vint]; omega⟩
      · rw [tk, ← List.append_assoc]; rfl
      · rw [tk, ← List.append_assoc]; exact V'
    have hJ : ∀ x', x' = (shN (l.length : Int) y).x → J28 x' := by
      intro x' hx'
      refine expr_Arity_ok ⟨_, rfl, ?_⟩
      intro J45
      refine ⟨fun g => ?_, fun g => ?_⟩
      · have g := of_decide_eq_true g
        have hy := wn.y (by omega)
        refine ⟨_, isW (by unfold InR; omega), fin _ _ hx' ?_⟩
        unfold shN
        simp only
        rw [if_pos (show 1 < arI y.op by omega)]
      · have g := of_decide_eq_false g
        refine fin _ _ hx' ?_
        unfold shN
        simp only
        rw [if_neg (show ¬ 1 < arI y.op by omega)]
    clear_value J28
    refine ⟨fun g => ?_, fun g => ?_⟩
    · have g := of_decide_eq_true g
      have hX := wn.x (by omega)
      refine ⟨_, isW (by unfold InR; omega), hJ _ ?_⟩
      unfold shN
      simp only
      rw [if_pos (show 0 < arI y.op by omega)]
    · have g := of_decide_eq_false g
      refine hJ _ ?_
      unfold shN
      simp only
      rw [if_neg (show ¬ 0 < arI y.op by omega)]
  · have hge : i = l2.length := by have := of_decide_eq_false g; omega
    subst hge
    rw [List.take_of_length_le (Nat.le_refl _)] at V hlen ⊢
    refine expr_Arity_ok ⟨_, rfl, ?_⟩
    intro J62
    have hJ : ∀ y', y' = (if 1 < arI op then ((l.length + l2.length : Nat) : Int) - 1 else 0) → J62 y' := by
      rintro y' rfl b66 hb66
      intro h67
      exact V.app (x := ⟨op, (l.length : Int) - 1, if 1 < arI op then ((l.length + l2.length : Nat) : Int) - 1 else 0, 0, (0, 0)⟩) elNd encN_len one_encN (by omega) (by omega) hb66 fun a' c' h' V' => ⟨_, _, _, rfl, hK a' c' h' V'⟩
    clear_value J62
    refine ⟨fun g => ?_, fun g => ?_⟩
    · have g := of_decide_eq_true g
      refine ⟨_, isW (by unfold InR; omega), hJ _ ?_⟩
      rw [if_pos (show 1 < arI op by omega), hlen]
    · have g := of_decide_eq_false g
      refine hJ _ ?_
      rw [if_neg (show ¬ 1 < arI op by omega)]
end
end Go.Proofs.YtonlacplogbodaaDoor
/-
  Contracts: package query: the reader of words. Conditions: those stated at each.
-/
namespace Go.Proofs.YtonlacplogbodaaDoor
open Go Go.Vc Go.Txt
set_option linter.unusedVariables false
set_option maxRecDepth 100000

/-- A reader's block; its words were there ahead of it. -/
structure RdAt (h0 h : Hp) (g : Nat) (s : RS) : Prop where
  b : ∃ a c, h g = some (cellsO [vsl a s.ws.length c, vi s.deep, ifv (errV s.f)] 41) ∧ SlB h0 a s.ws.length s.ws ∧ s.ws.length ≤ c
  l : h0.le h
  n : h0 g = none
  w : ∀ x ∈ s.ws, x.length ≤ 1000000
theorem le_put {h0 h : Hp} {g : Nat} (l : h0.le h) (hg : h0 g = none) (o : Obj) : h0.le (h.set g o) := fun b p hb => by
  rw [Hp.set_other _ _ (fun e => by rw [e, hg] at hb; cases hb)]
  exact l b p hb
theorem slices_Index_ok {a : Option Addr} {n c : Nat} {l : List Wd} {w : Wd} {h : Hp} (S : SlB h a n l) (hn : n ≤ 1000000) {R : Value → Hp → Prop} (hK : R (vi (if w ∈ l then (l.idxOf w : Int) else -1)) h) : CallOK Tryd.prog 24 [vsl a n c, vs (bs w)] h R := by
  refine ok_slices_Index_string_string ?_
  unfold VC_slices_Index_string_string
  have hl := S.1
  refine ⟨fun v hh => hh = h ∧ ∃ i : Nat, v = [vi i] ∧ i ≤ n ∧ w ∉ l.take i, fun v _ => n - (vint v 0).toNat, ⟨rfl, 0, rfl, Nat.zero_le _, by simp⟩, ?_⟩
  rintro v hh ⟨rfl, i, rfl, hi, hno⟩
  refine ⟨i, rfl, fun e => ?_, fun e => ?_⟩
  · have hlt : i < n := by have := of_decide_eq_true e; omega
    obtain ⟨b, o, ha, hc⟩ := SlP.get1 S hlt
    refine ⟨b, o, ⟨ha, by omega, by omega⟩, _, hc, _, rd_eqBs, fun e2 => ?_, fun e2 => ?_⟩
    · have e3 := of_decide_eq_true e2
      have hx : l.getD i [] = l[i]'(by omega) := by rw [List.getD_eq_getElem?_getD, List.getElem?_eq_getElem (by omega)]; rfl
      rw [hx] at e3
      have hm : w ∈ l := by rw [e3]; exact List.getElem_mem _
      have hidx : l.idxOf w = i := by
        have hsp : l = l.take i ++ l[i]'(by omega) :: l.drop (i + 1) := by rw [← List.drop_eq_getElem_cons, List.take_append_drop]
        rw [hsp, List.idxOf_append, if_neg hno, ← e3, List.idxOf_cons_self, List.length_take]
        omega
      rw [if_pos hm, hidx] at hK
      exact hK
    · have e3 := of_decide_eq_false e2
      have hx : l.getD i [] = l[i]'(by omega) := by rw [List.getD_eq_getElem?_getD, List.getElem?_eq_getElem (by omega)]; rfl
      rw [hx] at e3
      refine ⟨_, isW (by unfold InR; omega), ⟨rfl, i + 1, rfl, by omega, ?_⟩, ?_⟩
      · rw [List.take_succ_eq_append_getElem (by omega)]
        intro hm
        rcases List.mem_append.1 hm with h1 | h1
        · exact hno h1
        · exact e3 (by simpa using h1)
      · show n - ((i : Int) + 1).toNat < n - (i : Int).toNat
        omega
  · have hge : i = n := by have := of_decide_eq_false e; omega
    rw [hge, List.take_of_length_le (by omega)] at hno
    rw [if_neg hno] at hK
    exact hK
theorem slices_Contains_ok {a : Option Addr} {n c : Nat} {l : List Wd} {w : Wd} {h : Hp} (S : SlB h a n l) (hn : n ≤ 1000000) {R : Value → Hp → Prop} (hK : R (vb (decide (w ∈ l))) h) : CallOK Tryd.prog 25 [vsl a n c, vs (bs w)] h R := by
  refine ok_slices_Contains_string_string ?_
  unfold VC_slices_Contains_string_string
  refine slices_Index_ok S hn ⟨_, rfl, ?_⟩
  have : decide ((if w ∈ l then (l.idxOf w : Int) else -1) ≥ 0) = decide (w ∈ l) := by
    by_cases hm : w ∈ l
    · simp [hm]
    · simp [hm]
  rw [this]
  exact hK
def At (g : Nat) : Nat → Prop := fun b => b = g
theorem mut_set (h : Hp) (g : Nat) (o : Obj) : Mut (At g) h (At g) (h.set g o) := ⟨fun b o2 hb ho => by rw [Hp.set_other _ _ (fun e => hb e)]; exact ho, fun b hb => .inl hb⟩
theorem rd_block {h : Hp} {g : Nat} {x y z : Value} {T : TypeId} (hb : h g = some (cellsO [x, y, z] T)) : h.cell g 0 = some x ∧ h.cell g (0 + 1) = some y ∧ h.cell g (0 + 2) = some z := ⟨cell_cells hb rfl, cell_cells hb rfl, cell_cells hb rfl⟩
theorem rd_put0 {h : Hp} {g : Nat} {x y z x' : Value} {T : TypeId} (hb : h g = some (cellsO [x, y, z] T)) {K : Hp → Prop} (hK : K (h.set g (cellsO [x', y, z] T))) : h.store g 0 [x'] K := store_cells hb (by simp) hK
theorem rd_put1 {h : Hp} {g : Nat} {x y z y' : Value} {T : TypeId} (hb : h g = some (cellsO [x, y, z] T)) {K : Hp → Prop} (hK : K (h.set g (cellsO [x, y', z] T))) : h.store g (0 + 1) [y'] K := store_cells hb (by simp) hK
theorem rd_put2 {h : Hp} {g : Nat} {x y z z' : Value} {T : TypeId} (hb : h g = some (cellsO [x, y, z] T)) {K : Hp → Prop} (hK : K (h.set g (cellsO [x, y, z'] T))) : h.store g (0 + 2) [z'] K := store_cells hb (by simp) hK
theorem slb_nil (h : Hp) : SlB h none 0 [] := ⟨rfl, (OwnS.nil h 9 1).row⟩
theorem reader_fail_ok {h0 h : Hp} {g : Nat} {s : RS} (D : RdAt h0 h g s) {f : Int} (hf : f ≠ 0) {R : Value → Hp → Prop} (hK : ∀ h', RdAt h0 h' g (s.fail f) → Mut (At g) h (At g) h' → R (vtup []) h') : CallOK Tryd.prog 23 [vhp g 0, ifv (some (50, vi f))] h R := by
  obtain ⟨a, c, hb, hS, hc⟩ := D.b
  refine ok_query_reader_fail ?_
  unfold VC_query_reader_fail
  refine ⟨_, (rd_block hb).2.2, ?_⟩
  intro J5
  refine ⟨fun e => ?_, fun e => ?_⟩
  · have e0 : s.f = 0 := by unfold errV at e; split at e <;> simp_all
    refine rd_put2 hb (rd_put0 (Hp.set_same _ _ _) ?_)
    refine hK _ ⟨⟨none, 0, ?_, slb_nil _, Nat.le_refl _⟩, le_put (le_put D.l D.n _) D.n _, D.n, fun x hx => by cases hx⟩ ((mut_set _ _ _).trans (mut_set _ _ _))
    rw [Hp.set_same]
    show _ = some (cellsO [vsl none 0 0, vi s.deep, ifv (errV (if s.f = 0 then f else s.f))] 41)
    rw [if_pos e0]
    unfold errV
    rw [if_neg hf]
  · have e0 : s.f ≠ 0 := by intro e1; rw [e1] at e; cases e
    refine rd_put0 hb ?_
    refine hK _ ⟨⟨none, 0, ?_, slb_nil _, Nat.le_refl _⟩, le_put D.l D.n _, D.n, fun x hx => by cases hx⟩ (mut_set _ _ _)
    rw [Hp.set_same]
    show _ = some (cellsO [vsl none 0 0, vi s.deep, ifv (errV (if s.f = 0 then f else s.f))] 41)
    rw [if_neg e0]
theorem reader_is_ok {h0 h : Hp} {g : Nat} {s : RS} (D : RdAt h0 h g s) {wa : Option Addr} {wn wc : Nat} {l : List Wd} (S : SlB h wa wn l) (hwn : wn ≤ 1000) (hwl : s.ws.length ≤ 1000000) {R : Value → Hp → Prop} (hK : ∀ h', RdAt h0 h' g (s.is l).2 → Mut (At g) h (At g) h' → R (vs (bs (s.is l).1)) h') : CallOK Tryd.prog 12 [vhp g 0, vsl wa wn wc] h R := by
  obtain ⟨a, c, hb, hS, hc⟩ := D.b
  refine ok_query_reader_is ?_
  unfold VC_query_reader_is
  obtain ⟨ws, dp, f⟩ := s
  simp only at hb hS hc hwl
  have hcell := (rd_block hb).1
  cases ws with
  | nil =>
    refine ⟨_, _, _, hcell, none, 0, 0, fun e => by simp at e, 0, 0, fun e => by simp at e, ⟨#[]⟩, fun e => by simp at e, fun v hh => hh = h ∧ v = .t (.one (.v (vb false))), fun e => by simp at e, fun _ => ⟨rfl, rfl⟩, ?_⟩
    rintro h10 p11 ⟨rfl, e⟩
    cases e
    refine ⟨fun _ => hK _ D (Mut.of_le (Hp.le_refl _)), fun e => by simp at e⟩
  | cons w r =>
    obtain ⟨b, o, ha, hc0⟩ := SlP.get1 (SlP.le D.l hS) (i := 0) (by simp)
    have hc1 : h.cell b (o + (0 : Int).toNat * 1) = some (vs (bs w)) := hc0
    refine ⟨_, _, _, hcell, _, _, _, fun _ => hcell, b, o, fun _ => ⟨ha, by decide, by simp⟩, _, fun _ => hc1, fun v hh => hh = h ∧ v = .t (.one (.v (vb (decide (w ∈ l))))), fun _ => slices_Contains_ok S (by omega) ⟨_, rfl, rfl, rfl⟩, fun e => absurd (by simp; omega) e, ?_⟩
    rintro h10 p11 ⟨rfl, e⟩
    cases e
    refine ⟨fun e => ?_, fun e => ?_⟩
    · have hno : w ∉ l := by
        intro hm
        simp [hm] at e
        omega
      have h1 : (⟨w :: r, dp, f⟩ : RS).is l = ([], ⟨w :: r, dp, f⟩) := by unfold RS.is; simp only; rw [if_neg hno]
      rw [h1] at hK
      exact hK _ D (Mut.of_le (Hp.le_refl _))
    · have hm : w ∈ l := by
        rcases Decidable.em (w ∈ l) with hm | hm
        · exact hm
        · simp [hm] at e
      have h1 : (⟨w :: r, dp, f⟩ : RS).is l = (w, ⟨r, dp, f⟩) := by unfold RS.is; simp only; rw [if_pos hm]
      rw [h1] at hK
      have hsz : szT Tryd.prog 9 = 1 := by kernel_rfl
      have hr := rd_slice_l (P := Tryd.prog) (h := h10) (t := 36) (e := 9) (by kernel_rfl) (by kernel_rfl) (a := a) (n := (w :: r).length) (c := c) (x := 1) (by decide) (by simp; omega)
      rw [hsz] at hr
      refine ⟨_, _, _, hcell, b, o, ⟨ha, by decide, by simp⟩, _, hc1, _, _, _, hcell, _, _, _, hr, rd_put0 hb ?_⟩
      have hS2 := SlP.drop encB_len hS (i := 1) (by simp) hc
      exact hK _ ⟨⟨_, _, Hp.set_same _ _ _, ⟨rfl, hS2.2⟩, by simp at hc ⊢; omega⟩, le_put D.l D.n _, D.n, fun x hx => D.w x (List.mem_cons_of_mem _ hx)⟩ (mut_set _ _ _)
theorem RdAt.le {h0 h h' : Hp} {g : Nat} {s : RS} (D : RdAt h0 h g s) (l : h.le h') : RdAt h0 h' g s := by
  obtain ⟨a, c, hb, hS, hc⟩ := D.b
  exact ⟨⟨a, c, l g _ hb, hS, hc⟩, Hp.le_trans D.l l, D.n, D.w⟩
theorem slb_one (h : Hp) (b : Nat) (w : Wd) : SlB (h.set b (cellsO [vs (bs w)] 9)) (some ⟨b, 0, none⟩) 1 [w] := ⟨rfl, (OwnS.new h b 9 (sz := 1) (n := 1) [vs (bs w)] rfl (by decide)).row⟩
theorem reader_must_ok {h0 h : Hp} {g : Nat} {s : RS} (D : RdAt h0 h g s) (hwl : s.ws.length ≤ 1000000) {w : Wd} {R : Value → Hp → Prop} (hK : ∀ h', RdAt h0 h' g (s.must w) → Mut (At g) h (At g) h' → R (vtup []) h') : CallOK Tryd.prog 10 [vhp g 0, vs (bs w)] h R := by
  refine ok_query_reader_must ?_
  unfold VC_query_reader_must
  intro b1 hb1 h2
  have hl : h.le h2 := Hp.le_set (Hp.le_refl h) hb1 _
  unfold RS.must at hK
  refine reader_is_ok (D.le hl) (slb_one h b1 w) (by decide) hwl fun h4 D4 M4 => ⟨_, rfl, _, rd_eqBs (b := []), fun e => ?_, fun e => ?_⟩
  · rw [if_pos (of_decide_eq_true e)] at hK
    exact reader_fail_ok D4 (by decide) fun h5 D5 M5 => ⟨rfl, hK h5 D5 (((Mut.of_le hl).trans M4).trans M5)⟩
  · rw [if_neg (of_decide_eq_false e)] at hK
    exact hK h4 D4 ((Mut.of_le hl).trans M4)
/-- Nodes that are new since hB. -/
structure NdAt (hB h : Hp) (a : Option Addr) (n : Nat) (l : List Nd) : Prop where
  s : SlP encN h a n l
  nw : ∀ b o, a = some ⟨b, o, none⟩ → hB b = none
theorem NdAt.base {hB hC h : Hp} {a : Option Addr} {n : Nat} {l : List Nd} (N : NdAt hC h a n l) (hh : ∀ b, hC b = none → hB b = none) : NdAt hB h a n l := ⟨N.s, fun b o e => hh b (N.nw b o e)⟩
theorem NdAt.le {hB h h' : Hp} {a : Option Addr} {n : Nat} {l : List Nd} (N : NdAt hB h a n l) (hl : h.le h') : NdAt hB h' a n l := ⟨N.s.le hl, N.nw⟩
theorem NdAt.mut {hB h h' : Hp} {g : Nat} {a : Option Addr} {n : Nat} {l : List Nd} (N : NdAt hB h a n l) (hg : hB g ≠ none) (M : Mut (At g) h (At g) h') : NdAt hB h' a n l := by
  have ne : ∀ b o, a = some ⟨b, o, none⟩ → b ≠ g := fun b o e q => hg (by rw [← q]; exact N.nw b o e)
  refine ⟨⟨N.s.1, (HasRow.del N.s.2 ne).le fun b o hb => ?_⟩, N.nw⟩
  by_cases e : b = g
  · subst e; simp [Hp.del] at hb
  · refine M.keep b o (fun h => e h) ?_
    simpa [Hp.del, e] using hb
theorem nd_nil (hB h : Hp) : NdAt hB h none 0 [] := ⟨⟨rfl, (OwnS.nil h 69 6).row⟩, fun b o e => by cases e⟩
/-- What is not there now was not there ahead. -/
theorem _root_.Go.Vc.Mut.up {h h' : Hp} {g : Nat} (M : Mut (At g) h (At g) h') (hg : h' g ≠ none) : ∀ b, h' b = none → h b = none := by
  intro b hb
  cases e : h b with
  | none => rfl
  | some o =>
    by_cases q : b = g
    · subst q; exact absurd hb hg
    · rw [M.keep b o (fun h => q h) e] at hb; cases hb
theorem le_up {h h' : Hp} (l : h.le h') : ∀ b, h' b = none → h b = none := fun b hb => Hp.none_of_le l hb
theorem query_leaf_ok {h : Hp} (n : Nd) {R : Value → Hp → Prop} (hK : ∀ a c h', NdAt h h' a 1 [n] → 1 ≤ c → h.le h' → R (vsl a 1 c) h') : CallOK Tryd.prog 48 [vag (encN n)] h R := by
  refine ok_query_leaf ?_
  unfold VC_query_leaf
  intro b1 hb1 h2
  refine hK _ _ _ ⟨⟨rfl, (OwnS.new h b1 69 (sz := 6) (n := 1) (encN n) rfl (by decide)).row⟩, fun b o e => ?_⟩ (by decide) (Hp.le_set (Hp.le_refl h) hb1 _)
  cases e
  exact hb1
theorem RdAt.al {h0 h : Hp} {g : Nat} {s : RS} (D : RdAt h0 h g s) : h g ≠ none := by
  obtain ⟨a, c, hb, _⟩ := D.b
  rw [hb]; simp
theorem reader_join_ok {h0 h : Hp} {g : Nat} {s : RS} (D : RdAt h0 h g s) {op : Int} {ax ay : Option Addr} {nx ny cx cy : Nat} {x y : List Nd} (X : SlP encN h ax nx x) (Y : SlP encN h ay ny y) (Wy : WfL y) (hx : x.length ≤ 1000) (hy : y.length ≤ 1000) {R : Value → Hp → Prop}
    (hK : ∀ a c h', RdAt h0 h' g (joinP op x y s).2 → NdAt h h' a (joinP op x y s).1.length (joinP op x y s).1 → Mut (At g) h (At g) h' → R (vsl a (joinP op x y s).1.length c) h') : CallOK Tryd.prog 38 [vhp g 0, vi op, vsl ax nx cx, vsl ay ny cy] h R := by
  refine ok_query_reader_join ?_
  unfold VC_query_reader_join
  have hnx := X.1
  have hny := Y.1
  unfold joinP at hK
  refine ⟨_, isW (by unfold InR; omega), fun e => ?_, fun e => ?_⟩
  · have e2 := of_decide_eq_true e
    rw [if_pos (by omega)] at hK
    refine reader_fail_ok D (by decide) fun h3 D3 M3 => ⟨rfl, query_leaf_ok leafN fun a c h5 N5 _ l5 => ⟨_, _, _, rfl, ?_⟩⟩
    exact hK a c h5 (D3.le l5) (N5.base (M3.up D3.al)) (M3.trans (Mut.of_le l5))
  · have e2 := of_decide_eq_false e
    rw [if_neg (by omega)] at hK
    refine expr_Join_ok X Y Wy (by omega) (by omega) fun a' c' h' V => ⟨_, _, _, rfl, ?_⟩
    refine hK a' c' h' (D.le V.le0) ⟨V.slp encN_len (by decide), fun b o e => ?_⟩ (Mut.of_le V.le0)
    obtain rfl := (OwnV.own V).at0 b o e
    exact OwnV.new V b e
end Go.Proofs.YtonlacplogbodaaDoor
/-
  DERIVED: THE SHELF's CONTRACTS AT THIS DUMP, IN PLAIN WORDS (tools/lay-plain.mjs out of 'TrydShelf.lean', which tools/lay-shelf.mjs wrote): THE SAME DECLARATIONS UNDER THE SAME NAMES: 'import', 'namespace', 'open', 'def', 'theorem' AND NOTHING ELSE: no command of the shelf's: FOR A HAND-IN. Each laying: the table of numbers ('.._ren') and one theorem, a field a fact of the dump's own or the kernel's comparison; each contract: ONE APPLICATION.
-/
namespace Go.Proofs
open Go.Shelf
def Tryd.lays169_ren : Go.Shelf.Ren := ⟨fun | 169 => 35 | n => n, fun | 70 => 73 | 9 => 9 | 0 => 0 | 72 => 76 | 37 => 74 | 127 => 85 | 3 => 3 | 5 => 5 | n => n, fun | n => n⟩
theorem Tryd.lays169 : Go.Proofs.Lays.n169 Tryd.prog Tryd.lays169_ren := {
  mixed := by kernel_rfl
  f169 := Tryd.func35.trans (congrArg some (by kernel_rfl))
  t0 := Tryd.underlying0
  a0 := Tryd.isAgg0
  z0 := Tryd.sizeOf0
  v0 := Tryd.zeroValue0
  t3 := Tryd.underlying3
  a3 := Tryd.isAgg3
  z3 := Tryd.sizeOf3
  v3 := Tryd.zeroValue3
  t9 := Tryd.underlying9
  a9 := Tryd.isAgg9
  z9 := Tryd.sizeOf9
  v9 := Tryd.zeroValue9
  t37 := Tryd.underlying74
  a37 := Tryd.isAgg74
  z37 := Tryd.sizeOf74
  v37 := Tryd.zeroValue74
  t70 := Tryd.underlying73
  a70 := Tryd.isAgg73
  z70 := Tryd.sizeOf73
  v70 := Tryd.zeroValue73
  t72 := Tryd.underlying76
  a72 := Tryd.isAgg76
  z72 := Tryd.sizeOf76
  v72 := Tryd.zeroValue76
  t127 := Tryd.underlying85
  a127 := Tryd.isAgg85
  z127 := Tryd.sizeOf85
  v127 := Tryd.zeroValue85 }
theorem Tryd.Builder_Extra_169 : Builder.Extra Tryd.prog Tryd.lays169_ren := {
  sizeBuilder := by kernel_rfl
  liesBuilder := by kernel_rfl
  t5 := Tryd.underlying5
  a5 := Tryd.isAgg5
  z5 := Tryd.sizeOf5
  v5 := Tryd.zeroValue5
  infoByte := by kernel_rfl
  cellsByte := by kernel_rfl
  sizeByte := by kernel_rfl
  neB5 := by decide }
open Go.RowKit in
/-- (*strings.Builder).String: "String returns the accumulated string.": OF A BUILDER THAT HOLDS AT LEAST ONE BYTE. ✋ THE MODEL FREEZES THOSE BYTES IN THE BUFFER (unsafe.String): a later write INTO them ends the model's run without an answer; a later append BEHIND them goes on. The statement's order of evaluation is drawn: one draw. (LAID: no walk: one application.) -/
theorem Tryd.Builder_String (B b : Nat) (l : List UInt8) (w : World) (h : Lib.IsBuilder 76 5 B b (Lib.byteCells l) w) (h0 : l ≠ []) :
    Calls Tryd.prog 35 #[.pointer (some ⟨b, 0, none⟩)] w fun e w' => e = .returned (.string ⟨l.toArray⟩) ∧ Below B w w' := Any.Builder_String Tryd.lays169 Tryd.Builder_Extra_169 B b l w h h0
open Go.RowKit in
/-- (*strings.Builder).String OF A BUILDER THAT HOLDS NO BYTE: the empty string. (Its buffer is nil, or a row of which it has taken nothing yet; where that row has NO capacity the model lays one new block for unsafe.SliceData's 'some address'.) One draw. (LAID: no walk: one application.) -/
theorem Tryd.Builder_String_empty (B b : Nat) (w : World) (h : Lib.IsBuilder 76 5 B b [] w) (hBw : B ≤ w.heap.size) :
    Calls Tryd.prog 35 #[.pointer (some ⟨b, 0, none⟩)] w fun e w' => e = .returned (.string ⟨#[]⟩) ∧ Below B w w' := Any.Builder_String_empty Tryd.lays169 Tryd.Builder_Extra_169 B b w h hBw
open Go.RowKit in
/-- (*strings.Builder).String: "String returns the accumulated string.": WHATEVER THE BUILDER HOLDS. (LAID: no walk: one application.) -/
theorem Tryd.Builder_String_any (B b : Nat) (l : List UInt8) (w : World) (h : Lib.IsBuilder 76 5 B b (Lib.byteCells l) w) (hBw : B ≤ w.heap.size) :
    Calls Tryd.prog 35 #[.pointer (some ⟨b, 0, none⟩)] w fun e w' => e = .returned (.string ⟨l.toArray⟩) ∧ Below B w w' := Any.Builder_String_any Tryd.lays169 Tryd.Builder_Extra_169 B b l w h hBw
def Tryd.lays241_ren : Go.Shelf.Ren := ⟨fun | 241 => 45 | 277 => 61 | n => n, fun | 70 => 73 | 3 => 3 | 0 => 0 | 72 => 76 | 37 => 74 | 5 => 5 | n => n, fun | n => n⟩
theorem Tryd.lays241 : Go.Proofs.Lays.n241 Tryd.prog Tryd.lays241_ren := {
  mixed := by kernel_rfl
  f241 := Tryd.func45.trans (congrArg some (by kernel_rfl))
  f277 := Tryd.func61.trans (congrArg some (by kernel_rfl))
  t0 := Tryd.underlying0
  a0 := Tryd.isAgg0
  z0 := Tryd.sizeOf0
  v0 := Tryd.zeroValue0
  t3 := Tryd.underlying3
  a3 := Tryd.isAgg3
  z3 := Tryd.sizeOf3
  v3 := Tryd.zeroValue3
  t37 := Tryd.underlying74
  a37 := Tryd.isAgg74
  z37 := Tryd.sizeOf74
  v37 := Tryd.zeroValue74
  t70 := Tryd.underlying73
  a70 := Tryd.isAgg73
  z70 := Tryd.sizeOf73
  v70 := Tryd.zeroValue73
  t72 := Tryd.underlying76
  a72 := Tryd.isAgg76
  z72 := Tryd.sizeOf76
  v72 := Tryd.zeroValue76 }
theorem Tryd.Builder_Extra_241 : Builder.Extra Tryd.prog Tryd.lays241_ren := {
  sizeBuilder := by kernel_rfl
  liesBuilder := by kernel_rfl
  t5 := Tryd.underlying5
  a5 := Tryd.isAgg5
  z5 := Tryd.sizeOf5
  v5 := Tryd.zeroValue5
  infoByte := by kernel_rfl
  cellsByte := by kernel_rfl
  sizeByte := by kernel_rfl
  neB5 := by decide }
open Go.RowKit in
/-- (*strings.Builder).grow (no doc but "grow copies the buffer to a new, larger buffer so that there are at least n bytes of capacity beyond len(b.buf)."): AT A BUILDER WITHOUT A BUFFER: a new row of whatever bytes for its buffer, none of them its own yet. Three draws. (LAID: no walk: one application.) -/
theorem Tryd.Builder_grow_fresh (B b n : Nat) (w : World) (hB : B ≤ b) (hbk : w.heap[b]? = some (.cells #[.pointer (some ⟨b, 0, none⟩), .slice none 0 0] 76 (0, 0))) (hBw : B ≤ w.heap.size) (hn : n ≤ 281474976710656) :
    Calls Tryd.prog 45 #[.pointer (some ⟨b, 0, none⟩), .int .i64 n] w fun e w' => e = .returned (.tuple #[]) ∧ (Lib.BuilderAt 76 5 B b (.pointer (some ⟨b, 0, none⟩)) [] w' ∧ Below B w w') := Any.Builder_grow_fresh Tryd.lays241 Tryd.Builder_Extra_241 B b n w hB hbk hBw hn
def Tryd.lays165_ren : Go.Shelf.Ren := ⟨fun | 165 => 33 | 240 => 44 | 241 => 45 | 276 => 60 | 277 => 61 | n => n, fun | 70 => 73 | 3 => 3 | 0 => 0 | 4 => 4 | 9 => 9 | 20 => 20 | 72 => 76 | 37 => 74 | 164 => 98 | 5 => 5 | n => n, fun | n => n⟩
theorem Tryd.lays165 : Go.Proofs.Lays.n165 Tryd.prog Tryd.lays165_ren := {
  mixed := by kernel_rfl
  f165 := Tryd.func33.trans (congrArg some (by kernel_rfl))
  f240 := Tryd.func44.trans (congrArg some (by kernel_rfl))
  f241 := Tryd.func45.trans (congrArg some (by kernel_rfl))
  f276 := Tryd.func60.trans (congrArg some (by kernel_rfl))
  f277 := Tryd.func61.trans (congrArg some (by kernel_rfl))
  t0 := Tryd.underlying0
  a0 := Tryd.isAgg0
  z0 := Tryd.sizeOf0
  v0 := Tryd.zeroValue0
  t3 := Tryd.underlying3
  a3 := Tryd.isAgg3
  z3 := Tryd.sizeOf3
  v3 := Tryd.zeroValue3
  t4 := Tryd.underlying4
  a4 := Tryd.isAgg4
  z4 := Tryd.sizeOf4
  v4 := Tryd.zeroValue4
  t9 := Tryd.underlying9
  a9 := Tryd.isAgg9
  z9 := Tryd.sizeOf9
  v9 := Tryd.zeroValue9
  t20 := Tryd.underlying20
  a20 := Tryd.isAgg20
  z20 := Tryd.sizeOf20
  v20 := Tryd.zeroValue20
  t37 := Tryd.underlying74
  a37 := Tryd.isAgg74
  z37 := Tryd.sizeOf74
  v37 := Tryd.zeroValue74
  t70 := Tryd.underlying73
  a70 := Tryd.isAgg73
  z70 := Tryd.sizeOf73
  v70 := Tryd.zeroValue73
  t72 := Tryd.underlying76
  a72 := Tryd.isAgg76
  z72 := Tryd.sizeOf76
  v72 := Tryd.zeroValue76
  t164 := Tryd.underlying98
  a164 := Tryd.isAgg98
  z164 := Tryd.sizeOf98
  v164 := Tryd.zeroValue98 }
theorem Tryd.Builder_Extra_165 : Builder.Extra Tryd.prog Tryd.lays165_ren := {
  sizeBuilder := by kernel_rfl
  liesBuilder := by kernel_rfl
  t5 := Tryd.underlying5
  a5 := Tryd.isAgg5
  z5 := Tryd.sizeOf5
  v5 := Tryd.zeroValue5
  infoByte := by kernel_rfl
  cellsByte := by kernel_rfl
  sizeByte := by kernel_rfl
  neB5 := by decide }
open Go.RowKit in
/-- (*strings.Builder).Grow AT A BUILDER THAT HAS NOT BEEN WRITTEN ('var b strings.Builder; b.Grow(n)'): "Grow grows b's capacity, if necessary, to guarantee space for another n bytes.": it holds no byte behind it as before it. (LAID: no walk: one application.) -/
theorem Tryd.Builder_Grow_fresh (B b n : Nat) (w : World) (hB : B ≤ b) (hbk : w.heap[b]? = some (.cells #[.pointer none, .slice none 0 0] 76 (0, 0))) (hBw : B ≤ w.heap.size) (hn : n ≤ 281474976710656) :
    Calls Tryd.prog 33 #[.pointer (some ⟨b, 0, none⟩), .int .i64 n] w fun e w' => e = .returned (.tuple #[]) ∧ (Lib.BuilderAt 76 5 B b (.pointer (some ⟨b, 0, none⟩)) [] w' ∧ Below B w w') := Any.Builder_Grow_fresh Tryd.lays165 Tryd.Builder_Extra_165 B b n w hB hbk hBw hn
def Tryd.lays156_ren : Go.Shelf.Ren := ⟨fun | 156 => 18 | 165 => 33 | 166 => 34 | 169 => 35 | 240 => 44 | 241 => 45 | 276 => 60 | 277 => 61 | n => n, fun | 31 => 36 | 9 => 9 | 3 => 3 | 4 => 4 | 0 => 0 | 20 => 20 | 72 => 76 | 76 => 63 | 70 => 73 | 37 => 74 | 75 => 27 | 127 => 85 | 164 => 98 | 5 => 5 | 80 => 78 | n => n, fun | n => n⟩
theorem Tryd.lays156 : Go.Proofs.Lays.n156 Tryd.prog Tryd.lays156_ren := {
  mixed := by kernel_rfl
  f156 := Tryd.func18.trans (congrArg some (by kernel_rfl))
  f165 := Tryd.func33.trans (congrArg some (by kernel_rfl))
  f166 := Tryd.func34.trans (congrArg some (by kernel_rfl))
  f169 := Tryd.func35.trans (congrArg some (by kernel_rfl))
  f240 := Tryd.func44.trans (congrArg some (by kernel_rfl))
  f241 := Tryd.func45.trans (congrArg some (by kernel_rfl))
  f276 := Tryd.func60.trans (congrArg some (by kernel_rfl))
  f277 := Tryd.func61.trans (congrArg some (by kernel_rfl))
  t0 := Tryd.underlying0
  a0 := Tryd.isAgg0
  z0 := Tryd.sizeOf0
  v0 := Tryd.zeroValue0
  t3 := Tryd.underlying3
  a3 := Tryd.isAgg3
  z3 := Tryd.sizeOf3
  v3 := Tryd.zeroValue3
  t4 := Tryd.underlying4
  a4 := Tryd.isAgg4
  z4 := Tryd.sizeOf4
  v4 := Tryd.zeroValue4
  t9 := Tryd.underlying9
  a9 := Tryd.isAgg9
  z9 := Tryd.sizeOf9
  v9 := Tryd.zeroValue9
  t20 := Tryd.underlying20
  a20 := Tryd.isAgg20
  z20 := Tryd.sizeOf20
  v20 := Tryd.zeroValue20
  t31 := Tryd.underlying36
  a31 := Tryd.isAgg36
  z31 := Tryd.sizeOf36
  v31 := Tryd.zeroValue36
  t37 := Tryd.underlying74
  a37 := Tryd.isAgg74
  z37 := Tryd.sizeOf74
  v37 := Tryd.zeroValue74
  t70 := Tryd.underlying73
  a70 := Tryd.isAgg73
  z70 := Tryd.sizeOf73
  v70 := Tryd.zeroValue73
  t72 := Tryd.underlying76
  a72 := Tryd.isAgg76
  z72 := Tryd.sizeOf76
  v72 := Tryd.zeroValue76
  t75 := Tryd.underlying27
  a75 := Tryd.isAgg27
  z75 := Tryd.sizeOf27
  v75 := Tryd.zeroValue27
  t76 := Tryd.underlying63
  a76 := Tryd.isAgg63
  z76 := Tryd.sizeOf63
  v76 := Tryd.zeroValue63
  t127 := Tryd.underlying85
  a127 := Tryd.isAgg85
  z127 := Tryd.sizeOf85
  v127 := Tryd.zeroValue85
  t164 := Tryd.underlying98
  a164 := Tryd.isAgg98
  z164 := Tryd.sizeOf98
  v164 := Tryd.zeroValue98 }
theorem Tryd.Builder_Extra_156 : Builder.Extra Tryd.prog Tryd.lays156_ren := {
  sizeBuilder := by kernel_rfl
  liesBuilder := by kernel_rfl
  t5 := Tryd.underlying5
  a5 := Tryd.isAgg5
  z5 := Tryd.sizeOf5
  v5 := Tryd.zeroValue5
  infoByte := by kernel_rfl
  cellsByte := by kernel_rfl
  sizeByte := by kernel_rfl
  neB5 := by decide }
open Go.RowKit in
/-- No element: the empty string; the world is as it was. (Whatever the slice's address and capacity: a nil slice too.) (LAID: no walk: one application.) -/
theorem Tryd.strings_Join_none (a : Option Addr) (c : Nat) (sep : ByteArray) (w : World) :
    Calls Tryd.prog 18 #[.slice a 0 c, .string sep] w fun e w' => e = .returned (.string ⟨#[]⟩) ∧ w' = w := Any.strings_Join_none Tryd.lays156 Tryd.Builder_Extra_156 a c sep w
open Go.RowKit in
/-- strings.Join: "Join concatenates the elements of its first argument to create a single string. The separator string sep is placed between elements in the resulting string.": HOWEVER MANY ELEMENTS. Below the heap's end the world is as it was. (LAID: no walk: one application.) -/
theorem Tryd.strings_Join (bk o c : Nat) (xs : List ByteArray) (sep : ByteArray) (w : World) (hcells : ∀ (j : Nat) x, xs[j]? = some x → w.cell? ⟨bk, o + j, none⟩ = some (.string x)) (hbk : bk < w.heap.size) (hN : xs.length ≤ 140737488355328) (hcap : xs.length ≤ c) (hlen : (Lib.join (xs.map (·.data.toList)) sep.data.toList).length ≤ 140737488355328) :
    Calls Tryd.prog 18 #[.slice (some ⟨bk, o, none⟩) xs.length c, .string sep] w fun e w' => e = .returned (.string ⟨(Lib.join (xs.map (·.data.toList)) sep.data.toList).toArray⟩) ∧ Below w.heap.size w w' := Any.strings_Join Tryd.lays156 Tryd.Builder_Extra_156 bk o c xs sep w hcells hbk hN hcap hlen
def Tryd.lays137_ren : Go.Shelf.Ren := ⟨fun | 137 => 37 | 217 => 47 | 266 => 66 | n => n, fun | 9 => 9 | 5 => 5 | 3 => 3 | n => n, fun | n => n⟩
theorem Tryd.lays137 : Go.Proofs.Lays.n137 Tryd.prog Tryd.lays137_ren := {
  mixed := by kernel_rfl
  f137 := Tryd.func37.trans (congrArg some (by kernel_rfl))
  f217 := Tryd.func47.trans (congrArg some (by kernel_rfl))
  f266 := Tryd.func66.trans (congrArg some (by kernel_rfl))
  t3 := Tryd.underlying3
  a3 := Tryd.isAgg3
  z3 := Tryd.sizeOf3
  v3 := Tryd.zeroValue3
  t5 := Tryd.underlying5
  a5 := Tryd.isAgg5
  z5 := Tryd.sizeOf5
  v5 := Tryd.zeroValue5
  t9 := Tryd.underlying9
  a9 := Tryd.isAgg9
  z9 := Tryd.sizeOf9
  v9 := Tryd.zeroValue9 }
open Go.RowKit in
/-- strings.IndexByte: "IndexByte returns the index of the first instance of c in s, or -1 if c is not present in s.": IT RETURNS 'Lib.indexByte s c'; the world is as it was. (LAID: no walk: one application.) -/
theorem Tryd.strings_IndexByte (s : ByteArray) (c : Int) (w : World) :
    Calls Tryd.prog 37 #[.string s, .int .u8 c] w fun e w' => e = .returned (.int .i64 (Lib.indexByte s.data.toList c.toNat.toUInt8)) ∧ w' = w := Any.strings_IndexByte Tryd.lays137 s c w
open Go.RowKit in
/-- (*strings.Builder).String: "String returns the accumulated string.": OF A BUILDER THAT HOLDS AT LEAST ONE BYTE. ✋ THE MODEL FREEZES THOSE BYTES IN THE BUFFER (unsafe.String): a later write INTO them ends the model's run without an answer; a later append BEHIND them goes on. The statement's order of evaluation is drawn: one draw. THE FORM '_f': IT SAYS BESIDES THAT THE BUILDER IS A BUILDER STILL ('Lib.IsBuilderF', the same bytes): SO IT CAN BE WRITTEN ON: 'b.WriteString(b.String()[:k])'. (LAID: no walk: one application.) -/
theorem Tryd.Builder_String_f (B b : Nat) (l : List UInt8) (w : World) (h : Lib.IsBuilderF 76 5 B b (Lib.byteCells l) w) (h0 : l ≠ []) :
    Calls Tryd.prog 35 #[.pointer (some ⟨b, 0, none⟩)] w fun e w' => e = .returned (.string ⟨l.toArray⟩) ∧ (Lib.IsBuilderF 76 5 B b (Lib.byteCells l) w' ∧ Below B w w') := Any.Builder_String_f Tryd.lays169 Tryd.Builder_Extra_169 B b l w h h0
open Go.RowKit in
/-- (*strings.Builder).String OF A BUILDER THAT HOLDS NO BYTE: the empty string; THE FORM '_f': a builder still. (LAID: no walk: one application.) -/
theorem Tryd.Builder_String_empty_f (B b : Nat) (w : World) (h : Lib.IsBuilderF 76 5 B b [] w) (hBw : B ≤ w.heap.size) :
    Calls Tryd.prog 35 #[.pointer (some ⟨b, 0, none⟩)] w fun e w' => e = .returned (.string ⟨#[]⟩) ∧ (Lib.IsBuilderF 76 5 B b [] w' ∧ Below B w w') := Any.Builder_String_empty_f Tryd.lays169 Tryd.Builder_Extra_169 B b w h hBw
open Go.RowKit in
/-- (*strings.Builder).String: "String returns the accumulated string.": WHATEVER THE BUILDER HOLDS; THE FORM '_f': OF A BUILDER THAT MAY HAVE BEEN READ BEFORE; AND IT IS A BUILDER STILL, holding the same bytes: it can be written on. (LAID: no walk: one application.) -/
theorem Tryd.Builder_String_any_f (B b : Nat) (l : List UInt8) (w : World) (h : Lib.IsBuilderF 76 5 B b (Lib.byteCells l) w) (hBw : B ≤ w.heap.size) :
    Calls Tryd.prog 35 #[.pointer (some ⟨b, 0, none⟩)] w fun e w' => e = .returned (.string ⟨l.toArray⟩) ∧ (Lib.IsBuilderF 76 5 B b (Lib.byteCells l) w' ∧ Below B w w') := Any.Builder_String_any_f Tryd.lays169 Tryd.Builder_Extra_169 B b l w h hBw
open Go.RowKit in
/-- (*strings.Builder).String: "String returns the accumulated string.": OF A BUILDER THAT HOLDS AT LEAST ONE BYTE. ✋ THE MODEL FREEZES THOSE BYTES IN THE BUFFER (unsafe.String): a later write INTO them ends the model's run without an answer; a later append BEHIND them goes on. The statement's order of evaluation is drawn: one draw. THE FORM '_k': OVER 'Lib.IsBuilderF' (a builder that 'String()' may have read), AND WITH THE FRAME THAT REACHES ABOVE THE BUILDER: 'Lib.OthersKept': every block that is not b and is no row of uint8's stands as it stood: the iterator of a range among them. (LAID: no walk: one application.) -/
theorem Tryd.Builder_String_k (B b : Nat) (l : List UInt8) (w : World) (h : Lib.IsBuilderF 76 5 B b (Lib.byteCells l) w) (h0 : l ≠ []) :
    Calls Tryd.prog 35 #[.pointer (some ⟨b, 0, none⟩)] w fun e w' => e = .returned (.string ⟨l.toArray⟩) ∧ (Lib.IsBuilderF 76 5 B b (Lib.byteCells l) w' ∧ Below B w w' ∧ Lib.OthersKept 5 (some b) w w') := Any.Builder_String_k Tryd.lays169 Tryd.Builder_Extra_169 B b l w h h0
open Go.RowKit in
/-- (*strings.Builder).String OF A BUILDER THAT HOLDS NO BYTE: the empty string; THE FORM '_k': OVER 'Lib.IsBuilderF' (a builder that 'String()' may have read), AND WITH THE FRAME THAT REACHES ABOVE THE BUILDER: 'Lib.OthersKept': every block that is not b and is no row of uint8's stands as it stood: the iterator of a range among them. (LAID: no walk: one application.) -/
theorem Tryd.Builder_String_empty_k (B b : Nat) (w : World) (h : Lib.IsBuilderF 76 5 B b [] w) (hBw : B ≤ w.heap.size) :
    Calls Tryd.prog 35 #[.pointer (some ⟨b, 0, none⟩)] w fun e w' => e = .returned (.string ⟨#[]⟩) ∧ (Lib.IsBuilderF 76 5 B b [] w' ∧ Below B w w' ∧ Lib.OthersKept 5 (some b) w w') := Any.Builder_String_empty_k Tryd.lays169 Tryd.Builder_Extra_169 B b w h hBw
open Go.RowKit in
/-- (*strings.Builder).String: "String returns the accumulated string.": WHATEVER THE BUILDER HOLDS; THE FORM '_k': OVER 'Lib.IsBuilderF' (a builder that 'String()' may have read), AND WITH THE FRAME THAT REACHES ABOVE THE BUILDER: 'Lib.OthersKept': every block that is not b and is no row of uint8's stands as it stood: the iterator of a range among them. (LAID: no walk: one application.) -/
theorem Tryd.Builder_String_any_k (B b : Nat) (l : List UInt8) (w : World) (h : Lib.IsBuilderF 76 5 B b (Lib.byteCells l) w) (hBw : B ≤ w.heap.size) :
    Calls Tryd.prog 35 #[.pointer (some ⟨b, 0, none⟩)] w fun e w' => e = .returned (.string ⟨l.toArray⟩) ∧ (Lib.IsBuilderF 76 5 B b (Lib.byteCells l) w' ∧ Below B w w' ∧ Lib.OthersKept 5 (some b) w w') := Any.Builder_String_any_k Tryd.lays169 Tryd.Builder_Extra_169 B b l w h hBw
open Go.RowKit in
/-- (*strings.Builder).grow (no doc but "grow copies the buffer to a new, larger buffer so that there are at least n bytes of capacity beyond len(b.buf)."): AT A BUILDER WITHOUT A BUFFER: a new row of whatever bytes for its buffer, none of them its own yet. Three draws. (LAID: no walk: one application.) -/
theorem Tryd.Builder_grow_fresh_cap (B b n : Nat) (w : World) (hB : B ≤ b) (hbk : w.heap[b]? = some (.cells #[.pointer (some ⟨b, 0, none⟩), .slice none 0 0] 76 (0, 0))) (hBw : B ≤ w.heap.size) (hn : n ≤ 281474976710656) :
    Calls Tryd.prog 45 #[.pointer (some ⟨b, 0, none⟩), .int .i64 n] w fun e w' => e = .returned (.tuple #[]) ∧ (Lib.BuilderAt 76 5 B b (.pointer (some ⟨b, 0, none⟩)) [] w' ∧ Below B w w') ∧ ∃ p cap, w'.cell? ⟨b, 1, none⟩ = some (.slice p 0 cap) ∧ n ≤ cap := Any.Builder_grow_fresh_cap Tryd.lays241 Tryd.Builder_Extra_241 B b n w hB hbk hBw hn
open Go.RowKit in
/-- (*strings.Builder).Grow AT A BUILDER THAT HAS NOT BEEN WRITTEN ('var b strings.Builder; b.Grow(n)'): "Grow grows b's capacity, if necessary, to guarantee space for another n bytes.": it holds no byte behind it as before it. (LAID: no walk: one application.) -/
theorem Tryd.Builder_Grow_fresh_cap (B b n : Nat) (w : World) (hB : B ≤ b) (hbk : w.heap[b]? = some (.cells #[.pointer none, .slice none 0 0] 76 (0, 0))) (hBw : B ≤ w.heap.size) (hn : n ≤ 281474976710656) :
    Calls Tryd.prog 33 #[.pointer (some ⟨b, 0, none⟩), .int .i64 n] w fun e w' => e = .returned (.tuple #[]) ∧ (Lib.BuilderAt 76 5 B b (.pointer (some ⟨b, 0, none⟩)) [] w' ∧ Below B w w') ∧ ∃ p cap, w'.cell? ⟨b, 1, none⟩ = some (.slice p 0 cap) ∧ n ≤ cap := Any.Builder_Grow_fresh_cap Tryd.lays165 Tryd.Builder_Extra_165 B b n w hB hbk hBw hn
def Tryd.lays244_ren : Go.Shelf.Ren := ⟨fun | 244 => 40 | 247 => 52 | 287 => 69 | 321 => 79 | 322 => 80 | n => n, fun | 9 => 9 | 3 => 3 | 75 => 27 | 4 => 4 | 5 => 5 | 167 => 89 | 37 => 74 | 0 => 0 | 85 => 90 | 2 => 2 | 53 => 102 | 175 => 108 | 46 => 110 | 21 => 21 | 80 => 78 | n => n, fun | n => n⟩
theorem Tryd.lays244 : Go.Proofs.Lays.n244 Tryd.prog Tryd.lays244_ren := {
  mixed := by kernel_rfl
  f244 := Tryd.func40.trans (congrArg some (by kernel_rfl))
  f247 := Tryd.func52.trans (congrArg some (by kernel_rfl))
  f287 := Tryd.func69.trans (congrArg some (by kernel_rfl))
  f321 := Tryd.func79.trans (congrArg some (by kernel_rfl))
  f322 := Tryd.func80.trans (congrArg some (by kernel_rfl))
  t0 := Tryd.underlying0
  a0 := Tryd.isAgg0
  z0 := Tryd.sizeOf0
  v0 := Tryd.zeroValue0
  t2 := Tryd.underlying2
  a2 := Tryd.isAgg2
  z2 := Tryd.sizeOf2
  v2 := Tryd.zeroValue2
  t3 := Tryd.underlying3
  a3 := Tryd.isAgg3
  z3 := Tryd.sizeOf3
  v3 := Tryd.zeroValue3
  t4 := Tryd.underlying4
  a4 := Tryd.isAgg4
  z4 := Tryd.sizeOf4
  v4 := Tryd.zeroValue4
  t5 := Tryd.underlying5
  a5 := Tryd.isAgg5
  z5 := Tryd.sizeOf5
  v5 := Tryd.zeroValue5
  t9 := Tryd.underlying9
  a9 := Tryd.isAgg9
  z9 := Tryd.sizeOf9
  v9 := Tryd.zeroValue9
  t21 := Tryd.underlying21
  a21 := Tryd.isAgg21
  z21 := Tryd.sizeOf21
  v21 := Tryd.zeroValue21
  t37 := Tryd.underlying74
  a37 := Tryd.isAgg74
  z37 := Tryd.sizeOf74
  v37 := Tryd.zeroValue74
  t46 := Tryd.underlying110
  a46 := Tryd.isAgg110
  z46 := Tryd.sizeOf110
  v46 := Tryd.zeroValue110
  t53 := Tryd.underlying102
  a53 := Tryd.isAgg102
  z53 := Tryd.sizeOf102
  v53 := Tryd.zeroValue102
  t75 := Tryd.underlying27
  a75 := Tryd.isAgg27
  z75 := Tryd.sizeOf27
  v75 := Tryd.zeroValue27
  t85 := Tryd.underlying90
  a85 := Tryd.isAgg90
  z85 := Tryd.sizeOf90
  v85 := Tryd.zeroValue90
  t167 := Tryd.underlying89
  a167 := Tryd.isAgg89
  z167 := Tryd.sizeOf89
  v167 := Tryd.zeroValue89
  t175 := Tryd.underlying108
  a175 := Tryd.isAgg108
  z175 := Tryd.sizeOf108
  v175 := Tryd.zeroValue108 }
open Go.RowKit in
/-- internal/strconv.Atoi, at a decimal numeral of at most 18 bytes: ITS VALUE, AND NO ERROR. The world behind the call: the one new row that '[]byte(s)' lays. (LAID: no walk: one application.) -/
theorem Tryd.internal_strconv_Atoi (s : ByteArray) (n : Int) (hl : s.size ≤ 18) (h : Lib.atoi s.data.toList = some n) (w : World) :
    Calls Tryd.prog 40 #[.string s] w fun e w' => e = .returned (.tuple #[.int .i64 n, .nilIface]) ∧ ∃ t, w' = Lib.bytesWorld w 5 t := Any.internal_strconv_Atoi Tryd.lays244 s n hl h w
def Tryd.lays172_ren : Go.Shelf.Ren := ⟨fun | 172 => 28 | 244 => 40 | 245 => 41 | 247 => 52 | 279 => 53 | 280 => 54 | 281 => 55 | 282 => 56 | 287 => 69 | 316 => 70 | 171 => 19 | 205 => 71 | 321 => 79 | 322 => 80 | 243 => 36 | 246 => 46 | 283 => 62 | 284 => 63 | 285 => 64 | 286 => 65 | 129 => 74 | 317 => 73 | 318 => 75 | 319 => 76 | 320 => 77 | 337 => 81 | 338 => 82 | n => n, fun | 9 => 9 | 3 => 3 | 75 => 27 | 76 => 63 | 4 => 4 | 5 => 5 | 167 => 89 | 37 => 74 | 0 => 0 | 85 => 90 | 2 => 2 | 168 => 92 | 53 => 102 | 175 => 108 | 46 => 110 | 210 => 113 | 127 => 85 | 145 => 124 | 143 => 122 | 21 => 21 | 171 => 101 | 173 => 105 | 212 => 117 | 51 => 118 | 20 => 20 | 213 => 119 | 232 => 126 | 233 => 127 | 80 => 78 | n => n, fun | 15 => 2 | 16 => 3 | 17 => 5 | 18 => 6 | 19 => 7 | n => n⟩
theorem Tryd.lays172 : Go.Proofs.Lays.n172 Tryd.prog Tryd.lays172_ren := {
  mixed := by kernel_rfl
  f129 := Tryd.func74.trans (congrArg some (by kernel_rfl))
  f171 := Tryd.func19.trans (congrArg some (by kernel_rfl))
  f172 := Tryd.func28.trans (congrArg some (by kernel_rfl))
  f205 := Tryd.func71.trans (congrArg some (by kernel_rfl))
  f243 := Tryd.func36.trans (congrArg some (by kernel_rfl))
  f244 := Tryd.func40.trans (congrArg some (by kernel_rfl))
  f245 := Tryd.func41.trans (congrArg some (by kernel_rfl))
  f246 := Tryd.func46.trans (congrArg some (by kernel_rfl))
  f247 := Tryd.func52.trans (congrArg some (by kernel_rfl))
  f279 := Tryd.func53.trans (congrArg some (by kernel_rfl))
  f280 := Tryd.func54.trans (congrArg some (by kernel_rfl))
  f281 := Tryd.func55.trans (congrArg some (by kernel_rfl))
  f282 := Tryd.func56.trans (congrArg some (by kernel_rfl))
  f283 := Tryd.func62.trans (congrArg some (by kernel_rfl))
  f284 := Tryd.func63.trans (congrArg some (by kernel_rfl))
  f285 := Tryd.func64.trans (congrArg some (by kernel_rfl))
  f286 := Tryd.func65.trans (congrArg some (by kernel_rfl))
  f287 := Tryd.func69.trans (congrArg some (by kernel_rfl))
  f316 := Tryd.func70.trans (congrArg some (by kernel_rfl))
  f317 := Tryd.func73.trans (congrArg some (by kernel_rfl))
  f318 := Tryd.func75.trans (congrArg some (by kernel_rfl))
  f319 := Tryd.func76.trans (congrArg some (by kernel_rfl))
  f320 := Tryd.func77.trans (congrArg some (by kernel_rfl))
  f321 := Tryd.func79.trans (congrArg some (by kernel_rfl))
  f322 := Tryd.func80.trans (congrArg some (by kernel_rfl))
  f337 := Tryd.func81.trans (congrArg some (by kernel_rfl))
  f338 := Tryd.func82.trans (congrArg some (by kernel_rfl))
  t0 := Tryd.underlying0
  a0 := Tryd.isAgg0
  z0 := Tryd.sizeOf0
  v0 := Tryd.zeroValue0
  t2 := Tryd.underlying2
  a2 := Tryd.isAgg2
  z2 := Tryd.sizeOf2
  v2 := Tryd.zeroValue2
  t3 := Tryd.underlying3
  a3 := Tryd.isAgg3
  z3 := Tryd.sizeOf3
  v3 := Tryd.zeroValue3
  t4 := Tryd.underlying4
  a4 := Tryd.isAgg4
  z4 := Tryd.sizeOf4
  v4 := Tryd.zeroValue4
  t5 := Tryd.underlying5
  a5 := Tryd.isAgg5
  z5 := Tryd.sizeOf5
  v5 := Tryd.zeroValue5
  t9 := Tryd.underlying9
  a9 := Tryd.isAgg9
  z9 := Tryd.sizeOf9
  v9 := Tryd.zeroValue9
  t20 := Tryd.underlying20
  a20 := Tryd.isAgg20
  z20 := Tryd.sizeOf20
  v20 := Tryd.zeroValue20
  t21 := Tryd.underlying21
  a21 := Tryd.isAgg21
  z21 := Tryd.sizeOf21
  v21 := Tryd.zeroValue21
  t37 := Tryd.underlying74
  a37 := Tryd.isAgg74
  z37 := Tryd.sizeOf74
  v37 := Tryd.zeroValue74
  t46 := Tryd.underlying110
  a46 := Tryd.isAgg110
  z46 := Tryd.sizeOf110
  v46 := Tryd.zeroValue110
  t51 := Tryd.underlying118
  a51 := Tryd.isAgg118
  z51 := Tryd.sizeOf118
  v51 := Tryd.zeroValue118
  t53 := Tryd.underlying102
  a53 := Tryd.isAgg102
  z53 := Tryd.sizeOf102
  v53 := Tryd.zeroValue102
  t75 := Tryd.underlying27
  a75 := Tryd.isAgg27
  z75 := Tryd.sizeOf27
  v75 := Tryd.zeroValue27
  t76 := Tryd.underlying63
  a76 := Tryd.isAgg63
  z76 := Tryd.sizeOf63
  v76 := Tryd.zeroValue63
  t85 := Tryd.underlying90
  a85 := Tryd.isAgg90
  z85 := Tryd.sizeOf90
  v85 := Tryd.zeroValue90
  t127 := Tryd.underlying85
  a127 := Tryd.isAgg85
  z127 := Tryd.sizeOf85
  v127 := Tryd.zeroValue85
  t143 := Tryd.underlying122
  a143 := Tryd.isAgg122
  z143 := Tryd.sizeOf122
  v143 := Tryd.zeroValue122
  t145 := Tryd.underlying124
  a145 := Tryd.isAgg124
  z145 := Tryd.sizeOf124
  v145 := Tryd.zeroValue124
  t167 := Tryd.underlying89
  a167 := Tryd.isAgg89
  z167 := Tryd.sizeOf89
  v167 := Tryd.zeroValue89
  t168 := Tryd.underlying92
  a168 := Tryd.isAgg92
  z168 := Tryd.sizeOf92
  v168 := Tryd.zeroValue92
  t171 := Tryd.underlying101
  a171 := Tryd.isAgg101
  z171 := Tryd.sizeOf101
  v171 := Tryd.zeroValue101
  t173 := Tryd.underlying105
  a173 := Tryd.isAgg105
  z173 := Tryd.sizeOf105
  v173 := Tryd.zeroValue105
  t175 := Tryd.underlying108
  a175 := Tryd.isAgg108
  z175 := Tryd.sizeOf108
  v175 := Tryd.zeroValue108
  t210 := Tryd.underlying113
  a210 := Tryd.isAgg113
  z210 := Tryd.sizeOf113
  v210 := Tryd.zeroValue113
  t212 := Tryd.underlying117
  a212 := Tryd.isAgg117
  z212 := Tryd.sizeOf117
  v212 := Tryd.zeroValue117
  t213 := Tryd.underlying119
  a213 := Tryd.isAgg119
  z213 := Tryd.sizeOf119
  t232 := Tryd.underlying126
  a232 := Tryd.isAgg126
  z232 := Tryd.sizeOf126
  v232 := Tryd.zeroValue126
  t233 := Tryd.underlying127
  a233 := Tryd.isAgg127
  z233 := Tryd.sizeOf127
  v233 := Tryd.zeroValue127
  g15 := by kernel_rfl
  g16 := by kernel_rfl
  g17 := by kernel_rfl
  g18 := by kernel_rfl
  g19 := by kernel_rfl }
open Go.RowKit in
/-- strconv.Atoi: "Atoi is equivalent to ParseInt(s, 10, 0), converted to type int.": AT A DECIMAL NUMERAL OF AT MOST 18 BYTES: its value, and a nil error. The world behind the call: the one new row that the library's '[]byte(s)' lays. (LAID: no walk: one application.) -/
theorem Tryd.strconv_Atoi (s : ByteArray) (n : Int) (hl : s.size ≤ 18) (h : Lib.atoi s.data.toList = some n) (w : World) :
    Calls Tryd.prog 28 #[.string s] w fun e w' => e = .returned (.tuple #[.int .i64 n, .nilIface]) ∧ ∃ t, w' = Lib.bytesWorld w 5 t := Any.strconv_Atoi Tryd.lays172 s n hl h w
def Tryd.lays129_ren : Go.Shelf.Ren := ⟨fun | 129 => 74 | n => n, fun | 53 => 102 | 3 => 3 | 4 => 4 | 46 => 110 | 5 => 5 | 9 => 9 | n => n, fun | n => n⟩
theorem Tryd.lays129 : Go.Proofs.Lays.n129 Tryd.prog Tryd.lays129_ren := {
  mixed := by kernel_rfl
  f129 := Tryd.func74.trans (congrArg some (by kernel_rfl))
  t3 := Tryd.underlying3
  a3 := Tryd.isAgg3
  z3 := Tryd.sizeOf3
  v3 := Tryd.zeroValue3
  t4 := Tryd.underlying4
  a4 := Tryd.isAgg4
  z4 := Tryd.sizeOf4
  v4 := Tryd.zeroValue4
  t5 := Tryd.underlying5
  a5 := Tryd.isAgg5
  z5 := Tryd.sizeOf5
  v5 := Tryd.zeroValue5
  t9 := Tryd.underlying9
  a9 := Tryd.isAgg9
  z9 := Tryd.sizeOf9
  v9 := Tryd.zeroValue9
  t46 := Tryd.underlying110
  a46 := Tryd.isAgg110
  z46 := Tryd.sizeOf110
  v46 := Tryd.zeroValue110
  t53 := Tryd.underlying102
  a53 := Tryd.isAgg102
  z53 := Tryd.sizeOf102
  v53 := Tryd.zeroValue102 }
/-- bits.Len64: "Len64 returns the minimum number of bits required to represent x; the result is 0 for x == 0.": IT RETURNS 'Lib.bitLen x'; the world is as it was. ('h0', 'h1': x is a uint64.) (LAID: no walk: one application.) -/
theorem Tryd.bits_Len64 (x : Int) (w : World) (h0 : 0 ≤ x) (h1 : x ≤ 18446744073709551615) :
    Calls Tryd.prog 74 #[.int .u64 x] w fun e w' => e = .returned (.int .i64 (Lib.bitLen x.toNat)) ∧ w' = w := Any.bits_Len64 Tryd.lays129 x w h0 h1
def Tryd.lays317_ren : Go.Shelf.Ren := ⟨fun | 317 => 73 | n => n, fun | 3 => 3 | 46 => 110 | n => n, fun | n => n⟩
theorem Tryd.lays317 : Go.Proofs.Lays.n317 Tryd.prog Tryd.lays317_ren := {
  mixed := by kernel_rfl
  f317 := Tryd.func73.trans (congrArg some (by kernel_rfl))
  t3 := Tryd.underlying3
  a3 := Tryd.isAgg3
  z3 := Tryd.sizeOf3
  v3 := Tryd.zeroValue3
  t46 := Tryd.underlying110
  a46 := Tryd.isAgg110
  z46 := Tryd.sizeOf110
  v46 := Tryd.zeroValue110 }
open Go.Lib in
/-- internal/strconv.log10Pow2: "log10Pow2(x) returns ⌊log₁₀ 2**x⌋ = ⌊x * log₁₀ 2⌋.": '(x * 78913) >> 18', at an x up to 64 (a length in bits). The world is as it was. (LAID: no walk: one application.) -/
theorem Tryd.internal_strconv_log10Pow2 (x : Nat) (h : x ≤ 64) (w : World) :
    Calls Tryd.prog 73 #[.int .i64 x] w fun e w' => e = .returned (.int .i64 (Lib.l10 x)) ∧ w' = w := Any.internal_strconv_log10Pow2 Tryd.lays317 x h w
def Tryd.lays318_ren : Go.Shelf.Ren := ⟨fun | 318 => 75 | n => n, fun | 3 => 3 | 4 => 4 | n => n, fun | n => n⟩
theorem Tryd.lays318 : Go.Proofs.Lays.n318 Tryd.prog Tryd.lays318_ren := {
  mixed := by kernel_rfl
  f318 := Tryd.func75.trans (congrArg some (by kernel_rfl))
  t3 := Tryd.underlying3
  a3 := Tryd.isAgg3
  z3 := Tryd.sizeOf3
  v3 := Tryd.zeroValue3
  t4 := Tryd.underlying4
  a4 := Tryd.isAgg4
  z4 := Tryd.sizeOf4
  v4 := Tryd.zeroValue4 }
open Go.Lib in
/-- internal/strconv.bool2: "bool2 converts b to an integer: 1 for true, 0 for false." The world is as it was. (LAID: no walk: one application.) -/
theorem Tryd.internal_strconv_bool2_int (b : Bool) (w : World) :
    Calls Tryd.prog 75 #[.bool b] w fun e w' => e = .returned (.int .i64 (if b then 1 else 0)) ∧ w' = w := Any.internal_strconv_bool2_int Tryd.lays318 b w
def Tryd.lays283_ren : Go.Shelf.Ren := ⟨fun | 283 => 62 | n => n, fun | 3 => 3 | 9 => 9 | 4 => 4 | n => n, fun | n => n⟩
theorem Tryd.lays283 : Go.Proofs.Lays.n283 Tryd.prog Tryd.lays283_ren := {
  mixed := by kernel_rfl
  f283 := Tryd.func62.trans (congrArg some (by kernel_rfl))
  t3 := Tryd.underlying3
  a3 := Tryd.isAgg3
  z3 := Tryd.sizeOf3
  v3 := Tryd.zeroValue3
  t4 := Tryd.underlying4
  a4 := Tryd.isAgg4
  z4 := Tryd.sizeOf4
  v4 := Tryd.zeroValue4
  t9 := Tryd.underlying9
  a9 := Tryd.isAgg9
  z9 := Tryd.sizeOf9
  v9 := Tryd.zeroValue9 }
open Go.Lib in
/-- internal/strconv.small: "small returns the string for an i with 0 <= i < nSmalls.": i's decimal numeral. The world is as it was. (LAID: no walk: one application.) -/
theorem Tryd.internal_strconv_small (i : Nat) (h : i < 100) (w : World) :
    Calls Tryd.prog 62 #[.int .i64 i] w fun e w' => e = .returned (.string ⟨(Lib.decDigits i).toArray⟩) ∧ w' = w := Any.internal_strconv_small Tryd.lays283 i h w
def Tryd.laysM284_ren : Go.Shelf.Ren := ⟨fun | 284 => 63 | 129 => 74 | 317 => 73 | 318 => 75 | n => n, fun | 53 => 102 | 3 => 3 | 212 => 117 | 0 => 0 | 4 => 4 | 46 => 110 | 5 => 5 | 9 => 9 | n => n, fun | 17 => 5 | n => n⟩
theorem Tryd.laysM284 : Go.Proofs.LaysM.n284 Tryd.prog Tryd.laysM284_ren := {
  mixed := by kernel_rfl
  f129 := Tryd.func74.trans (congrArg some (by kernel_rfl))
  f284 := Tryd.func63.trans (congrArg some (by kernel_rfl))
  f317 := Tryd.func73.trans (congrArg some (by kernel_rfl))
  f318 := Tryd.func75.trans (congrArg some (by kernel_rfl))
  t0 := Tryd.underlying0
  a0 := Tryd.isAgg0
  z0 := Tryd.sizeOf0
  v0 := Tryd.zeroValue0
  t3 := Tryd.underlying3
  a3 := Tryd.isAgg3
  z3 := Tryd.sizeOf3
  v3 := Tryd.zeroValue3
  t4 := Tryd.underlying4
  a4 := Tryd.isAgg4
  z4 := Tryd.sizeOf4
  v4 := Tryd.zeroValue4
  t5 := Tryd.underlying5
  a5 := Tryd.isAgg5
  z5 := Tryd.sizeOf5
  v5 := Tryd.zeroValue5
  t9 := Tryd.underlying9
  a9 := Tryd.isAgg9
  z9 := Tryd.sizeOf9
  v9 := Tryd.zeroValue9
  t46 := Tryd.underlying110
  a46 := Tryd.isAgg110
  z46 := Tryd.sizeOf110
  v46 := Tryd.zeroValue110
  t53 := Tryd.underlying102
  a53 := Tryd.isAgg102
  z53 := Tryd.sizeOf102
  v53 := Tryd.zeroValue102
  t212 := Tryd.underlying117
  a212 := Tryd.isAgg117
  z212 := Tryd.sizeOf117
  v212 := Tryd.zeroValue117
  g17 := by kernel_rfl
  i0 := by kernel_rfl
  i3 := by kernel_rfl
  i4 := by kernel_rfl
  i5 := by kernel_rfl
  i9 := by kernel_rfl
  i46 := by kernel_rfl
  i53 := by kernel_rfl
  i212 := by kernel_rfl
  m17 := by kernel_rfl }
open Go.Lib in
/-- internal/strconv.numDigits, at a d that is not 0: THE NUMBER OF d's DECIMAL DIGITS. The world is as it was. (LAID: no walk: one application.) -/
theorem Tryd.internal_strconv_numDigits (u : Nat) (h1 : 1 ≤ u) (h2 : u < 18446744073709551616) (w : World) (htab : Lib.TabIs Tryd.prog w "internal/strconv.uint64pow10" .u64 Lib.pow10Tab) :
    Calls Tryd.prog 63 #[.int .u64 u] w fun e w' => e = .returned (.int .i64 (Lib.nDigits u)) ∧ w' = w := Any.internal_strconv_numDigits Tryd.laysM284 u h1 h2 w htab
def Tryd.lays285_ren : Go.Shelf.Ren := ⟨fun | 285 => 64 | n => n, fun | 37 => 74 | 53 => 102 | 3 => 3 | 4 => 4 | 51 => 118 | 9 => 9 | 5 => 5 | 0 => 0 | n => n, fun | n => n⟩
theorem Tryd.lays285 : Go.Proofs.Lays.n285 Tryd.prog Tryd.lays285_ren := {
  mixed := by kernel_rfl
  f285 := Tryd.func64.trans (congrArg some (by kernel_rfl))
  t0 := Tryd.underlying0
  a0 := Tryd.isAgg0
  z0 := Tryd.sizeOf0
  v0 := Tryd.zeroValue0
  t3 := Tryd.underlying3
  a3 := Tryd.isAgg3
  z3 := Tryd.sizeOf3
  v3 := Tryd.zeroValue3
  t4 := Tryd.underlying4
  a4 := Tryd.isAgg4
  z4 := Tryd.sizeOf4
  v4 := Tryd.zeroValue4
  t5 := Tryd.underlying5
  a5 := Tryd.isAgg5
  z5 := Tryd.sizeOf5
  v5 := Tryd.zeroValue5
  t9 := Tryd.underlying9
  a9 := Tryd.isAgg9
  z9 := Tryd.sizeOf9
  v9 := Tryd.zeroValue9
  t37 := Tryd.underlying74
  a37 := Tryd.isAgg74
  z37 := Tryd.sizeOf74
  v37 := Tryd.zeroValue74
  t51 := Tryd.underlying118
  a51 := Tryd.isAgg118
  z51 := Tryd.sizeOf118
  v51 := Tryd.zeroValue118
  t53 := Tryd.underlying102
  a53 := Tryd.isAgg102
  z53 := Tryd.sizeOf102
  v53 := Tryd.zeroValue102 }
open Go.RowKit Go.Sort Go.Lib in
/-- internal/strconv.formatBase10: "formatBase10 formats the decimal representation of u into a. The caller is responsible for ensuring that a is big enough to hold u. If a is too big, leading zeros will be filled in as needed.": THE ROW HOLDS u's DIGITS ('FmtInv .. 0 ..': every place t holds 'dg u (len - 1 - t)'); all else is as it was but for the count of draws. (LAID: no walk: one application.) -/
theorem Tryd.internal_strconv_formatBase10 (blk off cap : Nat) (u : Nat) (d : Array UInt8) (w : World) (hH : Holds (fun (b : UInt8) => Value.int .u8 (b.toNat : Int)) w blk off d) (hu : u < 10 ^ d.size) (hu64 : u < 18446744073709551616) (hsz : d.size < 4611686018427387904) :
    Calls Tryd.prog 64 #[.slice (some ⟨blk, off, none⟩) d.size cap, .int .u64 u] w fun e w' =>
      e = .returned (.tuple #[]) ∧ ∃ (n v' : Nat) (dk : Array UInt8), w' = (putRow (fun (b : UInt8) => Value.int .u8 (b.toNat : Int)) w blk off dk).drewN n ∧ FmtInv d.size u 0 v' dk := Any.internal_strconv_formatBase10 Tryd.lays285 blk off cap u d w hH hu hu64 hsz
def Tryd.laysM246_ren : Go.Shelf.Ren := ⟨fun | 246 => 46 | 283 => 62 | 284 => 63 | 285 => 64 | 286 => 65 | 129 => 74 | 317 => 73 | 318 => 75 | 319 => 76 | 320 => 77 | 337 => 81 | 338 => 82 | n => n, fun | 2 => 2 | 3 => 3 | 9 => 9 | 4 => 4 | 171 => 101 | 0 => 0 | 53 => 102 | 37 => 74 | 5 => 5 | 173 => 105 | 212 => 117 | 51 => 118 | 20 => 20 | 213 => 119 | 46 => 110 | 232 => 126 | 233 => 127 | n => n, fun | 17 => 5 | 18 => 6 | 19 => 7 | n => n⟩
theorem Tryd.laysM246 : Go.Proofs.LaysM.n246 Tryd.prog Tryd.laysM246_ren := {
  mixed := by kernel_rfl
  f129 := Tryd.func74.trans (congrArg some (by kernel_rfl))
  f246 := Tryd.func46.trans (congrArg some (by kernel_rfl))
  f283 := Tryd.func62.trans (congrArg some (by kernel_rfl))
  f284 := Tryd.func63.trans (congrArg some (by kernel_rfl))
  f285 := Tryd.func64.trans (congrArg some (by kernel_rfl))
  f286 := Tryd.func65.trans (congrArg some (by kernel_rfl))
  f317 := Tryd.func73.trans (congrArg some (by kernel_rfl))
  f318 := Tryd.func75.trans (congrArg some (by kernel_rfl))
  f319 := Tryd.func76.trans (congrArg some (by kernel_rfl))
  f320 := Tryd.func77.trans (congrArg some (by kernel_rfl))
  f337 := Tryd.func81.trans (congrArg some (by kernel_rfl))
  f338 := Tryd.func82.trans (congrArg some (by kernel_rfl))
  t0 := Tryd.underlying0
  a0 := Tryd.isAgg0
  z0 := Tryd.sizeOf0
  v0 := Tryd.zeroValue0
  t2 := Tryd.underlying2
  a2 := Tryd.isAgg2
  z2 := Tryd.sizeOf2
  v2 := Tryd.zeroValue2
  t3 := Tryd.underlying3
  a3 := Tryd.isAgg3
  z3 := Tryd.sizeOf3
  v3 := Tryd.zeroValue3
  t4 := Tryd.underlying4
  a4 := Tryd.isAgg4
  z4 := Tryd.sizeOf4
  v4 := Tryd.zeroValue4
  t5 := Tryd.underlying5
  a5 := Tryd.isAgg5
  z5 := Tryd.sizeOf5
  v5 := Tryd.zeroValue5
  t9 := Tryd.underlying9
  a9 := Tryd.isAgg9
  z9 := Tryd.sizeOf9
  v9 := Tryd.zeroValue9
  t20 := Tryd.underlying20
  a20 := Tryd.isAgg20
  z20 := Tryd.sizeOf20
  v20 := Tryd.zeroValue20
  t37 := Tryd.underlying74
  a37 := Tryd.isAgg74
  z37 := Tryd.sizeOf74
  v37 := Tryd.zeroValue74
  t46 := Tryd.underlying110
  a46 := Tryd.isAgg110
  z46 := Tryd.sizeOf110
  v46 := Tryd.zeroValue110
  t51 := Tryd.underlying118
  a51 := Tryd.isAgg118
  z51 := Tryd.sizeOf118
  v51 := Tryd.zeroValue118
  t53 := Tryd.underlying102
  a53 := Tryd.isAgg102
  z53 := Tryd.sizeOf102
  v53 := Tryd.zeroValue102
  t171 := Tryd.underlying101
  a171 := Tryd.isAgg101
  z171 := Tryd.sizeOf101
  v171 := Tryd.zeroValue101
  t173 := Tryd.underlying105
  a173 := Tryd.isAgg105
  z173 := Tryd.sizeOf105
  v173 := Tryd.zeroValue105
  t212 := Tryd.underlying117
  a212 := Tryd.isAgg117
  z212 := Tryd.sizeOf117
  v212 := Tryd.zeroValue117
  t213 := Tryd.underlying119
  a213 := Tryd.isAgg119
  z213 := Tryd.sizeOf119
  t232 := Tryd.underlying126
  a232 := Tryd.isAgg126
  z232 := Tryd.sizeOf126
  v232 := Tryd.zeroValue126
  t233 := Tryd.underlying127
  a233 := Tryd.isAgg127
  z233 := Tryd.sizeOf127
  v233 := Tryd.zeroValue127
  g17 := by kernel_rfl
  g18 := by kernel_rfl
  g19 := by kernel_rfl
  i0 := by kernel_rfl
  i2 := by kernel_rfl
  i3 := by kernel_rfl
  i4 := by kernel_rfl
  i5 := by kernel_rfl
  i9 := by kernel_rfl
  i20 := by kernel_rfl
  i37 := by kernel_rfl
  i46 := by kernel_rfl
  i51 := by kernel_rfl
  i53 := by kernel_rfl
  i171 := by kernel_rfl
  i173 := by kernel_rfl
  i212 := by kernel_rfl
  i232 := by kernel_rfl
  i233 := by kernel_rfl
  m17 := by kernel_rfl
  m18 := by kernel_rfl
  m19 := by kernel_rfl }
open Go.RowKit Go.Sort Go.Lib in
/-- internal/strconv.FormatInt: "FormatInt returns the string representation of i in the given base": AT BASE 10: i's decimal numeral, for every int64. The world behind the call: the world before it, new blocks behind the heap, draws. (LAID: no walk: one application.) -/
theorem Tryd.internal_strconv_FormatInt_10 (n : Int) (h0 : -9223372036854775808 ≤ n) (h1 : n ≤ 9223372036854775807) (w : World) (htab : Lib.TabIs Tryd.prog w "internal/strconv.uint64pow10" .u64 Lib.pow10Tab) :
    Calls Tryd.prog 46 #[.int .i64 n, .int .i64 10] w fun e w' => e = .returned (.string ⟨(Lib.itoa n).toArray⟩) ∧ ∃ k os, w' = grow (w.drewN k) os := Any.internal_strconv_FormatInt_10 Tryd.laysM246 n h0 h1 w htab
def Tryd.lays246_ren : Go.Shelf.Ren := ⟨fun | 246 => 46 | 283 => 62 | 284 => 63 | 285 => 64 | 286 => 65 | 129 => 74 | 317 => 73 | 318 => 75 | 319 => 76 | 320 => 77 | 337 => 81 | 338 => 82 | n => n, fun | 2 => 2 | 3 => 3 | 9 => 9 | 4 => 4 | 171 => 101 | 0 => 0 | 53 => 102 | 37 => 74 | 5 => 5 | 173 => 105 | 212 => 117 | 51 => 118 | 20 => 20 | 213 => 119 | 46 => 110 | 232 => 126 | 233 => 127 | n => n, fun | 17 => 5 | 18 => 6 | 19 => 7 | n => n⟩
theorem Tryd.lays246 : Go.Proofs.Lays.n246 Tryd.prog Tryd.lays246_ren := {
  mixed := by kernel_rfl
  f129 := Tryd.func74.trans (congrArg some (by kernel_rfl))
  f246 := Tryd.func46.trans (congrArg some (by kernel_rfl))
  f283 := Tryd.func62.trans (congrArg some (by kernel_rfl))
  f284 := Tryd.func63.trans (congrArg some (by kernel_rfl))
  f285 := Tryd.func64.trans (congrArg some (by kernel_rfl))
  f286 := Tryd.func65.trans (congrArg some (by kernel_rfl))
  f317 := Tryd.func73.trans (congrArg some (by kernel_rfl))
  f318 := Tryd.func75.trans (congrArg some (by kernel_rfl))
  f319 := Tryd.func76.trans (congrArg some (by kernel_rfl))
  f320 := Tryd.func77.trans (congrArg some (by kernel_rfl))
  f337 := Tryd.func81.trans (congrArg some (by kernel_rfl))
  f338 := Tryd.func82.trans (congrArg some (by kernel_rfl))
  t0 := Tryd.underlying0
  a0 := Tryd.isAgg0
  z0 := Tryd.sizeOf0
  v0 := Tryd.zeroValue0
  t2 := Tryd.underlying2
  a2 := Tryd.isAgg2
  z2 := Tryd.sizeOf2
  v2 := Tryd.zeroValue2
  t3 := Tryd.underlying3
  a3 := Tryd.isAgg3
  z3 := Tryd.sizeOf3
  v3 := Tryd.zeroValue3
  t4 := Tryd.underlying4
  a4 := Tryd.isAgg4
  z4 := Tryd.sizeOf4
  v4 := Tryd.zeroValue4
  t5 := Tryd.underlying5
  a5 := Tryd.isAgg5
  z5 := Tryd.sizeOf5
  v5 := Tryd.zeroValue5
  t9 := Tryd.underlying9
  a9 := Tryd.isAgg9
  z9 := Tryd.sizeOf9
  v9 := Tryd.zeroValue9
  t20 := Tryd.underlying20
  a20 := Tryd.isAgg20
  z20 := Tryd.sizeOf20
  v20 := Tryd.zeroValue20
  t37 := Tryd.underlying74
  a37 := Tryd.isAgg74
  z37 := Tryd.sizeOf74
  v37 := Tryd.zeroValue74
  t46 := Tryd.underlying110
  a46 := Tryd.isAgg110
  z46 := Tryd.sizeOf110
  v46 := Tryd.zeroValue110
  t51 := Tryd.underlying118
  a51 := Tryd.isAgg118
  z51 := Tryd.sizeOf118
  v51 := Tryd.zeroValue118
  t53 := Tryd.underlying102
  a53 := Tryd.isAgg102
  z53 := Tryd.sizeOf102
  v53 := Tryd.zeroValue102
  t171 := Tryd.underlying101
  a171 := Tryd.isAgg101
  z171 := Tryd.sizeOf101
  v171 := Tryd.zeroValue101
  t173 := Tryd.underlying105
  a173 := Tryd.isAgg105
  z173 := Tryd.sizeOf105
  v173 := Tryd.zeroValue105
  t212 := Tryd.underlying117
  a212 := Tryd.isAgg117
  z212 := Tryd.sizeOf117
  v212 := Tryd.zeroValue117
  t213 := Tryd.underlying119
  a213 := Tryd.isAgg119
  z213 := Tryd.sizeOf119
  t232 := Tryd.underlying126
  a232 := Tryd.isAgg126
  z232 := Tryd.sizeOf126
  v232 := Tryd.zeroValue126
  t233 := Tryd.underlying127
  a233 := Tryd.isAgg127
  z233 := Tryd.sizeOf127
  v233 := Tryd.zeroValue127
  g17 := by kernel_rfl
  g18 := by kernel_rfl
  g19 := by kernel_rfl }
open Go.RowKit Go.Sort Go.Lib in
/-- THE ROAD WITHOUT THE TABLE: 0 <= i < 100: two constants are read, nothing is laid: no premise on the world, and the world is as it was. (LAID: no walk: one application.) -/
theorem Tryd.internal_strconv_FormatInt_10_small (i : Nat) (hi : i < 100) (w : World) :
    Calls Tryd.prog 46 #[.int .i64 i, .int .i64 10] w fun e w' => e = .returned (.string ⟨(Lib.decDigits i).toArray⟩) ∧ w' = w := Any.internal_strconv_FormatInt_10_small Tryd.lays246 i hi w
def Tryd.laysM243_ren : Go.Shelf.Ren := ⟨fun | 243 => 36 | 246 => 46 | 283 => 62 | 284 => 63 | 285 => 64 | 286 => 65 | 129 => 74 | 317 => 73 | 318 => 75 | 319 => 76 | 320 => 77 | 337 => 81 | 338 => 82 | n => n, fun | 3 => 3 | 9 => 9 | 2 => 2 | 4 => 4 | 171 => 101 | 0 => 0 | 53 => 102 | 37 => 74 | 5 => 5 | 173 => 105 | 212 => 117 | 51 => 118 | 20 => 20 | 213 => 119 | 46 => 110 | 232 => 126 | 233 => 127 | n => n, fun | 17 => 5 | 18 => 6 | 19 => 7 | n => n⟩
theorem Tryd.laysM243 : Go.Proofs.LaysM.n243 Tryd.prog Tryd.laysM243_ren := {
  mixed := by kernel_rfl
  f129 := Tryd.func74.trans (congrArg some (by kernel_rfl))
  f243 := Tryd.func36.trans (congrArg some (by kernel_rfl))
  f246 := Tryd.func46.trans (congrArg some (by kernel_rfl))
  f283 := Tryd.func62.trans (congrArg some (by kernel_rfl))
  f284 := Tryd.func63.trans (congrArg some (by kernel_rfl))
  f285 := Tryd.func64.trans (congrArg some (by kernel_rfl))
  f286 := Tryd.func65.trans (congrArg some (by kernel_rfl))
  f317 := Tryd.func73.trans (congrArg some (by kernel_rfl))
  f318 := Tryd.func75.trans (congrArg some (by kernel_rfl))
  f319 := Tryd.func76.trans (congrArg some (by kernel_rfl))
  f320 := Tryd.func77.trans (congrArg some (by kernel_rfl))
  f337 := Tryd.func81.trans (congrArg some (by kernel_rfl))
  f338 := Tryd.func82.trans (congrArg some (by kernel_rfl))
  t0 := Tryd.underlying0
  a0 := Tryd.isAgg0
  z0 := Tryd.sizeOf0
  v0 := Tryd.zeroValue0
  t2 := Tryd.underlying2
  a2 := Tryd.isAgg2
  z2 := Tryd.sizeOf2
  v2 := Tryd.zeroValue2
  t3 := Tryd.underlying3
  a3 := Tryd.isAgg3
  z3 := Tryd.sizeOf3
  v3 := Tryd.zeroValue3
  t4 := Tryd.underlying4
  a4 := Tryd.isAgg4
  z4 := Tryd.sizeOf4
  v4 := Tryd.zeroValue4
  t5 := Tryd.underlying5
  a5 := Tryd.isAgg5
  z5 := Tryd.sizeOf5
  v5 := Tryd.zeroValue5
  t9 := Tryd.underlying9
  a9 := Tryd.isAgg9
  z9 := Tryd.sizeOf9
  v9 := Tryd.zeroValue9
  t20 := Tryd.underlying20
  a20 := Tryd.isAgg20
  z20 := Tryd.sizeOf20
  v20 := Tryd.zeroValue20
  t37 := Tryd.underlying74
  a37 := Tryd.isAgg74
  z37 := Tryd.sizeOf74
  v37 := Tryd.zeroValue74
  t46 := Tryd.underlying110
  a46 := Tryd.isAgg110
  z46 := Tryd.sizeOf110
  v46 := Tryd.zeroValue110
  t51 := Tryd.underlying118
  a51 := Tryd.isAgg118
  z51 := Tryd.sizeOf118
  v51 := Tryd.zeroValue118
  t53 := Tryd.underlying102
  a53 := Tryd.isAgg102
  z53 := Tryd.sizeOf102
  v53 := Tryd.zeroValue102
  t171 := Tryd.underlying101
  a171 := Tryd.isAgg101
  z171 := Tryd.sizeOf101
  v171 := Tryd.zeroValue101
  t173 := Tryd.underlying105
  a173 := Tryd.isAgg105
  z173 := Tryd.sizeOf105
  v173 := Tryd.zeroValue105
  t212 := Tryd.underlying117
  a212 := Tryd.isAgg117
  z212 := Tryd.sizeOf117
  v212 := Tryd.zeroValue117
  t213 := Tryd.underlying119
  a213 := Tryd.isAgg119
  z213 := Tryd.sizeOf119
  t232 := Tryd.underlying126
  a232 := Tryd.isAgg126
  z232 := Tryd.sizeOf126
  v232 := Tryd.zeroValue126
  t233 := Tryd.underlying127
  a233 := Tryd.isAgg127
  z233 := Tryd.sizeOf127
  v233 := Tryd.zeroValue127
  g17 := by kernel_rfl
  g18 := by kernel_rfl
  g19 := by kernel_rfl
  i0 := by kernel_rfl
  i2 := by kernel_rfl
  i3 := by kernel_rfl
  i4 := by kernel_rfl
  i5 := by kernel_rfl
  i9 := by kernel_rfl
  i20 := by kernel_rfl
  i37 := by kernel_rfl
  i46 := by kernel_rfl
  i51 := by kernel_rfl
  i53 := by kernel_rfl
  i171 := by kernel_rfl
  i173 := by kernel_rfl
  i212 := by kernel_rfl
  i232 := by kernel_rfl
  i233 := by kernel_rfl
  m17 := by kernel_rfl
  m18 := by kernel_rfl
  m19 := by kernel_rfl }
open Go.RowKit Go.Sort Go.Lib in
/-- internal/strconv.Itoa: "Itoa is equivalent to FormatInt(int64(i), 10).": i's decimal numeral, for every int. (LAID: no walk: one application.) -/
theorem Tryd.internal_strconv_Itoa (n : Int) (h0 : -9223372036854775808 ≤ n) (h1 : n ≤ 9223372036854775807) (w : World) (htab : Lib.TabIs Tryd.prog w "internal/strconv.uint64pow10" .u64 Lib.pow10Tab) :
    Calls Tryd.prog 36 #[.int .i64 n] w fun e w' => e = .returned (.string ⟨(Lib.itoa n).toArray⟩) ∧ ∃ k os, w' = grow (w.drewN k) os := Any.internal_strconv_Itoa Tryd.laysM243 n h0 h1 w htab
def Tryd.lays243_ren : Go.Shelf.Ren := ⟨fun | 243 => 36 | 246 => 46 | 283 => 62 | 284 => 63 | 285 => 64 | 286 => 65 | 129 => 74 | 317 => 73 | 318 => 75 | 319 => 76 | 320 => 77 | 337 => 81 | 338 => 82 | n => n, fun | 3 => 3 | 9 => 9 | 2 => 2 | 4 => 4 | 171 => 101 | 0 => 0 | 53 => 102 | 37 => 74 | 5 => 5 | 173 => 105 | 212 => 117 | 51 => 118 | 20 => 20 | 213 => 119 | 46 => 110 | 232 => 126 | 233 => 127 | n => n, fun | 17 => 5 | 18 => 6 | 19 => 7 | n => n⟩
theorem Tryd.lays243 : Go.Proofs.Lays.n243 Tryd.prog Tryd.lays243_ren := {
  mixed := by kernel_rfl
  f129 := Tryd.func74.trans (congrArg some (by kernel_rfl))
  f243 := Tryd.func36.trans (congrArg some (by kernel_rfl))
  f246 := Tryd.func46.trans (congrArg some (by kernel_rfl))
  f283 := Tryd.func62.trans (congrArg some (by kernel_rfl))
  f284 := Tryd.func63.trans (congrArg some (by kernel_rfl))
  f285 := Tryd.func64.trans (congrArg some (by kernel_rfl))
  f286 := Tryd.func65.trans (congrArg some (by kernel_rfl))
  f317 := Tryd.func73.trans (congrArg some (by kernel_rfl))
  f318 := Tryd.func75.trans (congrArg some (by kernel_rfl))
  f319 := Tryd.func76.trans (congrArg some (by kernel_rfl))
  f320 := Tryd.func77.trans (congrArg some (by kernel_rfl))
  f337 := Tryd.func81.trans (congrArg some (by kernel_rfl))
  f338 := Tryd.func82.trans (congrArg some (by kernel_rfl))
  t0 := Tryd.underlying0
  a0 := Tryd.isAgg0
  z0 := Tryd.sizeOf0
  v0 := Tryd.zeroValue0
  t2 := Tryd.underlying2
  a2 := Tryd.isAgg2
  z2 := Tryd.sizeOf2
  v2 := Tryd.zeroValue2
  t3 := Tryd.underlying3
  a3 := Tryd.isAgg3
  z3 := Tryd.sizeOf3
  v3 := Tryd.zeroValue3
  t4 := Tryd.underlying4
  a4 := Tryd.isAgg4
  z4 := Tryd.sizeOf4
  v4 := Tryd.zeroValue4
  t5 := Tryd.underlying5
  a5 := Tryd.isAgg5
  z5 := Tryd.sizeOf5
  v5 := Tryd.zeroValue5
  t9 := Tryd.underlying9
  a9 := Tryd.isAgg9
  z9 := Tryd.sizeOf9
  v9 := Tryd.zeroValue9
  t20 := Tryd.underlying20
  a20 := Tryd.isAgg20
  z20 := Tryd.sizeOf20
  v20 := Tryd.zeroValue20
  t37 := Tryd.underlying74
  a37 := Tryd.isAgg74
  z37 := Tryd.sizeOf74
  v37 := Tryd.zeroValue74
  t46 := Tryd.underlying110
  a46 := Tryd.isAgg110
  z46 := Tryd.sizeOf110
  v46 := Tryd.zeroValue110
  t51 := Tryd.underlying118
  a51 := Tryd.isAgg118
  z51 := Tryd.sizeOf118
  v51 := Tryd.zeroValue118
  t53 := Tryd.underlying102
  a53 := Tryd.isAgg102
  z53 := Tryd.sizeOf102
  v53 := Tryd.zeroValue102
  t171 := Tryd.underlying101
  a171 := Tryd.isAgg101
  z171 := Tryd.sizeOf101
  v171 := Tryd.zeroValue101
  t173 := Tryd.underlying105
  a173 := Tryd.isAgg105
  z173 := Tryd.sizeOf105
  v173 := Tryd.zeroValue105
  t212 := Tryd.underlying117
  a212 := Tryd.isAgg117
  z212 := Tryd.sizeOf117
  v212 := Tryd.zeroValue117
  t213 := Tryd.underlying119
  a213 := Tryd.isAgg119
  z213 := Tryd.sizeOf119
  t232 := Tryd.underlying126
  a232 := Tryd.isAgg126
  z232 := Tryd.sizeOf126
  v232 := Tryd.zeroValue126
  t233 := Tryd.underlying127
  a233 := Tryd.isAgg127
  z233 := Tryd.sizeOf127
  v233 := Tryd.zeroValue127
  g17 := by kernel_rfl
  g18 := by kernel_rfl
  g19 := by kernel_rfl }
open Go.RowKit Go.Sort Go.Lib in
/-- THE ROAD WITHOUT THE TABLE: 0 <= i < 100. (LAID: no walk: one application.) -/
theorem Tryd.internal_strconv_Itoa_small (i : Nat) (hi : i < 100) (w : World) :
    Calls Tryd.prog 36 #[.int .i64 i] w fun e w' => e = .returned (.string ⟨(Lib.decDigits i).toArray⟩) ∧ w' = w := Any.internal_strconv_Itoa_small Tryd.lays243 i hi w
def Tryd.laysM171_ren : Go.Shelf.Ren := ⟨fun | 171 => 19 | 243 => 36 | 246 => 46 | 283 => 62 | 284 => 63 | 285 => 64 | 286 => 65 | 129 => 74 | 317 => 73 | 318 => 75 | 319 => 76 | 320 => 77 | 337 => 81 | 338 => 82 | n => n, fun | 3 => 3 | 9 => 9 | 2 => 2 | 4 => 4 | 171 => 101 | 0 => 0 | 53 => 102 | 37 => 74 | 5 => 5 | 173 => 105 | 212 => 117 | 51 => 118 | 20 => 20 | 213 => 119 | 46 => 110 | 232 => 126 | 233 => 127 | n => n, fun | 17 => 5 | 18 => 6 | 19 => 7 | n => n⟩
theorem Tryd.laysM171 : Go.Proofs.LaysM.n171 Tryd.prog Tryd.laysM171_ren := {
  mixed := by kernel_rfl
  f129 := Tryd.func74.trans (congrArg some (by kernel_rfl))
  f171 := Tryd.func19.trans (congrArg some (by kernel_rfl))
  f243 := Tryd.func36.trans (congrArg some (by kernel_rfl))
  f246 := Tryd.func46.trans (congrArg some (by kernel_rfl))
  f283 := Tryd.func62.trans (congrArg some (by kernel_rfl))
  f284 := Tryd.func63.trans (congrArg some (by kernel_rfl))
  f285 := Tryd.func64.trans (congrArg some (by kernel_rfl))
  f286 := Tryd.func65.trans (congrArg some (by kernel_rfl))
  f317 := Tryd.func73.trans (congrArg some (by kernel_rfl))
  f318 := Tryd.func75.trans (congrArg some (by kernel_rfl))
  f319 := Tryd.func76.trans (congrArg some (by kernel_rfl))
  f320 := Tryd.func77.trans (congrArg some (by kernel_rfl))
  f337 := Tryd.func81.trans (congrArg some (by kernel_rfl))
  f338 := Tryd.func82.trans (congrArg some (by kernel_rfl))
  t0 := Tryd.underlying0
  a0 := Tryd.isAgg0
  z0 := Tryd.sizeOf0
  v0 := Tryd.zeroValue0
  t2 := Tryd.underlying2
  a2 := Tryd.isAgg2
  z2 := Tryd.sizeOf2
  v2 := Tryd.zeroValue2
  t3 := Tryd.underlying3
  a3 := Tryd.isAgg3
  z3 := Tryd.sizeOf3
  v3 := Tryd.zeroValue3
  t4 := Tryd.underlying4
  a4 := Tryd.isAgg4
  z4 := Tryd.sizeOf4
  v4 := Tryd.zeroValue4
  t5 := Tryd.underlying5
  a5 := Tryd.isAgg5
  z5 := Tryd.sizeOf5
  v5 := Tryd.zeroValue5
  t9 := Tryd.underlying9
  a9 := Tryd.isAgg9
  z9 := Tryd.sizeOf9
  v9 := Tryd.zeroValue9
  t20 := Tryd.underlying20
  a20 := Tryd.isAgg20
  z20 := Tryd.sizeOf20
  v20 := Tryd.zeroValue20
  t37 := Tryd.underlying74
  a37 := Tryd.isAgg74
  z37 := Tryd.sizeOf74
  v37 := Tryd.zeroValue74
  t46 := Tryd.underlying110
  a46 := Tryd.isAgg110
  z46 := Tryd.sizeOf110
  v46 := Tryd.zeroValue110
  t51 := Tryd.underlying118
  a51 := Tryd.isAgg118
  z51 := Tryd.sizeOf118
  v51 := Tryd.zeroValue118
  t53 := Tryd.underlying102
  a53 := Tryd.isAgg102
  z53 := Tryd.sizeOf102
  v53 := Tryd.zeroValue102
  t171 := Tryd.underlying101
  a171 := Tryd.isAgg101
  z171 := Tryd.sizeOf101
  v171 := Tryd.zeroValue101
  t173 := Tryd.underlying105
  a173 := Tryd.isAgg105
  z173 := Tryd.sizeOf105
  v173 := Tryd.zeroValue105
  t212 := Tryd.underlying117
  a212 := Tryd.isAgg117
  z212 := Tryd.sizeOf117
  v212 := Tryd.zeroValue117
  t213 := Tryd.underlying119
  a213 := Tryd.isAgg119
  z213 := Tryd.sizeOf119
  t232 := Tryd.underlying126
  a232 := Tryd.isAgg126
  z232 := Tryd.sizeOf126
  v232 := Tryd.zeroValue126
  t233 := Tryd.underlying127
  a233 := Tryd.isAgg127
  z233 := Tryd.sizeOf127
  v233 := Tryd.zeroValue127
  g17 := by kernel_rfl
  g18 := by kernel_rfl
  g19 := by kernel_rfl
  i0 := by kernel_rfl
  i2 := by kernel_rfl
  i3 := by kernel_rfl
  i4 := by kernel_rfl
  i5 := by kernel_rfl
  i9 := by kernel_rfl
  i20 := by kernel_rfl
  i37 := by kernel_rfl
  i46 := by kernel_rfl
  i51 := by kernel_rfl
  i53 := by kernel_rfl
  i171 := by kernel_rfl
  i173 := by kernel_rfl
  i212 := by kernel_rfl
  i232 := by kernel_rfl
  i233 := by kernel_rfl
  m17 := by kernel_rfl
  m18 := by kernel_rfl
  m19 := by kernel_rfl }
open Go.RowKit Go.Sort Go.Lib in
/-- strconv.Itoa: "Itoa is equivalent to FormatInt(int64(i), 10).": i's DECIMAL NUMERAL ('Lib.itoa': a '-' where i is negative, then the digits), FOR EVERY int. The world behind the call: the world before it, new blocks behind the heap (the library's 'var a [24]byte'), draws. (LAID: no walk: one application.) -/
theorem Tryd.strconv_Itoa (n : Int) (h0 : -9223372036854775808 ≤ n) (h1 : n ≤ 9223372036854775807) (w : World) (htab : Lib.TabIs Tryd.prog w "internal/strconv.uint64pow10" .u64 Lib.pow10Tab) :
    Calls Tryd.prog 19 #[.int .i64 n] w fun e w' => e = .returned (.string ⟨(Lib.itoa n).toArray⟩) ∧ ∃ k os, w' = grow (w.drewN k) os := Any.strconv_Itoa Tryd.laysM171 n h0 h1 w htab
def Tryd.lays171_ren : Go.Shelf.Ren := ⟨fun | 171 => 19 | 243 => 36 | 246 => 46 | 283 => 62 | 284 => 63 | 285 => 64 | 286 => 65 | 129 => 74 | 317 => 73 | 318 => 75 | 319 => 76 | 320 => 77 | 337 => 81 | 338 => 82 | n => n, fun | 3 => 3 | 9 => 9 | 2 => 2 | 4 => 4 | 171 => 101 | 0 => 0 | 53 => 102 | 37 => 74 | 5 => 5 | 173 => 105 | 212 => 117 | 51 => 118 | 20 => 20 | 213 => 119 | 46 => 110 | 232 => 126 | 233 => 127 | n => n, fun | 17 => 5 | 18 => 6 | 19 => 7 | n => n⟩
theorem Tryd.lays171 : Go.Proofs.Lays.n171 Tryd.prog Tryd.lays171_ren := {
  mixed := by kernel_rfl
  f129 := Tryd.func74.trans (congrArg some (by kernel_rfl))
  f171 := Tryd.func19.trans (congrArg some (by kernel_rfl))
  f243 := Tryd.func36.trans (congrArg some (by kernel_rfl))
  f246 := Tryd.func46.trans (congrArg some (by kernel_rfl))
  f283 := Tryd.func62.trans (congrArg some (by kernel_rfl))
  f284 := Tryd.func63.trans (congrArg some (by kernel_rfl))
  f285 := Tryd.func64.trans (congrArg some (by kernel_rfl))
  f286 := Tryd.func65.trans (congrArg some (by kernel_rfl))
  f317 := Tryd.func73.trans (congrArg some (by kernel_rfl))
  f318 := Tryd.func75.trans (congrArg some (by kernel_rfl))
  f319 := Tryd.func76.trans (congrArg some (by kernel_rfl))
  f320 := Tryd.func77.trans (congrArg some (by kernel_rfl))
  f337 := Tryd.func81.trans (congrArg some (by kernel_rfl))
  f338 := Tryd.func82.trans (congrArg some (by kernel_rfl))
  t0 := Tryd.underlying0
  a0 := Tryd.isAgg0
  z0 := Tryd.sizeOf0
  v0 := Tryd.zeroValue0
  t2 := Tryd.underlying2
  a2 := Tryd.isAgg2
  z2 := Tryd.sizeOf2
  v2 := Tryd.zeroValue2
  t3 := Tryd.underlying3
  a3 := Tryd.isAgg3
  z3 := Tryd.sizeOf3
  v3 := Tryd.zeroValue3
  t4 := Tryd.underlying4
  a4 := Tryd.isAgg4
  z4 := Tryd.sizeOf4
  v4 := Tryd.zeroValue4
  t5 := Tryd.underlying5
  a5 := Tryd.isAgg5
  z5 := Tryd.sizeOf5
  v5 := Tryd.zeroValue5
  t9 := Tryd.underlying9
  a9 := Tryd.isAgg9
  z9 := Tryd.sizeOf9
  v9 := Tryd.zeroValue9
  t20 := Tryd.underlying20
  a20 := Tryd.isAgg20
  z20 := Tryd.sizeOf20
  v20 := Tryd.zeroValue20
  t37 := Tryd.underlying74
  a37 := Tryd.isAgg74
  z37 := Tryd.sizeOf74
  v37 := Tryd.zeroValue74
  t46 := Tryd.underlying110
  a46 := Tryd.isAgg110
  z46 := Tryd.sizeOf110
  v46 := Tryd.zeroValue110
  t51 := Tryd.underlying118
  a51 := Tryd.isAgg118
  z51 := Tryd.sizeOf118
  v51 := Tryd.zeroValue118
  t53 := Tryd.underlying102
  a53 := Tryd.isAgg102
  z53 := Tryd.sizeOf102
  v53 := Tryd.zeroValue102
  t171 := Tryd.underlying101
  a171 := Tryd.isAgg101
  z171 := Tryd.sizeOf101
  v171 := Tryd.zeroValue101
  t173 := Tryd.underlying105
  a173 := Tryd.isAgg105
  z173 := Tryd.sizeOf105
  v173 := Tryd.zeroValue105
  t212 := Tryd.underlying117
  a212 := Tryd.isAgg117
  z212 := Tryd.sizeOf117
  v212 := Tryd.zeroValue117
  t213 := Tryd.underlying119
  a213 := Tryd.isAgg119
  z213 := Tryd.sizeOf119
  t232 := Tryd.underlying126
  a232 := Tryd.isAgg126
  z232 := Tryd.sizeOf126
  v232 := Tryd.zeroValue126
  t233 := Tryd.underlying127
  a233 := Tryd.isAgg127
  z233 := Tryd.sizeOf127
  v233 := Tryd.zeroValue127
  g17 := by kernel_rfl
  g18 := by kernel_rfl
  g19 := by kernel_rfl }
open Go.RowKit Go.Sort Go.Lib in
/-- THE ROAD WITHOUT THE TABLE: 0 <= i < 100: NO PREMISE ON THE WORLD, AND THE WORLD IS AS IT WAS: a row that keeps its argument in that range need list no table ('laid = []'). (LAID: no walk: one application.) -/
theorem Tryd.strconv_Itoa_small (i : Nat) (hi : i < 100) (w : World) :
    Calls Tryd.prog 19 #[.int .i64 i] w fun e w' => e = .returned (.string ⟨(Lib.decDigits i).toArray⟩) ∧ w' = w := Any.strconv_Itoa_small Tryd.lays171 i hi w
open Go.RowKit in
/-- internal/strconv.Atoi, at a string of 1 to 18 bytes THAT IS NO DECIMAL NUMERAL: 0, AND ErrSyntax (the package's own error number 2). The world behind the call: as it was, or with the one new row that '[]byte(s)' lays. (LAID: no walk: one application.) -/
theorem Tryd.internal_strconv_Atoi_err (s : ByteArray) (hl0 : 1 ≤ s.size) (hl : s.size ≤ 18) (h : Lib.atoi s.data.toList = none) (w : World) :
    Calls Tryd.prog 40 #[.string s] w fun e w' => e = .returned (.tuple #[.int .i64 0, (.iface 89 (.int .i64 2))]) ∧ (w' = w ∨ ∃ t, w' = Lib.bytesWorld w 5 t) := Any.internal_strconv_Atoi_err Tryd.lays244 s hl0 hl h w
def Tryd.lays247_ren : Go.Shelf.Ren := ⟨fun | 247 => 52 | 287 => 69 | 321 => 79 | 322 => 80 | n => n, fun | 9 => 9 | 3 => 3 | 2 => 2 | 75 => 27 | 4 => 4 | 167 => 89 | 5 => 5 | 53 => 102 | 175 => 108 | 46 => 110 | 37 => 74 | 0 => 0 | 21 => 21 | 80 => 78 | n => n, fun | n => n⟩
theorem Tryd.lays247 : Go.Proofs.Lays.n247 Tryd.prog Tryd.lays247_ren := {
  mixed := by kernel_rfl
  f247 := Tryd.func52.trans (congrArg some (by kernel_rfl))
  f287 := Tryd.func69.trans (congrArg some (by kernel_rfl))
  f321 := Tryd.func79.trans (congrArg some (by kernel_rfl))
  f322 := Tryd.func80.trans (congrArg some (by kernel_rfl))
  t0 := Tryd.underlying0
  a0 := Tryd.isAgg0
  z0 := Tryd.sizeOf0
  v0 := Tryd.zeroValue0
  t2 := Tryd.underlying2
  a2 := Tryd.isAgg2
  z2 := Tryd.sizeOf2
  v2 := Tryd.zeroValue2
  t3 := Tryd.underlying3
  a3 := Tryd.isAgg3
  z3 := Tryd.sizeOf3
  v3 := Tryd.zeroValue3
  t4 := Tryd.underlying4
  a4 := Tryd.isAgg4
  z4 := Tryd.sizeOf4
  v4 := Tryd.zeroValue4
  t5 := Tryd.underlying5
  a5 := Tryd.isAgg5
  z5 := Tryd.sizeOf5
  v5 := Tryd.zeroValue5
  t9 := Tryd.underlying9
  a9 := Tryd.isAgg9
  z9 := Tryd.sizeOf9
  v9 := Tryd.zeroValue9
  t21 := Tryd.underlying21
  a21 := Tryd.isAgg21
  z21 := Tryd.sizeOf21
  v21 := Tryd.zeroValue21
  t37 := Tryd.underlying74
  a37 := Tryd.isAgg74
  z37 := Tryd.sizeOf74
  v37 := Tryd.zeroValue74
  t46 := Tryd.underlying110
  a46 := Tryd.isAgg110
  z46 := Tryd.sizeOf110
  v46 := Tryd.zeroValue110
  t53 := Tryd.underlying102
  a53 := Tryd.isAgg102
  z53 := Tryd.sizeOf102
  v53 := Tryd.zeroValue102
  t75 := Tryd.underlying27
  a75 := Tryd.isAgg27
  z75 := Tryd.sizeOf27
  v75 := Tryd.zeroValue27
  t167 := Tryd.underlying89
  a167 := Tryd.isAgg89
  z167 := Tryd.sizeOf89
  v167 := Tryd.zeroValue89
  t175 := Tryd.underlying108
  a175 := Tryd.isAgg108
  z175 := Tryd.sizeOf108
  v175 := Tryd.zeroValue108 }
open Go.RowKit in
/-- internal/strconv.ParseInt at "": 'if s == "" { return 0, ErrSyntax }'. The world is as it was. (LAID: no walk: one application.) -/
theorem Tryd.internal_strconv_ParseInt_empty (base bits : Int) (w : World) :
    Calls Tryd.prog 52 #[.string ⟨#[]⟩, .int .i64 base, .int .i64 bits] w fun e w' => e = .returned (.tuple #[.int .i64 0, (.iface 89 (.int .i64 2))]) ∧ w' = w := Any.internal_strconv_ParseInt_empty Tryd.lays247 base bits w
open Go.RowKit in
/-- internal/strconv.Atoi at "". (LAID: no walk: one application.) -/
theorem Tryd.internal_strconv_Atoi_empty (w : World) :
    Calls Tryd.prog 40 #[.string ⟨#[]⟩] w fun e w' => e = .returned (.tuple #[.int .i64 0, (.iface 89 (.int .i64 2))]) ∧ w' = w := Any.internal_strconv_Atoi_empty Tryd.lays244 w
open Go.RowKit in
/-- internal/strconv.Atoi, AT EVERY STRING OF AT MOST 18 BYTES THAT IS NO DECIMAL NUMERAL: 0, and ErrSyntax. (LAID: no walk: one application.) -/
theorem Tryd.internal_strconv_Atoi_fail (s : ByteArray) (hl : s.size ≤ 18) (h : Lib.atoi s.data.toList = none) (w : World) :
    Calls Tryd.prog 40 #[.string s] w fun e w' => e = .returned (.tuple #[.int .i64 0, (.iface 89 (.int .i64 2))]) ∧ (w' = w ∨ ∃ t, w' = Lib.bytesWorld w 5 t) := Any.internal_strconv_Atoi_fail Tryd.lays244 s hl h w
def Tryd.laysM316_ren : Go.Shelf.Ren := ⟨fun | 316 => 70 | n => n, fun | 9 => 9 | 3 => 3 | 4 => 4 | 37 => 74 | 0 => 0 | 127 => 85 | 5 => 5 | n => n, fun | n => n⟩
theorem Tryd.laysM316 : Go.Proofs.LaysM.n316 Tryd.prog Tryd.laysM316_ren := {
  mixed := by kernel_rfl
  f316 := Tryd.func70.trans (congrArg some (by kernel_rfl))
  t0 := Tryd.underlying0
  a0 := Tryd.isAgg0
  z0 := Tryd.sizeOf0
  v0 := Tryd.zeroValue0
  t3 := Tryd.underlying3
  a3 := Tryd.isAgg3
  z3 := Tryd.sizeOf3
  v3 := Tryd.zeroValue3
  t4 := Tryd.underlying4
  a4 := Tryd.isAgg4
  z4 := Tryd.sizeOf4
  v4 := Tryd.zeroValue4
  t9 := Tryd.underlying9
  a9 := Tryd.isAgg9
  z9 := Tryd.sizeOf9
  v9 := Tryd.zeroValue9
  t37 := Tryd.underlying74
  a37 := Tryd.isAgg74
  z37 := Tryd.sizeOf74
  v37 := Tryd.zeroValue74
  t127 := Tryd.underlying85
  a127 := Tryd.isAgg85
  z127 := Tryd.sizeOf85
  v127 := Tryd.zeroValue85
  t5 := Tryd.underlying5
  a5 := Tryd.isAgg5
  z5 := Tryd.sizeOf5
  v5 := Tryd.zeroValue5
  i0 := by kernel_rfl
  i3 := by kernel_rfl
  i4 := by kernel_rfl
  i5 := by kernel_rfl
  i9 := by kernel_rfl
  i37 := by kernel_rfl
  i127 := by kernel_rfl }
open Go.RowKit in
/-- internal/stringslite.Clone (what strings.Clone calls): "Clone returns a fresh copy of s.": THE SAME BYTES. Of what was there nothing has turned (a new row is laid, and frozen, where s is not empty). (LAID: no walk: one application.) -/
theorem Tryd.stringslite_Clone (s : ByteArray) (w : World) (hlim : s.size ≤ 281474976710656) :
    Calls Tryd.prog 70 #[.string s] w fun e w' => e = .returned (.string s) ∧ Below w.heap.size w w' := Any.stringslite_Clone Tryd.laysM316 s w hlim
def Tryd.laysM279_ren : Go.Shelf.Ren := ⟨fun | 279 => 53 | 316 => 70 | n => n, fun | 9 => 9 | 168 => 92 | 75 => 27 | 210 => 113 | 3 => 3 | 4 => 4 | 37 => 74 | 0 => 0 | 127 => 85 | 80 => 78 | 5 => 5 | n => n, fun | 15 => 2 | n => n⟩
theorem Tryd.laysM279 : Go.Proofs.LaysM.n279 Tryd.prog Tryd.laysM279_ren := {
  mixed := by kernel_rfl
  f279 := Tryd.func53.trans (congrArg some (by kernel_rfl))
  f316 := Tryd.func70.trans (congrArg some (by kernel_rfl))
  t0 := Tryd.underlying0
  a0 := Tryd.isAgg0
  z0 := Tryd.sizeOf0
  v0 := Tryd.zeroValue0
  t3 := Tryd.underlying3
  a3 := Tryd.isAgg3
  z3 := Tryd.sizeOf3
  v3 := Tryd.zeroValue3
  t4 := Tryd.underlying4
  a4 := Tryd.isAgg4
  z4 := Tryd.sizeOf4
  v4 := Tryd.zeroValue4
  t9 := Tryd.underlying9
  a9 := Tryd.isAgg9
  z9 := Tryd.sizeOf9
  v9 := Tryd.zeroValue9
  t37 := Tryd.underlying74
  a37 := Tryd.isAgg74
  z37 := Tryd.sizeOf74
  v37 := Tryd.zeroValue74
  t75 := Tryd.underlying27
  a75 := Tryd.isAgg27
  z75 := Tryd.sizeOf27
  v75 := Tryd.zeroValue27
  t127 := Tryd.underlying85
  a127 := Tryd.isAgg85
  z127 := Tryd.sizeOf85
  v127 := Tryd.zeroValue85
  t168 := Tryd.underlying92
  a168 := Tryd.isAgg92
  z168 := Tryd.sizeOf92
  v168 := Tryd.zeroValue92
  t210 := Tryd.underlying113
  a210 := Tryd.isAgg113
  z210 := Tryd.sizeOf113
  v210 := Tryd.zeroValue113
  g15 := by kernel_rfl
  t5 := Tryd.underlying5
  a5 := Tryd.isAgg5
  z5 := Tryd.sizeOf5
  v5 := Tryd.zeroValue5
  t80 := Tryd.underlying78
  a80 := Tryd.isAgg78
  z80 := Tryd.sizeOf78
  v80 := Tryd.zeroValue78
  i0 := by kernel_rfl
  i3 := by kernel_rfl
  i4 := by kernel_rfl
  i5 := by kernel_rfl
  i9 := by kernel_rfl
  i37 := by kernel_rfl
  i75 := by kernel_rfl
  i80 := by kernel_rfl
  i127 := by kernel_rfl
  i168 := by kernel_rfl
  i210 := by kernel_rfl
  m15 := by kernel_rfl }
open Go.RowKit in
/-- strconv.syntaxError: '&NumError{fn, stringslite.Clone(str), ErrSyntax}': A POINTER TO A NEW BLOCK that holds fn, str's bytes, and what the variable ErrSyntax holds. Of what was there nothing has turned. (LAID: no walk: one application.) -/
theorem Tryd.strconv_syntaxError (fn s : ByteArray) (ev : Value) (w : World) (hlim : s.size ≤ 281474976710656) (hv : w.cell? ⟨2, 0, none⟩ = some ev) (hev : ev = .nilIface ∨ ∃ te pe, ev = .iface te pe) :
    Calls Tryd.prog 53 #[.string fn, .string s] w fun e w' => ∃ N, e = .returned (.pointer (some ⟨N, 0, none⟩)) ∧ w.heap.size ≤ N ∧ w'.heap[N]? = some (.cells #[.string fn, .string s, ev] 113 (0, 0)) ∧ Below w.heap.size w w' := Any.strconv_syntaxError Tryd.laysM279 fn s ev w hlim hv hev
def Tryd.laysC245_ren : Go.Shelf.Ren := ⟨fun | 245 => 41 | 279 => 53 | 280 => 54 | 281 => 55 | 282 => 56 | 316 => 70 | 171 => 19 | 205 => 71 | 243 => 36 | 246 => 46 | 283 => 62 | 284 => 63 | 285 => 64 | 286 => 65 | 129 => 74 | 317 => 73 | 318 => 75 | 319 => 76 | 320 => 77 | 337 => 81 | 338 => 82 | n => n, fun | 9 => 9 | 3 => 3 | 75 => 27 | 167 => 89 | 4 => 4 | 168 => 92 | 210 => 113 | 37 => 74 | 0 => 0 | 127 => 85 | 145 => 124 | 143 => 122 | 2 => 2 | 171 => 101 | 53 => 102 | 5 => 5 | 173 => 105 | 212 => 117 | 51 => 118 | 20 => 20 | 213 => 119 | 46 => 110 | 232 => 126 | 233 => 127 | 80 => 78 | n => n, fun | 15 => 2 | 16 => 3 | 17 => 5 | 18 => 6 | 19 => 7 | n => n⟩
theorem Tryd.laysC245 : Go.Proofs.LaysC.n245 Tryd.prog Tryd.laysC245_ren := {
  mixed := by kernel_rfl
  f129 := Tryd.func74.trans (congrArg some (by kernel_rfl))
  f171 := Tryd.func19.trans (congrArg some (by kernel_rfl))
  f205 := Tryd.func71.trans (congrArg some (by kernel_rfl))
  f243 := Tryd.func36.trans (congrArg some (by kernel_rfl))
  f245 := Tryd.func41.trans (congrArg some (by kernel_rfl))
  f246 := Tryd.func46.trans (congrArg some (by kernel_rfl))
  f279 := Tryd.func53.trans (congrArg some (by kernel_rfl))
  f280 := Tryd.func54.trans (congrArg some (by kernel_rfl))
  f281 := Tryd.func55.trans (congrArg some (by kernel_rfl))
  f282 := Tryd.func56.trans (congrArg some (by kernel_rfl))
  f283 := Tryd.func62.trans (congrArg some (by kernel_rfl))
  f284 := Tryd.func63.trans (congrArg some (by kernel_rfl))
  f285 := Tryd.func64.trans (congrArg some (by kernel_rfl))
  f286 := Tryd.func65.trans (congrArg some (by kernel_rfl))
  f316 := Tryd.func70.trans (congrArg some (by kernel_rfl))
  f317 := Tryd.func73.trans (congrArg some (by kernel_rfl))
  f318 := Tryd.func75.trans (congrArg some (by kernel_rfl))
  f319 := Tryd.func76.trans (congrArg some (by kernel_rfl))
  f320 := Tryd.func77.trans (congrArg some (by kernel_rfl))
  f337 := Tryd.func81.trans (congrArg some (by kernel_rfl))
  f338 := Tryd.func82.trans (congrArg some (by kernel_rfl))
  t0 := Tryd.underlying0
  a0 := Tryd.isAgg0
  z0 := Tryd.sizeOf0
  v0 := Tryd.zeroValue0
  t2 := Tryd.underlying2
  a2 := Tryd.isAgg2
  z2 := Tryd.sizeOf2
  v2 := Tryd.zeroValue2
  t3 := Tryd.underlying3
  a3 := Tryd.isAgg3
  z3 := Tryd.sizeOf3
  v3 := Tryd.zeroValue3
  t4 := Tryd.underlying4
  a4 := Tryd.isAgg4
  z4 := Tryd.sizeOf4
  v4 := Tryd.zeroValue4
  t5 := Tryd.underlying5
  a5 := Tryd.isAgg5
  z5 := Tryd.sizeOf5
  v5 := Tryd.zeroValue5
  t9 := Tryd.underlying9
  a9 := Tryd.isAgg9
  z9 := Tryd.sizeOf9
  v9 := Tryd.zeroValue9
  t20 := Tryd.underlying20
  a20 := Tryd.isAgg20
  z20 := Tryd.sizeOf20
  v20 := Tryd.zeroValue20
  t37 := Tryd.underlying74
  a37 := Tryd.isAgg74
  z37 := Tryd.sizeOf74
  v37 := Tryd.zeroValue74
  t46 := Tryd.underlying110
  a46 := Tryd.isAgg110
  z46 := Tryd.sizeOf110
  v46 := Tryd.zeroValue110
  t51 := Tryd.underlying118
  a51 := Tryd.isAgg118
  z51 := Tryd.sizeOf118
  v51 := Tryd.zeroValue118
  t53 := Tryd.underlying102
  a53 := Tryd.isAgg102
  z53 := Tryd.sizeOf102
  v53 := Tryd.zeroValue102
  t75 := Tryd.underlying27
  a75 := Tryd.isAgg27
  z75 := Tryd.sizeOf27
  v75 := Tryd.zeroValue27
  t127 := Tryd.underlying85
  a127 := Tryd.isAgg85
  z127 := Tryd.sizeOf85
  v127 := Tryd.zeroValue85
  t143 := Tryd.underlying122
  a143 := Tryd.isAgg122
  z143 := Tryd.sizeOf122
  v143 := Tryd.zeroValue122
  t145 := Tryd.underlying124
  a145 := Tryd.isAgg124
  z145 := Tryd.sizeOf124
  v145 := Tryd.zeroValue124
  t167 := Tryd.underlying89
  a167 := Tryd.isAgg89
  z167 := Tryd.sizeOf89
  v167 := Tryd.zeroValue89
  t168 := Tryd.underlying92
  a168 := Tryd.isAgg92
  z168 := Tryd.sizeOf92
  v168 := Tryd.zeroValue92
  t171 := Tryd.underlying101
  a171 := Tryd.isAgg101
  z171 := Tryd.sizeOf101
  v171 := Tryd.zeroValue101
  t173 := Tryd.underlying105
  a173 := Tryd.isAgg105
  z173 := Tryd.sizeOf105
  v173 := Tryd.zeroValue105
  t210 := Tryd.underlying113
  a210 := Tryd.isAgg113
  z210 := Tryd.sizeOf113
  v210 := Tryd.zeroValue113
  t212 := Tryd.underlying117
  a212 := Tryd.isAgg117
  z212 := Tryd.sizeOf117
  v212 := Tryd.zeroValue117
  t213 := Tryd.underlying119
  a213 := Tryd.isAgg119
  z213 := Tryd.sizeOf119
  t232 := Tryd.underlying126
  a232 := Tryd.isAgg126
  z232 := Tryd.sizeOf126
  v232 := Tryd.zeroValue126
  t233 := Tryd.underlying127
  a233 := Tryd.isAgg127
  z233 := Tryd.sizeOf127
  v233 := Tryd.zeroValue127
  g15 := by kernel_rfl
  g16 := by kernel_rfl
  g17 := by kernel_rfl
  g18 := by kernel_rfl
  g19 := by kernel_rfl
  t80 := Tryd.underlying78
  a80 := Tryd.isAgg78
  z80 := Tryd.sizeOf78
  v80 := Tryd.zeroValue78
  i0 := by kernel_rfl
  i2 := by kernel_rfl
  i3 := by kernel_rfl
  i4 := by kernel_rfl
  i5 := by kernel_rfl
  i9 := by kernel_rfl
  i20 := by kernel_rfl
  i37 := by kernel_rfl
  i46 := by kernel_rfl
  i51 := by kernel_rfl
  i53 := by kernel_rfl
  i75 := by kernel_rfl
  i80 := by kernel_rfl
  i127 := by kernel_rfl
  i143 := by kernel_rfl
  i145 := by kernel_rfl
  i167 := by kernel_rfl
  i168 := by kernel_rfl
  i171 := by kernel_rfl
  i173 := by kernel_rfl
  i210 := by kernel_rfl
  i212 := by kernel_rfl
  i232 := by kernel_rfl
  i233 := by kernel_rfl
  m15 := by kernel_rfl
  m16 := by kernel_rfl
  m17 := by kernel_rfl
  m18 := by kernel_rfl
  m19 := by kernel_rfl
  c0 := by kernel_rfl
  c2 := by kernel_rfl
  c3 := by kernel_rfl
  c4 := by kernel_rfl
  c5 := by kernel_rfl
  c9 := by kernel_rfl
  c20 := by kernel_rfl
  c37 := by kernel_rfl
  c46 := by kernel_rfl
  c51 := by kernel_rfl
  c53 := by kernel_rfl
  c75 := by kernel_rfl
  c80 := by kernel_rfl
  c127 := by kernel_rfl
  c143 := by kernel_rfl
  c145 := by kernel_rfl
  c167 := by kernel_rfl
  c168 := by kernel_rfl
  c171 := by kernel_rfl
  c173 := by kernel_rfl
  c210 := by kernel_rfl
  c212 := by kernel_rfl
  c213 := by kernel_rfl
  c232 := by kernel_rfl
  c233 := by kernel_rfl }
open Go.RowKit in
/-- strconv.toError, at the inner package's ErrSyntax: 'syntaxError(fn, s)' as an error: A *NumError IN A NEW BLOCK. (LAID: no walk: one application.) -/
theorem Tryd.strconv_toError_syntax (fn s : ByteArray) (base bits : Int) (ev : Value) (w : World) (hlim : s.size ≤ 281474976710656) (hv : w.cell? ⟨2, 0, none⟩ = some ev) (hev : ev = .nilIface ∨ ∃ te pe, ev = .iface te pe) :
    Calls Tryd.prog 41 #[.string fn, .string s, .int .i64 base, .int .i64 bits, .iface 89 (.int .i64 2)] w fun e w' => ∃ N, e = .returned (.iface 92 (.pointer (some ⟨N, 0, none⟩))) ∧ w.heap.size ≤ N ∧ w'.heap[N]? = some (.cells #[.string fn, .string s, ev] 113 (0, 0)) ∧ Below w.heap.size w w' := Any.strconv_toError_syntax Tryd.laysC245 fn s base bits ev w hlim hv hev
def Tryd.laysC172_ren : Go.Shelf.Ren := ⟨fun | 172 => 28 | 244 => 40 | 245 => 41 | 247 => 52 | 279 => 53 | 280 => 54 | 281 => 55 | 282 => 56 | 287 => 69 | 316 => 70 | 171 => 19 | 205 => 71 | 321 => 79 | 322 => 80 | 243 => 36 | 246 => 46 | 283 => 62 | 284 => 63 | 285 => 64 | 286 => 65 | 129 => 74 | 317 => 73 | 318 => 75 | 319 => 76 | 320 => 77 | 337 => 81 | 338 => 82 | n => n, fun | 9 => 9 | 3 => 3 | 75 => 27 | 76 => 63 | 4 => 4 | 5 => 5 | 167 => 89 | 37 => 74 | 0 => 0 | 85 => 90 | 2 => 2 | 168 => 92 | 53 => 102 | 175 => 108 | 46 => 110 | 210 => 113 | 127 => 85 | 145 => 124 | 143 => 122 | 21 => 21 | 171 => 101 | 173 => 105 | 212 => 117 | 51 => 118 | 20 => 20 | 213 => 119 | 232 => 126 | 233 => 127 | 80 => 78 | n => n, fun | 15 => 2 | 16 => 3 | 17 => 5 | 18 => 6 | 19 => 7 | n => n⟩
theorem Tryd.laysC172 : Go.Proofs.LaysC.n172 Tryd.prog Tryd.laysC172_ren := {
  mixed := by kernel_rfl
  f129 := Tryd.func74.trans (congrArg some (by kernel_rfl))
  f171 := Tryd.func19.trans (congrArg some (by kernel_rfl))
  f172 := Tryd.func28.trans (congrArg some (by kernel_rfl))
  f205 := Tryd.func71.trans (congrArg some (by kernel_rfl))
  f243 := Tryd.func36.trans (congrArg some (by kernel_rfl))
  f244 := Tryd.func40.trans (congrArg some (by kernel_rfl))
  f245 := Tryd.func41.trans (congrArg some (by kernel_rfl))
  f246 := Tryd.func46.trans (congrArg some (by kernel_rfl))
  f247 := Tryd.func52.trans (congrArg some (by kernel_rfl))
  f279 := Tryd.func53.trans (congrArg some (by kernel_rfl))
  f280 := Tryd.func54.trans (congrArg some (by kernel_rfl))
  f281 := Tryd.func55.trans (congrArg some (by kernel_rfl))
  f282 := Tryd.func56.trans (congrArg some (by kernel_rfl))
  f283 := Tryd.func62.trans (congrArg some (by kernel_rfl))
  f284 := Tryd.func63.trans (congrArg some (by kernel_rfl))
  f285 := Tryd.func64.trans (congrArg some (by kernel_rfl))
  f286 := Tryd.func65.trans (congrArg some (by kernel_rfl))
  f287 := Tryd.func69.trans (congrArg some (by kernel_rfl))
  f316 := Tryd.func70.trans (congrArg some (by kernel_rfl))
  f317 := Tryd.func73.trans (congrArg some (by kernel_rfl))
  f318 := Tryd.func75.trans (congrArg some (by kernel_rfl))
  f319 := Tryd.func76.trans (congrArg some (by kernel_rfl))
  f320 := Tryd.func77.trans (congrArg some (by kernel_rfl))
  f321 := Tryd.func79.trans (congrArg some (by kernel_rfl))
  f322 := Tryd.func80.trans (congrArg some (by kernel_rfl))
  f337 := Tryd.func81.trans (congrArg some (by kernel_rfl))
  f338 := Tryd.func82.trans (congrArg some (by kernel_rfl))
  t0 := Tryd.underlying0
  a0 := Tryd.isAgg0
  z0 := Tryd.sizeOf0
  v0 := Tryd.zeroValue0
  t2 := Tryd.underlying2
  a2 := Tryd.isAgg2
  z2 := Tryd.sizeOf2
  v2 := Tryd.zeroValue2
  t3 := Tryd.underlying3
  a3 := Tryd.isAgg3
  z3 := Tryd.sizeOf3
  v3 := Tryd.zeroValue3
  t4 := Tryd.underlying4
  a4 := Tryd.isAgg4
  z4 := Tryd.sizeOf4
  v4 := Tryd.zeroValue4
  t5 := Tryd.underlying5
  a5 := Tryd.isAgg5
  z5 := Tryd.sizeOf5
  v5 := Tryd.zeroValue5
  t9 := Tryd.underlying9
  a9 := Tryd.isAgg9
  z9 := Tryd.sizeOf9
  v9 := Tryd.zeroValue9
  t20 := Tryd.underlying20
  a20 := Tryd.isAgg20
  z20 := Tryd.sizeOf20
  v20 := Tryd.zeroValue20
  t21 := Tryd.underlying21
  a21 := Tryd.isAgg21
  z21 := Tryd.sizeOf21
  v21 := Tryd.zeroValue21
  t37 := Tryd.underlying74
  a37 := Tryd.isAgg74
  z37 := Tryd.sizeOf74
  v37 := Tryd.zeroValue74
  t46 := Tryd.underlying110
  a46 := Tryd.isAgg110
  z46 := Tryd.sizeOf110
  v46 := Tryd.zeroValue110
  t51 := Tryd.underlying118
  a51 := Tryd.isAgg118
  z51 := Tryd.sizeOf118
  v51 := Tryd.zeroValue118
  t53 := Tryd.underlying102
  a53 := Tryd.isAgg102
  z53 := Tryd.sizeOf102
  v53 := Tryd.zeroValue102
  t75 := Tryd.underlying27
  a75 := Tryd.isAgg27
  z75 := Tryd.sizeOf27
  v75 := Tryd.zeroValue27
  t76 := Tryd.underlying63
  a76 := Tryd.isAgg63
  z76 := Tryd.sizeOf63
  v76 := Tryd.zeroValue63
  t85 := Tryd.underlying90
  a85 := Tryd.isAgg90
  z85 := Tryd.sizeOf90
  v85 := Tryd.zeroValue90
  t127 := Tryd.underlying85
  a127 := Tryd.isAgg85
  z127 := Tryd.sizeOf85
  v127 := Tryd.zeroValue85
  t143 := Tryd.underlying122
  a143 := Tryd.isAgg122
  z143 := Tryd.sizeOf122
  v143 := Tryd.zeroValue122
  t145 := Tryd.underlying124
  a145 := Tryd.isAgg124
  z145 := Tryd.sizeOf124
  v145 := Tryd.zeroValue124
  t167 := Tryd.underlying89
  a167 := Tryd.isAgg89
  z167 := Tryd.sizeOf89
  v167 := Tryd.zeroValue89
  t168 := Tryd.underlying92
  a168 := Tryd.isAgg92
  z168 := Tryd.sizeOf92
  v168 := Tryd.zeroValue92
  t171 := Tryd.underlying101
  a171 := Tryd.isAgg101
  z171 := Tryd.sizeOf101
  v171 := Tryd.zeroValue101
  t173 := Tryd.underlying105
  a173 := Tryd.isAgg105
  z173 := Tryd.sizeOf105
  v173 := Tryd.zeroValue105
  t175 := Tryd.underlying108
  a175 := Tryd.isAgg108
  z175 := Tryd.sizeOf108
  v175 := Tryd.zeroValue108
  t210 := Tryd.underlying113
  a210 := Tryd.isAgg113
  z210 := Tryd.sizeOf113
  v210 := Tryd.zeroValue113
  t212 := Tryd.underlying117
  a212 := Tryd.isAgg117
  z212 := Tryd.sizeOf117
  v212 := Tryd.zeroValue117
  t213 := Tryd.underlying119
  a213 := Tryd.isAgg119
  z213 := Tryd.sizeOf119
  t232 := Tryd.underlying126
  a232 := Tryd.isAgg126
  z232 := Tryd.sizeOf126
  v232 := Tryd.zeroValue126
  t233 := Tryd.underlying127
  a233 := Tryd.isAgg127
  z233 := Tryd.sizeOf127
  v233 := Tryd.zeroValue127
  g15 := by kernel_rfl
  g16 := by kernel_rfl
  g17 := by kernel_rfl
  g18 := by kernel_rfl
  g19 := by kernel_rfl
  t80 := Tryd.underlying78
  a80 := Tryd.isAgg78
  z80 := Tryd.sizeOf78
  v80 := Tryd.zeroValue78
  i0 := by kernel_rfl
  i2 := by kernel_rfl
  i3 := by kernel_rfl
  i4 := by kernel_rfl
  i5 := by kernel_rfl
  i9 := by kernel_rfl
  i20 := by kernel_rfl
  i21 := by kernel_rfl
  i37 := by kernel_rfl
  i46 := by kernel_rfl
  i51 := by kernel_rfl
  i53 := by kernel_rfl
  i75 := by kernel_rfl
  i76 := by kernel_rfl
  i80 := by kernel_rfl
  i85 := by kernel_rfl
  i127 := by kernel_rfl
  i143 := by kernel_rfl
  i145 := by kernel_rfl
  i167 := by kernel_rfl
  i168 := by kernel_rfl
  i171 := by kernel_rfl
  i173 := by kernel_rfl
  i175 := by kernel_rfl
  i210 := by kernel_rfl
  i212 := by kernel_rfl
  i232 := by kernel_rfl
  i233 := by kernel_rfl
  m15 := by kernel_rfl
  m16 := by kernel_rfl
  m17 := by kernel_rfl
  m18 := by kernel_rfl
  m19 := by kernel_rfl
  c0 := by kernel_rfl
  c2 := by kernel_rfl
  c3 := by kernel_rfl
  c4 := by kernel_rfl
  c5 := by kernel_rfl
  c9 := by kernel_rfl
  c20 := by kernel_rfl
  c21 := by kernel_rfl
  c37 := by kernel_rfl
  c46 := by kernel_rfl
  c51 := by kernel_rfl
  c53 := by kernel_rfl
  c75 := by kernel_rfl
  c76 := by kernel_rfl
  c80 := by kernel_rfl
  c85 := by kernel_rfl
  c127 := by kernel_rfl
  c143 := by kernel_rfl
  c145 := by kernel_rfl
  c167 := by kernel_rfl
  c168 := by kernel_rfl
  c171 := by kernel_rfl
  c173 := by kernel_rfl
  c175 := by kernel_rfl
  c210 := by kernel_rfl
  c212 := by kernel_rfl
  c213 := by kernel_rfl
  c232 := by kernel_rfl
  c233 := by kernel_rfl }
open Go.RowKit in
/-- strconv.Atoi, AT EVERY STRING OF AT MOST 18 BYTES THAT IS NO DECIMAL NUMERAL (the empty one too): 0, AND AN ERROR THAT IS NOT nil: a *NumError in a new block N: {Func: "Atoi", Num: s's bytes, Err: what the variable ErrSyntax holds}. Of what was there nothing has turned. (LAID: no walk: one application.) -/
theorem Tryd.strconv_Atoi_err (s : ByteArray) (hl : s.size ≤ 18) (h : Lib.atoi s.data.toList = none) (ev : Value) (w : World) (hv : w.cell? ⟨2, 0, none⟩ = some ev) (hev : ev = .nilIface ∨ ∃ te pe, ev = .iface te pe) :
    Calls Tryd.prog 28 #[.string s] w fun e w' => ∃ N, e = .returned (.tuple #[.int .i64 0, .iface 92 (.pointer (some ⟨N, 0, none⟩))]) ∧ w.heap.size ≤ N ∧ w'.heap[N]? = some (.cells #[.string ⟨#[65, 116, 111, 105]⟩, .string s, ev] 113 (0, 0)) ∧ Below w.heap.size w w' := Any.strconv_Atoi_err Tryd.laysC172 s hl h ev w hv hev
open Go.RowKit in
theorem Tryd.strconv_Atoi_err_var (s : ByteArray) (hl : s.size ≤ 18) (h : Lib.atoi s.data.toList = none) (tp : TypeId) (p : Value) (w : World) (hvar : w.var? Tryd.prog "strconv.ErrSyntax" = some #[.iface tp p]) :
    Calls Tryd.prog 28 #[.string s] w fun e w' => ∃ N, e = .returned (.tuple #[.int .i64 0, .iface 92 (.pointer (some ⟨N, 0, none⟩))]) ∧ w.heap.size ≤ N ∧ w'.heap[N]? = some (.cells #[.string ⟨#[65, 116, 111, 105]⟩, .string s, .iface tp p] 113 (0, 0)) ∧ Below w.heap.size w w' := Any.strconv_Atoi_err_var Tryd.laysC172 s hl h tp p w hvar
def Tryd.lays321_ren : Go.Shelf.Ren := ⟨fun | 321 => 79 | n => n, fun | 5 => 5 | n => n, fun | n => n⟩
theorem Tryd.lays321 : Go.Proofs.Lays.n321 Tryd.prog Tryd.lays321_ren := {
  mixed := by kernel_rfl
  f321 := Tryd.func79.trans (congrArg some (by kernel_rfl))
  t5 := Tryd.underlying5
  a5 := Tryd.isAgg5
  z5 := Tryd.sizeOf5
  v5 := Tryd.zeroValue5 }
open Go.RowKit in
/-- internal/strconv.lower: 'c | ('x' - 'X')': the bit 32 set. The world is as it was. (LAID: no walk: one application.) -/
theorem Tryd.internal_strconv_lower (c : Int) (w : World) :
    Calls Tryd.prog 79 #[.int .u8 c] w fun e w' => e = .returned (.int .u8 (bits .or .u8 c 32)) ∧ w' = w := Any.internal_strconv_lower Tryd.lays321 c w
def Tryd.lays287_ren : Go.Shelf.Ren := ⟨fun | 287 => 69 | 321 => 79 | 322 => 80 | n => n, fun | 9 => 9 | 3 => 3 | 53 => 102 | 75 => 27 | 4 => 4 | 167 => 89 | 5 => 5 | 46 => 110 | 37 => 74 | 0 => 0 | 21 => 21 | 80 => 78 | n => n, fun | n => n⟩
theorem Tryd.lays287 : Go.Proofs.Lays.n287 Tryd.prog Tryd.lays287_ren := {
  mixed := by kernel_rfl
  f287 := Tryd.func69.trans (congrArg some (by kernel_rfl))
  f321 := Tryd.func79.trans (congrArg some (by kernel_rfl))
  f322 := Tryd.func80.trans (congrArg some (by kernel_rfl))
  t0 := Tryd.underlying0
  a0 := Tryd.isAgg0
  z0 := Tryd.sizeOf0
  v0 := Tryd.zeroValue0
  t3 := Tryd.underlying3
  a3 := Tryd.isAgg3
  z3 := Tryd.sizeOf3
  v3 := Tryd.zeroValue3
  t4 := Tryd.underlying4
  a4 := Tryd.isAgg4
  z4 := Tryd.sizeOf4
  v4 := Tryd.zeroValue4
  t5 := Tryd.underlying5
  a5 := Tryd.isAgg5
  z5 := Tryd.sizeOf5
  v5 := Tryd.zeroValue5
  t9 := Tryd.underlying9
  a9 := Tryd.isAgg9
  z9 := Tryd.sizeOf9
  v9 := Tryd.zeroValue9
  t21 := Tryd.underlying21
  a21 := Tryd.isAgg21
  z21 := Tryd.sizeOf21
  v21 := Tryd.zeroValue21
  t37 := Tryd.underlying74
  a37 := Tryd.isAgg74
  z37 := Tryd.sizeOf74
  v37 := Tryd.zeroValue74
  t46 := Tryd.underlying110
  a46 := Tryd.isAgg110
  z46 := Tryd.sizeOf110
  v46 := Tryd.zeroValue110
  t53 := Tryd.underlying102
  a53 := Tryd.isAgg102
  z53 := Tryd.sizeOf102
  v53 := Tryd.zeroValue102
  t75 := Tryd.underlying27
  a75 := Tryd.isAgg27
  z75 := Tryd.sizeOf27
  v75 := Tryd.zeroValue27
  t167 := Tryd.underlying89
  a167 := Tryd.isAgg89
  z167 := Tryd.sizeOf89
  v167 := Tryd.zeroValue89 }
open Go.RowKit in
/-- internal/strconv.ParseUint(s, 10, 0), s NOT EMPTY: 'Lib.parseUint10 0' OF ITS BYTES: the number; or (0, ErrSyntax); or (the greatest uint64, ErrRange). The world behind the call: the one new row that '[]byte(s)' lays. (LAID: no walk: one application.) -/
theorem Tryd.internal_strconv_ParseUint_10 (t : ByteArray) (hne : t.size ≠ 0) (hmax : t.size ≤ 9223372036854775806) (w : World) :
    Calls Tryd.prog 69 #[.string t, .int .i64 10, .int .i64 0] w fun e w' => e = .returned (Lib.uintTuple 89 (Lib.parseUint10 0 t.data.toList)) ∧ w' = Lib.bytesWorld w 5 t := Any.internal_strconv_ParseUint_10 Tryd.lays287 t hne hmax w
open Go.RowKit in
/-- internal/strconv.ParseUint(s, 10, 0): 'Lib.parseMag' OF ITS BYTES. The world: as it was (the empty string), or with the one new row that '[]byte(s)' lays. (LAID: no walk: one application.) -/
theorem Tryd.internal_strconv_ParseUint_10_any (t : ByteArray) (hmax : t.size ≤ 9223372036854775806) (w : World) :
    Calls Tryd.prog 69 #[.string t, .int .i64 10, .int .i64 0] w fun e w' => e = .returned (Lib.uintTuple 89 (Lib.parseMag t.data.toList)) ∧ (w' = w ∨ w' = Lib.bytesWorld w 5 t) := Any.internal_strconv_ParseUint_10_any Tryd.lays287 t hmax w
def Tryd.laysC247_ren : Go.Shelf.Ren := ⟨fun | 247 => 52 | 287 => 69 | 321 => 79 | 322 => 80 | n => n, fun | 9 => 9 | 3 => 3 | 2 => 2 | 75 => 27 | 4 => 4 | 167 => 89 | 5 => 5 | 53 => 102 | 175 => 108 | 46 => 110 | 37 => 74 | 0 => 0 | 21 => 21 | 80 => 78 | n => n, fun | n => n⟩
theorem Tryd.laysC247 : Go.Proofs.LaysC.n247 Tryd.prog Tryd.laysC247_ren := {
  mixed := by kernel_rfl
  f247 := Tryd.func52.trans (congrArg some (by kernel_rfl))
  f287 := Tryd.func69.trans (congrArg some (by kernel_rfl))
  f321 := Tryd.func79.trans (congrArg some (by kernel_rfl))
  f322 := Tryd.func80.trans (congrArg some (by kernel_rfl))
  t0 := Tryd.underlying0
  a0 := Tryd.isAgg0
  z0 := Tryd.sizeOf0
  v0 := Tryd.zeroValue0
  t2 := Tryd.underlying2
  a2 := Tryd.isAgg2
  z2 := Tryd.sizeOf2
  v2 := Tryd.zeroValue2
  t3 := Tryd.underlying3
  a3 := Tryd.isAgg3
  z3 := Tryd.sizeOf3
  v3 := Tryd.zeroValue3
  t4 := Tryd.underlying4
  a4 := Tryd.isAgg4
  z4 := Tryd.sizeOf4
  v4 := Tryd.zeroValue4
  t5 := Tryd.underlying5
  a5 := Tryd.isAgg5
  z5 := Tryd.sizeOf5
  v5 := Tryd.zeroValue5
  t9 := Tryd.underlying9
  a9 := Tryd.isAgg9
  z9 := Tryd.sizeOf9
  v9 := Tryd.zeroValue9
  t21 := Tryd.underlying21
  a21 := Tryd.isAgg21
  z21 := Tryd.sizeOf21
  v21 := Tryd.zeroValue21
  t37 := Tryd.underlying74
  a37 := Tryd.isAgg74
  z37 := Tryd.sizeOf74
  v37 := Tryd.zeroValue74
  t46 := Tryd.underlying110
  a46 := Tryd.isAgg110
  z46 := Tryd.sizeOf110
  v46 := Tryd.zeroValue110
  t53 := Tryd.underlying102
  a53 := Tryd.isAgg102
  z53 := Tryd.sizeOf102
  v53 := Tryd.zeroValue102
  t75 := Tryd.underlying27
  a75 := Tryd.isAgg27
  z75 := Tryd.sizeOf27
  v75 := Tryd.zeroValue27
  t167 := Tryd.underlying89
  a167 := Tryd.isAgg89
  z167 := Tryd.sizeOf89
  v167 := Tryd.zeroValue89
  t175 := Tryd.underlying108
  a175 := Tryd.isAgg108
  z175 := Tryd.sizeOf108
  v175 := Tryd.zeroValue108
  t80 := Tryd.underlying78
  a80 := Tryd.isAgg78
  z80 := Tryd.sizeOf78
  v80 := Tryd.zeroValue78
  i0 := by kernel_rfl
  i2 := by kernel_rfl
  i3 := by kernel_rfl
  i4 := by kernel_rfl
  i5 := by kernel_rfl
  i9 := by kernel_rfl
  i21 := by kernel_rfl
  i37 := by kernel_rfl
  i46 := by kernel_rfl
  i53 := by kernel_rfl
  i75 := by kernel_rfl
  i80 := by kernel_rfl
  i167 := by kernel_rfl
  i175 := by kernel_rfl
  c0 := by kernel_rfl
  c2 := by kernel_rfl
  c3 := by kernel_rfl
  c4 := by kernel_rfl
  c5 := by kernel_rfl
  c9 := by kernel_rfl
  c21 := by kernel_rfl
  c37 := by kernel_rfl
  c46 := by kernel_rfl
  c53 := by kernel_rfl
  c75 := by kernel_rfl
  c80 := by kernel_rfl
  c167 := by kernel_rfl
  c175 := by kernel_rfl }
open Go.RowKit in
/-- internal/strconv.ParseInt(s, 10, 0), s NOT EMPTY: 'Lib.atoiAll' OF ITS BYTES: (the number, nil); (0, ErrSyntax); (the greatest or the least int64 by the sign, ErrRange). The world: as it was, or with the one new row that '[]byte(..)' lays. (LAID: no walk: one application.) -/
theorem Tryd.internal_strconv_ParseInt_10 (s : ByteArray) (hne : s.size ≠ 0) (hmax : s.size ≤ 9223372036854775806) (w : World) :
    Calls Tryd.prog 52 #[.string s, .int .i64 10, .int .i64 0] w fun e w' => e = .returned (Lib.intTuple 89 (Lib.atoiSat s.data.toList) (Lib.atoiAll s.data.toList)) ∧ (w' = w ∨ ∃ t, w' = Lib.bytesWorld w 5 t) := Any.internal_strconv_ParseInt_10 Tryd.laysC247 s hne hmax w
def Tryd.laysC244_ren : Go.Shelf.Ren := ⟨fun | 244 => 40 | 247 => 52 | 287 => 69 | 321 => 79 | 322 => 80 | n => n, fun | 9 => 9 | 3 => 3 | 75 => 27 | 4 => 4 | 5 => 5 | 167 => 89 | 37 => 74 | 0 => 0 | 85 => 90 | 2 => 2 | 53 => 102 | 175 => 108 | 46 => 110 | 21 => 21 | 80 => 78 | n => n, fun | n => n⟩
theorem Tryd.laysC244 : Go.Proofs.LaysC.n244 Tryd.prog Tryd.laysC244_ren := {
  mixed := by kernel_rfl
  f244 := Tryd.func40.trans (congrArg some (by kernel_rfl))
  f247 := Tryd.func52.trans (congrArg some (by kernel_rfl))
  f287 := Tryd.func69.trans (congrArg some (by kernel_rfl))
  f321 := Tryd.func79.trans (congrArg some (by kernel_rfl))
  f322 := Tryd.func80.trans (congrArg some (by kernel_rfl))
  t0 := Tryd.underlying0
  a0 := Tryd.isAgg0
  z0 := Tryd.sizeOf0
  v0 := Tryd.zeroValue0
  t2 := Tryd.underlying2
  a2 := Tryd.isAgg2
  z2 := Tryd.sizeOf2
  v2 := Tryd.zeroValue2
  t3 := Tryd.underlying3
  a3 := Tryd.isAgg3
  z3 := Tryd.sizeOf3
  v3 := Tryd.zeroValue3
  t4 := Tryd.underlying4
  a4 := Tryd.isAgg4
  z4 := Tryd.sizeOf4
  v4 := Tryd.zeroValue4
  t5 := Tryd.underlying5
  a5 := Tryd.isAgg5
  z5 := Tryd.sizeOf5
  v5 := Tryd.zeroValue5
  t9 := Tryd.underlying9
  a9 := Tryd.isAgg9
  z9 := Tryd.sizeOf9
  v9 := Tryd.zeroValue9
  t21 := Tryd.underlying21
  a21 := Tryd.isAgg21
  z21 := Tryd.sizeOf21
  v21 := Tryd.zeroValue21
  t37 := Tryd.underlying74
  a37 := Tryd.isAgg74
  z37 := Tryd.sizeOf74
  v37 := Tryd.zeroValue74
  t46 := Tryd.underlying110
  a46 := Tryd.isAgg110
  z46 := Tryd.sizeOf110
  v46 := Tryd.zeroValue110
  t53 := Tryd.underlying102
  a53 := Tryd.isAgg102
  z53 := Tryd.sizeOf102
  v53 := Tryd.zeroValue102
  t75 := Tryd.underlying27
  a75 := Tryd.isAgg27
  z75 := Tryd.sizeOf27
  v75 := Tryd.zeroValue27
  t85 := Tryd.underlying90
  a85 := Tryd.isAgg90
  z85 := Tryd.sizeOf90
  v85 := Tryd.zeroValue90
  t167 := Tryd.underlying89
  a167 := Tryd.isAgg89
  z167 := Tryd.sizeOf89
  v167 := Tryd.zeroValue89
  t175 := Tryd.underlying108
  a175 := Tryd.isAgg108
  z175 := Tryd.sizeOf108
  v175 := Tryd.zeroValue108
  t80 := Tryd.underlying78
  a80 := Tryd.isAgg78
  z80 := Tryd.sizeOf78
  v80 := Tryd.zeroValue78
  i0 := by kernel_rfl
  i2 := by kernel_rfl
  i3 := by kernel_rfl
  i4 := by kernel_rfl
  i5 := by kernel_rfl
  i9 := by kernel_rfl
  i21 := by kernel_rfl
  i37 := by kernel_rfl
  i46 := by kernel_rfl
  i53 := by kernel_rfl
  i75 := by kernel_rfl
  i80 := by kernel_rfl
  i85 := by kernel_rfl
  i167 := by kernel_rfl
  i175 := by kernel_rfl
  c0 := by kernel_rfl
  c2 := by kernel_rfl
  c3 := by kernel_rfl
  c4 := by kernel_rfl
  c5 := by kernel_rfl
  c9 := by kernel_rfl
  c21 := by kernel_rfl
  c37 := by kernel_rfl
  c46 := by kernel_rfl
  c53 := by kernel_rfl
  c75 := by kernel_rfl
  c80 := by kernel_rfl
  c85 := by kernel_rfl
  c167 := by kernel_rfl
  c175 := by kernel_rfl }
open Go.RowKit in
/-- internal/strconv.Atoi, AT EVERY STRING OF 19 BYTES OR MORE: 'Lib.atoiAll' OF ITS BYTES: (the number, nil); (0, ErrSyntax); (the greatest or the least int by the sign, ErrRange). (LAID: no walk: one application.) -/
theorem Tryd.internal_strconv_Atoi_long (s : ByteArray) (h19 : 19 ≤ s.size) (hmax : s.size ≤ 9223372036854775806) (w : World) :
    Calls Tryd.prog 40 #[.string s] w fun e w' => e = .returned (Lib.intTuple 89 (Lib.atoiSat s.data.toList) (Lib.atoiAll s.data.toList)) ∧ (w' = w ∨ ∃ t, w' = Lib.bytesWorld w 5 t) := Any.internal_strconv_Atoi_long Tryd.laysC244 s h19 hmax w
open Go.RowKit in
/-- internal/strconv.Atoi, AT EVERY STRING: 'Lib.atoiAll' OF ITS BYTES: (the number, nil); (0, ErrSyntax); (the greatest or the least int by the sign, ErrRange). The world: as it was, or with the one new row that '[]byte(..)' lays. (LAID: no walk: one application.) -/
theorem Tryd.internal_strconv_Atoi_all (s : ByteArray) (hmax : s.size ≤ 9223372036854775806) (w : World) :
    Calls Tryd.prog 40 #[.string s] w fun e w' => e = .returned (Lib.intTuple 89 (Lib.atoiSat s.data.toList) (Lib.atoiAll s.data.toList)) ∧ (w' = w ∨ ∃ t, w' = Lib.bytesWorld w 5 t) := Any.internal_strconv_Atoi_all Tryd.laysC244 s hmax w
def Tryd.laysM280_ren : Go.Shelf.Ren := ⟨fun | 280 => 54 | 316 => 70 | n => n, fun | 9 => 9 | 168 => 92 | 75 => 27 | 210 => 113 | 3 => 3 | 4 => 4 | 37 => 74 | 0 => 0 | 127 => 85 | 80 => 78 | 5 => 5 | n => n, fun | 16 => 3 | n => n⟩
theorem Tryd.laysM280 : Go.Proofs.LaysM.n280 Tryd.prog Tryd.laysM280_ren := {
  mixed := by kernel_rfl
  f280 := Tryd.func54.trans (congrArg some (by kernel_rfl))
  f316 := Tryd.func70.trans (congrArg some (by kernel_rfl))
  t0 := Tryd.underlying0
  a0 := Tryd.isAgg0
  z0 := Tryd.sizeOf0
  v0 := Tryd.zeroValue0
  t3 := Tryd.underlying3
  a3 := Tryd.isAgg3
  z3 := Tryd.sizeOf3
  v3 := Tryd.zeroValue3
  t4 := Tryd.underlying4
  a4 := Tryd.isAgg4
  z4 := Tryd.sizeOf4
  v4 := Tryd.zeroValue4
  t9 := Tryd.underlying9
  a9 := Tryd.isAgg9
  z9 := Tryd.sizeOf9
  v9 := Tryd.zeroValue9
  t37 := Tryd.underlying74
  a37 := Tryd.isAgg74
  z37 := Tryd.sizeOf74
  v37 := Tryd.zeroValue74
  t75 := Tryd.underlying27
  a75 := Tryd.isAgg27
  z75 := Tryd.sizeOf27
  v75 := Tryd.zeroValue27
  t127 := Tryd.underlying85
  a127 := Tryd.isAgg85
  z127 := Tryd.sizeOf85
  v127 := Tryd.zeroValue85
  t168 := Tryd.underlying92
  a168 := Tryd.isAgg92
  z168 := Tryd.sizeOf92
  v168 := Tryd.zeroValue92
  t210 := Tryd.underlying113
  a210 := Tryd.isAgg113
  z210 := Tryd.sizeOf113
  v210 := Tryd.zeroValue113
  g16 := by kernel_rfl
  t5 := Tryd.underlying5
  a5 := Tryd.isAgg5
  z5 := Tryd.sizeOf5
  v5 := Tryd.zeroValue5
  t80 := Tryd.underlying78
  a80 := Tryd.isAgg78
  z80 := Tryd.sizeOf78
  v80 := Tryd.zeroValue78
  i0 := by kernel_rfl
  i3 := by kernel_rfl
  i4 := by kernel_rfl
  i5 := by kernel_rfl
  i9 := by kernel_rfl
  i37 := by kernel_rfl
  i75 := by kernel_rfl
  i80 := by kernel_rfl
  i127 := by kernel_rfl
  i168 := by kernel_rfl
  i210 := by kernel_rfl
  m16 := by kernel_rfl }
open Go.RowKit in
/-- strconv.rangeError: '&NumError{fn, stringslite.Clone(str), ErrRange}': A POINTER TO A NEW BLOCK that holds fn, str's bytes, and what the variable ErrRange holds. Of what was there nothing has turned. (LAID: no walk: one application.) -/
theorem Tryd.strconv_rangeError (fn s : ByteArray) (ev : Value) (w : World) (hlim : s.size ≤ 281474976710656) (hv : w.cell? ⟨3, 0, none⟩ = some ev) (hev : ev = .nilIface ∨ ∃ te pe, ev = .iface te pe) :
    Calls Tryd.prog 54 #[.string fn, .string s] w fun e w' => ∃ N, e = .returned (.pointer (some ⟨N, 0, none⟩)) ∧ w.heap.size ≤ N ∧ w'.heap[N]? = some (.cells #[.string fn, .string s, ev] 113 (0, 0)) ∧ Below w.heap.size w w' := Any.strconv_rangeError Tryd.laysM280 fn s ev w hlim hv hev
open Go.RowKit in
/-- strconv.toError, at the inner package's ErrRange: 'rangeError(fn, s)' as an error: A *NumError IN A NEW BLOCK. (LAID: no walk: one application.) -/
theorem Tryd.strconv_toError_range (fn s : ByteArray) (base bits : Int) (ev : Value) (w : World) (hlim : s.size ≤ 281474976710656) (hv : w.cell? ⟨3, 0, none⟩ = some ev) (hev : ev = .nilIface ∨ ∃ te pe, ev = .iface te pe) :
    Calls Tryd.prog 41 #[.string fn, .string s, .int .i64 base, .int .i64 bits, .iface 89 (.int .i64 1)] w fun e w' => ∃ N, e = .returned (.iface 92 (.pointer (some ⟨N, 0, none⟩))) ∧ w.heap.size ≤ N ∧ w'.heap[N]? = some (.cells #[.string fn, .string s, ev] 113 (0, 0)) ∧ Below w.heap.size w w' := Any.strconv_toError_range Tryd.laysC245 fn s base bits ev w hlim hv hev
open Go.RowKit in
/-- strconv.Atoi, AT EVERY STRING THAT SPELLS AN int ('Lib.atoiAll .. = .ok v'; of whatever length: leading zeros count): v, AND NO ERROR. The world: as it was, or with the one new row that '[]byte(..)' lays. (LAID: no walk: one application.) -/
theorem Tryd.strconv_Atoi_ok (s : ByteArray) (hmax : s.size ≤ 9223372036854775806) (v : Int) (h : Lib.atoiAll s.data.toList = .ok v) (w : World) :
    Calls Tryd.prog 28 #[.string s] w fun e w' => e = .returned (.tuple #[.int .i64 v, .nilIface]) ∧ (w' = w ∨ ∃ t, w' = Lib.bytesWorld w 5 t) := Any.strconv_Atoi_ok Tryd.laysC172 s hmax v h w
open Go.RowKit in
/-- strconv.Atoi, AT EVERY NUMERAL THAT NO int HOLDS ('.range'): THE GREATEST OR THE LEAST int, BY THE SIGN ('Lib.atoiSat'), AND AN ERROR THAT IS NOT nil: a *NumError in a new block N: {Func: "Atoi", Num: s's bytes, Err: what the variable ErrRange holds}. Of what was there nothing has turned. (LAID: no walk: one application.) -/
theorem Tryd.strconv_Atoi_range (s : ByteArray) (hlim : s.size ≤ 281474976710656) (h : Lib.atoiAll s.data.toList = .range) (ev : Value) (w : World) (hv : w.cell? ⟨3, 0, none⟩ = some ev) (hev : ev = .nilIface ∨ ∃ te pe, ev = .iface te pe) :
    Calls Tryd.prog 28 #[.string s] w fun e w' => ∃ N, e = .returned (.tuple #[.int .i64 (Lib.atoiSat s.data.toList), .iface 92 (.pointer (some ⟨N, 0, none⟩))]) ∧ w.heap.size ≤ N ∧ w'.heap[N]? = some (.cells #[.string ⟨#[65, 116, 111, 105]⟩, .string s, ev] 113 (0, 0)) ∧ Below w.heap.size w w' := Any.strconv_Atoi_range Tryd.laysC172 s hlim h ev w hv hev
open Go.RowKit in
theorem Tryd.strconv_Atoi_range_var (s : ByteArray) (hlim : s.size ≤ 281474976710656) (h : Lib.atoiAll s.data.toList = .range) (tp : TypeId) (p : Value) (w : World) (hvar : w.var? Tryd.prog "strconv.ErrRange" = some #[.iface tp p]) :
    Calls Tryd.prog 28 #[.string s] w fun e w' => ∃ N, e = .returned (.tuple #[.int .i64 (Lib.atoiSat s.data.toList), .iface 92 (.pointer (some ⟨N, 0, none⟩))]) ∧ w.heap.size ≤ N ∧ w'.heap[N]? = some (.cells #[.string ⟨#[65, 116, 111, 105]⟩, .string s, .iface tp p] 113 (0, 0)) ∧ Below w.heap.size w w' := Any.strconv_Atoi_range_var Tryd.laysC172 s hlim h tp p w hvar
open Go.RowKit in
/-- internal/strconv.ParseUint("", base, bitSize): (0, ErrSyntax): the first test of the text. The world is as it was. (LAID: no walk: one application.) -/
theorem Tryd.internal_strconv_ParseUint_empty (base bits : Int) (w : World) :
    Calls Tryd.prog 69 #[.string ⟨#[]⟩, .int .i64 base, .int .i64 bits] w fun e w' => e = .returned (.tuple #[.int .u64 0, .iface 89 (.int .i64 2)]) ∧ w' = w := Any.internal_strconv_ParseUint_empty Tryd.lays287 base bits w
open Go.RowKit in
/-- internal/strconv.ParseUint(s, 10, 64), s NOT EMPTY: 'Lib.parseUint10 0' OF ITS BYTES: the number; or (0, ErrSyntax); or (the greatest uint64, ErrRange). The world behind the call: the one new row that '[]byte(s)' lays. (LAID: no walk: one application.) -/
theorem Tryd.internal_strconv_ParseUint_10_b64 (t : ByteArray) (hne : t.size ≠ 0) (hmax : t.size ≤ 9223372036854775806) (w : World) :
    Calls Tryd.prog 69 #[.string t, .int .i64 10, .int .i64 64] w fun e w' => e = .returned (Lib.uintTuple 89 (Lib.parseUint10 0 t.data.toList)) ∧ w' = Lib.bytesWorld w 5 t := Any.internal_strconv_ParseUint_10_b64 Tryd.lays287 t hne hmax w
open Go.RowKit in
/-- internal/strconv.ParseUint(s, 10, 32), s NOT EMPTY: 'Lib.parseUintM 4294967295 0' OF ITS BYTES: the number; or (0, ErrSyntax); or (the greatest uint32, ErrRange). The world behind the call: the one new row that '[]byte(s)' lays. (LAID: no walk: one application.) -/
theorem Tryd.internal_strconv_ParseUint_10_b32 (t : ByteArray) (hne : t.size ≠ 0) (hmax : t.size ≤ 9223372036854775806) (w : World) :
    Calls Tryd.prog 69 #[.string t, .int .i64 10, .int .i64 32] w fun e w' => e = .returned (Lib.uintTupleM 89 4294967295 (Lib.parseUintM 4294967295 0 t.data.toList)) ∧ w' = Lib.bytesWorld w 5 t := Any.internal_strconv_ParseUint_10_b32 Tryd.lays287 t hne hmax w
open Go.RowKit in
/-- internal/strconv.ParseUint(s, 10, 16), s NOT EMPTY: 'Lib.parseUintM 65535 0' OF ITS BYTES: the number; or (0, ErrSyntax); or (the greatest uint16, ErrRange). The world behind the call: the one new row that '[]byte(s)' lays. (LAID: no walk: one application.) -/
theorem Tryd.internal_strconv_ParseUint_10_b16 (t : ByteArray) (hne : t.size ≠ 0) (hmax : t.size ≤ 9223372036854775806) (w : World) :
    Calls Tryd.prog 69 #[.string t, .int .i64 10, .int .i64 16] w fun e w' => e = .returned (Lib.uintTupleM 89 65535 (Lib.parseUintM 65535 0 t.data.toList)) ∧ w' = Lib.bytesWorld w 5 t := Any.internal_strconv_ParseUint_10_b16 Tryd.lays287 t hne hmax w
open Go.RowKit in
/-- internal/strconv.ParseUint(s, 10, 8), s NOT EMPTY: 'Lib.parseUintM 255 0' OF ITS BYTES: the number; or (0, ErrSyntax); or (the greatest uint8, ErrRange). The world behind the call: the one new row that '[]byte(s)' lays. (LAID: no walk: one application.) -/
theorem Tryd.internal_strconv_ParseUint_10_b8 (t : ByteArray) (hne : t.size ≠ 0) (hmax : t.size ≤ 9223372036854775806) (w : World) :
    Calls Tryd.prog 69 #[.string t, .int .i64 10, .int .i64 8] w fun e w' => e = .returned (Lib.uintTupleM 89 255 (Lib.parseUintM 255 0 t.data.toList)) ∧ w' = Lib.bytesWorld w 5 t := Any.internal_strconv_ParseUint_10_b8 Tryd.lays287 t hne hmax w
open Go.RowKit in
/-- internal/strconv.ParseUint(s, 10, 0): 'Lib.parseUintB 64' OF ITS BYTES. The world: as it was (the empty string), or with the one new row that '[]byte(s)' lays. (LAID: no walk: one application.) -/
theorem Tryd.internal_strconv_ParseUint_10_at0 (t : ByteArray) (hmax : t.size ≤ 9223372036854775806) (w : World) :
    Calls Tryd.prog 69 #[.string t, .int .i64 10, .int .i64 0] w fun e w' => e = .returned (Lib.uintTupleM 89 18446744073709551615 (Lib.parseUintB 64 t.data.toList)) ∧ (w' = w ∨ w' = Lib.bytesWorld w 5 t) := Any.internal_strconv_ParseUint_10_at0 Tryd.lays287 t hmax w
open Go.RowKit in
/-- internal/strconv.ParseUint(s, 10, 64): 'Lib.parseUintB 64' OF ITS BYTES. The world: as it was (the empty string), or with the one new row that '[]byte(s)' lays. (LAID: no walk: one application.) -/
theorem Tryd.internal_strconv_ParseUint_10_at64 (t : ByteArray) (hmax : t.size ≤ 9223372036854775806) (w : World) :
    Calls Tryd.prog 69 #[.string t, .int .i64 10, .int .i64 64] w fun e w' => e = .returned (Lib.uintTupleM 89 18446744073709551615 (Lib.parseUintB 64 t.data.toList)) ∧ (w' = w ∨ w' = Lib.bytesWorld w 5 t) := Any.internal_strconv_ParseUint_10_at64 Tryd.lays287 t hmax w
open Go.RowKit in
/-- internal/strconv.ParseUint(s, 10, 32): 'Lib.parseUintB 32' OF ITS BYTES. The world: as it was (the empty string), or with the one new row that '[]byte(s)' lays. (LAID: no walk: one application.) -/
theorem Tryd.internal_strconv_ParseUint_10_at32 (t : ByteArray) (hmax : t.size ≤ 9223372036854775806) (w : World) :
    Calls Tryd.prog 69 #[.string t, .int .i64 10, .int .i64 32] w fun e w' => e = .returned (Lib.uintTupleM 89 4294967295 (Lib.parseUintB 32 t.data.toList)) ∧ (w' = w ∨ w' = Lib.bytesWorld w 5 t) := Any.internal_strconv_ParseUint_10_at32 Tryd.lays287 t hmax w
open Go.RowKit in
/-- internal/strconv.ParseUint(s, 10, 16): 'Lib.parseUintB 16' OF ITS BYTES. The world: as it was (the empty string), or with the one new row that '[]byte(s)' lays. (LAID: no walk: one application.) -/
theorem Tryd.internal_strconv_ParseUint_10_at16 (t : ByteArray) (hmax : t.size ≤ 9223372036854775806) (w : World) :
    Calls Tryd.prog 69 #[.string t, .int .i64 10, .int .i64 16] w fun e w' => e = .returned (Lib.uintTupleM 89 65535 (Lib.parseUintB 16 t.data.toList)) ∧ (w' = w ∨ w' = Lib.bytesWorld w 5 t) := Any.internal_strconv_ParseUint_10_at16 Tryd.lays287 t hmax w
open Go.RowKit in
/-- internal/strconv.ParseUint(s, 10, 8): 'Lib.parseUintB 8' OF ITS BYTES. The world: as it was (the empty string), or with the one new row that '[]byte(s)' lays. (LAID: no walk: one application.) -/
theorem Tryd.internal_strconv_ParseUint_10_at8 (t : ByteArray) (hmax : t.size ≤ 9223372036854775806) (w : World) :
    Calls Tryd.prog 69 #[.string t, .int .i64 10, .int .i64 8] w fun e w' => e = .returned (Lib.uintTupleM 89 255 (Lib.parseUintB 8 t.data.toList)) ∧ (w' = w ∨ w' = Lib.bytesWorld w 5 t) := Any.internal_strconv_ParseUint_10_at8 Tryd.lays287 t hmax w
open Go.RowKit in
/-- internal/strconv.ParseInt(s, 10, 64), s NOT EMPTY: 'Lib.parseIntB 64' OF ITS BYTES: (the number, nil); (0, ErrSyntax); (the greatest or the least int64 by the sign, ErrRange). The world: as it was, or with the one new row that '[]byte(..)' lays. (LAID: no walk: one application.) -/
theorem Tryd.internal_strconv_ParseInt_10_at64 (s : ByteArray) (hne : s.size ≠ 0) (hmax : s.size ≤ 9223372036854775806) (w : World) :
    Calls Tryd.prog 52 #[.string s, .int .i64 10, .int .i64 64] w fun e w' => e = .returned (Lib.intTuple 89 (Lib.intSat 64 s.data.toList) (Lib.parseIntB 64 s.data.toList)) ∧ (w' = w ∨ ∃ t, w' = Lib.bytesWorld w 5 t) := Any.internal_strconv_ParseInt_10_at64 Tryd.laysC247 s hne hmax w
open Go.RowKit in
/-- internal/strconv.ParseInt(s, 10, 32), s NOT EMPTY: 'Lib.parseIntB 32' OF ITS BYTES: (the number, nil); (0, ErrSyntax); (the greatest or the least int32 by the sign, ErrRange). The world: as it was, or with the one new row that '[]byte(..)' lays. (LAID: no walk: one application.) -/
theorem Tryd.internal_strconv_ParseInt_10_at32 (s : ByteArray) (hne : s.size ≠ 0) (hmax : s.size ≤ 9223372036854775806) (w : World) :
    Calls Tryd.prog 52 #[.string s, .int .i64 10, .int .i64 32] w fun e w' => e = .returned (Lib.intTuple 89 (Lib.intSat 32 s.data.toList) (Lib.parseIntB 32 s.data.toList)) ∧ (w' = w ∨ ∃ t, w' = Lib.bytesWorld w 5 t) := Any.internal_strconv_ParseInt_10_at32 Tryd.laysC247 s hne hmax w
open Go.RowKit in
/-- internal/strconv.ParseInt(s, 10, 16), s NOT EMPTY: 'Lib.parseIntB 16' OF ITS BYTES: (the number, nil); (0, ErrSyntax); (the greatest or the least int16 by the sign, ErrRange). The world: as it was, or with the one new row that '[]byte(..)' lays. (LAID: no walk: one application.) -/
theorem Tryd.internal_strconv_ParseInt_10_at16 (s : ByteArray) (hne : s.size ≠ 0) (hmax : s.size ≤ 9223372036854775806) (w : World) :
    Calls Tryd.prog 52 #[.string s, .int .i64 10, .int .i64 16] w fun e w' => e = .returned (Lib.intTuple 89 (Lib.intSat 16 s.data.toList) (Lib.parseIntB 16 s.data.toList)) ∧ (w' = w ∨ ∃ t, w' = Lib.bytesWorld w 5 t) := Any.internal_strconv_ParseInt_10_at16 Tryd.laysC247 s hne hmax w
open Go.RowKit in
/-- internal/strconv.ParseInt(s, 10, 8), s NOT EMPTY: 'Lib.parseIntB 8' OF ITS BYTES: (the number, nil); (0, ErrSyntax); (the greatest or the least int8 by the sign, ErrRange). The world: as it was, or with the one new row that '[]byte(..)' lays. (LAID: no walk: one application.) -/
theorem Tryd.internal_strconv_ParseInt_10_at8 (s : ByteArray) (hne : s.size ≠ 0) (hmax : s.size ≤ 9223372036854775806) (w : World) :
    Calls Tryd.prog 52 #[.string s, .int .i64 10, .int .i64 8] w fun e w' => e = .returned (Lib.intTuple 89 (Lib.intSat 8 s.data.toList) (Lib.parseIntB 8 s.data.toList)) ∧ (w' = w ∨ ∃ t, w' = Lib.bytesWorld w 5 t) := Any.internal_strconv_ParseInt_10_at8 Tryd.laysC247 s hne hmax w
open Go.RowKit in
/-- internal/strconv.ParseInt(s, 10, 0), AT EVERY STRING: 'Lib.parseIntB 64' OF ITS BYTES. (LAID: no walk: one application.) -/
theorem Tryd.internal_strconv_ParseInt_10_all0 (s : ByteArray) (hmax : s.size ≤ 9223372036854775806) (w : World) :
    Calls Tryd.prog 52 #[.string s, .int .i64 10, .int .i64 0] w fun e w' => e = .returned (Lib.intTuple 89 (Lib.intSat 64 s.data.toList) (Lib.parseIntB 64 s.data.toList)) ∧ (w' = w ∨ ∃ t, w' = Lib.bytesWorld w 5 t) := Any.internal_strconv_ParseInt_10_all0 Tryd.laysC247 s hmax w
open Go.RowKit in
/-- internal/strconv.ParseInt(s, 10, 64), AT EVERY STRING: 'Lib.parseIntB 64' OF ITS BYTES. (LAID: no walk: one application.) -/
theorem Tryd.internal_strconv_ParseInt_10_all64 (s : ByteArray) (hmax : s.size ≤ 9223372036854775806) (w : World) :
    Calls Tryd.prog 52 #[.string s, .int .i64 10, .int .i64 64] w fun e w' => e = .returned (Lib.intTuple 89 (Lib.intSat 64 s.data.toList) (Lib.parseIntB 64 s.data.toList)) ∧ (w' = w ∨ ∃ t, w' = Lib.bytesWorld w 5 t) := Any.internal_strconv_ParseInt_10_all64 Tryd.laysC247 s hmax w
open Go.RowKit in
/-- internal/strconv.ParseInt(s, 10, 32), AT EVERY STRING: 'Lib.parseIntB 32' OF ITS BYTES. (LAID: no walk: one application.) -/
theorem Tryd.internal_strconv_ParseInt_10_all32 (s : ByteArray) (hmax : s.size ≤ 9223372036854775806) (w : World) :
    Calls Tryd.prog 52 #[.string s, .int .i64 10, .int .i64 32] w fun e w' => e = .returned (Lib.intTuple 89 (Lib.intSat 32 s.data.toList) (Lib.parseIntB 32 s.data.toList)) ∧ (w' = w ∨ ∃ t, w' = Lib.bytesWorld w 5 t) := Any.internal_strconv_ParseInt_10_all32 Tryd.laysC247 s hmax w
open Go.RowKit in
/-- internal/strconv.ParseInt(s, 10, 16), AT EVERY STRING: 'Lib.parseIntB 16' OF ITS BYTES. (LAID: no walk: one application.) -/
theorem Tryd.internal_strconv_ParseInt_10_all16 (s : ByteArray) (hmax : s.size ≤ 9223372036854775806) (w : World) :
    Calls Tryd.prog 52 #[.string s, .int .i64 10, .int .i64 16] w fun e w' => e = .returned (Lib.intTuple 89 (Lib.intSat 16 s.data.toList) (Lib.parseIntB 16 s.data.toList)) ∧ (w' = w ∨ ∃ t, w' = Lib.bytesWorld w 5 t) := Any.internal_strconv_ParseInt_10_all16 Tryd.laysC247 s hmax w
open Go.RowKit in
/-- internal/strconv.ParseInt(s, 10, 8), AT EVERY STRING: 'Lib.parseIntB 8' OF ITS BYTES. (LAID: no walk: one application.) -/
theorem Tryd.internal_strconv_ParseInt_10_all8 (s : ByteArray) (hmax : s.size ≤ 9223372036854775806) (w : World) :
    Calls Tryd.prog 52 #[.string s, .int .i64 10, .int .i64 8] w fun e w' => e = .returned (Lib.intTuple 89 (Lib.intSat 8 s.data.toList) (Lib.parseIntB 8 s.data.toList)) ∧ (w' = w ∨ ∃ t, w' = Lib.bytesWorld w 5 t) := Any.internal_strconv_ParseInt_10_all8 Tryd.laysC247 s hmax w
def Tryd.lays217_ren : Go.Shelf.Ren := ⟨fun | 217 => 47 | 266 => 66 | n => n, fun | 9 => 9 | 5 => 5 | 3 => 3 | n => n, fun | n => n⟩
theorem Tryd.lays217 : Go.Proofs.Lays.n217 Tryd.prog Tryd.lays217_ren := {
  mixed := by kernel_rfl
  f217 := Tryd.func47.trans (congrArg some (by kernel_rfl))
  f266 := Tryd.func66.trans (congrArg some (by kernel_rfl))
  t3 := Tryd.underlying3
  a3 := Tryd.isAgg3
  z3 := Tryd.sizeOf3
  v3 := Tryd.zeroValue3
  t5 := Tryd.underlying5
  a5 := Tryd.isAgg5
  z5 := Tryd.sizeOf5
  v5 := Tryd.zeroValue5
  t9 := Tryd.underlying9
  a9 := Tryd.isAgg9
  z9 := Tryd.sizeOf9
  v9 := Tryd.zeroValue9 }
open Go.RowKit Go.Lib in
/-- internal/stringslite.IndexByte (what strings.IndexByte calls): IT RETURNS 'Lib.indexByte s c'; the world is as it was. (LAID: no walk: one application.) -/
theorem Tryd.stringslite_IndexByte (s : ByteArray) (c : Int) (w : World) :
    Calls Tryd.prog 47 #[.string s, .int .u8 c] w fun e w' => e = .returned (.int .i64 (Lib.indexByte s.data.toList c.toNat.toUInt8)) ∧ w' = w := Any.stringslite_IndexByte Tryd.lays217 s c w
def Tryd.lays109_ren : Go.Shelf.Ren := ⟨fun | 109 => 24 | n => n, fun | 31 => 36 | 9 => 9 | 3 => 3 | 0 => 0 | 4 => 4 | n => n, fun | n => n⟩
theorem Tryd.lays109 : Go.Proofs.Lays.n109 Tryd.prog Tryd.lays109_ren := {
  mixed := by kernel_rfl
  f109 := Tryd.func24.trans (congrArg some (by kernel_rfl))
  t0 := Tryd.underlying0
  a0 := Tryd.isAgg0
  z0 := Tryd.sizeOf0
  v0 := Tryd.zeroValue0
  t3 := Tryd.underlying3
  a3 := Tryd.isAgg3
  z3 := Tryd.sizeOf3
  v3 := Tryd.zeroValue3
  t4 := Tryd.underlying4
  a4 := Tryd.isAgg4
  z4 := Tryd.sizeOf4
  v4 := Tryd.zeroValue4
  t9 := Tryd.underlying9
  a9 := Tryd.isAgg9
  z9 := Tryd.sizeOf9
  v9 := Tryd.zeroValue9
  t31 := Tryd.underlying36
  a31 := Tryd.isAgg36
  z31 := Tryd.sizeOf36
  v31 := Tryd.zeroValue36 }
open Go.Lib in
/-- slices.Index at []string: "Index returns the index of the first occurrence of v in s, or -1 if not present.": IT RETURNS 'Lib.idxOfS (the elements) v'; the world is as it was. 'zs': what the cells behind the slice's address hold (its spare capacity too, if you have it); 'zs.take n': its elements. (LAID: no walk: one application.) -/
theorem Tryd.slices_Index_string (b off n c : Nat) (zs : List ByteArray) (x : ByteArray) (w : World) (hz : n ≤ zs.length) (hbig : n ≤ 9223372036854775807) (hc : ∀ j, j < zs.length → w.cell? ⟨b, off + j, none⟩ = some (.string (zs.getD j ByteArray.empty))) :
    Calls Tryd.prog 24 #[.slice (some ⟨b, off, none⟩) n c, .string x] w fun e w' => e = .returned (.int .i64 (Lib.idxOfS (zs.take n) x)) ∧ w' = w := Any.slices_Index_string Tryd.lays109 b off n c zs x w hz hbig hc
open Go.Lib in
/-- The same at a slice of length 0, a nil one too: no cell is known, none is asked for. (LAID: no walk: one application.) -/
theorem Tryd.slices_Index_string_empty (a : Option Addr) (c : Nat) (x : ByteArray) (w : World) :
    Calls Tryd.prog 24 #[.slice a 0 c, .string x] w fun e w' => e = .returned (.int .i64 (Lib.idxOfS [] x)) ∧ w' = w := Any.slices_Index_string_empty Tryd.lays109 a c x w
def Tryd.lays110_ren : Go.Shelf.Ren := ⟨fun | 110 => 25 | 109 => 24 | n => n, fun | 31 => 36 | 9 => 9 | 4 => 4 | 3 => 3 | 0 => 0 | n => n, fun | n => n⟩
theorem Tryd.lays110 : Go.Proofs.Lays.n110 Tryd.prog Tryd.lays110_ren := {
  mixed := by kernel_rfl
  f109 := Tryd.func24.trans (congrArg some (by kernel_rfl))
  f110 := Tryd.func25.trans (congrArg some (by kernel_rfl))
  t0 := Tryd.underlying0
  a0 := Tryd.isAgg0
  z0 := Tryd.sizeOf0
  v0 := Tryd.zeroValue0
  t3 := Tryd.underlying3
  a3 := Tryd.isAgg3
  z3 := Tryd.sizeOf3
  v3 := Tryd.zeroValue3
  t4 := Tryd.underlying4
  a4 := Tryd.isAgg4
  z4 := Tryd.sizeOf4
  v4 := Tryd.zeroValue4
  t9 := Tryd.underlying9
  a9 := Tryd.isAgg9
  z9 := Tryd.sizeOf9
  v9 := Tryd.zeroValue9
  t31 := Tryd.underlying36
  a31 := Tryd.isAgg36
  z31 := Tryd.sizeOf36
  v31 := Tryd.zeroValue36 }
open Go.Lib in
/-- slices.Contains at []string: "Contains reports whether v is present in s.": IT RETURNS 'Lib.containsS (the elements) v', which is true just where v is among them ('Lib.containsS_iff'); the world is as it was. ITS CALLEE slices.Index IS MET BY ITS OWN CONTRACT OFF THE SHELF (lay that first): no loop is walked here. (LAID: no walk: one application.) -/
theorem Tryd.slices_Contains_string (b off n c : Nat) (zs : List ByteArray) (x : ByteArray) (w : World) (hz : n ≤ zs.length) (hbig : n ≤ 9223372036854775807) (hc : ∀ j, j < zs.length → w.cell? ⟨b, off + j, none⟩ = some (.string (zs.getD j ByteArray.empty))) :
    Calls Tryd.prog 25 #[.slice (some ⟨b, off, none⟩) n c, .string x] w fun e w' => e = .returned (.bool (Lib.containsS (zs.take n) x)) ∧ w' = w := Any.slices_Contains_string Tryd.lays110 b off n c zs x w hz hbig hc
open Go.Lib in
/-- The same at a slice of length 0, a nil one too. (LAID: no walk: one application.) -/
theorem Tryd.slices_Contains_string_empty (a : Option Addr) (c : Nat) (x : ByteArray) (w : World) :
    Calls Tryd.prog 25 #[.slice a 0 c, .string x] w fun e w' => e = .returned (.bool false) ∧ w' = w := Any.slices_Contains_string_empty Tryd.lays110 a c x w
end Go.Proofs
/-
  The framework, part Y: slices cut to their room; append to one that has none. No program in sight. Conditions: none.
-/
namespace Go.Vc
open Go
set_option linter.unusedVariables false

section
variable {P : Program}
theorem rd_slice_hm {h : Hp} {t e : TypeId} (ht : P.underlying t = some (.slice e)) (hi : (P.info? e).isSome = true) {a : Option Addr} {n c : Nat} {x y : Int} (h0 : 0 ≤ x) (h1 : x ≤ y) (h2 : y ≤ c) : Rd P (Instr.sliceAt t (vsl a n c) none (some (vi x)) (some (vi y))) h (vsl a x.toNat y.toNat) := by
  intro w _
  have he : P.elem t = e := by simp [Program.elem, ht]
  obtain ⟨i, hi⟩ := Option.isSome_iff_exists.1 hi
  rw [run_sliceAt_slice w t _ _ _ _ (by rw [he]; exact ht), run_slice_hm w t a n c (by rw [he]; exact ht) _ _ x y h0 h1 h2, he]
  simp [sizeOf, typeInfo, hi, sliced]
  intro _
  cases a <;> simp [Addr.add]
/-- 'append' to a slice without room: a new one. -/
theorem sem_append_full {h : Hp} {t ty e : TypeId} {sz bytes : Nat} (T : ElT P t e sz bytes) {a : Option Addr} {n : Nat} {xs : List Value} (H : HasRow h a xs) (hxs : xs.length = n * sz) (ha : a = none → n = 0)
    {a2 : Option Addr} {m c2 : Nat} {news : List Value} (H2 : HasRow h a2 news) (hl : news.length = m * sz) (hm0 : 0 < m)
    (hb : (n + m) * bytes ≤ 140737488355328) (hm : n + m ≤ 140737488355328) {K : Value → Hp → Prop}
    (hK : ∀ a' c' h', OwnV h h' e sz a' (n + m) c' (xs ++ news) → K (vsl a' (n + m) c') h') :
    SemOK P (Builtin.append_ #[t, t] ty #[vsl a n n, vsl a2 m c2]) h K := by
  intro w hs
  obtain ⟨i, z, hi, hz, rfl, rfl, hzs⟩ := T.el
  have hlen : (xs ++ news).length = (n + m) * i.size := by rw [List.length_append, hxs, hl, Nat.add_mul]
  have h63 : n + m ≤ maxLen := by simp only [maxLen]; omega
  have hnn : news ≠ [] := fun e => by
    subst e
    have h0 : m * i.size = 0 := by simpa using hl.symm
    rcases Nat.mul_eq_zero.1 h0 with h2 | h2
    · omega
    · have := T.pos; omega
  obtain ⟨b2, o2, rfl, hr2⟩ := (show ∃ b o, a2 = some ⟨b, o, none⟩ ∧ h.row b o news.length = some news from H2.resolve_left hnn)
  have hnews := HasRow.cells hs (a := ⟨b2, o2, none⟩) H2
  have hno : h w.heap.size = none := Sub.none hs
  have grown : ∀ old, old < n + m → OwnV h (h.set w.heap.size (.cells (xs.toArray ++ news.toArray ++ Builtin.zeroCells z.cells (grownCap w (n + m) old e - (n + m))) e (0, 0))) e i.size (some ⟨w.heap.size, 0, none⟩) (n + m) (grownCap w (n + m) old e) (xs ++ news) := by
    intro old ho
    have hge := grownCap_ge w (n + m) old e
    have hcm : grownCap w (n + m) old e ≤ maxLen := grownCap_le_maxLen w (n + m) old e h63
    refine ⟨Hp.le_set (Hp.le_refl h) hno _, ⟨hlen, .inr ⟨w.heap.size, _, rfl, Hp.set_same _ _ _, hge, hcm, ?_, ?_⟩⟩, fun g hg => ?_⟩
    · simp only [Array.size_append, List.size_toArray, size_zeroCells, hzs, hxs, hl, ← Nat.add_mul]
      congr 1
      omega
    · simp only [Array.toList_append, List.append_assoc]
      rw [← List.append_assoc, ← hlen]
      exact List.take_left
    · cases hg; exact hno
  cases a with
  | none =>
    obtain rfl := ha rfl
    have hx : xs = [] := List.eq_nil_of_length_eq_zero (by simpa using hxs)
    subst hx
    have hr := run_append_nil (P := P) w t ty e i z T.sl hi hz ⟨b2, o2, none⟩ m c2 news hl hnews (by omega) (by omega) (by simp only [Nat.zero_add] at hb; omega)
    have hgr := grown 0 (by omega)
    simp only [Nat.zero_add, List.nil_append, Array.empty_append] at hgr hK ⊢
    exact ⟨_, _, _, hr, drew_alloc_Sub hs _, drew_alloc_Fr h w _, hK _ _ _ hgr⟩
  | some g =>
    have holds : ∀ j u, xs[j]? = some u → w.cell? (g.add j) = some u := HasRow.cells hs H
    have hr := run_append_grow (P := P) w t ty e i z T.sl hi hz g n n xs hxs holds ⟨b2, o2, none⟩ m c2 news hl hnews (by omega) (by omega) (growslice_fits (by omega) hb)
    exact ⟨_, _, _, hr, drew_alloc_Sub hs _, drew_alloc_Fr h w _, hK _ _ _ (grown n (by omega))⟩
end
end Go.Vc
/-
  Contracts: a number's digits, as the document has them. Conditions: that the number is not too great.
-/
namespace Go.Proofs.YtonlacplogbodaaDoor
open Go Go.Vc Go.RowKit
set_option linter.unusedVariables false
set_option maxRecDepth 100000

def decM (n : Int) : Nat := if n < 0 then 2 * n.natAbs + 1 else 2 * n.natAbs
theorem decM_neg {n : Int} (h : n < 0) : decM (-n) < decM n := by
  unfold decM
  rw [if_pos h, if_neg (by omega)]
  omega
theorem decM_div {n : Int} (h : ¬ n < 10) : decM (n.tdiv 10) < decM n := by
  unfold decM
  have h0 : (0 : Int) ≤ n.tdiv 10 := Int.tdiv_nonneg (by omega) (by decide)
  have h1 : n.tdiv 10 = n / 10 := Int.tdiv_eq_ediv_of_nonneg (by omega)
  rw [if_neg (by omega), if_neg (by omega), h1]
  omega
theorem conv1 (W : World) (b : Nat) (x : Int) (hx : 0 ≤ x ∧ x < 256) (hc : W.heap[b]? = some (.cells #[.int .u8 x] 5 (0, 0))) : (convert 74 9 (.slice (some ⟨b, 0, none⟩) 1 1)).run Tryd.prog W = .ok (.string ⟨#[UInt8.ofNat x.toNat]⟩) W := by
  have h := run_convert_bytes_back (P := Tryd.prog) W 74 9 5 ⟨b, 0, none⟩ 1 [UInt8.ofNat x.toNat] (by kernel_rfl) (by kernel_rfl) (by kernel_rfl) (fun j hj => by
    have hj0 : j = 0 := by simp at hj; omega
    subst hj0
    have e : ((UInt8.ofNat x.toNat).toNat : Int) = x := by simp; omega
    simp only [List.getElem_cons_zero]
    rw [e]
    simp [Addr.add, World.cell?, hc])
  exact h
theorem conv1b (W : World) (b : Nat) (x : Int) (hx : 0 ≤ x ∧ x < 256) (hc : W.cell? ⟨b, 0, none⟩ = some (.int .u8 x)) : (convert 74 9 (.slice (some ⟨b, 0, none⟩) 1 1)).run Tryd.prog W = .ok (.string ⟨#[UInt8.ofNat x.toNat]⟩) W :=
  run_convert_bytes_back (P := Tryd.prog) W 74 9 5 ⟨b, 0, none⟩ 1 [UInt8.ofNat x.toNat] (by kernel_rfl) (by kernel_rfl) (by kernel_rfl) (fun j hj => by
    have hj0 : j = 0 := by simp at hj; omega
    subst hj0
    have e : ((UInt8.ofNat x.toNat).toNat : Int) = x := by simp; omega
    simp only [List.getElem_cons_zero]
    rw [e]
    exact hc)
theorem cell_behind {w w' : World} {x : Value} {t : TypeId} (hB : Below (w.alloc (.cells #[x] t)).drew.heap.size (w.alloc (.cells #[x] t)).drew w') : w'.cell? ⟨w.heap.size, 0, none⟩ = some x := by
  have h1 : w.heap.size < (w.alloc (.cells #[x] t)).drew.heap.size := by
    show w.heap.size < (w.heap.push _).size
    rw [Array.size_push]
    omega
  have h2 : (w.alloc (.cells #[x] t)).drew.heap[w.heap.size]? = some (.cells #[x] t) := by
    show (w.heap.push _)[w.heap.size]? = _
    rw [Array.getElem?_push_size]
  have := hB.block w.heap.size h1
  rw [h2] at this
  unfold World.cell?
  rw [this]
  rfl
theorem below_one {w w' : World} {o : Obj} (hB : Below w.drew.heap.size w.drew w') : Below w.heap.size w (w'.alloc o) :=
  (Below.trans (⟨hB.os, hB.tape, hB.output, hB.size, hB.block⟩ : Below w.heap.size w w') (Below.alloc (Below.refl _ _) hB.size o))
theorem below_two {w w' : World} {o : Obj} (hB : Below (w.alloc o).drew.heap.size (w.alloc o).drew w') : Below w.heap.size w w' :=
  Below.trans (Below.alloc (Below.refl _ _) (Nat.le_refl _) o) ⟨hB.os, hB.tape, hB.output, hB.size, fun k hk => hB.block k (by show k < (w.heap.push o).size; rw [Array.size_push]; omega)⟩
theorem nDigits_le : ∀ (k u : Nat), u < 10 ^ (k + 1) → Lib.nDigits u ≤ k + 1
  | 0, u, h => by rw [Lib.nDigits_small (by simpa using h)]; exact Nat.le_refl _
  | k + 1, u, h => by
    by_cases h10 : u < 10
    · rw [Lib.nDigits_small h10]; omega
    · rw [Lib.nDigits_big h10]
      have := nDigits_le k (u / 10) (by rw [Nat.div_lt_iff_lt_mul (by decide)]; rw [Nat.pow_succ] at h; exact h)
      omega
theorem itoa_len {n : Int} (h0 : -1000000000000 ≤ n) (h1 : n ≤ 1000000000000) : (Lib.itoa n).length ≤ 14 := by
  unfold Lib.itoa
  split
  · rw [List.length_cons, Lib.decDigits_length]
    have := nDigits_le 12 n.natAbs (by omega)
    omega
  · rw [Lib.decDigits_length]
    have := nDigits_le 12 n.toNat (by omega)
    omega
theorem itoa_minus {n : Int} (h : n < 0) : Lib.itoa n = 45 :: Lib.itoa (-n) := by
  unfold Lib.itoa
  rw [if_pos h, if_neg (by omega)]
  congr 2
  omega
theorem itoa_one {n : Int} (h0 : ¬ n < 0) (h : n < 10) : Lib.itoa n = [UInt8.ofNat (48 + n).toNat] := by
  unfold Lib.itoa
  rw [if_neg h0, Lib.decDigits_one (by omega)]
  congr 2
  omega
theorem itoa_more {n : Int} (h : ¬ n < 10) : Lib.itoa n = Lib.itoa (n.tdiv 10) ++ [UInt8.ofNat (48 + n.tmod 10).toNat] := by
  have h1 : n.tdiv 10 = n / 10 := Int.tdiv_eq_ediv_of_nonneg (by omega)
  have h2 : n.tmod 10 = n % 10 := Int.tmod_eq_emod_of_nonneg (by omega)
  rw [h1, h2]
  unfold Lib.itoa
  rw [if_neg (by omega), if_neg (by omega), Lib.decDigits, dif_neg (by omega)]
  congr 2
  · omega
  · congr 1; omega
theorem callOK_below {f : FuncId} {args : List Value} {h : Hp} {K : Value → Hp → Prop} (H : ∀ w, Sub h w → Calls Tryd.prog f args.toArray w fun e w' => ∃ v, e = .returned v ∧ Below w.heap.size w w' ∧ K v h) : CallOK Tryd.prog f args h K := by
  intro w hs
  refine (H w hs).mono ?_
  rintro e w' ⟨v, he, hB, hK⟩
  refine ⟨v, h, he, fun b o hb => ?_, ⟨hB.os, hB.tape, hB.output, hB.size, fun b hb hn => ⟨hB.block b hb, hn⟩⟩, hK⟩
  have := hs b o hb
  have hlt := (Array.getElem?_eq_some_iff.1 this).1
  rw [hB.block b hlt]
  exact this
end Go.Proofs.YtonlacplogbodaaDoor
/-
  Contracts: numbers as texts, off the library's own: strconv.Itoa, strconv.Atoi. Conditions: that the tables and errors of the library lie as the program's text lays them.
-/
namespace Go.Proofs.YtonlacplogbodaaDoor
open Go Go.Vc Go.RowKit
set_option linter.unusedVariables false
set_option maxRecDepth 100000

/-- The table of powers lies there. -/
def TabP (h : Hp) : Prop := ∀ w, Sub h w → Lib.TabIs Tryd.prog w "internal/strconv.uint64pow10" .u64 Lib.pow10Tab
theorem sub_le {h h' : Hp} {w : World} (hl : h.le h') (hs : Sub h' w) : Sub h w := fun b o ho => hs b o (hl b o ho)
theorem TabP.le {h h' : Hp} (T : TabP h) (hl : h.le h') : TabP h' := fun w hs => T w (sub_le hl hs)
theorem vars_sub {W w : World} {name : String} {cs : Array Value} (hT : W.var? Tryd.prog name = some cs) (hs : Sub (hpOf W) w) : w.var? Tryd.prog name = some cs := by
  unfold World.var? at *
  cases hg : Tryd.prog.globalNamed name with
  | none => rw [hg] at hT; cases hT
  | some g =>
    rw [hg] at hT
    simp only [Option.bind_some] at hT ⊢
    cases hb : W.heap[g]? with
    | none => rw [hb] at hT; cases hT
    | some o =>
      rw [hs g o hb]
      rw [hb] at hT
      exact hT
theorem var_sub {W w : World} {name : String} {k : IntKind} {zs : List Int} (hT : Lib.TabIs Tryd.prog W name k zs) (hs : Sub (hpOf W) w) : Lib.TabIs Tryd.prog w name k zs := vars_sub hT hs
theorem below_grow (w : World) (k : Nat) (os : Array Obj) : Below w.heap.size w (Go.Sort.grow (w.drewN k) os) := by
  refine ⟨rfl, rfl, rfl, ?_, fun i hi => ?_⟩
  · show w.heap.size ≤ (w.heap ++ os).size
    rw [Array.size_append]
    omega
  · show (w.heap ++ os)[i]? = w.heap[i]?
    rw [Array.getElem?_append_left hi]
theorem strconv_Itoa_ok {n : Int} (hn : InR n) {h : Hp} (T : TabP h) {R : Value → Hp → Prop} (hK : R (vs (bs (Lib.itoa n))) h) : CallOK Tryd.prog 19 [vi n] h R :=
  callOK_below fun w hs => (Tryd.strconv_Itoa n hn.1 hn.2 w (T w hs)).mono fun e w' ⟨he, k, os, hw⟩ => ⟨_, he, by rw [hw]; exact below_grow w k os, hK⟩
end Go.Proofs.YtonlacplogbodaaDoor
/-
  What functions of the program ask, in words: each is what the framework reckons from the loaded code (the kernel holds the two together), and gives the function's call. Conditions: none.
-/
namespace Go.Proofs.YtonlacplogbodaaDoor
open Go Go.Vc
set_option maxRecDepth 100000
set_option linter.unusedVariables false
/-- What 'penstock/value.Text' asks. -/
def VC_value_Text (u_vKind : Int) (u_vN : Int) (h : Hp) (R : Value → Hp → Prop) : Prop :=
  (((decide ((u_vKind : Int) = 0)) = true → R (vs ⟨#[110, 117, 108, 108]⟩) h) ∧ ((decide ((u_vKind : Int) = 0)) = false → (((decide ((u_vKind : Int) = 1)) = true → (CallOK Tryd.prog 19 [(vi u_vN)] h fun v1 h2 => ∃ (s3 : ByteArray), v1 = (vs s3) ∧ R (vs s3) h2)) ∧ ((decide ((u_vKind : Int) = 1)) = false → (((decide ((u_vN : Int) = 0)) = true → R (vs ⟨#[102, 97, 108, 115, 101]⟩) h) ∧ ((decide ((u_vN : Int) = 0)) = false → R (vs ⟨#[116, 114, 117, 101]⟩) h))))))
theorem ok_value_Text {u_vKind : Int} {u_vN : Int} {h : Hp} {R : Value → Hp → Prop} (H : VC_value_Text u_vKind u_vN h R) : CallOK Tryd.prog 31 [(vag [(vi u_vKind), (vi u_vN)])] h R :=
  call_of (cfg := ⟨[], [], []⟩) noNG mixed Tryd.func31 [.ag [.v (vi u_vKind), .v (vi u_vN)]] (by kernel_rfl) rfl (by kernel_rfl) H

/-- What 'penstock/value.Parse' asks. -/
def VC_value_Parse (u_s : ByteArray) (h : Hp) (R : Value → Hp → Prop) : Prop :=
  (∃ (p1 : Bool), (Rd Tryd.prog ((eqGuard .eql 9 (.tmp 6) (.const (vs ⟨#[110, 117, 108, 108]⟩)) (vs u_s) (vs ⟨#[110, 117, 108, 108]⟩) >>= fun _ => binOp .eql 9 (vs u_s) (vs ⟨#[110, 117, 108, 108]⟩))) h (vb p1)) ∧ ((p1 = true → (CallOK Tryd.prog 87 [] h fun v2 h3 => ∃ (x4 : Int) (x5 : Int), v2 = (vag [(vi x4), (vi x5)]) ∧ R (vtup [(vag [(vi x4), (vi x5)]), (ifv none)]) h3)) ∧ (p1 = false → (∃ (p6 : Bool), (Rd Tryd.prog ((eqGuard .eql 9 (.tmp 6) (.const (vs ⟨#[116, 114, 117, 101]⟩)) (vs u_s) (vs ⟨#[116, 114, 117, 101]⟩) >>= fun _ => binOp .eql 9 (vs u_s) (vs ⟨#[116, 114, 117, 101]⟩))) h (vb p6)) ∧ (let J10 : Bool → Prop := fun (p11 : Bool) => ((p11 = true → (∃ (p12 : Bool), (Rd Tryd.prog ((eqGuard .eql 9 (.tmp 13) (.const (vs ⟨#[116, 114, 117, 101]⟩)) (vs u_s) (vs ⟨#[116, 114, 117, 101]⟩) >>= fun _ => binOp .eql 9 (vs u_s) (vs ⟨#[116, 114, 117, 101]⟩))) h (vb p12)) ∧ (CallOK Tryd.prog 88 [(vb p12)] h fun v13 h14 => ∃ (x15 : Int) (x16 : Int), v13 = (vag [(vi x15), (vi x16)]) ∧ R (vtup [(vag [(vi x15), (vi x16)]), (ifv none)]) h14))) ∧ (p11 = false → (CallOK Tryd.prog 28 [(vs u_s)] h fun v18 h19 => ∃ (x20 : Int) (e21 : Option (TypeId × Value)), v18 = (vtup [(vi x20), (ifv e21)]) ∧ (∃ (J22 : SV → Hp → Prop), ((Option.isSome e21) = false → (CallOK Tryd.prog 19 [(vi x20)] h19 fun v23 h24 => ∃ (s25 : ByteArray), v23 = (vs s25) ∧ J22 (.t (.one (.v (vs s25)))) h24)) ∧ (¬ ((Option.isSome e21) = false) → J22 (.t (.one (.v (vs ⟨#[]⟩)))) h19) ∧ ∀ (h26 : Hp) (s27 : ByteArray), J22 (.t (.one (.v (vs s27)))) h26 → (∃ (p28 : Bool), ((Option.isSome e21) = false → Rd Tryd.prog ((eqGuard .neq 9 (.tmp 25) (.tmp 26) (vs s27) (vs u_s) >>= fun _ => binOp .neq 9 (vs s27) (vs u_s))) h26 (vb p28)) ∧ (((bif (bif (bif (Option.isSome e21) then true else p28) then true else (decide ((x20 : Int) < (-1000000000)))) then true else (decide ((x20 : Int) > 1000000000))) = true → R (vtup [(vag [(vi 0), (vi 0)]), (ifv (some (50, (vi 4))))]) h26) ∧ ((bif (bif (bif (Option.isSome e21) then true else p28) then true else (decide ((x20 : Int) < (-1000000000)))) then true else (decide ((x20 : Int) > 1000000000))) = false → (CallOK Tryd.prog 86 [(vi x20)] h26 fun v30 h31 => ∃ (x32 : Int) (x33 : Int), v30 = (vag [(vi x32), (vi x33)]) ∧ R (vtup [(vag [(vi x32), (vi x33)]), (ifv none)]) h31)))))))); ((p6 = true → (J10 p6)) ∧ (p6 = false → (∃ (p8 : Bool), (Rd Tryd.prog ((eqGuard .eql 9 (.tmp 6) (.const (vs ⟨#[102, 97, 108, 115, 101]⟩)) (vs u_s) (vs ⟨#[102, 97, 108, 115, 101]⟩) >>= fun _ => binOp .eql 9 (vs u_s) (vs ⟨#[102, 97, 108, 115, 101]⟩))) h (vb p8)) ∧ (J10 p8)))))))))
theorem ok_value_Parse {u_s : ByteArray} {h : Hp} {R : Value → Hp → Prop} (H : VC_value_Parse u_s h R) : CallOK Tryd.prog 85 [(vs u_s)] h R :=
  call_of (cfg := ⟨[], [], []⟩) noNG mixed Tryd.func85 [.one (.v (vs u_s))] (by kernel_rfl) rfl (by kernel_rfl) H

end Go.Proofs.YtonlacplogbodaaDoor
/-
  What functions of the program ask, in words: each is what the framework reckons from the loaded code (the kernel holds the two together), and gives the function's call. Conditions: none.
-/
namespace Go.Proofs.YtonlacplogbodaaDoor
open Go Go.Vc
set_option maxRecDepth 100000
set_option linter.unusedVariables false
/-- What 'penstock/penstockref.natural' asks. -/
def VC_R_natural (u_s : ByteArray) (u_most : Int) (u_plain : Bool) (h : Hp) (R : Value → Hp → Prop) : Prop :=
  (∃ (x1 : Int), (((decide ((((ByteArray.size u_s : Nat) : Int) : Int) < 1)) = false ∧ u_plain = true) → Rd Tryd.prog (Instr.index 9 (vs u_s) (vi 0)) h (vk .u8 x1)) ∧ (((bif (decide ((((ByteArray.size u_s : Nat) : Int) : Int) < 1)) then true else (bif (bif u_plain then (decide ((x1 : Int) = 48)) else false) then (decide ((((ByteArray.size u_s : Nat) : Int) : Int) > 1)) else false)) = true → R (vi (-1)) h) ∧ ((bif (decide ((((ByteArray.size u_s : Nat) : Int) : Int) < 1)) then true else (bif (bif u_plain then (decide ((x1 : Int) = 48)) else false) then (decide ((((ByteArray.size u_s : Nat) : Int) : Int) > 1)) else false)) = false → (∃ (I4 : List Value → Hp → Prop) (m5 : List Value → Hp → Nat), I4 [(vi 0), (vi 0)] h ∧ ∀ (vs6 : List Value) (h7 : Hp), I4 vs6 h7 → ∃ (x8 : Int) (x9 : Int), vs6 = [(vi x8), (vi x9)] ∧ (((decide ((x9 : Int) < ((ByteArray.size u_s : Nat) : Int))) = true → (∃ (x12 : Int), (Rd Tryd.prog (Instr.index 9 (vs u_s) (vi x9)) h7 (vk .u8 x12)) ∧ (∃ (x13 : Int), ((decide ((x12 : Int) < 48)) = false → Rd Tryd.prog (Instr.index 9 (vs u_s) (vi x9)) h7 (vk .u8 x13)) ∧ (((bif (decide ((x12 : Int) < 48)) then true else (decide ((x13 : Int) > 57))) = true → R (vi (-1)) h7) ∧ ((bif (decide ((x12 : Int) < 48)) then true else (decide ((x13 : Int) > 57))) = false → (∃ (x15 : Int), (IsW x15 (10 * x8)) ∧ (∃ (x16 : Int), (Rd Tryd.prog (Instr.index 9 (vs u_s) (vi x9)) h7 (vk .u8 x16)) ∧ (∃ (x17 : Int), (Rd Tryd.prog (binOp .sub 5 (vk .u8 x16) (vk .u8 48)) h7 (vk .u8 x17)) ∧ (∃ (x18 : Int), (IsW x18 (x15 + (IntKind.wrap .i64 x17))) ∧ (((decide ((x18 : Int) > u_most)) = true → R (vi (-1)) h7) ∧ ((decide ((x18 : Int) > u_most)) = false → (∃ (x20 : Int), (IsW x20 (x9 + 1)) ∧ (I4 [(vi x18), (vi x20)] h7 ∧ m5 [(vi x18), (vi x20)] h7 < m5 vs6 h7))))))))))))) ∧ ((decide ((x9 : Int) < ((ByteArray.size u_s : Nat) : Int))) = false → R (vi x8) h7))))))
end Go.Proofs.YtonlacplogbodaaDoor
