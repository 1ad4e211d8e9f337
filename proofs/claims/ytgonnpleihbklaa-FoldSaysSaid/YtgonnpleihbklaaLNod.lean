/-
  The plain law of expressions: which may be, what they are worth, of which kind they are, what is cut out of them and put together. No program in sight. Conditions: none.
-/
import Derived.Test.YtgonnpleihbklaaCEvt
namespace Go.Proofs.Ytgonnpleihbklaa
open Go Go.Vc
set_option linter.unusedVariables false

structure Nd where
  op : Int
  x : Int
  y : Int
  n : Int
  v : Int × Int
deriving DecidableEq
def arI (op : Int) : Int := if op = 1 ∨ op = 2 then 0 else if 3 ≤ op ∧ op ≤ 5 then 1 else if 6 ≤ op ∧ op ≤ 12 then 2 else -1
/-- What is wrong with a node as it stands. -/
def nodeF (n : Nd) : Int :=
  if arI n.op < 0 then 3 else if (n.op ≠ 1 ∧ n.v ≠ (0, 0)) ∨ (n.op ≠ 2 ∧ n.n ≠ 0) ∨ (arI n.op < 2 ∧ n.y ≠ 0) ∨ (arI n.op < 1 ∧ n.x ≠ 0) then 3 else if n.op = 2 ∧ (n.n < 0 ∨ n.n > 3) then 1 else if ¬ goodV n.v then 3 else 0
/-- Those that are nobody's yet, the last one ahead: a node takes its own. -/
def popN (n : Nd) (st : List Int) : Option (List Int) :=
  if arI n.op = 0 then some st else if arI n.op = 1 then
    match st with
    | a :: s => if a = n.x then some s else none
    | [] => none
  else
    match st with
    | b :: a :: s => if a = n.x ∧ b = n.y then some s else none
    | _ => none
def chkGo (st : List Int) (i : Nat) : List Nd → Int
  | [] => if st.length = 1 then 0 else 3
  | n :: l => if nodeF n ≠ 0 then nodeF n else match popN n st with
    | none => 3
    | some s => chkGo (i :: s) (i + 1) l
def exprF (l : List Nd) : Int := if l.length > 40 then 2 else chkGo [] 0 l
theorem nodeF_2 (n : Nd) : 0 ≤ nodeF n := by unfold nodeF; split <;> (try split) <;> (try split) <;> (try split) <;> decide
theorem chkGo_2 : ∀ (l : List Nd) (st : List Int) (i : Nat), 0 ≤ chkGo st i l
  | [], st, i => by rw [chkGo]; split <;> decide
  | n :: l, st, i => by
    rw [chkGo]
    split
    · exact nodeF_2 n
    · split
      · decide
      · exact chkGo_2 l _ _
theorem exprF_2 (l : List Nd) : 0 ≤ exprF l := by
  unfold exprF
  split
  · decide
  · exact chkGo_2 _ _ _

/-- Nodes f up to e are one expression, its root the last. -/
inductive Blk (l : List Nd) : Nat → Nat → Prop where
  | leaf {i : Nat} {n : Nd} : l[i]? = some n → arI n.op = 0 → Blk l i (i + 1)
  | one {f i : Nat} {n : Nd} : Blk l f i → l[i]? = some n → arI n.op = 1 → n.x = (i : Int) - 1 → Blk l f (i + 1)
  | two {f g i : Nat} {n : Nd} : Blk l f g → Blk l g i → l[i]? = some n → arI n.op = 2 → n.x = (g : Int) - 1 → n.y = (i : Int) - 1 → Blk l f (i + 1)
theorem Blk.lt {l : List Nd} {f e : Nat} (B : Blk l f e) : f < e ∧ e ≤ l.length := by
  induction B with
  | leaf h _ => exact ⟨Nat.lt_succ_self _, (List.getElem?_eq_some_iff.1 h).1⟩
  | one _ h _ _ ih => exact ⟨by omega, (List.getElem?_eq_some_iff.1 h).1⟩
  | two _ _ h _ _ _ ih1 ih2 => exact ⟨by omega, (List.getElem?_eq_some_iff.1 h).1⟩
/-- What stands open: expressions, one behind the other. -/
inductive Stk (l : List Nd) : List Int → Nat → Prop where
  | nil : Stk l [] 0
  | push {s : List Int} {f e : Nat} : Stk l s f → Blk l f e → Stk l (((e : Int) - 1) :: s) e
theorem arI_range {op : Int} (h : 0 ≤ arI op) : arI op = 0 ∨ arI op = 1 ∨ arI op = 2 := by
  unfold arI at *
  split <;> (try split) <;> (try split) <;> simp_all
theorem nodeF_ar {n : Nd} (h : nodeF n = 0) : 0 ≤ arI n.op := by
  unfold nodeF at h
  split at h
  · cases h
  · omega
theorem popN_stk {l : List Nd} {st s : List Int} {i : Nat} {n : Nd} (hn : l[i]? = some n) (h0 : nodeF n = 0) (S : Stk l st i) (h : popN n st = some s) : Stk l ((i : Int) :: s) (i + 1) := by
  have key : ∀ {f : Nat} {s : List Int}, Stk l s f → Blk l f (i + 1) → Stk l ((i : Int) :: s) (i + 1) := by
    intro f s S B
    have := Stk.push S B
    rw [show ((i + 1 : Nat) : Int) - 1 = i by omega] at this
    exact this
  unfold popN at h
  rcases arI_range (nodeF_ar h0) with h1 | h1 | h1
  · rw [if_pos h1] at h
    cases h
    exact key S (.leaf hn h1)
  · rw [if_neg (by omega), if_pos h1] at h
    cases S with
    | nil => cases h
    | push S B =>
      simp only at h
      split at h
      · rename_i hx
        cases h
        exact key S (.one B hn h1 hx.symm)
      · cases h
  · rw [if_neg (by omega), if_neg (by omega)] at h
    cases S with
    | nil => cases h
    | push S B =>
      cases S with
      | nil => cases h
      | push S B' =>
        simp only at h
        split at h
        · rename_i hx
          cases h
          exact key S (.two B' B hn h1 hx.1.symm hx.2.symm)
        · cases h
theorem chkGo_ok (l : List Nd) : ∀ (r : List Nd) (st : List Int) (i : Nat), l.drop i = r → i ≤ l.length → Stk l st i → chkGo st i r = 0 → (∀ n ∈ r, nodeF n = 0) ∧ ∃ z, Stk l [z] l.length
  | [], st, i, hr, hi, S, h => by
    have : i = l.length := by
      have := congrArg List.length hr
      simp at this
      omega
    subst this
    rw [chkGo] at h
    split at h
    · rename_i h1
      match st, h1 with
      | [z], _ => exact ⟨by simp, z, S⟩
    · cases h
  | n :: r, st, i, hr, hi, S, h => by
    have hlt : i < l.length := by
      have := congrArg List.length hr
      simp at this
      omega
    have hn : l[i]? = some n := by
      have := congrArg List.head? hr
      rw [List.head?_drop] at this
      exact this
    have hr' : l.drop (i + 1) = r := by
      rw [← List.drop_drop, hr]; rfl
    rw [chkGo] at h
    split at h
    · rename_i h1; exact absurd h h1
    · rename_i h1
      have h0 : nodeF n = 0 := by simpa using h1
      split at h
      · cases h
      · rename_i s hs
        obtain ⟨q1, q2⟩ := chkGo_ok l r _ (i + 1) hr' hlt (popN_stk hn h0 S hs) h
        refine ⟨fun m hm => ?_, q2⟩
        rcases List.mem_cons.1 hm with rfl | hm
        · exact h0
        · exact q1 m hm
theorem stk_one {l : List Nd} {z : Int} {e : Nat} (S : Stk l [z] e) : Blk l 0 e := by
  cases S with
  | push S B =>
    cases S with
    | nil => exact B
/-- An expression that may be. -/
structure OkE (l : List Nd) : Prop where
  n : ∀ n ∈ l, nodeF n = 0
  b : Blk l 0 l.length
theorem chkGo_okE {l : List Nd} (h : chkGo [] 0 l = 0) : OkE l := by
  obtain ⟨h1, z, h2⟩ := chkGo_ok l l [] 0 rfl (Nat.zero_le _) .nil h
  exact ⟨h1, stk_one h2⟩
theorem exprF_ok {l : List Nd} (h : exprF l = 0) : OkE l ∧ l.length ≤ 40 := by
  unfold exprF at h
  split at h
  · cases h
  · exact ⟨chkGo_okE h, by omega⟩
theorem OkE.pos {l : List Nd} (O : OkE l) : 0 < l.length := O.b.lt.1

/-- Each node ends an expression. -/
theorem Blk.sub {l : List Nd} {f e : Nat} (B : Blk l f e) : ∀ i, f ≤ i → i < e → ∃ g, f ≤ g ∧ Blk l g (i + 1) := by
  induction B with
  | @leaf j n h h0 => intro i h1 h2; obtain rfl : i = j := by omega
                      exact ⟨i, Nat.le_refl _, .leaf h h0⟩
  | @one f j n B h h0 hx ih =>
    intro i h1 h2
    by_cases hij : i = j
    · subst hij; exact ⟨f, Nat.le_refl _, .one B h h0 hx⟩
    · exact ih i h1 (by omega)
  | @two f g j n B B' h h0 hx hy ih1 ih2 =>
    intro i h1 h2
    have := B.lt
    by_cases hij : i = j
    · subst hij; exact ⟨f, Nat.le_refl _, .two B B' h h0 hx hy⟩
    · by_cases hg : i < g
      · exact ih1 i h1 hg
      · obtain ⟨k, hk, hb⟩ := ih2 i (by omega) (by omega)
        exact ⟨k, by omega, hb⟩
/-- What a node looks at stands ahead of it. -/
structure WfN (i : Nat) (n : Nd) : Prop where
  a : 0 ≤ arI n.op
  f : n.op = 2 → 0 ≤ n.n ∧ n.n ≤ 3
  x : 1 ≤ arI n.op → 0 ≤ n.x ∧ n.x < i
  y : 2 ≤ arI n.op → 0 ≤ n.y ∧ n.y < i
def WfL (l : List Nd) : Prop := ∀ (i : Nat) (n : Nd), l[i]? = some n → WfN i n
theorem nodeF_f {n : Nd} (h : nodeF n = 0) (h2 : n.op = 2) : 0 ≤ n.n ∧ n.n ≤ 3 := by
  unfold nodeF at h
  split at h
  · cases h
  · split at h
    · cases h
    · split at h
      · cases h
      · omega
theorem OkE.wf {l : List Nd} (O : OkE l) : WfL l := by
  intro i n hn
  have hlt := (List.getElem?_eq_some_iff.1 hn).1
  have h0 := O.n n (List.mem_of_getElem? hn)
  obtain ⟨g, _, B⟩ := O.b.sub i (Nat.zero_le _) hlt
  refine ⟨nodeF_ar h0, nodeF_f h0, fun h1 => ?_, fun h1 => ?_⟩
  · cases B with
    | leaf h ha => rw [hn] at h; cases h; omega
    | one B h ha hx => rw [hn] at h; cases h; have := B.lt; omega
    | two B B' h ha hx hy => rw [hn] at h; cases h; have := B.lt; have := B'.lt; omega
  · cases B with
    | leaf h ha => rw [hn] at h; cases h; omega
    | one B h ha hx => rw [hn] at h; cases h; omega
    | two B B' h ha hx hy => rw [hn] at h; cases h; have := B.lt; have := B'.lt; omega

/-- A node whose own stand elsewhere. -/
def shN (d : Int) (n : Nd) : Nd := { n with x := if 0 < arI n.op then n.x + d else n.x, y := if 1 < arI n.op then n.y + d else n.y }
theorem shN_op (d : Int) (n : Nd) : (shN d n).op = n.op := rfl
theorem shN_0 (n : Nd) : shN 0 n = n := by
  unfold shN
  simp
theorem shN_F {d : Int} {n : Nd} (h : nodeF n = 0) : nodeF (shN d n) = 0 := by
  have ha := nodeF_ar h
  have hy : (arI n.op < 2 ∧ (shN d n).y ≠ 0) ↔ (arI n.op < 2 ∧ n.y ≠ 0) := by
    unfold shN
    simp only
    constructor <;> (rintro ⟨h1, h2⟩; rw [if_neg (by omega)] at *; exact ⟨h1, h2⟩)
  have hx : (arI n.op < 1 ∧ (shN d n).x ≠ 0) ↔ (arI n.op < 1 ∧ n.x ≠ 0) := by
    unfold shN
    simp only
    constructor <;> (rintro ⟨h1, h2⟩; rw [if_neg (by omega)] at *; exact ⟨h1, h2⟩)
  have e : nodeF (shN d n) = nodeF n := by
    unfold nodeF
    rw [shN_op]
    simp only [hx, hy]
    rfl
  rw [e]; exact h
def seg (l : List Nd) (f e : Nat) : List Nd := (l.drop f).take (e - f)
theorem seg_snoc {l : List Nd} {f i : Nat} {n : Nd} (hf : f ≤ i) (h : l[i]? = some n) : seg l f (i + 1) = seg l f i ++ [n] := by
  unfold seg
  rw [show i + 1 - f = (i - f) + 1 by omega, List.take_add_one, List.getElem?_drop, show f + (i - f) = i by omega, h]
  rfl
theorem seg_nil {l : List Nd} {f : Nat} : seg l f f = [] := by unfold seg; simp
theorem seg_app {l : List Nd} {f g e : Nat} (h1 : f ≤ g) (h2 : g ≤ e) : seg l f e = seg l f g ++ seg l g e := by
  unfold seg
  rw [show e - f = (g - f) + (e - g) by omega, List.take_add, List.drop_drop, show f + (g - f) = g by omega]
theorem seg_all (l : List Nd) : seg l 0 l.length = l := by unfold seg; simp
theorem Blk.seg_mem {l : List Nd} {f e : Nat} : ∀ n ∈ seg l f e, n ∈ l := fun n hn => List.mem_of_mem_drop (List.mem_of_mem_take hn)
/-- An expression, elsewhere: it is one there. -/
theorem Blk.chk {l : List Nd} (hN : ∀ n ∈ l, nodeF n = 0) {f e : Nat} (B : Blk l f e) : ∀ (st : List Int) (i : Nat) (r : List Nd),
    chkGo st i ((seg l f e).map (shN ((i : Int) - f)) ++ r) = chkGo ((((i + (e - f) : Nat) : Int) - 1) :: st) (i + (e - f)) r := by
  induction B with
  | @leaf j n h h0 =>
    intro st i r
    rw [seg_snoc (Nat.le_refl _) h, seg_nil]
    simp only [List.nil_append, List.map_cons, List.map_nil, List.cons_append]
    rw [chkGo, if_neg (by simp [shN_F (hN n (List.mem_of_getElem? h))])]
    unfold popN
    rw [shN_op, if_pos h0]
    simp only
    rw [show j + 1 - j = 1 by omega, show ((i + 1 : Nat) : Int) - 1 = i by omega]
  | @one f j n B h h0 hx ih =>
    intro st i r
    have hlt := B.lt
    rw [seg_snoc (by omega) h, List.map_append, List.append_assoc, ih]
    simp only [List.map_cons, List.map_nil, List.cons_append, List.nil_append]
    rw [chkGo, if_neg (by simp [shN_F (hN n (List.mem_of_getElem? h))])]
    unfold popN
    rw [shN_op, if_neg (by omega), if_pos h0]
    have e1 : (((i + (j - f) : Nat) : Int) - 1) = (shN ((i : Int) - f) n).x := by
      unfold shN
      simp only
      rw [if_pos (by omega), hx]
      omega
    simp only
    rw [if_pos e1, show j + 1 - f = (j - f) + 1 by omega]
    simp only
    rw [show ((i + (j - f + 1) : Nat) : Int) - 1 = ((i + (j - f) : Nat) : Int) by omega, ← Nat.add_assoc]
  | @two f g j n B B' h h0 hx hy ih1 ih2 =>
    intro st i r
    have hlt := B.lt
    have hlt' := B'.lt
    rw [seg_snoc (by omega) h, seg_app (g := g) (by omega) (by omega), List.map_append, List.map_append, List.append_assoc, List.append_assoc, ih1]
    have e0 : ((i : Int) - f) = (((i + (g - f) : Nat) : Int) - g) := by omega
    have e00 : (seg l g j).map (shN ((i : Int) - f)) = (seg l g j).map (shN (((i + (g - f) : Nat) : Int) - g)) := by rw [e0]
    rw [e00, ih2]
    simp only [List.map_cons, List.map_nil, List.cons_append, List.nil_append]
    rw [chkGo, if_neg (by simp [shN_F (hN n (List.mem_of_getElem? h))])]
    unfold popN
    rw [shN_op, if_neg (by omega), if_neg (by omega)]
    have e1 : (((i + (g - f) : Nat) : Int) - 1) = (shN ((i : Int) - f) n).x := by
      unfold shN
      simp only
      rw [if_pos (by omega), hx]
      omega
    have e2 : (((i + (g - f) + (j - g) : Nat) : Int) - 1) = (shN ((i : Int) - f) n).y := by
      unfold shN
      simp only
      rw [if_pos (by omega), hy]
      omega
    simp only
    rw [if_pos ⟨e1, e2⟩]
    simp only
    rw [show i + (g - f) + (j - g) + 1 = i + (j + 1 - f) by omega, show ((i + (g - f) + (j - g) : Nat) : Int) = ((i + (j + 1 - f) : Nat) : Int) - 1 by omega]
def cutL (l : List Nd) (f e : Nat) : List Nd := (seg l f e).map (shN (-(f : Int)))
theorem cutL_chk {l : List Nd} (hN : ∀ n ∈ l, nodeF n = 0) {f e : Nat} (B : Blk l f e) : chkGo [] 0 (cutL l f e) = 0 := by
  have := B.chk hN [] 0 []
  rw [List.append_nil, show ((0 : Nat) : Int) - f = -(f : Int) by omega] at this
  unfold cutL
  rw [this]
  rfl
theorem cutL_length {l : List Nd} {f e : Nat} (B : Blk l f e) : (cutL l f e).length = e - f := by
  have := B.lt
  unfold cutL seg
  rw [List.length_map, List.length_take, List.length_drop]
  omega
theorem cutL_ok {l : List Nd} (hN : ∀ n ∈ l, nodeF n = 0) (hl : l.length ≤ 40) {f e : Nat} (B : Blk l f e) : exprF (cutL l f e) = 0 := by
  have := B.lt
  unfold exprF
  rw [if_neg (by rw [cutL_length B]; omega)]
  exact cutL_chk hN B
def joinL (op : Int) (l m : List Nd) : List Nd := l ++ m.map (shN l.length) ++ [⟨op, (l.length : Int) - 1, if 1 < arI op then ((l.length + m.length : Nat) : Int) - 1 else 0, 0, (0, 0)⟩]
theorem joinL_length (op : Int) (l m : List Nd) : (joinL op l m).length = l.length + m.length + 1 := by simp [joinL]; omega
theorem OkE.chk {l : List Nd} (O : OkE l) (st : List Int) (i : Nat) (r : List Nd) : chkGo st i (l.map (shN (i : Int)) ++ r) = chkGo ((((i + l.length : Nat) : Int) - 1) :: st) (i + l.length) r := by
  have := O.b.chk O.n st i r
  rw [seg_all, Nat.sub_zero, show ((i : Int) - (0 : Nat)) = i by omega] at this
  exact this
theorem map_sh0 (l : List Nd) : l.map (shN ((0 : Nat) : Int)) = l := by
  have : shN ((0 : Nat) : Int) = id := by funext n; exact shN_0 n
  rw [this, List.map_id]
theorem goodV0 : goodV (0, 0) := by unfold goodV; simp
theorem joinL_chk2 {op : Int} (ho : arI op = 2) {l m : List Nd} (O : OkE l) (O' : OkE m) : chkGo [] 0 (joinL op l m) = 0 := by
  have h1 := O.chk [] 0 (m.map (shN (l.length : Int)) ++ [⟨op, (l.length : Int) - 1, if 1 < arI op then ((l.length + m.length : Nat) : Int) - 1 else 0, 0, (0, 0)⟩])
  rw [map_sh0, Nat.zero_add] at h1
  unfold joinL
  rw [List.append_assoc, h1, O'.chk]
  have hF : nodeF ⟨op, (l.length : Int) - 1, if 1 < arI op then ((l.length + m.length : Nat) : Int) - 1 else 0, 0, (0, 0)⟩ = 0 := by
    unfold nodeF
    simp only
    rw [if_neg (by omega), if_neg (by rintro (⟨_, h⟩ | ⟨_, h⟩ | ⟨h, _⟩ | ⟨h, _⟩) <;> first | exact h rfl | omega), if_neg (by omega), if_neg (by simp [goodV0])]
  have hp : popN ⟨op, (l.length : Int) - 1, if 1 < arI op then ((l.length + m.length : Nat) : Int) - 1 else 0, 0, (0, 0)⟩ [((l.length + m.length : Nat) : Int) - 1, (l.length : Int) - 1] = some [] := by
    unfold popN
    rw [if_neg (by omega : ¬ arI op = 0), if_neg (by omega : ¬ arI op = 1)]
    exact if_pos ⟨rfl, by simp only; rw [if_pos (by omega)]⟩
  rw [chkGo, if_neg (fun h => h hF), hp]
  rfl
theorem joinL_chk1 {op : Int} (ho : arI op = 1) {l : List Nd} (O : OkE l) : chkGo [] 0 (joinL op l []) = 0 := by
  have h1 := O.chk [] 0 ([⟨op, (l.length : Int) - 1, if 1 < arI op then ((l.length + ([] : List Nd).length : Nat) : Int) - 1 else 0, 0, (0, 0)⟩])
  rw [map_sh0, Nat.zero_add] at h1
  unfold joinL
  rw [List.map_nil, List.append_nil, h1]
  have hF : nodeF ⟨op, (l.length : Int) - 1, if 1 < arI op then ((l.length + ([] : List Nd).length : Nat) : Int) - 1 else 0, 0, (0, 0)⟩ = 0 := by
    unfold nodeF
    simp only
    rw [if_neg (by omega), if_neg (by rw [if_neg (by omega)]; rintro (⟨_, h⟩ | ⟨_, h⟩ | ⟨_, h⟩ | ⟨h, _⟩) <;> first | exact h rfl | omega), if_neg (by omega), if_neg (by simp [goodV0])]
  have hp : popN ⟨op, (l.length : Int) - 1, if 1 < arI op then ((l.length + ([] : List Nd).length : Nat) : Int) - 1 else 0, 0, (0, 0)⟩ [(l.length : Int) - 1] = some [] := by
    unfold popN
    rw [if_neg (by omega : ¬ arI op = 0), if_pos ho]
    exact if_pos rfl
  rw [chkGo, if_neg (fun h => h hF), hp]
  rfl
end Go.Proofs.Ytgonnpleihbklaa
