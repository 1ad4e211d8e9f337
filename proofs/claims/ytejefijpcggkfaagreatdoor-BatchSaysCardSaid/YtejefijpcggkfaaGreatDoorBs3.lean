/-
  Laws and contracts on which the statement's proof stands, part 3. Conditions: those stated at each.
-/
import Derived.Shelf.SlSortCmp.NoneTotal
import Derived.Shelf.Small.Bits
import Derived.Shelf.Small.Strs
import Derived.Shelf.Small.Wraps
import Derived.Shelf.Strconv.Atoi
import Derived.Shelf.Strconv.Itoa0
import Derived.Shelf.Strconv.Itoa1
import Derived.Shelf.LaysM
import Derived.Shelf.Strconv.Itoa2
import Derived.Shelf.Strconv.Itoa3
import Derived.Shelf.Strconv.AtoiErrFast
import Derived.Shelf.Strconv.ParseIntEmpty
import Derived.Shelf.Strconv.AtoiFail
import Derived.Shelf.Strconv.Clone
import Derived.Shelf.Strconv.SyntaxError
import Derived.Shelf.LaysC
import Derived.Shelf.Strconv.ToError
import Derived.Shelf.Strconv.AtoiErr
import Derived.Shelf.Strconv.ErrVar
import Derived.Shelf.Strconv.Lower
import Derived.Shelf.Strconv.ParseUint10
import Derived.Shelf.Strconv.ParseUint10Empty
import Derived.Shelf.Strconv.ParseUint10Any
import Derived.Shelf.Strconv.ParseInt10
import Derived.Shelf.Strconv.AtoiLong
import Derived.Shelf.Strconv.AtoiInnerAll
import Derived.Shelf.Strconv.RangeError
import Derived.Shelf.Strconv.ToErrorRange
import Derived.Shelf.Strconv.AtoiAll
import Derived.Shelf.Strconv.ErrVarAll
import Derived.Shelf.Strings.Search1
import Derived.Test.YtejefijpcggkfaaGreatDoorProg
import Derived.WalkKit
import Derived.Deep.RegionWith
import Derived.Lib.ItoaNum
import Derived.Below
import Derived.Lib.AtoiErrMem
import Derived.Lib.ConvBytes
import Derived.MapKept
import Derived.Lib.Join
import Derived.Test.YtejefijpcggkfaaGreatDoorBs2
namespace Go.Proofs.YtejefijpcggkfaaGreatDoor
open Go Go.Vc
set_option linter.unusedVariables false
abbrev Vl := Int × Int
abbrev PK := Int × Vl
abbrev Ad := PK × List Vl
def asksQ (q : Qy) (e : EvL) : Bool := decide (q.wh = []) || decide (valE e q.wh = truthV true)
def keyQ (q : Qy) (e : EvL) : Vl := if q.by_ = [] then (0, 0) else valE e q.by_
def valsQ (q : Qy) (e : EvL) : List Vl := q.aggs.map fun a => if a.1 = 1 then (0, 0) else valE e a.2
def lateQ (q : Qy) (far s : Int) : Bool := decide (0 ≤ far) && decide (s + q.size + q.late ≤ far - q.delay)
def farL (l : List EvL) : Int := l.foldl (fun m e => max m e.1) (-1)
def addS (q : Qy) (far : Int) (e : EvL) (ss : List Int) : List Ad := (ss.filter fun s => !lateQ q far s).map fun s => ((s, keyQ q e), valsQ q e)
def lateS (q : Qy) (far : Int) (ss : List Int) : Nat := (ss.filter (lateQ q far)).length
def addE (q : Qy) (far : Int) (e : EvL) : List Ad := if asksQ q e then addS q far e (startsOf e.1 q.size q.slide) else []
def lateE (q : Qy) (far : Int) (e : EvL) : Nat := if asksQ q e then lateS q far (startsOf e.1 q.size q.slide) else 0
def addP (q : Qy) : Int → List EvL → List Ad
  | _, [] => []
  | far, e :: l => addE q far e ++ addP q (max far e.1) l
def lateP (q : Qy) : Int → List EvL → Nat
  | _, [] => 0
  | far, e :: l => lateE q far e + lateP q (max far e.1) l
def addA (q : Qy) (ps : List (List EvL)) : List Ad := ps.flatMap (addP q (-1))
def lateA (q : Qy) (ps : List (List EvL)) : Nat := (ps.map (lateP q (-1))).sum
theorem addP_snoc (q : Qy) : ∀ (l : List EvL) (far : Int) (e : EvL), addP q far (l ++ [e]) = addP q far l ++ addE q (l.foldl (fun m e => max m e.1) far) e
  | [], far, e => by simp [addP]
  | x :: l, far, e => by rw [List.cons_append, addP, addP_snoc q l, addP, List.append_assoc]; rfl
theorem lateP_snoc (q : Qy) : ∀ (l : List EvL) (far : Int) (e : EvL), lateP q far (l ++ [e]) = lateP q far l + lateE q (l.foldl (fun m e => max m e.1) far) e
  | [], far, e => by simp [lateP]
  | x :: l, far, e => by rw [List.cons_append, lateP, lateP_snoc q l, lateP, Nat.add_assoc]; rfl
theorem addA_snoc (q : Qy) (ps : List (List EvL)) (p : List EvL) : addA q (ps ++ [p]) = addA q ps ++ addP q (-1) p := by simp [addA]
theorem lateA_snoc (q : Qy) (ps : List (List EvL)) (p : List EvL) : lateA q (ps ++ [p]) = lateA q ps + lateP q (-1) p := by simp [lateA]
theorem addS_snoc (q : Qy) (far : Int) (e : EvL) (ss : List Int) (s : Int) : addS q far e (ss ++ [s]) = addS q far e ss ++ if lateQ q far s then [] else [((s, keyQ q e), valsQ q e)] := by
  unfold addS
  rw [List.filter_append, List.map_append]
  cases h : lateQ q far s <;> simp [h]
theorem lateS_snoc (q : Qy) (far : Int) (ss : List Int) (s : Int) : lateS q far (ss ++ [s]) = lateS q far ss + if lateQ q far s then 1 else 0 := by
  unfold lateS
  rw [List.filter_append, List.length_append]
  cases h : lateQ q far s <;> simp [h]
def keysU (A : List Ad) : List PK := A.foldl (fun ks a => if a.1 ∈ ks then ks else ks ++ [a.1]) []
theorem keysU_snoc (A : List Ad) (a : Ad) : keysU (A ++ [a]) = if a.1 ∈ keysU A then keysU A else keysU A ++ [a.1] := by
  unfold keysU
  rw [List.foldl_append]
  rfl
def rowsOf (A : List Ad) (k : PK) : List (List Vl) := (A.filter fun a => a.1 = k).map (·.2)
theorem rowsOf_snoc (A : List Ad) (a : Ad) (k : PK) : rowsOf (A ++ [a]) k = rowsOf A k ++ if a.1 = k then [a.2] else [] := by
  unfold rowsOf
  rw [List.filter_append, List.map_append]
  by_cases h : a.1 = k <;> simp [h]
theorem snocInd {α : Type} {P : List α → Prop} (h0 : P []) (h1 : ∀ l x, P l → P (l ++ [x])) (l : List α) : P l := by
  have key : ∀ l : List α, P l.reverse := by
    intro l
    induction l with
    | nil => exact h0
    | cons x l ih => rw [List.reverse_cons]; exact h1 _ _ ih
  have := key l.reverse
  rwa [List.reverse_reverse] at this
theorem keysU_nodup (A : List Ad) : (keysU A).Nodup := by
  induction A using snocInd with
  | h0 => exact List.nodup_nil
  | h1 A a ih =>
    rw [keysU_snoc]
    split
    · exact ih
    · rename_i h
      refine List.nodup_append.2 ⟨ih, by simp, ?_⟩
      intro x hx y hy
      rw [List.mem_singleton.1 hy]
      intro e
      exact h (e ▸ hx)
theorem keysU_mem (A : List Ad) (k : PK) : k ∈ keysU A ↔ ∃ a ∈ A, a.1 = k := by
  induction A using snocInd with
  | h0 => simp [keysU]
  | h1 A a ih =>
    rw [keysU_snoc]
    by_cases h : a.1 ∈ keysU A
    · rw [if_pos h, ih]
      constructor
      · rintro ⟨x, hx, e⟩; exact ⟨x, List.mem_append_left _ hx, e⟩
      · rintro ⟨x, hx, e⟩
        rcases List.mem_append.1 hx with h2 | h2
        · exact ⟨x, h2, e⟩
        · rw [List.mem_singleton.1 h2] at e
          rw [e] at h
          exact ih.1 h
    · rw [if_neg h, List.mem_append, ih]
      constructor
      · rintro (⟨x, hx, e⟩ | h2)
        · exact ⟨x, List.mem_append_left _ hx, e⟩
        · exact ⟨a, by simp, (List.mem_singleton.1 h2).symm⟩
      · rintro ⟨x, hx, e⟩
        rcases List.mem_append.1 hx with h2 | h2
        · exact .inl ⟨x, h2, e⟩
        · rw [List.mem_singleton.1 h2] at e; exact .inr (by rw [e]; simp)
theorem rowsOf_new {A : List Ad} {k : PK} (h : k ∉ keysU A) : rowsOf A k = [] := by
  unfold rowsOf
  rw [List.map_eq_nil_iff, List.filter_eq_nil_iff]
  intro a ha e
  exact h ((keysU_mem A k).2 ⟨a, ha, by simpa using e⟩)
def aheadK (a b : PK) : Prop := a.1 < b.1 ∨ (a.1 = b.1 ∧ (a.2.1 < b.2.1 ∨ (a.2.1 = b.2.1 ∧ a.2.2 < b.2.2)))
instance (a b : PK) : Decidable (aheadK a b) := by unfold aheadK; infer_instance
theorem aheadK_irr (a : PK) : ¬ aheadK a a := by unfold aheadK; omega
theorem aheadK_trans {a b c : PK} (h : aheadK a b) (h2 : aheadK b c) : aheadK a c := by unfold aheadK at *; omega
theorem aheadK_tri {a b : PK} (h : ¬ aheadK a b) (h2 : ¬ aheadK b a) : a = b := by
  obtain ⟨a1, a2, a3⟩ := a
  obtain ⟨b1, b2, b3⟩ := b
  unfold aheadK at h h2
  simp only at h h2
  have e1 : a1 = b1 := by omega
  have e2 : a2 = b2 := by omega
  have e3 : a3 = b3 := by omega
  rw [e1, e2, e3]
def insK (k : PK) : List PK → List PK
  | [] => [k]
  | x :: l => if aheadK x k then x :: insK k l else if x = k then x :: l else k :: x :: l
def keysS (A : List Ad) : List PK := A.foldl (fun ks a => insK a.1 ks) []
theorem keysS_snoc (A : List Ad) (a : Ad) : keysS (A ++ [a]) = insK a.1 (keysS A) := by
  unfold keysS
  rw [List.foldl_append]
  rfl
theorem insK_mem (k x : PK) : ∀ l, x ∈ insK k l ↔ x = k ∨ x ∈ l
  | [] => by simp [insK]
  | y :: l => by
    rw [insK]
    split
    · rw [List.mem_cons, insK_mem k x l, List.mem_cons]
      constructor
      · rintro (h | h | h)
        · exact .inr (.inl h)
        · exact .inl h
        · exact .inr (.inr h)
      · rintro (h | h | h)
        · exact .inr (.inl h)
        · exact .inl h
        · exact .inr (.inr h)
    · split
      · rename_i h1 h2
        subst h2
        simp
      · rw [List.mem_cons]
theorem insK_sorted (k : PK) : ∀ {l : List PK}, l.Pairwise aheadK → (insK k l).Pairwise aheadK
  | [], _ => by simp [insK]
  | y :: l, h => by
    obtain ⟨h1, h2⟩ := List.pairwise_cons.1 h
    rw [insK]
    split
    · rename_i hy
      refine List.pairwise_cons.2 ⟨fun x hx => ?_, insK_sorted k h2⟩
      rcases (insK_mem k x l).1 hx with e | hx
      · rw [e]; exact hy
      · exact h1 x hx
    · split
      · exact h
      · rename_i h3 h4
        have hk : aheadK k y := Decidable.byContradiction fun q => h4 (aheadK_tri h3 q)
        refine List.pairwise_cons.2 ⟨fun x hx => ?_, h⟩
        rcases List.mem_cons.1 hx with rfl | hx
        · exact hk
        · exact aheadK_trans hk (h1 x hx)
theorem keysS_sorted (A : List Ad) : (keysS A).Pairwise aheadK := by
  induction A using snocInd with
  | h0 => exact List.Pairwise.nil
  | h1 A a ih => rw [keysS_snoc]; exact insK_sorted _ ih
theorem keysS_mem (A : List Ad) (k : PK) : k ∈ keysS A ↔ ∃ a ∈ A, a.1 = k := by
  induction A using snocInd with
  | h0 => simp [keysS]
  | h1 A a ih =>
    rw [keysS_snoc, insK_mem, ih]
    constructor
    · rintro (e | ⟨x, hx, e⟩)
      · exact ⟨a, by simp, e.symm⟩
      · exact ⟨x, List.mem_append_left _ hx, e⟩
    · rintro ⟨x, hx, e⟩
      rcases List.mem_append.1 hx with h2 | h2
      · exact .inr ⟨x, h2, e⟩
      · rw [List.mem_singleton.1 h2] at e; exact .inl e.symm
theorem sorted_nodup {l : List PK} (h : l.Pairwise aheadK) : l.Nodup := by
  unfold List.Nodup
  refine List.Pairwise.imp (fun {a b} (hab : aheadK a b) => ?_) h
  intro e
  rw [e] at hab
  exact aheadK_irr b hab
theorem keys_perm (A : List Ad) : (keysS A).Perm (keysU A) := (List.perm_ext_iff_of_nodup (sorted_nodup (keysS_sorted A)) (keysU_nodup A)).2 fun k => by rw [keysS_mem, keysU_mem]
theorem sorted_eq {A : List Ad} {l : List PK} (p : l.Perm (keysU A)) (h : l.Pairwise fun x y => ¬ aheadK y x) : l = keysS A := by
  have p2 := p.trans (keys_perm A).symm
  have h2 : (keysS A).Pairwise fun x y => ¬ aheadK y x := (keysS_sorted A).imp fun {a b} hab q => aheadK_irr a (aheadK_trans hab q)
  exact p2.eq_of_pairwise (fun a b _ _ h1 h2 => aheadK_tri h2 h1) h h2
abbrev AcS := Int × (Int × Int × Int)
def accP (acs : List AcS) (r : List Vl) : List AcS := List.zipWith (fun a v => (a.1, gStep a.1 a.2 v)) acs r
def acc0 (ks : List Int) : List AcS := ks.map fun k => (k, (0, 0, 0))
def accsOf (ks : List Int) (rs : List (List Vl)) : List AcS := rs.foldl accP (acc0 ks)
def outV (ks : List Int) (rs : List (List Vl)) : List Vl := (accsOf ks rs).map fun a => gVal a.1 a.2
def colP (cs : List (List Vl)) (r : List Vl) : List (List Vl) := List.zipWith (fun c v => c ++ [v]) cs r
def colsOf (n : Nat) (rs : List (List Vl)) : List (List Vl) := rs.foldl colP (List.replicate n [])
def accF (k : Int) (c : List Vl) : AcS := (k, c.foldl (gStep k) (0, 0, 0))
theorem accsOf_snoc (ks : List Int) (rs : List (List Vl)) (r : List Vl) : accsOf ks (rs ++ [r]) = accP (accsOf ks rs) r := by unfold accsOf; rw [List.foldl_append]; rfl
theorem colsOf_snoc (n : Nat) (rs : List (List Vl)) (r : List Vl) : colsOf n (rs ++ [r]) = colP (colsOf n rs) r := by unfold colsOf; rw [List.foldl_append]; rfl
theorem colP_len {cs : List (List Vl)} {r : List Vl} (h : r.length = cs.length) : (colP cs r).length = cs.length := by unfold colP; rw [List.length_zipWith]; omega
theorem colsOf_len {n : Nat} {rs : List (List Vl)} (h : ∀ r ∈ rs, r.length = n) : (colsOf n rs).length = n := by
  induction rs using snocInd with
  | h0 => simp [colsOf]
  | h1 rs r ih =>
    have h2 := ih fun x hx => h x (List.mem_append_left _ hx)
    rw [colsOf_snoc, colP_len (by rw [h2]; exact h r (by simp)), h2]
theorem acc_cols (ks : List Int) {rs : List (List Vl)} (h : ∀ r ∈ rs, r.length = ks.length) : accsOf ks rs = List.zipWith accF ks (colsOf ks.length rs) := by
  induction rs using snocInd with
  | h0 =>
    show acc0 ks = List.zipWith accF ks (List.replicate ks.length [])
    induction ks with
    | nil => rfl
    | cons k ks ih =>
      simp only [acc0, List.map_cons, List.length_cons, List.replicate_succ, List.zipWith_cons_cons]
      rw [show List.map (fun k => ((k, (0, 0, 0)) : AcS)) ks = acc0 ks from rfl, ih (fun r hr => by cases hr)]
      rfl
  | h1 rs r ih =>
    have h2 := ih fun x hx => h x (List.mem_append_left _ hx)
    have hl := colsOf_len (n := ks.length) (rs := rs) fun x hx => h x (List.mem_append_left _ hx)
    have hr := h r (by simp)
    rw [accsOf_snoc, colsOf_snoc, h2]
    generalize colsOf ks.length rs = cs at hl
    clear ih h2 h
    unfold accP colP
    induction ks generalizing cs r with
    | nil => rfl
    | cons k ks ih =>
      match cs, r, hl, hr with
      | c :: cs, v :: r, hl, hr =>
        simp only [List.zipWith_cons_cons, List.length_cons, Nat.add_right_cancel_iff] at hl hr ⊢
        rw [ih r (by omega) cs (by omega)]
        congr 1
        unfold accF
        rw [List.foldl_append]
        rfl
def kindsQ (q : Qy) : List Int := q.aggs.map (·.1)
def ansA (q : Qy) (A : List Ad) : List (PK × List Vl) := (keysS A).map fun k => (k, outV (kindsQ q) (rowsOf A k))
def ansQ (q : Qy) (ps : List (List EvL)) : List (PK × List Vl) := ansA q (addA q ps)
theorem addS_len {q : Qy} {far : Int} {e : EvL} {ss : List Int} : ∀ a ∈ addS q far e ss, a.2.length = q.aggs.length := by
  intro a ha
  unfold addS at ha
  obtain ⟨s, _, rfl⟩ := List.mem_map.1 ha
  simp [valsQ]
end Go.Proofs.YtejefijpcggkfaaGreatDoor
namespace Go.Proofs
open Go.Shelf
def Tryz.lays128_ren : Go.Shelf.Ren := ⟨fun | 128 => 98 | n => n, fun | 51 => 150 | 3 => 3 | 4 => 4 | 46 => 113 | 5 => 5 | 9 => 9 | n => n, fun | n => n⟩
def Tryz.lays125_ren : Go.Shelf.Ren := ⟨fun | 125 => 59 | 128 => 98 | 129 => 99 | n => n, fun | 46 => 113 | 3 => 3 | 51 => 150 | 53 => 152 | 4 => 4 | 5 => 5 | 9 => 9 | n => n, fun | n => n⟩
def Tryz.lays137_ren : Go.Shelf.Ren := ⟨fun | 137 => 104 | 217 => 124 | 266 => 139 | n => n, fun | 9 => 9 | 5 => 5 | 3 => 3 | n => n, fun | n => n⟩
open Go.RowKit in
def Tryz.lays215_ren : Go.Shelf.Ren := ⟨fun | 215 => 100 | n => n, fun | 3 => 3 | 4 => 4 | n => n, fun | n => n⟩
open Go.RowKit in
def Tryz.lays122_ren : Go.Shelf.Ren := ⟨fun | 122 => 61 | 215 => 100 | n => n, fun | 3 => 3 | 4 => 4 | n => n, fun | n => n⟩
open Go.RowKit in
def Tryz.lays244_ren : Go.Shelf.Ren := ⟨fun | 244 => 107 | 247 => 129 | 287 => 142 | 321 => 147 | 322 => 148 | n => n, fun | 9 => 9 | 3 => 3 | 75 => 42 | 4 => 4 | 5 => 5 | 167 => 176 | 37 => 177 | 0 => 0 | 85 => 178 | 2 => 2 | 53 => 152 | 175 => 189 | 46 => 113 | 21 => 21 | 80 => 132 | n => n, fun | n => n⟩
open Go.RowKit in
def Tryz.lays172_ren : Go.Shelf.Ren := ⟨fun | 172 => 74 | 244 => 107 | 245 => 108 | 247 => 129 | 279 => 130 | 280 => 131 | 281 => 132 | 282 => 133 | 287 => 142 | 316 => 143 | 171 => 145 | 205 => 144 | 321 => 147 | 322 => 148 | 243 => 149 | 246 => 151 | 283 => 153 | 284 => 154 | 285 => 155 | 286 => 156 | 129 => 99 | 317 => 158 | 318 => 159 | 319 => 160 | 320 => 161 | 337 => 162 | 338 => 163 | n => n, fun | 9 => 9 | 3 => 3 | 75 => 42 | 76 => 128 | 4 => 4 | 5 => 5 | 167 => 176 | 37 => 177 | 0 => 0 | 85 => 178 | 2 => 2 | 168 => 180 | 53 => 152 | 175 => 189 | 46 => 113 | 210 => 193 | 127 => 196 | 145 => 199 | 143 => 197 | 21 => 21 | 171 => 201 | 173 => 203 | 212 => 208 | 51 => 150 | 20 => 20 | 213 => 209 | 232 => 210 | 233 => 211 | 80 => 132 | n => n, fun | 15 => 1 | 16 => 2 | 17 => 5 | 18 => 6 | 19 => 7 | n => n⟩
open Go.RowKit in
def Tryz.lays129_ren : Go.Shelf.Ren := ⟨fun | 129 => 99 | n => n, fun | 53 => 152 | 3 => 3 | 4 => 4 | 46 => 113 | 5 => 5 | 9 => 9 | n => n, fun | n => n⟩
def Tryz.lays317_ren : Go.Shelf.Ren := ⟨fun | 317 => 158 | n => n, fun | 3 => 3 | 46 => 113 | n => n, fun | n => n⟩
open Go.Lib in
def Tryz.lays318_ren : Go.Shelf.Ren := ⟨fun | 318 => 159 | n => n, fun | 3 => 3 | 4 => 4 | n => n, fun | n => n⟩
open Go.Lib in
def Tryz.lays283_ren : Go.Shelf.Ren := ⟨fun | 283 => 153 | n => n, fun | 3 => 3 | 9 => 9 | 4 => 4 | n => n, fun | n => n⟩
open Go.Lib in
def Tryz.laysM284_ren : Go.Shelf.Ren := ⟨fun | 284 => 154 | 129 => 99 | 317 => 158 | 318 => 159 | n => n, fun | 53 => 152 | 3 => 3 | 212 => 208 | 0 => 0 | 4 => 4 | 46 => 113 | 5 => 5 | 9 => 9 | n => n, fun | 17 => 5 | n => n⟩
open Go.Lib in
def Tryz.lays285_ren : Go.Shelf.Ren := ⟨fun | 285 => 155 | n => n, fun | 37 => 177 | 53 => 152 | 3 => 3 | 4 => 4 | 51 => 150 | 9 => 9 | 5 => 5 | 0 => 0 | n => n, fun | n => n⟩
open Go.RowKit Go.Sort Go.Lib in
def Tryz.laysM246_ren : Go.Shelf.Ren := ⟨fun | 246 => 151 | 283 => 153 | 284 => 154 | 285 => 155 | 286 => 156 | 129 => 99 | 317 => 158 | 318 => 159 | 319 => 160 | 320 => 161 | 337 => 162 | 338 => 163 | n => n, fun | 2 => 2 | 3 => 3 | 9 => 9 | 4 => 4 | 171 => 201 | 0 => 0 | 53 => 152 | 37 => 177 | 5 => 5 | 173 => 203 | 212 => 208 | 51 => 150 | 20 => 20 | 213 => 209 | 46 => 113 | 232 => 210 | 233 => 211 | n => n, fun | 17 => 5 | 18 => 6 | 19 => 7 | n => n⟩
open Go.RowKit Go.Sort Go.Lib in
def Tryz.lays246_ren : Go.Shelf.Ren := ⟨fun | 246 => 151 | 283 => 153 | 284 => 154 | 285 => 155 | 286 => 156 | 129 => 99 | 317 => 158 | 318 => 159 | 319 => 160 | 320 => 161 | 337 => 162 | 338 => 163 | n => n, fun | 2 => 2 | 3 => 3 | 9 => 9 | 4 => 4 | 171 => 201 | 0 => 0 | 53 => 152 | 37 => 177 | 5 => 5 | 173 => 203 | 212 => 208 | 51 => 150 | 20 => 20 | 213 => 209 | 46 => 113 | 232 => 210 | 233 => 211 | n => n, fun | 17 => 5 | 18 => 6 | 19 => 7 | n => n⟩
open Go.RowKit Go.Sort Go.Lib in
def Tryz.laysM243_ren : Go.Shelf.Ren := ⟨fun | 243 => 149 | 246 => 151 | 283 => 153 | 284 => 154 | 285 => 155 | 286 => 156 | 129 => 99 | 317 => 158 | 318 => 159 | 319 => 160 | 320 => 161 | 337 => 162 | 338 => 163 | n => n, fun | 3 => 3 | 9 => 9 | 2 => 2 | 4 => 4 | 171 => 201 | 0 => 0 | 53 => 152 | 37 => 177 | 5 => 5 | 173 => 203 | 212 => 208 | 51 => 150 | 20 => 20 | 213 => 209 | 46 => 113 | 232 => 210 | 233 => 211 | n => n, fun | 17 => 5 | 18 => 6 | 19 => 7 | n => n⟩
open Go.RowKit Go.Sort Go.Lib in
def Tryz.lays243_ren : Go.Shelf.Ren := ⟨fun | 243 => 149 | 246 => 151 | 283 => 153 | 284 => 154 | 285 => 155 | 286 => 156 | 129 => 99 | 317 => 158 | 318 => 159 | 319 => 160 | 320 => 161 | 337 => 162 | 338 => 163 | n => n, fun | 3 => 3 | 9 => 9 | 2 => 2 | 4 => 4 | 171 => 201 | 0 => 0 | 53 => 152 | 37 => 177 | 5 => 5 | 173 => 203 | 212 => 208 | 51 => 150 | 20 => 20 | 213 => 209 | 46 => 113 | 232 => 210 | 233 => 211 | n => n, fun | 17 => 5 | 18 => 6 | 19 => 7 | n => n⟩
open Go.RowKit Go.Sort Go.Lib in
def Tryz.laysM171_ren : Go.Shelf.Ren := ⟨fun | 171 => 145 | 243 => 149 | 246 => 151 | 283 => 153 | 284 => 154 | 285 => 155 | 286 => 156 | 129 => 99 | 317 => 158 | 318 => 159 | 319 => 160 | 320 => 161 | 337 => 162 | 338 => 163 | n => n, fun | 3 => 3 | 9 => 9 | 2 => 2 | 4 => 4 | 171 => 201 | 0 => 0 | 53 => 152 | 37 => 177 | 5 => 5 | 173 => 203 | 212 => 208 | 51 => 150 | 20 => 20 | 213 => 209 | 46 => 113 | 232 => 210 | 233 => 211 | n => n, fun | 17 => 5 | 18 => 6 | 19 => 7 | n => n⟩
theorem Tryz.laysM171 : Go.Proofs.LaysM.n171 Tryz.prog Tryz.laysM171_ren := {
  mixed := by kernel_rfl
  f129 := Tryz.func99.trans (congrArg some (by kernel_rfl))
  f171 := Tryz.func145.trans (congrArg some (by kernel_rfl))
  f243 := Tryz.func149.trans (congrArg some (by kernel_rfl))
  f246 := Tryz.func151.trans (congrArg some (by kernel_rfl))
  f283 := Tryz.func153.trans (congrArg some (by kernel_rfl))
  f284 := Tryz.func154.trans (congrArg some (by kernel_rfl))
  f285 := Tryz.func155.trans (congrArg some (by kernel_rfl))
  f286 := Tryz.func156.trans (congrArg some (by kernel_rfl))
  f317 := Tryz.func158.trans (congrArg some (by kernel_rfl))
  f318 := Tryz.func159.trans (congrArg some (by kernel_rfl))
  f319 := Tryz.func160.trans (congrArg some (by kernel_rfl))
  f320 := Tryz.func161.trans (congrArg some (by kernel_rfl))
  f337 := Tryz.func162.trans (congrArg some (by kernel_rfl))
  f338 := Tryz.func163.trans (congrArg some (by kernel_rfl))
  t0 := Tryz.underlying0
  a0 := Tryz.isAgg0
  z0 := Tryz.sizeOf0
  v0 := Tryz.zeroValue0
  t2 := Tryz.underlying2
  a2 := Tryz.isAgg2
  z2 := Tryz.sizeOf2
  v2 := Tryz.zeroValue2
  t3 := Tryz.underlying3
  a3 := Tryz.isAgg3
  z3 := Tryz.sizeOf3
  v3 := Tryz.zeroValue3
  t4 := Tryz.underlying4
  a4 := Tryz.isAgg4
  z4 := Tryz.sizeOf4
  v4 := Tryz.zeroValue4
  t5 := Tryz.underlying5
  a5 := Tryz.isAgg5
  z5 := Tryz.sizeOf5
  v5 := Tryz.zeroValue5
  t9 := Tryz.underlying9
  a9 := Tryz.isAgg9
  z9 := Tryz.sizeOf9
  v9 := Tryz.zeroValue9
  t20 := Tryz.underlying20
  a20 := Tryz.isAgg20
  z20 := Tryz.sizeOf20
  v20 := Tryz.zeroValue20
  t37 := Tryz.underlying177
  a37 := Tryz.isAgg177
  z37 := Tryz.sizeOf177
  v37 := Tryz.zeroValue177
  t46 := Tryz.underlying113
  a46 := Tryz.isAgg113
  z46 := Tryz.sizeOf113
  v46 := Tryz.zeroValue113
  t51 := Tryz.underlying150
  a51 := Tryz.isAgg150
  z51 := Tryz.sizeOf150
  v51 := Tryz.zeroValue150
  t53 := Tryz.underlying152
  a53 := Tryz.isAgg152
  z53 := Tryz.sizeOf152
  v53 := Tryz.zeroValue152
  t171 := Tryz.underlying201
  a171 := Tryz.isAgg201
  z171 := Tryz.sizeOf201
  v171 := Tryz.zeroValue201
  t173 := Tryz.underlying203
  a173 := Tryz.isAgg203
  z173 := Tryz.sizeOf203
  v173 := Tryz.zeroValue203
  t212 := Tryz.underlying208
  a212 := Tryz.isAgg208
  z212 := Tryz.sizeOf208
  v212 := Tryz.zeroValue208
  t213 := Tryz.underlying209
  a213 := Tryz.isAgg209
  z213 := Tryz.sizeOf209
  t232 := Tryz.underlying210
  a232 := Tryz.isAgg210
  z232 := Tryz.sizeOf210
  v232 := Tryz.zeroValue210
  t233 := Tryz.underlying211
  a233 := Tryz.isAgg211
  z233 := Tryz.sizeOf211
  v233 := Tryz.zeroValue211
  g17 := by kernel_rfl
  g18 := by kernel_rfl
  g19 := by kernel_rfl
  i0 := by kernel_rfl
  i2 := by kernel_rfl
  i3 := by kernel_rfl
  i4 := by kernel_rfl
  i5 := by kernel_rfl
  i9 := by kernel_rfl
  i20 := by kernel_rfl
  i37 := by kernel_rfl
  i46 := by kernel_rfl
  i51 := by kernel_rfl
  i53 := by kernel_rfl
  i171 := by kernel_rfl
  i173 := by kernel_rfl
  i212 := by kernel_rfl
  i232 := by kernel_rfl
  i233 := by kernel_rfl
  m17 := by kernel_rfl
  m18 := by kernel_rfl
  m19 := by kernel_rfl }
open Go.RowKit Go.Sort Go.Lib in
theorem Tryz.strconv_Itoa (n : Int) (h0 : -9223372036854775808 ≤ n) (h1 : n ≤ 9223372036854775807) (w : World) (htab : Lib.TabIs Tryz.prog w "internal/strconv.uint64pow10" .u64 Lib.pow10Tab) :
    Calls Tryz.prog 145 #[.int .i64 n] w fun e w' => e = .returned (.string ⟨(Lib.itoa n).toArray⟩) ∧ ∃ k os, w' = grow (w.drewN k) os := Any.strconv_Itoa Tryz.laysM171 n h0 h1 w htab
def Tryz.lays171_ren : Go.Shelf.Ren := ⟨fun | 171 => 145 | 243 => 149 | 246 => 151 | 283 => 153 | 284 => 154 | 285 => 155 | 286 => 156 | 129 => 99 | 317 => 158 | 318 => 159 | 319 => 160 | 320 => 161 | 337 => 162 | 338 => 163 | n => n, fun | 3 => 3 | 9 => 9 | 2 => 2 | 4 => 4 | 171 => 201 | 0 => 0 | 53 => 152 | 37 => 177 | 5 => 5 | 173 => 203 | 212 => 208 | 51 => 150 | 20 => 20 | 213 => 209 | 46 => 113 | 232 => 210 | 233 => 211 | n => n, fun | 17 => 5 | 18 => 6 | 19 => 7 | n => n⟩
open Go.RowKit Go.Sort Go.Lib in
open Go.RowKit in
def Tryz.lays247_ren : Go.Shelf.Ren := ⟨fun | 247 => 129 | 287 => 142 | 321 => 147 | 322 => 148 | n => n, fun | 9 => 9 | 3 => 3 | 2 => 2 | 75 => 42 | 4 => 4 | 167 => 176 | 5 => 5 | 53 => 152 | 175 => 189 | 46 => 113 | 37 => 177 | 0 => 0 | 21 => 21 | 80 => 132 | n => n, fun | n => n⟩
open Go.RowKit in
open Go.RowKit in
open Go.RowKit in
def Tryz.laysM316_ren : Go.Shelf.Ren := ⟨fun | 316 => 143 | n => n, fun | 9 => 9 | 3 => 3 | 4 => 4 | 37 => 177 | 0 => 0 | 127 => 196 | 5 => 5 | n => n, fun | n => n⟩
open Go.RowKit in
def Tryz.laysM279_ren : Go.Shelf.Ren := ⟨fun | 279 => 130 | 316 => 143 | n => n, fun | 9 => 9 | 168 => 180 | 75 => 42 | 210 => 193 | 3 => 3 | 4 => 4 | 37 => 177 | 0 => 0 | 127 => 196 | 80 => 132 | 5 => 5 | n => n, fun | 15 => 1 | n => n⟩
open Go.RowKit in
def Tryz.laysC245_ren : Go.Shelf.Ren := ⟨fun | 245 => 108 | 279 => 130 | 280 => 131 | 281 => 132 | 282 => 133 | 316 => 143 | 171 => 145 | 205 => 144 | 243 => 149 | 246 => 151 | 283 => 153 | 284 => 154 | 285 => 155 | 286 => 156 | 129 => 99 | 317 => 158 | 318 => 159 | 319 => 160 | 320 => 161 | 337 => 162 | 338 => 163 | n => n, fun | 9 => 9 | 3 => 3 | 75 => 42 | 167 => 176 | 4 => 4 | 168 => 180 | 210 => 193 | 37 => 177 | 0 => 0 | 127 => 196 | 145 => 199 | 143 => 197 | 2 => 2 | 171 => 201 | 53 => 152 | 5 => 5 | 173 => 203 | 212 => 208 | 51 => 150 | 20 => 20 | 213 => 209 | 46 => 113 | 232 => 210 | 233 => 211 | 80 => 132 | n => n, fun | 15 => 1 | 16 => 2 | 17 => 5 | 18 => 6 | 19 => 7 | n => n⟩
open Go.RowKit in
def Tryz.laysC172_ren : Go.Shelf.Ren := ⟨fun | 172 => 74 | 244 => 107 | 245 => 108 | 247 => 129 | 279 => 130 | 280 => 131 | 281 => 132 | 282 => 133 | 287 => 142 | 316 => 143 | 171 => 145 | 205 => 144 | 321 => 147 | 322 => 148 | 243 => 149 | 246 => 151 | 283 => 153 | 284 => 154 | 285 => 155 | 286 => 156 | 129 => 99 | 317 => 158 | 318 => 159 | 319 => 160 | 320 => 161 | 337 => 162 | 338 => 163 | n => n, fun | 9 => 9 | 3 => 3 | 75 => 42 | 76 => 128 | 4 => 4 | 5 => 5 | 167 => 176 | 37 => 177 | 0 => 0 | 85 => 178 | 2 => 2 | 168 => 180 | 53 => 152 | 175 => 189 | 46 => 113 | 210 => 193 | 127 => 196 | 145 => 199 | 143 => 197 | 21 => 21 | 171 => 201 | 173 => 203 | 212 => 208 | 51 => 150 | 20 => 20 | 213 => 209 | 232 => 210 | 233 => 211 | 80 => 132 | n => n, fun | 15 => 1 | 16 => 2 | 17 => 5 | 18 => 6 | 19 => 7 | n => n⟩
theorem Tryz.laysC172 : Go.Proofs.LaysC.n172 Tryz.prog Tryz.laysC172_ren := {
  mixed := by kernel_rfl
  f129 := Tryz.func99.trans (congrArg some (by kernel_rfl))
  f171 := Tryz.func145.trans (congrArg some (by kernel_rfl))
  f172 := Tryz.func74.trans (congrArg some (by kernel_rfl))
  f205 := Tryz.func144.trans (congrArg some (by kernel_rfl))
  f243 := Tryz.func149.trans (congrArg some (by kernel_rfl))
  f244 := Tryz.func107.trans (congrArg some (by kernel_rfl))
  f245 := Tryz.func108.trans (congrArg some (by kernel_rfl))
  f246 := Tryz.func151.trans (congrArg some (by kernel_rfl))
  f247 := Tryz.func129.trans (congrArg some (by kernel_rfl))
  f279 := Tryz.func130.trans (congrArg some (by kernel_rfl))
  f280 := Tryz.func131.trans (congrArg some (by kernel_rfl))
  f281 := Tryz.func132.trans (congrArg some (by kernel_rfl))
  f282 := Tryz.func133.trans (congrArg some (by kernel_rfl))
  f283 := Tryz.func153.trans (congrArg some (by kernel_rfl))
  f284 := Tryz.func154.trans (congrArg some (by kernel_rfl))
  f285 := Tryz.func155.trans (congrArg some (by kernel_rfl))
  f286 := Tryz.func156.trans (congrArg some (by kernel_rfl))
  f287 := Tryz.func142.trans (congrArg some (by kernel_rfl))
  f316 := Tryz.func143.trans (congrArg some (by kernel_rfl))
  f317 := Tryz.func158.trans (congrArg some (by kernel_rfl))
  f318 := Tryz.func159.trans (congrArg some (by kernel_rfl))
  f319 := Tryz.func160.trans (congrArg some (by kernel_rfl))
  f320 := Tryz.func161.trans (congrArg some (by kernel_rfl))
  f321 := Tryz.func147.trans (congrArg some (by kernel_rfl))
  f322 := Tryz.func148.trans (congrArg some (by kernel_rfl))
  f337 := Tryz.func162.trans (congrArg some (by kernel_rfl))
  f338 := Tryz.func163.trans (congrArg some (by kernel_rfl))
  t0 := Tryz.underlying0
  a0 := Tryz.isAgg0
  z0 := Tryz.sizeOf0
  v0 := Tryz.zeroValue0
  t2 := Tryz.underlying2
  a2 := Tryz.isAgg2
  z2 := Tryz.sizeOf2
  v2 := Tryz.zeroValue2
  t3 := Tryz.underlying3
  a3 := Tryz.isAgg3
  z3 := Tryz.sizeOf3
  v3 := Tryz.zeroValue3
  t4 := Tryz.underlying4
  a4 := Tryz.isAgg4
  z4 := Tryz.sizeOf4
  v4 := Tryz.zeroValue4
  t5 := Tryz.underlying5
  a5 := Tryz.isAgg5
  z5 := Tryz.sizeOf5
  v5 := Tryz.zeroValue5
  t9 := Tryz.underlying9
  a9 := Tryz.isAgg9
  z9 := Tryz.sizeOf9
  v9 := Tryz.zeroValue9
  t20 := Tryz.underlying20
  a20 := Tryz.isAgg20
  z20 := Tryz.sizeOf20
  v20 := Tryz.zeroValue20
  t21 := Tryz.underlying21
  a21 := Tryz.isAgg21
  z21 := Tryz.sizeOf21
  v21 := Tryz.zeroValue21
  t37 := Tryz.underlying177
  a37 := Tryz.isAgg177
  z37 := Tryz.sizeOf177
  v37 := Tryz.zeroValue177
  t46 := Tryz.underlying113
  a46 := Tryz.isAgg113
  z46 := Tryz.sizeOf113
  v46 := Tryz.zeroValue113
  t51 := Tryz.underlying150
  a51 := Tryz.isAgg150
  z51 := Tryz.sizeOf150
  v51 := Tryz.zeroValue150
  t53 := Tryz.underlying152
  a53 := Tryz.isAgg152
  z53 := Tryz.sizeOf152
  v53 := Tryz.zeroValue152
  t75 := Tryz.underlying42
  a75 := Tryz.isAgg42
  z75 := Tryz.sizeOf42
  v75 := Tryz.zeroValue42
  t76 := Tryz.underlying128
  a76 := Tryz.isAgg128
  z76 := Tryz.sizeOf128
  v76 := Tryz.zeroValue128
  t85 := Tryz.underlying178
  a85 := Tryz.isAgg178
  z85 := Tryz.sizeOf178
  v85 := Tryz.zeroValue178
  t127 := Tryz.underlying196
  a127 := Tryz.isAgg196
  z127 := Tryz.sizeOf196
  v127 := Tryz.zeroValue196
  t143 := Tryz.underlying197
  a143 := Tryz.isAgg197
  z143 := Tryz.sizeOf197
  v143 := Tryz.zeroValue197
  t145 := Tryz.underlying199
  a145 := Tryz.isAgg199
  z145 := Tryz.sizeOf199
  v145 := Tryz.zeroValue199
  t167 := Tryz.underlying176
  a167 := Tryz.isAgg176
  z167 := Tryz.sizeOf176
  v167 := Tryz.zeroValue176
  t168 := Tryz.underlying180
  a168 := Tryz.isAgg180
  z168 := Tryz.sizeOf180
  v168 := Tryz.zeroValue180
  t171 := Tryz.underlying201
  a171 := Tryz.isAgg201
  z171 := Tryz.sizeOf201
  v171 := Tryz.zeroValue201
  t173 := Tryz.underlying203
  a173 := Tryz.isAgg203
  z173 := Tryz.sizeOf203
  v173 := Tryz.zeroValue203
  t175 := Tryz.underlying189
  a175 := Tryz.isAgg189
  z175 := Tryz.sizeOf189
  v175 := Tryz.zeroValue189
  t210 := Tryz.underlying193
  a210 := Tryz.isAgg193
  z210 := Tryz.sizeOf193
  v210 := Tryz.zeroValue193
  t212 := Tryz.underlying208
  a212 := Tryz.isAgg208
  z212 := Tryz.sizeOf208
  v212 := Tryz.zeroValue208
  t213 := Tryz.underlying209
  a213 := Tryz.isAgg209
  z213 := Tryz.sizeOf209
  t232 := Tryz.underlying210
  a232 := Tryz.isAgg210
  z232 := Tryz.sizeOf210
  v232 := Tryz.zeroValue210
  t233 := Tryz.underlying211
  a233 := Tryz.isAgg211
  z233 := Tryz.sizeOf211
  v233 := Tryz.zeroValue211
  g15 := by kernel_rfl
  g16 := by kernel_rfl
  g17 := by kernel_rfl
  g18 := by kernel_rfl
  g19 := by kernel_rfl
  t80 := Tryz.underlying132
  a80 := Tryz.isAgg132
  z80 := Tryz.sizeOf132
  v80 := Tryz.zeroValue132
  i0 := by kernel_rfl
  i2 := by kernel_rfl
  i3 := by kernel_rfl
  i4 := by kernel_rfl
  i5 := by kernel_rfl
  i9 := by kernel_rfl
  i20 := by kernel_rfl
  i21 := by kernel_rfl
  i37 := by kernel_rfl
  i46 := by kernel_rfl
  i51 := by kernel_rfl
  i53 := by kernel_rfl
  i75 := by kernel_rfl
  i76 := by kernel_rfl
  i80 := by kernel_rfl
  i85 := by kernel_rfl
  i127 := by kernel_rfl
  i143 := by kernel_rfl
  i145 := by kernel_rfl
  i167 := by kernel_rfl
  i168 := by kernel_rfl
  i171 := by kernel_rfl
  i173 := by kernel_rfl
  i175 := by kernel_rfl
  i210 := by kernel_rfl
  i212 := by kernel_rfl
  i232 := by kernel_rfl
  i233 := by kernel_rfl
  m15 := by kernel_rfl
  m16 := by kernel_rfl
  m17 := by kernel_rfl
  m18 := by kernel_rfl
  m19 := by kernel_rfl
  c0 := by kernel_rfl
  c2 := by kernel_rfl
  c3 := by kernel_rfl
  c4 := by kernel_rfl
  c5 := by kernel_rfl
  c9 := by kernel_rfl
  c20 := by kernel_rfl
  c21 := by kernel_rfl
  c37 := by kernel_rfl
  c46 := by kernel_rfl
  c51 := by kernel_rfl
  c53 := by kernel_rfl
  c75 := by kernel_rfl
  c76 := by kernel_rfl
  c80 := by kernel_rfl
  c85 := by kernel_rfl
  c127 := by kernel_rfl
  c143 := by kernel_rfl
  c145 := by kernel_rfl
  c167 := by kernel_rfl
  c168 := by kernel_rfl
  c171 := by kernel_rfl
  c173 := by kernel_rfl
  c175 := by kernel_rfl
  c210 := by kernel_rfl
  c212 := by kernel_rfl
  c213 := by kernel_rfl
  c232 := by kernel_rfl
  c233 := by kernel_rfl }
open Go.RowKit in
open Go.RowKit in
def Tryz.lays321_ren : Go.Shelf.Ren := ⟨fun | 321 => 147 | n => n, fun | 5 => 5 | n => n, fun | n => n⟩
open Go.RowKit in
def Tryz.lays287_ren : Go.Shelf.Ren := ⟨fun | 287 => 142 | 321 => 147 | 322 => 148 | n => n, fun | 9 => 9 | 3 => 3 | 53 => 152 | 75 => 42 | 4 => 4 | 167 => 176 | 5 => 5 | 46 => 113 | 37 => 177 | 0 => 0 | 21 => 21 | 80 => 132 | n => n, fun | n => n⟩
open Go.RowKit in
open Go.RowKit in
def Tryz.laysC247_ren : Go.Shelf.Ren := ⟨fun | 247 => 129 | 287 => 142 | 321 => 147 | 322 => 148 | n => n, fun | 9 => 9 | 3 => 3 | 2 => 2 | 75 => 42 | 4 => 4 | 167 => 176 | 5 => 5 | 53 => 152 | 175 => 189 | 46 => 113 | 37 => 177 | 0 => 0 | 21 => 21 | 80 => 132 | n => n, fun | n => n⟩
open Go.RowKit in
def Tryz.laysC244_ren : Go.Shelf.Ren := ⟨fun | 244 => 107 | 247 => 129 | 287 => 142 | 321 => 147 | 322 => 148 | n => n, fun | 9 => 9 | 3 => 3 | 75 => 42 | 4 => 4 | 5 => 5 | 167 => 176 | 37 => 177 | 0 => 0 | 85 => 178 | 2 => 2 | 53 => 152 | 175 => 189 | 46 => 113 | 21 => 21 | 80 => 132 | n => n, fun | n => n⟩
open Go.RowKit in
open Go.RowKit in
def Tryz.laysM280_ren : Go.Shelf.Ren := ⟨fun | 280 => 131 | 316 => 143 | n => n, fun | 9 => 9 | 168 => 180 | 75 => 42 | 210 => 193 | 3 => 3 | 4 => 4 | 37 => 177 | 0 => 0 | 127 => 196 | 80 => 132 | 5 => 5 | n => n, fun | 16 => 2 | n => n⟩
open Go.RowKit in
open Go.RowKit in
open Go.RowKit in
theorem Tryz.strconv_Atoi_ok (s : ByteArray) (hmax : s.size ≤ 9223372036854775806) (v : Int) (h : Lib.atoiAll s.data.toList = .ok v) (w : World) :
    Calls Tryz.prog 74 #[.string s] w fun e w' => e = .returned (.tuple #[.int .i64 v, .nilIface]) ∧ (w' = w ∨ ∃ t, w' = Lib.bytesWorld w 5 t) := Any.strconv_Atoi_ok Tryz.laysC172 s hmax v h w
open Go.RowKit in
open Go.RowKit in
def Tryz.lays217_ren : Go.Shelf.Ren := ⟨fun | 217 => 124 | 266 => 139 | n => n, fun | 9 => 9 | 5 => 5 | 3 => 3 | n => n, fun | n => n⟩
open Go.RowKit Go.Lib in
def Tryz.sortPanes_ren : Go.Shelf.Ren := ⟨fun | 6 => 27 | 15 => 59 | 14 => 58 | 28 => 98 | 29 => 99 | 20 => 90 | 21 => 91 | 22 => 92 | 23 => 93 | 24 => 94 | 25 => 95 | 26 => 96 | 27 => 97 | 46 => 117 | 47 => 118 | 48 => 119 | 49 => 120 | 50 => 121 | 57 => 138 | n => n, fun | 22 => 55 | 24 => 64 | 25 => 74 | 3 => 3 | 39 => 113 | 0 => 0 | 53 => 150 | 55 => 152 | 4 => 4 | 46 => 143 | 45 => 142 | 50 => 147 | 5 => 5 | 9 => 9 | 66 => 168 | 70 => 172 | 76 => 186 | 77 => 163 | n => n, fun | n => n⟩
theorem Tryz.sortPanes : Go.Proofs.SlLaysF0.n6 Tryz.prog Tryz.sortPanes_ren := {
  mixed := by kernel_rfl
  f6 := ⟨Tryz.f27.name, by decide, Tryz.func27.trans (congrArg some (by kernel_rfl))⟩
  f14 := ⟨Tryz.f58.name, by decide, Tryz.func58.trans (congrArg some (by kernel_rfl))⟩
  f15 := Tryz.func59.trans (congrArg some (by kernel_rfl))
  f20 := ⟨Tryz.f90.name, by decide, Tryz.func90.trans (congrArg some (by kernel_rfl))⟩
  f21 := ⟨Tryz.f91.name, by decide, Tryz.func91.trans (congrArg some (by kernel_rfl))⟩
  f22 := ⟨Tryz.f92.name, by decide, Tryz.func92.trans (congrArg some (by kernel_rfl))⟩
  f23 := ⟨Tryz.f93.name, by decide, Tryz.func93.trans (congrArg some (by kernel_rfl))⟩
  f24 := ⟨Tryz.f94.name, by decide, Tryz.func94.trans (congrArg some (by kernel_rfl))⟩
  f25 := ⟨Tryz.f95.name, by decide, Tryz.func95.trans (congrArg some (by kernel_rfl))⟩
  f26 := ⟨Tryz.f96.name, by decide, Tryz.func96.trans (congrArg some (by kernel_rfl))⟩
  f27 := ⟨Tryz.f97.name, by decide, Tryz.func97.trans (congrArg some (by kernel_rfl))⟩
  f28 := Tryz.func98.trans (congrArg some (by kernel_rfl))
  f29 := Tryz.func99.trans (congrArg some (by kernel_rfl))
  f46 := ⟨Tryz.f117.name, by decide, Tryz.func117.trans (congrArg some (by kernel_rfl))⟩
  f47 := Tryz.func118.trans (congrArg some (by kernel_rfl))
  f48 := Tryz.func119.trans (congrArg some (by kernel_rfl))
  f49 := ⟨Tryz.f120.name, by decide, Tryz.func120.trans (congrArg some (by kernel_rfl))⟩
  f50 := ⟨Tryz.f121.name, by decide, Tryz.func121.trans (congrArg some (by kernel_rfl))⟩
  f57 := ⟨Tryz.f138.name, by decide, Tryz.func138.trans (congrArg some (by kernel_rfl))⟩
  t0 := Tryz.underlying0
  a0 := Tryz.isAgg0
  z0 := Tryz.sizeOf0
  v0 := Tryz.zeroValue0
  t3 := Tryz.underlying3
  a3 := Tryz.isAgg3
  z3 := Tryz.sizeOf3
  v3 := Tryz.zeroValue3
  t4 := Tryz.underlying4
  a4 := Tryz.isAgg4
  z4 := Tryz.sizeOf4
  v4 := Tryz.zeroValue4
  t5 := Tryz.underlying5
  a5 := Tryz.isAgg5
  z5 := Tryz.sizeOf5
  v5 := Tryz.zeroValue5
  t9 := Tryz.underlying9
  a9 := Tryz.isAgg9
  z9 := Tryz.sizeOf9
  v9 := Tryz.zeroValue9
  t22 := Tryz.underlying55
  a22 := Tryz.isAgg55
  z22 := Tryz.sizeOf55
  v22 := Tryz.zeroValue55
  t25 := Tryz.underlying74
  a25 := Tryz.isAgg74
  z25 := Tryz.sizeOf74
  v25 := Tryz.zeroValue74
  t39 := Tryz.underlying113
  a39 := Tryz.isAgg113
  z39 := Tryz.sizeOf113
  v39 := Tryz.zeroValue113
  t45 := Tryz.underlying142
  a45 := Tryz.isAgg142
  z45 := Tryz.sizeOf142
  v45 := Tryz.zeroValue142
  t46 := Tryz.underlying143
  a46 := Tryz.isAgg143
  z46 := Tryz.sizeOf143
  v46 := Tryz.zeroValue143
  t50 := Tryz.underlying147
  a50 := Tryz.isAgg147
  z50 := Tryz.sizeOf147
  v50 := Tryz.zeroValue147
  t53 := Tryz.underlying150
  a53 := Tryz.isAgg150
  z53 := Tryz.sizeOf150
  v53 := Tryz.zeroValue150
  t55 := Tryz.underlying152
  a55 := Tryz.isAgg152
  z55 := Tryz.sizeOf152
  v55 := Tryz.zeroValue152
  t66 := Tryz.underlying168
  a66 := Tryz.isAgg168
  z66 := Tryz.sizeOf168
  v66 := Tryz.zeroValue168
  t70 := Tryz.underlying172
  a70 := Tryz.isAgg172
  z70 := Tryz.sizeOf172
  v70 := Tryz.zeroValue172
  t76 := Tryz.underlying186
  a76 := Tryz.isAgg186
  z76 := Tryz.sizeOf186
  v76 := Tryz.zeroValue186
  t77 := Tryz.underlying163
  a77 := Tryz.isAgg163
  z77 := Tryz.sizeOf163
  v77 := Tryz.zeroValue163 }
end Go.Proofs
namespace Go.Vc
open Go
set_option linter.unusedVariables false
section
variable {P : Program}
end
end Go.Vc
namespace Go.Proofs.YtejefijpcggkfaaGreatDoor
open Go Go.Vc Go.RowKit
set_option linter.unusedVariables false
set_option maxRecDepth 100000
def decM (n : Int) : Nat := if n < 0 then 2 * n.natAbs + 1 else 2 * n.natAbs
theorem itoa_minus {n : Int} (h : n < 0) : Lib.itoa n = 45 :: Lib.itoa (-n) := by
  unfold Lib.itoa
  rw [if_pos h, if_neg (by omega)]
  congr 2
  omega
theorem callOK_below {f : FuncId} {args : List Value} {h : Hp} {K : Value → Hp → Prop} (H : ∀ w, Sub h w → Calls Tryz.prog f args.toArray w fun e w' => ∃ v, e = .returned v ∧ Below w.heap.size w w' ∧ K v h) : CallOK Tryz.prog f args h K := by
  intro w hs
  refine (H w hs).mono ?_
  rintro e w' ⟨v, he, hB, hK⟩
  refine ⟨v, h, he, fun b o hb => ?_, ⟨hB.os, hB.tape, hB.output, hB.size, fun b hb hn => ⟨hB.block b hb, hn⟩⟩, hK⟩
  have := hs b o hb
  have hlt := (Array.getElem?_eq_some_iff.1 this).1
  rw [hB.block b hlt]
  exact this
end Go.Proofs.YtejefijpcggkfaaGreatDoor
namespace Go.Proofs.YtejefijpcggkfaaGreatDoor
open Go Go.Vc Go.RowKit
set_option linter.unusedVariables false
set_option maxRecDepth 100000
def TabP (h : Hp) : Prop := ∀ w, Sub h w → Lib.TabIs Tryz.prog w "internal/strconv.uint64pow10" .u64 Lib.pow10Tab
theorem sub_le {h h' : Hp} {w : World} (hl : h.le h') (hs : Sub h' w) : Sub h w := fun b o ho => hs b o (hl b o ho)
theorem TabP.le {h h' : Hp} (T : TabP h) (hl : h.le h') : TabP h' := fun w hs => T w (sub_le hl hs)
theorem vars_sub {W w : World} {name : String} {cs : Array Value} (hT : W.var? Tryz.prog name = some cs) (hs : Sub (hpOf W) w) : w.var? Tryz.prog name = some cs := by
  unfold World.var? at *
  cases hg : Tryz.prog.globalNamed name with
  | none => rw [hg] at hT; cases hT
  | some g =>
    rw [hg] at hT
    simp only [Option.bind_some] at hT ⊢
    cases hb : W.heap[g]? with
    | none => rw [hb] at hT; cases hT
    | some o =>
      rw [hs g o hb]
      rw [hb] at hT
      exact hT
theorem var_sub {W w : World} {name : String} {k : IntKind} {zs : List Int} (hT : Lib.TabIs Tryz.prog W name k zs) (hs : Sub (hpOf W) w) : Lib.TabIs Tryz.prog w name k zs := vars_sub hT hs
theorem below_grow (w : World) (k : Nat) (os : Array Obj) : Below w.heap.size w (Go.Sort.grow (w.drewN k) os) := by
  refine ⟨rfl, rfl, rfl, ?_, fun i hi => ?_⟩
  · show w.heap.size ≤ (w.heap ++ os).size
    rw [Array.size_append]
    omega
  · show (w.heap ++ os)[i]? = w.heap[i]?
    rw [Array.getElem?_append_left hi]
theorem strconv_Itoa_ok {n : Int} (hn : InR n) {h : Hp} (T : TabP h) {R : Value → Hp → Prop} (hK : R (vs (bs (Lib.itoa n))) h) : CallOK Tryz.prog 145 [vi n] h R :=
  callOK_below fun w hs => (Tryz.strconv_Itoa n hn.1 hn.2 w (T w hs)).mono fun e w' ⟨he, k, os, hw⟩ => ⟨_, he, by rw [hw]; exact below_grow w k os, hK⟩
end Go.Proofs.YtejefijpcggkfaaGreatDoor
namespace Go.Proofs.YtejefijpcggkfaaGreatDoor
open Go Go.Vc
set_option maxRecDepth 100000
set_option linter.unusedVariables false
def VC_value_Parse (u_s : ByteArray) (h : Hp) (R : Value → Hp → Prop) : Prop :=
  (∃ (p1 : Bool), (Rd Tryz.prog ((eqGuard .eql 9 (.tmp 6) (.const (vs ⟨#[110, 117, 108, 108]⟩)) (vs u_s) (vs ⟨#[110, 117, 108, 108]⟩) >>= fun _ => binOp .eql 9 (vs u_s) (vs ⟨#[110, 117, 108, 108]⟩))) h (vb p1)) ∧ ((p1 = true → (CallOK Tryz.prog 56 [] h fun v2 h3 => ∃ (x4 : Int) (x5 : Int), v2 = (vag [(vi x4), (vi x5)]) ∧ R (vtup [(vag [(vi x4), (vi x5)]), (ifv none)]) h3)) ∧ (p1 = false → (∃ (p6 : Bool), (Rd Tryz.prog ((eqGuard .eql 9 (.tmp 6) (.const (vs ⟨#[116, 114, 117, 101]⟩)) (vs u_s) (vs ⟨#[116, 114, 117, 101]⟩) >>= fun _ => binOp .eql 9 (vs u_s) (vs ⟨#[116, 114, 117, 101]⟩))) h (vb p6)) ∧ (let J10 : Bool → Prop := fun (p11 : Bool) => ((p11 = true → (∃ (p12 : Bool), (Rd Tryz.prog ((eqGuard .eql 9 (.tmp 13) (.const (vs ⟨#[116, 114, 117, 101]⟩)) (vs u_s) (vs ⟨#[116, 114, 117, 101]⟩) >>= fun _ => binOp .eql 9 (vs u_s) (vs ⟨#[116, 114, 117, 101]⟩))) h (vb p12)) ∧ (CallOK Tryz.prog 55 [(vb p12)] h fun v13 h14 => ∃ (x15 : Int) (x16 : Int), v13 = (vag [(vi x15), (vi x16)]) ∧ R (vtup [(vag [(vi x15), (vi x16)]), (ifv none)]) h14))) ∧ (p11 = false → (CallOK Tryz.prog 74 [(vs u_s)] h fun v18 h19 => ∃ (x20 : Int) (e21 : Option (TypeId × Value)), v18 = (vtup [(vi x20), (ifv e21)]) ∧ (∃ (J22 : SV → Hp → Prop), ((Option.isSome e21) = false → (CallOK Tryz.prog 145 [(vi x20)] h19 fun v23 h24 => ∃ (s25 : ByteArray), v23 = (vs s25) ∧ J22 (.t (.one (.v (vs s25)))) h24)) ∧ (¬ ((Option.isSome e21) = false) → J22 (.t (.one (.v (vs ⟨#[]⟩)))) h19) ∧ ∀ (h26 : Hp) (s27 : ByteArray), J22 (.t (.one (.v (vs s27)))) h26 → (∃ (p28 : Bool), ((Option.isSome e21) = false → Rd Tryz.prog ((eqGuard .neq 9 (.tmp 25) (.tmp 26) (vs s27) (vs u_s) >>= fun _ => binOp .neq 9 (vs s27) (vs u_s))) h26 (vb p28)) ∧ (((bif (bif (bif (Option.isSome e21) then true else p28) then true else (decide ((x20 : Int) < (-1000000000)))) then true else (decide ((x20 : Int) > 1000000000))) = true → R (vtup [(vag [(vi 0), (vi 0)]), (ifv (some (95, (vi 4))))]) h26) ∧ ((bif (bif (bif (Option.isSome e21) then true else p28) then true else (decide ((x20 : Int) < (-1000000000)))) then true else (decide ((x20 : Int) > 1000000000))) = false → (CallOK Tryz.prog 101 [(vi x20)] h26 fun v30 h31 => ∃ (x32 : Int) (x33 : Int), v30 = (vag [(vi x32), (vi x33)]) ∧ R (vtup [(vag [(vi x32), (vi x33)]), (ifv none)]) h31)))))))); ((p6 = true → (J10 p6)) ∧ (p6 = false → (∃ (p8 : Bool), (Rd Tryz.prog ((eqGuard .eql 9 (.tmp 6) (.const (vs ⟨#[102, 97, 108, 115, 101]⟩)) (vs u_s) (vs ⟨#[102, 97, 108, 115, 101]⟩) >>= fun _ => binOp .eql 9 (vs u_s) (vs ⟨#[102, 97, 108, 115, 101]⟩))) h (vb p8)) ∧ (J10 p8)))))))))
theorem ok_value_Parse {u_s : ByteArray} {h : Hp} {R : Value → Hp → Prop} (H : VC_value_Parse u_s h R) : CallOK Tryz.prog 157 [(vs u_s)] h R :=
  call_of (cfg := ⟨[], [], []⟩) noNG mixed Tryz.func157 [.one (.v (vs u_s))] (by kernel_rfl) rfl (by kernel_rfl) H
end Go.Proofs.YtejefijpcggkfaaGreatDoor
namespace Go.Proofs.YtejefijpcggkfaaGreatDoor
open Go Go.Vc
set_option maxRecDepth 100000
set_option linter.unusedVariables false
def VC_R_ValueOf (u_s : ByteArray) (h : Hp) (R : Value → Hp → Prop) : Prop :=
  (∃ (p1 : Bool), (Rd Tryz.prog ((eqGuard .eql 9 (.tmp 6) (.const (vs ⟨#[110, 117, 108, 108]⟩)) (vs u_s) (vs ⟨#[110, 117, 108, 108]⟩) >>= fun _ => binOp .eql 9 (vs u_s) (vs ⟨#[110, 117, 108, 108]⟩))) h (vb p1)) ∧ ((p1 = true → R (vtup [(vag [(vi 0), (vi 0)]), (vi 0)]) h) ∧ (p1 = false → (∃ (p3 : Bool), (Rd Tryz.prog ((eqGuard .eql 9 (.tmp 9) (.const (vs ⟨#[116, 114, 117, 101]⟩)) (vs u_s) (vs ⟨#[116, 114, 117, 101]⟩) >>= fun _ => binOp .eql 9 (vs u_s) (vs ⟨#[116, 114, 117, 101]⟩))) h (vb p3)) ∧ (∃ (p4 : Bool), (p3 = false → Rd Tryz.prog ((eqGuard .eql 9 (.tmp 12) (.const (vs ⟨#[102, 97, 108, 115, 101]⟩)) (vs u_s) (vs ⟨#[102, 97, 108, 115, 101]⟩) >>= fun _ => binOp .eql 9 (vs u_s) (vs ⟨#[102, 97, 108, 115, 101]⟩))) h (vb p4)) ∧ (((bif p3 then true else p4) = true → (∃ (p5 : Bool), (Rd Tryz.prog ((eqGuard .eql 9 (.tmp 15) (.const (vs ⟨#[116, 114, 117, 101]⟩)) (vs u_s) (vs ⟨#[116, 114, 117, 101]⟩) >>= fun _ => binOp .eql 9 (vs u_s) (vs ⟨#[116, 114, 117, 101]⟩))) h (vb p5)) ∧ (CallOK Tryz.prog 122 [(vb p5)] h fun v6 h7 => ∃ (x8 : Int) (x9 : Int), v6 = (vag [(vi x8), (vi x9)]) ∧ R (vtup [(vag [(vi x8), (vi x9)]), (vi 0)]) h7))) ∧ ((bif p3 then true else p4) = false → (∃ (x11 : Int), ((decide ((((ByteArray.size u_s : Nat) : Int) : Int) > 1)) = true → Rd Tryz.prog (Instr.index 9 (vs u_s) (vi 0)) h (vk .u8 x11)) ∧ (let J15 : ByteArray → Prop := fun (s16 : ByteArray) => (CallOK Tryz.prog 84 [(vs s16), (vi 1000000000), (vb true)] h fun v17 h18 => ∃ (x19 : Int), v17 = (vi x19) ∧ (((bif (decide ((x19 : Int) < 0)) then true else (bif (decide ((((ByteArray.size s16 : Nat) : Int) : Int) < ((ByteArray.size u_s : Nat) : Int))) then (decide ((x19 : Int) = 0)) else false)) = true → R (vtup [(vag [(vi 0), (vi 0)]), (vi 4)]) h18) ∧ ((bif (decide ((x19 : Int) < 0)) then true else (bif (decide ((((ByteArray.size s16 : Nat) : Int) : Int) < ((ByteArray.size u_s : Nat) : Int))) then (decide ((x19 : Int) = 0)) else false)) = false → (let J24 : Int → Prop := fun (x25 : Int) => (CallOK Tryz.prog 103 [(vi x25)] h18 fun v26 h27 => ∃ (x28 : Int) (x29 : Int), v26 = (vag [(vi x28), (vi x29)]) ∧ R (vtup [(vag [(vi x28), (vi x29)]), (vi 0)]) h27); (((decide ((((ByteArray.size s16 : Nat) : Int) : Int) < ((ByteArray.size u_s : Nat) : Int))) = true → (∃ (x21 : Int), (IsW x21 (-x19)) ∧ (J24 x21))) ∧ ((decide ((((ByteArray.size s16 : Nat) : Int) : Int) < ((ByteArray.size u_s : Nat) : Int))) = false → (J24 x19))))))); (((bif (decide ((((ByteArray.size u_s : Nat) : Int) : Int) > 1)) then (decide ((x11 : Int) = 45)) else false) = true → (∃ (s12 : ByteArray), (Rd Tryz.prog (Instr.sliceAt 9 (vs u_s) (some (vi 1)) none none) h (vs s12)) ∧ (J15 s12))) ∧ ((bif (decide ((((ByteArray.size u_s : Nat) : Int) : Int) > 1)) then (decide ((x11 : Int) = 45)) else false) = false → (J15 u_s))))))))))))
theorem ok_R_ValueOf {u_s : ByteArray} {h : Hp} {R : Value → Hp → Prop} (H : VC_R_ValueOf u_s h R) : CallOK Tryz.prog 112 [(vs u_s)] h R :=
  call_of (cfg := ⟨[], [], []⟩) noNG mixed Tryz.func112 [.one (.v (vs u_s))] (by kernel_rfl) rfl (by kernel_rfl) H
def VC_R_natural (u_s : ByteArray) (u_most : Int) (u_plain : Bool) (h : Hp) (R : Value → Hp → Prop) : Prop :=
  (∃ (x1 : Int), (((decide ((((ByteArray.size u_s : Nat) : Int) : Int) < 1)) = false ∧ u_plain = true) → Rd Tryz.prog (Instr.index 9 (vs u_s) (vi 0)) h (vk .u8 x1)) ∧ (((bif (decide ((((ByteArray.size u_s : Nat) : Int) : Int) < 1)) then true else (bif (bif u_plain then (decide ((x1 : Int) = 48)) else false) then (decide ((((ByteArray.size u_s : Nat) : Int) : Int) > 1)) else false)) = true → R (vi (-1)) h) ∧ ((bif (decide ((((ByteArray.size u_s : Nat) : Int) : Int) < 1)) then true else (bif (bif u_plain then (decide ((x1 : Int) = 48)) else false) then (decide ((((ByteArray.size u_s : Nat) : Int) : Int) > 1)) else false)) = false → (∃ (I4 : List Value → Hp → Prop) (m5 : List Value → Hp → Nat), I4 [(vi 0), (vi 0)] h ∧ ∀ (vs6 : List Value) (h7 : Hp), I4 vs6 h7 → ∃ (x8 : Int) (x9 : Int), vs6 = [(vi x8), (vi x9)] ∧ (((decide ((x9 : Int) < ((ByteArray.size u_s : Nat) : Int))) = true → (∃ (x12 : Int), (Rd Tryz.prog (Instr.index 9 (vs u_s) (vi x9)) h7 (vk .u8 x12)) ∧ (∃ (x13 : Int), ((decide ((x12 : Int) < 48)) = false → Rd Tryz.prog (Instr.index 9 (vs u_s) (vi x9)) h7 (vk .u8 x13)) ∧ (((bif (decide ((x12 : Int) < 48)) then true else (decide ((x13 : Int) > 57))) = true → R (vi (-1)) h7) ∧ ((bif (decide ((x12 : Int) < 48)) then true else (decide ((x13 : Int) > 57))) = false → (∃ (x15 : Int), (IsW x15 (10 * x8)) ∧ (∃ (x16 : Int), (Rd Tryz.prog (Instr.index 9 (vs u_s) (vi x9)) h7 (vk .u8 x16)) ∧ (∃ (x17 : Int), (Rd Tryz.prog (binOp .sub 5 (vk .u8 x16) (vk .u8 48)) h7 (vk .u8 x17)) ∧ (∃ (x18 : Int), (IsW x18 (x15 + (IntKind.wrap .i64 x17))) ∧ (((decide ((x18 : Int) > u_most)) = true → R (vi (-1)) h7) ∧ ((decide ((x18 : Int) > u_most)) = false → (∃ (x20 : Int), (IsW x20 (x9 + 1)) ∧ (I4 [(vi x18), (vi x20)] h7 ∧ m5 [(vi x18), (vi x20)] h7 < m5 vs6 h7))))))))))))) ∧ ((decide ((x9 : Int) < ((ByteArray.size u_s : Nat) : Int))) = false → R (vi x8) h7))))))
theorem ok_R_natural {u_s : ByteArray} {u_most : Int} {u_plain : Bool} {h : Hp} {R : Value → Hp → Prop} (H : VC_R_natural u_s u_most u_plain h R) : CallOK Tryz.prog 84 [(vs u_s), (vi u_most), (vb u_plain)] h R :=
  call_of (cfg := ⟨[], [(5, ([7, 8], [.one (.int .i64), .one (.int .i64)], []))], []⟩) noNG mixed Tryz.func84 [.one (.v (vs u_s)), .one (.v (vi u_most)), .one (.v (vb u_plain))] (by kernel_rfl) rfl (by kernel_rfl) H
-- FAIL penstock/penstockref.Decimal Fail   no one order: 8 behind 2
end Go.Proofs.YtejefijpcggkfaaGreatDoor
namespace Go.Proofs.YtejefijpcggkfaaGreatDoor
open Go Go.Vc
set_option maxRecDepth 100000
set_option linter.unusedVariables false
def VC_R_Num (u_n : Int) (h : Hp) (R : Value → Hp → Prop) : Prop :=
  (((bif (decide ((u_n : Int) < (-1000000000))) then true else (decide ((u_n : Int) > 1000000000))) = true → R (vag [(vi 0), (vi 0)]) h) ∧ ((bif (decide ((u_n : Int) < (-1000000000))) then true else (decide ((u_n : Int) > 1000000000))) = false → R (vag [(vi 1), (vi u_n)]) h))
theorem ok_R_Num {u_n : Int} {h : Hp} {R : Value → Hp → Prop} (H : VC_R_Num u_n h R) : CallOK Tryz.prog 103 [(vi u_n)] h R :=
  call_of (cfg := ⟨[], [], []⟩) noNG mixed Tryz.func103 [.one (.v (vi u_n))] (by kernel_rfl) rfl (by kernel_rfl) H
def VC_R_Truth (u_is : Bool) (h : Hp) (R : Value → Hp → Prop) : Prop :=
  ((u_is = true → R (vag [(vi 2), (vi 1)]) h) ∧ (u_is = false → R (vag [(vi 2), (vi 0)]) h))
theorem ok_R_Truth {u_is : Bool} {h : Hp} {R : Value → Hp → Prop} (H : VC_R_Truth u_is h R) : CallOK Tryz.prog 122 [(vb u_is)] h R :=
  call_of (cfg := ⟨[], [], []⟩) noNG mixed Tryz.func122 [.one (.v (vb u_is))] (by kernel_rfl) rfl (by kernel_rfl) H
def VC_R_Do (u_op : Int) (u_aKind : Int) (u_aN : Int) (u_bKind : Int) (u_bN : Int) (h : Hp) (R : Value → Hp → Prop) : Prop :=
  (CallOK Tryz.prog 122 [(vb false)] h fun v1 h2 => ∃ (x3 : Int) (x4 : Int), v1 = (vag [(vi x3), (vi x4)]) ∧ (CallOK Tryz.prog 122 [(vb true)] h2 fun v5 h6 => ∃ (x7 : Int) (x8 : Int), v5 = (vag [(vi x7), (vi x8)]) ∧ (((decide ((u_op : Int) = 9)) = true → (∃ (p9 : Bool), (Rd Tryz.prog ((eqGuard .eql 33 (.tmp 13) (.tmp 14) (vag [(vi u_aKind), (vi u_aN)]) (vag [(vi x3), (vi x4)]) >>= fun _ => binOp .eql 33 (vag [(vi u_aKind), (vi u_aN)]) (vag [(vi x3), (vi x4)]))) h6 (vb p9)) ∧ (∃ (p10 : Bool), (p9 = false → Rd Tryz.prog ((eqGuard .eql 33 (.tmp 17) (.tmp 18) (vag [(vi u_bKind), (vi u_bN)]) (vag [(vi x3), (vi x4)]) >>= fun _ => binOp .eql 33 (vag [(vi u_bKind), (vi u_bN)]) (vag [(vi x3), (vi x4)]))) h6 (vb p10)) ∧ (((bif p9 then true else p10) = true → R (vag [(vi x3), (vi x4)]) h6) ∧ ((bif p9 then true else p10) = false → (((bif (decide ((u_aKind : Int) = 2)) then (decide ((u_bKind : Int) = 2)) else false) = true → R (vag [(vi x7), (vi x8)]) h6) ∧ ((bif (decide ((u_aKind : Int) = 2)) then (decide ((u_bKind : Int) = 2)) else false) = false → R (vag [(vi 0), (vi 0)]) h6))))))) ∧ ((decide ((u_op : Int) = 9)) = false → (((decide ((u_op : Int) = 10)) = true → (((bif (bif (decide ((u_aKind : Int) = 2)) then (decide ((u_aN : Int) ≠ 0)) else false) then true else (bif (decide ((u_bKind : Int) = 2)) then (decide ((u_bN : Int) ≠ 0)) else false)) = true → R (vag [(vi x7), (vi x8)]) h6) ∧ ((bif (bif (decide ((u_aKind : Int) = 2)) then (decide ((u_aN : Int) ≠ 0)) else false) then true else (bif (decide ((u_bKind : Int) = 2)) then (decide ((u_bN : Int) ≠ 0)) else false)) = false → (((bif (decide ((u_aKind : Int) = 2)) then (decide ((u_bKind : Int) = 2)) else false) = true → R (vag [(vi x3), (vi x4)]) h6) ∧ ((bif (decide ((u_aKind : Int) = 2)) then (decide ((u_bKind : Int) = 2)) else false) = false → R (vag [(vi 0), (vi 0)]) h6))))) ∧ ((decide ((u_op : Int) = 10)) = false → (((bif (decide ((u_aKind : Int) ≠ 1)) then true else (decide ((u_bKind : Int) ≠ 1))) = true → R (vag [(vi 0), (vi 0)]) h6) ∧ ((bif (decide ((u_aKind : Int) ≠ 1)) then true else (decide ((u_bKind : Int) ≠ 1))) = false → (((decide ((u_op : Int) = 6)) = true → (∃ (x18 : Int), (IsW x18 (u_aN + u_bN)) ∧ (CallOK Tryz.prog 103 [(vi x18)] h6 fun v19 h20 => ∃ (x21 : Int) (x22 : Int), v19 = (vag [(vi x21), (vi x22)]) ∧ R (vag [(vi x21), (vi x22)]) h20))) ∧ ((decide ((u_op : Int) = 6)) = false → (((decide ((u_op : Int) = 7)) = true → (∃ (x23 : Int), (IsW x23 (u_aN - u_bN)) ∧ (CallOK Tryz.prog 103 [(vi x23)] h6 fun v24 h25 => ∃ (x26 : Int) (x27 : Int), v24 = (vag [(vi x26), (vi x27)]) ∧ R (vag [(vi x26), (vi x27)]) h25))) ∧ ((decide ((u_op : Int) = 7)) = false → (((decide ((u_op : Int) = 8)) = true → (∃ (x28 : Int), (IsW x28 (u_aN * u_bN)) ∧ (CallOK Tryz.prog 103 [(vi x28)] h6 fun v29 h30 => ∃ (x31 : Int) (x32 : Int), v29 = (vag [(vi x31), (vi x32)]) ∧ R (vag [(vi x31), (vi x32)]) h30))) ∧ ((decide ((u_op : Int) = 8)) = false → (((decide ((u_op : Int) = 11)) = true → (CallOK Tryz.prog 122 [(vb (decide ((u_aN : Int) < u_bN)))] h6 fun v33 h34 => ∃ (x35 : Int) (x36 : Int), v33 = (vag [(vi x35), (vi x36)]) ∧ R (vag [(vi x35), (vi x36)]) h34)) ∧ ((decide ((u_op : Int) = 11)) = false → (((decide ((u_op : Int) = 12)) = true → (CallOK Tryz.prog 122 [(vb (decide ((u_aN : Int) = u_bN)))] h6 fun v37 h38 => ∃ (x39 : Int) (x40 : Int), v37 = (vag [(vi x39), (vi x40)]) ∧ R (vag [(vi x39), (vi x40)]) h38)) ∧ ((decide ((u_op : Int) = 12)) = false → R (vag [(vi 0), (vi 0)]) h6))))))))))))))))))
theorem ok_R_Do {u_op : Int} {u_aKind : Int} {u_aN : Int} {u_bKind : Int} {u_bN : Int} {h : Hp} {R : Value → Hp → Prop} (H : VC_R_Do u_op u_aKind u_aN u_bKind u_bN h R) : CallOK Tryz.prog 123 [(vi u_op), (vag [(vi u_aKind), (vi u_aN)]), (vag [(vi u_bKind), (vi u_bN)])] h R :=
  call_of (cfg := ⟨[], [], []⟩) noNG mixed Tryz.func123 [.one (.v (vi u_op)), .ag [.v (vi u_aKind), .v (vi u_aN)], .ag [.v (vi u_bKind), .v (vi u_bN)]] (by kernel_rfl) rfl (by kernel_rfl) H
end Go.Proofs.YtejefijpcggkfaaGreatDoor
namespace Go.Proofs.YtejefijpcggkfaaGreatDoor
open Go Go.Vc
set_option linter.unusedVariables false
theorem R_Num_ok {n : Int} {h : Hp} {R : Value → Hp → Prop} (hK : R (vag (encV (numV n))) h) : CallOK Tryz.prog 103 [vi n] h R := by
  refine ok_R_Num ?_
  unfold VC_R_Num
  refine ⟨fun e => ?_, fun e => ?_⟩
  · simp [Bool.cond_eq_ite] at e
    have : numV n = (0, 0) := by unfold numV; rw [if_pos (by omega)]
    rw [this] at hK
    exact hK
  · simp [Bool.cond_eq_ite] at e
    have : numV n = (1, n) := by unfold numV; rw [if_neg (by omega)]
    rw [this] at hK
    exact hK
theorem R_Truth_ok {b : Bool} {h : Hp} {R : Value → Hp → Prop} (hK : R (vag (encV (truthV b))) h) : CallOK Tryz.prog 122 [vb b] h R := by
  refine ok_R_Truth ?_
  unfold VC_R_Truth
  cases b with
  | true => exact ⟨fun _ => hK, fun e => by cases e⟩
  | false => exact ⟨fun e => by (cases e), fun _ => hK⟩
theorem or10 (a b : Int × Int) : doV 10 a b = if (a.1 = 2 ∧ a.2 ≠ 0) ∨ (b.1 = 2 ∧ b.2 ≠ 0) then (2, 1) else if a.1 = 2 ∧ b.1 = 2 then (2, 0) else (0, 0) := by
  obtain ⟨a1, a2⟩ := a
  obtain ⟨b1, b2⟩ := b
  unfold doV andV notV truthV
  by_cases h1 : a1 = 2 <;> by_cases h2 : b1 = 2 <;> by_cases h3 : a2 = 0 <;> by_cases h4 : b2 = 0 <;> simp [h1, h2, h3, h4]
theorem R_Do_ok {op : Int} {a b : Int × Int} {h : Hp} {R : Value → Hp → Prop} (hK : R (vag (encV (doV op a b))) h) : CallOK Tryz.prog 123 [vi op, vag (encV a), vag (encV b)] h R := by
  refine ok_R_Do ?_
  unfold VC_R_Do
  refine R_Truth_ok ⟨_, _, rfl, R_Truth_ok ⟨_, _, rfl, fun e => ?_, fun e => ⟨fun e2 => ?_, fun e2 => ?_⟩⟩⟩
  · obtain rfl : op = 9 := of_decide_eq_true e
    have hd : doV 9 a b = andV a b := rfl
    rw [hd] at hK
    unfold andV at hK
    refine ⟨_, rd_eqV (b := truthV false), _, fun _ => rd_eqV (b := truthV false), fun q => ?_, fun q => ?_⟩
    · rw [if_pos] at hK
      · exact hK
      · by_cases h1 : a = (2, 0)
        · exact .inl h1
        · right
          have : decide (a = truthV false) = false := decide_eq_false h1
          rw [this] at q
          exact of_decide_eq_true q
    · have h1 : ¬ (a = (2, 0) ∨ b = (2, 0)) := by
        rintro (h1 | h1)
        · have : decide (a = truthV false) = true := decide_eq_true h1
          rw [this] at q; cases q
        · have : decide (b = truthV false) = true := decide_eq_true h1
          rw [this] at q
          cases h2 : decide (a = truthV false) <;> rw [h2] at q <;> cases q
      rw [if_neg h1] at hK
      refine ⟨fun q2 => ?_, fun q2 => ?_⟩
      · rw [if_pos (by simp [Bool.cond_eq_ite] at q2; exact q2)] at hK; exact hK
      · rw [if_neg (by simp [Bool.cond_eq_ite] at q2; omega)] at hK; exact hK
  · obtain rfl : op = 10 := of_decide_eq_true e2
    rw [or10] at hK
    refine ⟨fun q => ?_, fun q => ?_⟩
    · rw [if_pos (by simp [Bool.cond_eq_ite] at q; omega)] at hK; exact hK
    · rw [if_neg (by simp [Bool.cond_eq_ite] at q; omega)] at hK
      refine ⟨fun q2 => ?_, fun q2 => ?_⟩
      · rw [if_pos (by simp [Bool.cond_eq_ite] at q2; exact q2)] at hK; exact hK
      · rw [if_neg (by simp [Bool.cond_eq_ite] at q2; omega)] at hK; exact hK
  · unfold doV at hK
    rw [if_neg (of_decide_eq_false e), if_neg (of_decide_eq_false e2)] at hK
    refine ⟨fun q => ?_, fun q => ?_⟩
    · rw [if_neg (by simp [Bool.cond_eq_ite] at q; omega)] at hK; exact hK
    rw [if_pos (by simp [Bool.cond_eq_ite] at q; omega)] at hK
    refine ⟨fun e => ?_, fun e => ?_⟩
    · rw [if_pos (of_decide_eq_true e)] at hK
      exact ⟨_, w64_isW _, R_Num_ok ⟨_, _, rfl, hK⟩⟩
    rw [if_neg (of_decide_eq_false e)] at hK
    refine ⟨fun e => ?_, fun e => ?_⟩
    · rw [if_pos (of_decide_eq_true e)] at hK
      exact ⟨_, w64_isW _, R_Num_ok ⟨_, _, rfl, hK⟩⟩
    rw [if_neg (of_decide_eq_false e)] at hK
    refine ⟨fun e => ?_, fun e => ?_⟩
    · rw [if_pos (of_decide_eq_true e)] at hK
      exact ⟨_, w64_isW _, R_Num_ok ⟨_, _, rfl, hK⟩⟩
    rw [if_neg (of_decide_eq_false e)] at hK
    refine ⟨fun e => ?_, fun e => ?_⟩
    · rw [if_pos (of_decide_eq_true e)] at hK
      exact R_Truth_ok ⟨_, _, rfl, hK⟩
    rw [if_neg (of_decide_eq_false e)] at hK
    refine ⟨fun e => ?_, fun e => ?_⟩
    · rw [if_pos (of_decide_eq_true e)] at hK
      exact R_Truth_ok ⟨_, _, rfl, hK⟩
    rw [if_neg (of_decide_eq_false e)] at hK
    exact hK
end Go.Proofs.YtejefijpcggkfaaGreatDoor
namespace Go.Proofs.YtejefijpcggkfaaGreatDoor
open Go Go.Vc Go.Txt
set_option linter.unusedVariables false
set_option maxRecDepth 100000
structure TabE (h : Hp) : Prop where
  a : ∃ tp p, ∀ w, Sub h w → w.var? Tryz.prog "strconv.ErrSyntax" = some #[.iface tp p]
  b : ∃ tp p, ∀ w, Sub h w → w.var? Tryz.prog "strconv.ErrRange" = some #[.iface tp p]
theorem TabE.le {h h' : Hp} (T : TabE h) (hl : h.le h') : TabE h' := by
  obtain ⟨⟨t, p, a⟩, ⟨u, q, b⟩⟩ := T
  exact ⟨⟨t, p, fun w hs => a w (sub_le hl hs)⟩, ⟨u, q, fun w hs => b w (sub_le hl hs)⟩⟩
theorem strconv_Atoi_ok {l : List UInt8} (hl : l.length ≤ 1000000) {h : Hp} (E : TabE h) {R : Value → Hp → Prop} (hY : ∀ v, Lib.atoiAll l = .ok v → R (vtup [vi v, ifv none]) h) (hN : (∀ v, Lib.atoiAll l ≠ .ok v) → ∀ x e, R (vtup [vi x, ifv (some e)]) h) :
    CallOK Tryz.prog 74 [vs (bs l)] h R := by
  have hsz : (bs l).size = l.length := bs_size l
  have hdl : (bs l).data.toList = l := by simp [bs]
  obtain ⟨⟨t, p, ha⟩, ⟨u, q, hb⟩⟩ := E
  refine callOK_below fun w hs => ?_
  cases hA : Lib.atoiAll l
  · rename_i v
    refine (Tryz.strconv_Atoi_ok (bs l) (by omega) v (by rw [hdl]; exact hA) w).mono ?_
    rintro e w' ⟨he, hw⟩
    refine ⟨_, he, ?_, hY v hA⟩
    rcases hw with rfl | ⟨t, rfl⟩
    · exact RowKit.Below.refl _ _
    · exact Lib.bytesWorld_below _ _ _
  · refine (Any.strconv_Atoi_syntax_var Tryz.laysC172 (bs l) (by omega) (by rw [hdl]; exact hA) t p w (ha w hs)).mono ?_
    rintro e w' ⟨N, he, _, _, hB⟩
    exact ⟨_, he, hB, hN (fun v e => by rw [hA] at e; cases e) _ (_, _)⟩
  · refine (Any.strconv_Atoi_range_var Tryz.laysC172 (bs l) (by omega) (by rw [hdl]; exact hA) u q w (hb w hs)).mono ?_
    rintro e w' ⟨N, he, _, _, hB⟩
    exact ⟨_, he, hB, hN (fun v e => by rw [hA] at e; cases e) _ (_, _)⟩
def textV (v : Int × Int) : List UInt8 := if v.1 = 0 then wNull else if v.1 = 1 then Lib.itoa v.2 else if v.2 = 0 then wFalse else wTrue
def readV (l : List UInt8) : (Int × Int) × Int :=
  if l = wNull then ((0, 0), 0) else if l = wTrue ∨ l = wFalse then (truthV (decide (l = wTrue)), 0) else
    match Lib.atoiAll l with
    | .ok v => if Lib.itoa v = l ∧ -1000000000 ≤ v ∧ v ≤ 1000000000 then (numV v, 0) else ((0, 0), 4)
    | _ => ((0, 0), 4)
theorem value_Parse_ok {l : List UInt8} (hl : l.length ≤ 1000000) {h : Hp} (T : TabP h) (E : TabE h) {R : Value → Hp → Prop} (hK : R (vtup [vag (encV (readV l).1), ifv (errV (readV l).2)]) h) : CallOK Tryz.prog 157 [vs (bs l)] h R := by
  refine ok_value_Parse ?_
  unfold VC_value_Parse
  refine ⟨_, rd_eqBs (b := wNull), fun g => ?_, fun g1 => ?_⟩
  · have g := of_decide_eq_true g
    have : readV l = ((0, 0), 0) := by unfold readV; rw [if_pos g]
    rw [this] at hK
    exact value_Null_ok ⟨_, _, rfl, hK⟩
  have g1 := of_decide_eq_false g1
  refine ⟨_, rd_eqBs (b := wTrue), ?_⟩
  intro J10
  have yes : l = wTrue ∨ l = wFalse → J10 true := by
    intro hw
    refine ⟨fun _ => ⟨_, rd_eqBs (b := wTrue), ?_⟩, fun g => by cases g⟩
    have : readV l = (truthV (decide (l = wTrue)), 0) := by unfold readV; rw [if_neg g1, if_pos hw]
    rw [this] at hK
    exact value_Truth_ok ⟨_, _, rfl, hK⟩
  have no : ¬ (l = wTrue ∨ l = wFalse) → J10 false := by
    intro hw
    refine ⟨fun g => by (cases g), fun _ => ?_⟩
    have hr : readV l = match Lib.atoiAll l with
      | .ok v => if Lib.itoa v = l ∧ -1000000000 ≤ v ∧ v ≤ 1000000000 then (numV v, 0) else ((0, 0), 4)
      | _ => ((0, 0), 4) := by unfold readV; rw [if_neg g1, if_neg hw]
    refine strconv_Atoi_ok hl E (fun v hv => ⟨_, _, rfl, ?_⟩) fun hn x e => ⟨_, _, rfl, ?_⟩
    · rw [hv] at hr
      simp only at hr
      have hb := Lib.atoiAll_bounds hv
      refine ⟨fun x h' => h' = h ∧ x = .t (.one (.v (vs (bs (Lib.itoa v))))), fun _ => strconv_Itoa_ok (by unfold InR; omega) T ⟨_, rfl, rfl, rfl⟩, fun g => absurd rfl g, ?_⟩
      rintro h26 s27 ⟨rfl, e⟩
      cases e
      refine ⟨_, fun _ => rd_neBs (a := Lib.itoa v) (b := l), fun g => ?_, fun g => ?_⟩
      · have : ¬ (Lib.itoa v = l ∧ -1000000000 ≤ v ∧ v ≤ 1000000000) := by
          rintro ⟨h1, h2, h3⟩
          rw [decide_eq_true h1, decide_eq_false (show ¬ v < -1000000000 by omega), decide_eq_false (show ¬ v > 1000000000 by omega)] at g
          cases g
        rw [hr, if_neg this] at hK
        exact hK
      · have : Lib.itoa v = l ∧ -1000000000 ≤ v ∧ v ≤ 1000000000 := by
          obtain ⟨g, g3⟩ := bor_false g
          obtain ⟨g, g2⟩ := bor_false g
          obtain ⟨_, g⟩ := bor_false g
          have g3 := of_decide_eq_false g3
          have g2 := of_decide_eq_false g2
          exact ⟨by simpa using g, by omega, by omega⟩
        rw [hr, if_pos this] at hK
        exact value_Number_ok ⟨_, _, rfl, hK⟩
    · have hr2 : readV l = ((0, 0), 4) := by
        rw [hr]
        cases hA : Lib.atoiAll l
        · exact absurd hA (hn _)
        · rfl
        · rfl
      rw [hr2] at hK
      refine ⟨fun x h' => h' = h ∧ ∃ s, x = .t (.one (.v (vs s))), fun g => by (cases g), fun _ => ⟨rfl, _, rfl⟩, ?_⟩
      rintro h26 s27 ⟨rfl, s, e⟩
      cases e
      exact ⟨false, fun g => by (cases g), fun _ => hK, fun g => by cases g⟩
  clear_value J10
  refine ⟨fun g => ?_, fun g2 => ⟨_, rd_eqBs (b := wFalse), ?_⟩⟩
  · rw [g]; exact yes (.inl (of_decide_eq_true g))
  · have g2 := of_decide_eq_false g2
    by_cases hf : l = wFalse
    · rw [decide_eq_true hf]; exact yes (.inr hf)
    · rw [decide_eq_false hf]; exact no (by rintro (h | h); exact g2 h; exact hf h)
theorem rd_subU8 {t : TypeId} {h : Hp} {a : Int} (h0 : 48 ≤ a) (h1 : a ≤ 255) : Rd Tryz.prog (binOp .sub t (vk .u8 a) (vk .u8 48)) h (vk .u8 (a - 48)) := by
  intro w _
  have e : IntKind.u8.wrap (a - 48) = a - 48 := by rw [IntKind.wrap_u8]; omega
  simp [binOp, Op.intArith, e]
theorem R_natural_ok {l : List UInt8} (hl : l.length ≤ 1000000) {most : Int} (hm : 0 ≤ most) (hm2 : most ≤ 1000000000000) {plain : Bool} {h : Hp} {R : Value → Hp → Prop} (hK : R (vi (natF l most plain)) h) : CallOK Tryz.prog 84 [vs (bs l), vi most, vb plain] h R := by
  refine ok_R_natural ?_
  unfold VC_R_natural
  rw [bs_size]
  refine ⟨((l.getD (0 : Int).toNat 0).toNat : Int), fun g => rd_idx (by kernel_rfl) (by decide) (by have := of_decide_eq_false g.1; omega), ?_⟩
  have hh : ∀ c r, l = c :: r → l.getD (0 : Int).toNat 0 = c := by rintro c r rfl; rfl
  have e48 : ∀ c : UInt8, (c.toNat : Int) = 48 ↔ c = 48 := by
    intro c
    constructor
    · intro e
      have : c.toNat = 48 := by omega
      have h2 := congrArg UInt8.ofNat this
      simpa using h2
    · rintro rfl; rfl
  have ep : ∀ (p : Prop) [Decidable p], (bif plain then decide p else false) = decide (plain = true ∧ p) := by
    intro p _
    cases plain <;> simp
  have key : (bif (decide ((l.length : Int) < 1)) then true else (bif (bif plain then (decide (((l.getD (0 : Int).toNat 0).toNat : Int) = 48)) else false) then (decide ((l.length : Int) > 1)) else false)) = decide (l = [] ∨ (plain = true ∧ l.head? = some 48 ∧ 1 < l.length)) := by
    rw [ep, cand, cor]
    refine decide_eq_decide.2 ?_
    match l, hh with
    | [], _ => exact ⟨fun _ => .inl rfl, fun _ => .inl (by decide)⟩
    | c :: r, hh =>
      rw [hh c r rfl, e48]
      constructor
      · rintro (h | ⟨⟨h1, h2⟩, h3⟩)
        · exfalso
          have : (c :: r).length = r.length + 1 := rfl
          omega
        · exact .inr ⟨h1, by rw [h2]; rfl, by omega⟩
      · rintro (h | ⟨h1, h2, h3⟩)
        · exact absurd h (by simp)
        · exact .inr ⟨⟨h1, by simpa using h2⟩, by omega⟩
  rw [key]
  clear key hh
  refine ⟨fun g => ?_, fun g => ?_⟩
  · have : natF l most plain = -1 := by unfold natF; rw [if_pos (of_decide_eq_true g)]
    rw [this] at hK; exact hK
  have : natF l most plain = natGo most 0 l := by unfold natF; rw [if_neg (of_decide_eq_false g)]
  rw [this] at hK
  clear this g
  refine ⟨fun vs hh => hh = h ∧ ∃ (a : Int) (i : Nat), vs = [vi a, vi i] ∧ i ≤ l.length ∧ natGo most 0 l = natGo most a (l.drop i) ∧ 0 ≤ a ∧ a ≤ most, fun vs hh => l.length - (vint vs 1).toNat, ⟨rfl, 0, 0, rfl, Nat.zero_le _, rfl, Int.le_refl _, hm⟩, ?_⟩
  rintro vs hh ⟨rfl, a, i, rfl, hi, hc, ha, ham⟩
  refine ⟨a, i, rfl, fun g => ?_, fun g => ?_⟩
  · have hlt : i < l.length := by have := of_decide_eq_true g; omega
    have hg : l.getD (i : Int).toNat 0 = l[i] := by rw [Int.toNat_natCast, List.getD_eq_getElem?_getD, List.getElem?_eq_getElem hlt]; rfl
    have hr : Rd Tryz.prog (Instr.index 9 (vs (bs l)) (vi i)) hh (vk .u8 ((l[i]).toNat : Nat)) := by
      have := rd_idx (P := Tryz.prog) (h := hh) (t := 9) (l := l) (i := (i : Int)) (by kernel_rfl) (by omega) (by omega)
      rw [hg] at this
      exact this
    rw [List.drop_eq_getElem_cons hlt, natGo] at hc
    have hb := UInt8.toNat_lt l[i]
    generalize l[i] = c at *
    refine ⟨_, hr, _, fun _ => hr, fun q => ?_, fun q => ?_⟩
    · rw [cor] at q
      have q := of_decide_eq_true q
      rw [if_pos (by omega)] at hc
      rw [hc] at hK; exact hK
    · rw [cor] at q
      have q := of_decide_eq_false q
      rw [if_neg (by omega)] at hc
      have e64 : IntKind.wrap .i64 ((c.toNat : Int) - 48) = (c.toNat : Int) - 48 := IntWalk.i64_in _ (by omega)
      refine ⟨_, isW (by unfold InR; omega), _, hr, _, rd_subU8 (by omega) (by omega), ?_⟩
      rw [e64]
      refine ⟨_, isW (by unfold InR; omega), fun q2 => ?_, fun q2 => ?_⟩
      · rw [if_pos (of_decide_eq_true q2)] at hc
        rw [hc] at hK; exact hK
      · have q2 := of_decide_eq_false q2
        rw [if_neg q2] at hc
        exact ⟨_, isW (by unfold InR; omega), ⟨rfl, _, i + 1, rfl, by omega, hc, by omega, by omega⟩, by simp [vint]; omega⟩
  · have hge : i = l.length := by have := of_decide_eq_false g; omega
    subst hge
    rw [List.drop_eq_nil_of_le (Nat.le_refl _), natGo] at hc
    rw [hc] at hK; exact hK
def tailV (l : List UInt8) : List UInt8 := if 1 < l.length ∧ l.head? = some 45 then l.drop 1 else l
def readR (l : List UInt8) : (Int × Int) × Int :=
  if l = wNull then ((0, 0), 0) else if l = wTrue ∨ l = wFalse then (truthV (decide (l = wTrue)), 0) else
    if natF (tailV l) 1000000000 true < 0 ∨ ((tailV l).length < l.length ∧ natF (tailV l) 1000000000 true = 0) then ((0, 0), 4)
    else (numV (if (tailV l).length < l.length then - natF (tailV l) 1000000000 true else natF (tailV l) 1000000000 true), 0)
theorem natF_le {l : List UInt8} {most : Int} (hm : 0 ≤ most) : natF l most true ≤ most := by
  by_cases h : 0 ≤ natF l most true
  · exact (natF_inv hm h).2
  · omega
theorem natF_ge {l : List UInt8} {most : Int} (hm : 0 ≤ most) : -1 ≤ natF l most true := by
  unfold natF
  split
  · omega
  · have := natGo_spec most l 0 hm
    simp only [Int.natCast_zero] at this
    rw [this]
    split <;> omega
theorem R_ValueOf_ok {l : List UInt8} (hl : l.length ≤ 1000000) {h : Hp} {R : Value → Hp → Prop} (hK : R (vtup [vag (encV (readR l).1), vi (readR l).2]) h) : CallOK Tryz.prog 112 [vs (bs l)] h R := by
  refine ok_R_ValueOf ?_
  unfold VC_R_ValueOf
  rw [bs_size]
  refine ⟨_, rd_eqBs (b := wNull), fun g => ?_, fun g1 => ⟨_, rd_eqBs (b := wTrue), _, fun _ => rd_eqBs (b := wFalse), ?_⟩⟩
  · have : readR l = ((0, 0), 0) := by unfold readR; rw [if_pos (of_decide_eq_true g)]
    rw [this] at hK; exact hK
  have g1 := of_decide_eq_false g1
  rw [cor]
  refine ⟨fun g => ⟨_, rd_eqBs (b := wTrue), R_Truth_ok ⟨_, _, rfl, ?_⟩⟩, fun g2 => ?_⟩
  · have : readR l = (truthV (decide (l = wTrue)), 0) := by unfold readR; rw [if_neg g1, if_pos (of_decide_eq_true g)]
    rw [this] at hK; exact hK
  have g2 := of_decide_eq_false g2
  have hr : readR l = if natF (tailV l) 1000000000 true < 0 ∨ ((tailV l).length < l.length ∧ natF (tailV l) 1000000000 true = 0) then ((0, 0), 4)
    else (numV (if (tailV l).length < l.length then - natF (tailV l) 1000000000 true else natF (tailV l) 1000000000 true), 0) := by unfold readR; rw [if_neg g1, if_neg g2]
  rw [hr] at hK
  clear hr
  refine ⟨((l.getD (0 : Int).toNat 0).toNat : Int), fun g => rd_idx (by kernel_rfl) (by decide) (by have := of_decide_eq_true g; omega), ?_⟩
  intro J15
  have hJ : ∀ t, t = tailV l → t.length ≤ l.length → J15 (bs t) := by
    intro t ht htl
    refine R_natural_ok (by omega) (by decide) (by decide) ⟨_, rfl, ?_⟩
    rw [← ht] at hK
    have hb1 := natF_le (l := t) (most := 1000000000) (by decide)
    have hb2 := natF_ge (l := t) (most := 1000000000) (by decide)
    generalize natF t 1000000000 true = n at *
    rw [bs_size]
    have e : (bif (decide ((n : Int) < 0)) then true else (bif (decide (((t.length : Nat) : Int) < ((l.length : Nat) : Int))) then (decide ((n : Int) = 0)) else false)) = decide (n < 0 ∨ (t.length < l.length ∧ n = 0)) := by
      rw [cand, cor]
      exact decide_eq_decide.2 (by omega)
    rw [e]
    refine ⟨fun g => ?_, fun g => ?_⟩
    · rw [if_pos (of_decide_eq_true g)] at hK; exact hK
    · rw [if_neg (of_decide_eq_false g)] at hK
      refine ⟨fun g => ⟨_, isW (by unfold InR; omega), R_Num_ok ⟨_, _, rfl, ?_⟩⟩, fun g => R_Num_ok ⟨_, _, rfl, ?_⟩⟩
      · rw [if_pos (by have := of_decide_eq_true g; omega)] at hK; exact hK
      · rw [if_neg (by have := of_decide_eq_false g; omega)] at hK; exact hK
  clear_value J15
  have e45 : (bif (decide ((l.length : Int) > 1)) then (decide (((l.getD (0 : Int).toNat 0).toNat : Int) = 45)) else false) = decide (1 < l.length ∧ l.head? = some 45) := by
    rw [cand]
    refine decide_eq_decide.2 ?_
    match l with
    | [] => simp
    | c :: r =>
      have e : (c.toNat : Int) = 45 ↔ c = 45 := by
        constructor
        · intro e
          have : c.toNat = 45 := by omega
          have h2 := congrArg UInt8.ofNat this
          simpa using h2
        · rintro rfl; rfl
      show _ ∧ (c.toNat : Int) = 45 ↔ _
      rw [e]
      simp
      omega
  rw [e45]
  refine ⟨fun g => ⟨_, rd_cutL (by kernel_rfl) (by decide) (by have := (of_decide_eq_true g).1; omega), ?_⟩, fun g => ?_⟩
  · refine hJ _ ?_ (by simp)
    unfold tailV
    rw [if_pos (of_decide_eq_true g)]
    rfl
  · refine hJ _ ?_ (Nat.le_refl _)
    unfold tailV
    rw [if_neg (of_decide_eq_false g)]
theorem read_same (l : List UInt8) : readV l = readR l := by
  unfold readV readR
  split
  · rfl
  · split
    · rfl
    · have hi := fun h => natF_inv (l := tailV l) (most := 1000000000) (by decide) h
      have hle := natF_le (l := tailV l) (most := 1000000000) (by decide)
      by_cases hc : natF (tailV l) 1000000000 true < 0 ∨ ((tailV l).length < l.length ∧ natF (tailV l) 1000000000 true = 0)
      · rw [if_pos hc]
        cases hA : Lib.atoiAll l with
        | ok v =>
          simp only
          rw [if_neg]
          rintro ⟨h1, h2, h3⟩
          by_cases hv : v < 0
          · have e := itoa_minus hv
            rw [h1] at e
            have hd := dec_spec (-v).toNat
            have ei : Lib.itoa (-v) = Lib.decDigits (-v).toNat := by unfold Lib.itoa; rw [if_neg (by omega)]
            rw [ei] at e
            have ht : tailV l = Lib.decDigits (-v).toNat := by
              unfold tailV
              have := List.length_pos_iff.2 hd.2.2.1
              rw [if_pos (by rw [e]; exact ⟨by simp; omega, rfl⟩), e]
              rfl
            have hn := natF_dec (k := (-v).toNat) (most := 1000000000) (by omega) (by decide)
            rw [← ht] at hn
            omega
          · have ei : Lib.itoa v = Lib.decDigits v.toNat := by unfold Lib.itoa; rw [if_neg hv]
            rw [ei] at h1
            have hd := dec_spec v.toNat
            have ht : tailV l = l := by
              unfold tailV
              rw [if_neg]
              rintro ⟨_, h4⟩
              rw [← h1] at h4
              have hm : (45 : UInt8) ∈ Lib.decDigits v.toNat := by
                match hx : Lib.decDigits v.toNat with
                | [] => rw [hx] at h4; cases h4
                | c :: r => rw [hx] at h4; simp at h4; subst h4; exact List.mem_cons_self ..
              exact absurd (hd.1 _ hm) (by decide)
            have hn := natF_dec (k := v.toNat) (most := 1000000000) (by omega) (by decide)
            rw [h1, ← ht] at hn
            rw [ht] at hc
            rw [ht] at hn
            omega
        | _ => rfl
      · rw [if_neg hc]
        have h0 : 0 ≤ natF (tailV l) 1000000000 true := by omega
        obtain ⟨e1, _⟩ := hi h0
        generalize natF (tailV l) 1000000000 true = n at *
        have hl : ∃ m : Int, m = (if (tailV l).length < l.length then -n else n) ∧ Lib.itoa m = l ∧ -1000000000 ≤ m ∧ m ≤ 1000000000 := by
          refine ⟨_, rfl, ?_, ?_, ?_⟩
          · split
            · rename_i hlt
              have hs : 1 < l.length ∧ l.head? = some 45 := by
                unfold tailV at hlt
                split at hlt
                · assumption
                · omega
              have el : l = 45 :: tailV l := by
                unfold tailV
                rw [if_pos hs]
                match l, hs with
                | c :: r, hs => simp at hs ⊢; exact hs.2
              have hn0 : n ≠ 0 := fun e => hc (.inr ⟨hlt, e⟩)
              rw [itoa_minus (by omega)]
              have ei : Lib.itoa (- -n) = Lib.decDigits n.toNat := by
                unfold Lib.itoa
                rw [if_neg (by omega)]
                congr 1
                omega
              rw [ei, ← e1]
              exact el.symm
            · rename_i hlt
              have : tailV l = l := by
                unfold tailV at hlt ⊢
                split
                · rename_i h
                  rw [if_pos h] at hlt
                  simp at hlt
                  omega
                · rfl
              rw [this] at e1
              have ei : Lib.itoa n = Lib.decDigits n.toNat := by unfold Lib.itoa; rw [if_neg (by omega)]
              rw [ei, ← e1]
          · split <;> omega
          · split <;> omega
        obtain ⟨m, em, h1, h2, h3⟩ := hl
        rw [← em]
        have := atoi_itoa (n := m) (by omega) (by omega)
        rw [h1] at this
        rw [this]
        simp only
        rw [if_pos ⟨h1, h2, h3⟩]
end Go.Proofs.YtejefijpcggkfaaGreatDoor
namespace Go.Proofs.YtejefijpcggkfaaGreatDoor
open Go Go.Vc
set_option maxRecDepth 100000
set_option linter.unusedVariables false
def VC_query_reader_fail (u_rb u_ro : Nat) (u_err : Option (TypeId × Value)) (h : Hp) (R : Value → Hp → Prop) : Prop :=
  (∃ (e1 : Option (TypeId × Value)), (Hp.cell h u_rb (u_ro + 2) = some (ifv e1)) ∧ (let J5 : Hp → Prop := fun (h6 : Hp) => (Hp.store h6 u_rb u_ro [(vsl none 0 0)] fun h7 => R (vtup []) h7); (((Option.isNone e1) = true → (Hp.store h u_rb (u_ro + 2) [(ifv u_err)] fun h2 => (J5 h2))) ∧ ((Option.isNone e1) = false → (J5 h)))))
theorem ok_query_reader_fail {u_rb u_ro : Nat} {u_err : Option (TypeId × Value)} {h : Hp} {R : Value → Hp → Prop} (H : VC_query_reader_fail u_rb u_ro u_err h R) : CallOK Tryz.prog 69 [(vhp u_rb u_ro), (ifv u_err)] h R :=
  call_of (cfg := ⟨[], [], []⟩) noNG mixed Tryz.func69 [.one (.hp u_rb u_ro), .one (.ifc u_err)] (by kernel_rfl) rfl (by kernel_rfl) H
def VC_query_reader_is (u_rb u_ro : Nat) (u_wordsa : Option Addr) (u_wordsn u_wordsc : Nat) (h : Hp) (R : Value → Hp → Prop) : Prop :=
  (∃ (a1 : Option Addr) (n1 c1 : Nat), (Hp.cell h u_rb u_ro = some (vsl a1 n1 c1)) ∧ (∃ (a2 : Option Addr) (n2 c2 : Nat), ((decide ((((n1 : Nat) : Int) : Int) = 0)) = false → Hp.cell h u_rb u_ro = some (vsl a2 n2 c2)) ∧ (∃ (b3 o4 : Nat), ((decide ((((n1 : Nat) : Int) : Int) = 0)) = false → (a2 = some ⟨b3, o4, none⟩ ∧ (0 : Int) ≤ 0 ∧ 0 < ((n2 : Nat) : Int))) ∧ (∃ (s5 : ByteArray), ((decide ((((n1 : Nat) : Int) : Int) = 0)) = false → Hp.cell h b3 (o4 + (0 : Int).toNat * 1) = some (vs s5)) ∧ (∃ (J6 : SV → Hp → Prop), ((decide ((((n1 : Nat) : Int) : Int) = 0)) = false → (CallOK Tryz.prog 71 [(vsl u_wordsa u_wordsn u_wordsc), (vs s5)] h fun v7 h8 => ∃ (p9 : Bool), v7 = (vb p9) ∧ J6 (.t (.one (.v (vb p9)))) h8)) ∧ (¬ ((decide ((((n1 : Nat) : Int) : Int) = 0)) = false) → J6 (.t (.one (.v (vb false)))) h) ∧ ∀ (h10 : Hp) (p11 : Bool), J6 (.t (.one (.v (vb p11)))) h10 → (((bif (decide ((((n1 : Nat) : Int) : Int) = 0)) then true else (!p11)) = true → R (vs ⟨#[]⟩) h10) ∧ ((bif (decide ((((n1 : Nat) : Int) : Int) = 0)) then true else (!p11)) = false → (∃ (a13 : Option Addr) (n13 c13 : Nat), (Hp.cell h10 u_rb u_ro = some (vsl a13 n13 c13)) ∧ (∃ (b14 o15 : Nat), (a13 = some ⟨b14, o15, none⟩ ∧ (0 : Int) ≤ 0 ∧ 0 < ((n13 : Nat) : Int)) ∧ (∃ (s16 : ByteArray), (Hp.cell h10 b14 (o15 + (0 : Int).toNat * 1) = some (vs s16)) ∧ (∃ (a17 : Option Addr) (n17 c17 : Nat), (Hp.cell h10 u_rb u_ro = some (vsl a17 n17 c17)) ∧ (∃ (a18 : Option Addr) (n18 c18 : Nat), (Rd Tryz.prog (Instr.sliceAt 83 (vsl a17 n17 c17) (some (vi 1)) none none) h10 (vsl a18 n18 c18)) ∧ (Hp.store h10 u_rb u_ro [(vsl a18 n18 c18)] fun h19 => R (vs s16) h19)))))))))))))
theorem ok_query_reader_is {u_rb u_ro : Nat} {u_wordsa : Option Addr} {u_wordsn u_wordsc : Nat} {h : Hp} {R : Value → Hp → Prop} (H : VC_query_reader_is u_rb u_ro u_wordsa u_wordsn u_wordsc h R) : CallOK Tryz.prog 41 [(vhp u_rb u_ro), (vsl u_wordsa u_wordsn u_wordsc)] h R :=
  call_of (cfg := ⟨[], [], []⟩) noNG mixed Tryz.func41 [.one (.hp u_rb u_ro), .one (.v (vsl u_wordsa u_wordsn u_wordsc))] (by kernel_rfl) rfl (by kernel_rfl) H
def VC_query_reader_must (u_rb u_ro : Nat) (u_word : ByteArray) (h : Hp) (R : Value → Hp → Prop) : Prop :=
  (∀ (b1 : Nat), h b1 = none → let h2 : Hp := Hp.set h b1 (cellsO [(vs u_word)] 9); (CallOK Tryz.prog 41 [(vhp u_rb u_ro), (vsl (some (⟨b1, 0, none⟩ : Addr)) 1 1)] h2 fun v3 h4 => ∃ (s5 : ByteArray), v3 = (vs s5) ∧ (∃ (p6 : Bool), (Rd Tryz.prog ((eqGuard .eql 9 (.tmp 7) (.const (vs ⟨#[]⟩)) (vs s5) (vs ⟨#[]⟩) >>= fun _ => binOp .eql 9 (vs s5) (vs ⟨#[]⟩))) h4 (vb p6)) ∧ ((p6 = true → (CallOK Tryz.prog 69 [(vhp u_rb u_ro), (ifv (some (95, (vi 4))))] h4 fun v7 h8 => v7 = (vtup []) ∧ R (vtup []) h8)) ∧ (p6 = false → R (vtup []) h4)))))
theorem ok_query_reader_must {u_rb u_ro : Nat} {u_word : ByteArray} {h : Hp} {R : Value → Hp → Prop} (H : VC_query_reader_must u_rb u_ro u_word h R) : CallOK Tryz.prog 39 [(vhp u_rb u_ro), (vs u_word)] h R :=
  call_of (cfg := ⟨[], [], []⟩) noNG mixed Tryz.func39 [.one (.hp u_rb u_ro), .one (.v (vs u_word))] (by kernel_rfl) rfl (by kernel_rfl) H
def VC_query_reader_number (u_rb u_ro : Nat) (u_most : Int) (h : Hp) (R : Value → Hp → Prop) : Prop :=
  (∃ (a1 : Option Addr) (n1 c1 : Nat), (Hp.cell h u_rb u_ro = some (vsl a1 n1 c1)) ∧ (((decide ((((n1 : Nat) : Int) : Int) = 0)) = true → (CallOK Tryz.prog 69 [(vhp u_rb u_ro), (ifv (some (95, (vi 4))))] h fun v2 h3 => v2 = (vtup []) ∧ R (vi 0) h3)) ∧ ((decide ((((n1 : Nat) : Int) : Int) = 0)) = false → (∃ (a5 : Option Addr) (n5 c5 : Nat), (Hp.cell h u_rb u_ro = some (vsl a5 n5 c5)) ∧ (∃ (b6 o7 : Nat), (a5 = some ⟨b6, o7, none⟩ ∧ (0 : Int) ≤ 0 ∧ 0 < ((n5 : Nat) : Int)) ∧ (∃ (s8 : ByteArray), (Hp.cell h b6 (o7 + (0 : Int).toNat * 1) = some (vs s8)) ∧ (CallOK Tryz.prog 74 [(vs s8)] h fun v9 h10 => ∃ (x11 : Int) (e12 : Option (TypeId × Value)), v9 = (vtup [(vi x11), (ifv e12)]) ∧ (∃ (a13 : Option Addr) (n13 c13 : Nat), ((Option.isSome e12) = false → Hp.cell h10 u_rb u_ro = some (vsl a13 n13 c13)) ∧ (∃ (b14 o15 : Nat), ((Option.isSome e12) = false → (a13 = some ⟨b14, o15, none⟩ ∧ (0 : Int) ≤ 0 ∧ 0 < ((n13 : Nat) : Int))) ∧ (∃ (s16 : ByteArray), ((Option.isSome e12) = false → Hp.cell h10 b14 (o15 + (0 : Int).toNat * 1) = some (vs s16)) ∧ (∃ (x17 : Int), ((Option.isSome e12) = false → Rd Tryz.prog (Instr.index 9 (vs s16) (vi 0)) h10 (vk .u8 x17)) ∧ (∃ (a18 : Option Addr) (n18 c18 : Nat), ((bif (Option.isSome e12) then true else (decide ((x17 : Int) < 48))) = false → Hp.cell h10 u_rb u_ro = some (vsl a18 n18 c18)) ∧ (∃ (b19 o20 : Nat), ((bif (Option.isSome e12) then true else (decide ((x17 : Int) < 48))) = false → (a18 = some ⟨b19, o20, none⟩ ∧ (0 : Int) ≤ 0 ∧ 0 < ((n18 : Nat) : Int))) ∧ (∃ (s21 : ByteArray), ((bif (Option.isSome e12) then true else (decide ((x17 : Int) < 48))) = false → Hp.cell h10 b19 (o20 + (0 : Int).toNat * 1) = some (vs s21)) ∧ (∃ (x22 : Int), ((bif (Option.isSome e12) then true else (decide ((x17 : Int) < 48))) = false → Rd Tryz.prog (Instr.index 9 (vs s21) (vi 0)) h10 (vk .u8 x22)) ∧ (((bif (bif (bif (Option.isSome e12) then true else (decide ((x17 : Int) < 48))) then true else (decide ((x22 : Int) > 57))) then true else (decide ((x11 : Int) > u_most))) = true → (CallOK Tryz.prog 69 [(vhp u_rb u_ro), (ifv (some (95, (vi 4))))] h10 fun v23 h24 => v23 = (vtup []) ∧ R (vi 0) h24)) ∧ ((bif (bif (bif (Option.isSome e12) then true else (decide ((x17 : Int) < 48))) then true else (decide ((x22 : Int) > 57))) then true else (decide ((x11 : Int) > u_most))) = false → (∃ (a26 : Option Addr) (n26 c26 : Nat), (Hp.cell h10 u_rb u_ro = some (vsl a26 n26 c26)) ∧ (∃ (a27 : Option Addr) (n27 c27 : Nat), (Rd Tryz.prog (Instr.sliceAt 83 (vsl a26 n26 c26) (some (vi 1)) none none) h10 (vsl a27 n27 c27)) ∧ (Hp.store h10 u_rb u_ro [(vsl a27 n27 c27)] fun h28 => R (vi x11) h28))))))))))))))))))))
theorem ok_query_reader_number {u_rb u_ro : Nat} {u_most : Int} {h : Hp} {R : Value → Hp → Prop} (H : VC_query_reader_number u_rb u_ro u_most h R) : CallOK Tryz.prog 43 [(vhp u_rb u_ro), (vi u_most)] h R :=
  call_of (cfg := ⟨[], [], []⟩) noNG mixed Tryz.func43 [.one (.hp u_rb u_ro), .one (.v (vi u_most))] (by kernel_rfl) rfl (by kernel_rfl) H
def VC_query_leaf (u_nOp : Int) (u_nX : Int) (u_nY : Int) (u_nN : Int) (u_nValKind : Int) (u_nValN : Int) (h : Hp) (R : Value → Hp → Prop) : Prop :=
  (∀ (b1 : Nat), h b1 = none → let h2 : Hp := Hp.set h b1 (cellsO [(vi u_nOp), (vi u_nX), (vi u_nY), (vi u_nN), (vi u_nValKind), (vi u_nValN)] 137); R (vsl (some (⟨b1, 0, none⟩ : Addr)) 1 1) h2)
theorem ok_query_leaf {u_nOp : Int} {u_nX : Int} {u_nY : Int} {u_nN : Int} {u_nValKind : Int} {u_nValN : Int} {h : Hp} {R : Value → Hp → Prop} (H : VC_query_leaf u_nOp u_nX u_nY u_nN u_nValKind u_nValN h R) : CallOK Tryz.prog 125 [(vag [(vi u_nOp), (vi u_nX), (vi u_nY), (vi u_nN), (vi u_nValKind), (vi u_nValN)])] h R :=
  call_of (cfg := ⟨[], [], []⟩) noNG mixed Tryz.func125 [.ag [.v (vi u_nOp), .v (vi u_nX), .v (vi u_nY), .v (vi u_nN), .v (vi u_nValKind), .v (vi u_nValN)]] (by kernel_rfl) rfl (by kernel_rfl) H
def VC_query_reader_join (u_rb u_ro : Nat) (u_op : Int) (u_xa : Option Addr) (u_xn u_xc : Nat) (u_ya : Option Addr) (u_yn u_yc : Nat) (h : Hp) (R : Value → Hp → Prop) : Prop :=
  (∃ (x1 : Int), (IsW x1 (((u_xn : Nat) : Int) + ((u_yn : Nat) : Int))) ∧ (((decide ((x1 : Int) ≥ 40)) = true → (CallOK Tryz.prog 69 [(vhp u_rb u_ro), (ifv (some (95, (vi 2))))] h fun v2 h3 => v2 = (vtup []) ∧ (CallOK Tryz.prog 125 [(vag [(vi 1), (vi 0), (vi 0), (vi 0), (vi 0), (vi 0)])] h3 fun v4 h5 => ∃ (a6 : Option Addr) (n6 c6 : Nat), v4 = (vsl a6 n6 c6) ∧ R (vsl a6 n6 c6) h5))) ∧ ((decide ((x1 : Int) ≥ 40)) = false → (CallOK Tryz.prog 126 [(vi u_op), (vsl u_xa u_xn u_xc), (vsl u_ya u_yn u_yc)] h fun v8 h9 => ∃ (a10 : Option Addr) (n10 c10 : Nat), v8 = (vsl a10 n10 c10) ∧ R (vsl a10 n10 c10) h9))))
theorem ok_query_reader_join {u_rb u_ro : Nat} {u_op : Int} {u_xa : Option Addr} {u_xn u_xc : Nat} {u_ya : Option Addr} {u_yn u_yc : Nat} {h : Hp} {R : Value → Hp → Prop} (H : VC_query_reader_join u_rb u_ro u_op u_xa u_xn u_xc u_ya u_yn u_yc h R) : CallOK Tryz.prog 105 [(vhp u_rb u_ro), (vi u_op), (vsl u_xa u_xn u_xc), (vsl u_ya u_yn u_yc)] h R :=
  call_of (cfg := ⟨[], [], []⟩) noNG mixed Tryz.func105 [.one (.hp u_rb u_ro), .one (.v (vi u_op)), .one (.v (vsl u_xa u_xn u_xc)), .one (.v (vsl u_ya u_yn u_yc))] (by kernel_rfl) rfl (by kernel_rfl) H
def VC_query_reader_down (u_rb u_ro : Nat) (u_f : Value) (h : Hp) (R : Value → Hp → Prop) : Prop :=
  (∃ (x1 : Int), (Hp.cell h u_rb (u_ro + 1) = some (vi x1)) ∧ (∃ (x2 : Int), (IsW x2 (x1 + 1)) ∧ (Hp.store h u_rb (u_ro + 1) [(vi x2)] fun h3 => (∃ (x4 : Int), (Hp.cell h3 u_rb (u_ro + 1) = some (vi x4)) ∧ (let J9 : Hp → Prop := fun (h10 : Hp) => (InvOK Tryz.prog u_f [] h10 fun v11 h12 => ∃ (a13 : Option Addr) (n13 c13 : Nat), v11 = (vsl a13 n13 c13) ∧ (∃ (x14 : Int), (Hp.cell h12 u_rb (u_ro + 1) = some (vi x14)) ∧ (∃ (x15 : Int), (IsW x15 (x14 - 1)) ∧ (Hp.store h12 u_rb (u_ro + 1) [(vi x15)] fun h16 => R (vsl a13 n13 c13) h16)))); (((decide ((x4 : Int) > 12)) = true → (CallOK Tryz.prog 69 [(vhp u_rb u_ro), (ifv (some (95, (vi 2))))] h3 fun v5 h6 => v5 = (vtup []) ∧ (J9 h6))) ∧ ((decide ((x4 : Int) > 12)) = false → (J9 h3))))))))
theorem ok_query_reader_down {u_rb u_ro : Nat} {u_f : Value} {h : Hp} {R : Value → Hp → Prop} (H : VC_query_reader_down u_rb u_ro u_f h R) : CallOK Tryz.prog 128 [(vhp u_rb u_ro), u_f] h R :=
  call_of (cfg := ⟨[], [], []⟩) noNG mixed Tryz.func128 [.one (.hp u_rb u_ro), .one (.v u_f)] (by kernel_rfl) rfl (by kernel_rfl) H
def VC_query_reader_atom (u_rb u_ro : Nat) (h : Hp) (R : Value → Hp → Prop) : Prop :=
  (∀ (b1 : Nat), h b1 = none → let h2 : Hp := Hp.set h b1 (cellsO [(vs ⟨#[40]⟩), (vs ⟨#[110, 117, 108, 108]⟩), (vs ⟨#[116, 114, 117, 101]⟩), (vs ⟨#[102, 97, 108, 115, 101]⟩), (vs ⟨#[116]⟩), (vs ⟨#[107]⟩), (vs ⟨#[97]⟩), (vs ⟨#[98]⟩)] 9); (CallOK Tryz.prog 41 [(vhp u_rb u_ro), (vsl (some (⟨b1, 0, none⟩ : Addr)) 8 8)] h2 fun v3 h4 => ∃ (s5 : ByteArray), v3 = (vs s5) ∧ (∃ (p6 : Bool), (Rd Tryz.prog ((eqGuard .eql 9 (.tmp 10) (.const (vs ⟨#[40]⟩)) (vs s5) (vs ⟨#[40]⟩) >>= fun _ => binOp .eql 9 (vs s5) (vs ⟨#[40]⟩))) h4 (vb p6)) ∧ ((p6 = true → (CallOK Tryz.prog 128 [(vhp u_rb u_ro), (Value.func (.func 42) #[(vhp u_rb u_ro)] #[])] h4 fun v7 h8 => ∃ (a9 : Option Addr) (n9 c9 : Nat), v7 = (vsl a9 n9 c9) ∧ (CallOK Tryz.prog 39 [(vhp u_rb u_ro), (vs ⟨#[41]⟩)] h8 fun v10 h11 => v10 = (vtup []) ∧ R (vsl a9 n9 c9) h11))) ∧ (p6 = false → (∃ (p12 : Bool), (Rd Tryz.prog ((eqGuard .eql 9 (.tmp 10) (.const (vs ⟨#[110, 117, 108, 108]⟩)) (vs s5) (vs ⟨#[110, 117, 108, 108]⟩) >>= fun _ => binOp .eql 9 (vs s5) (vs ⟨#[110, 117, 108, 108]⟩))) h4 (vb p12)) ∧ (let J18 : Bool → Prop := fun (p19 : Bool) => ((p19 = true → (CallOK Tryz.prog 157 [(vs s5)] h4 fun v20 h21 => ∃ (x22 : Int) (x23 : Int) (e24 : Option (TypeId × Value)), v20 = (vtup [(vag [(vi x22), (vi x23)]), (ifv e24)]) ∧ (CallOK Tryz.prog 125 [(vag [(vi 1), (vi 0), (vi 0), (vi 0), (vi x22), (vi x23)])] h21 fun v25 h26 => ∃ (a27 : Option Addr) (n27 c27 : Nat), v25 = (vsl a27 n27 c27) ∧ R (vsl a27 n27 c27) h26))) ∧ (p19 = false → (∃ (p28 : Bool), (Rd Tryz.prog ((eqGuard .eql 9 (.tmp 10) (.const (vs ⟨#[]⟩)) (vs s5) (vs ⟨#[]⟩) >>= fun _ => binOp .eql 9 (vs s5) (vs ⟨#[]⟩))) h4 (vb p28)) ∧ ((p28 = true → (CallOK Tryz.prog 43 [(vhp u_rb u_ro), (vi 1000000000)] h4 fun v29 h30 => ∃ (x31 : Int), v29 = (vi x31) ∧ (CallOK Tryz.prog 101 [(vi x31)] h30 fun v32 h33 => ∃ (x34 : Int) (x35 : Int), v32 = (vag [(vi x34), (vi x35)]) ∧ (CallOK Tryz.prog 125 [(vag [(vi 1), (vi 0), (vi 0), (vi 0), (vi x34), (vi x35)])] h33 fun v36 h37 => ∃ (a38 : Option Addr) (n38 c38 : Nat), v36 = (vsl a38 n38 c38) ∧ R (vsl a38 n38 c38) h37)))) ∧ (p28 = false → (∃ (a39 : Option Addr) (n39 c39 : Nat), (Hp.cell h4 4 0 = some (vsl a39 n39 c39)) ∧ (CallOK Tryz.prog 70 [(vsl a39 n39 c39), (vs s5)] h4 fun v40 h41 => ∃ (x42 : Int), v40 = (vi x42) ∧ (CallOK Tryz.prog 125 [(vag [(vi 2), (vi 0), (vi 0), (vi x42), (vi 0), (vi 0)])] h41 fun v43 h44 => ∃ (a45 : Option Addr) (n45 c45 : Nat), v43 = (vsl a45 n45 c45) ∧ R (vsl a45 n45 c45) h44)))))))); ((p12 = true → (J18 p12)) ∧ (p12 = false → (∃ (p14 : Bool), (Rd Tryz.prog ((eqGuard .eql 9 (.tmp 10) (.const (vs ⟨#[116, 114, 117, 101]⟩)) (vs s5) (vs ⟨#[116, 114, 117, 101]⟩) >>= fun _ => binOp .eql 9 (vs s5) (vs ⟨#[116, 114, 117, 101]⟩))) h4 (vb p14)) ∧ ((p14 = true → (J18 p14)) ∧ (p14 = false → (∃ (p16 : Bool), (Rd Tryz.prog ((eqGuard .eql 9 (.tmp 10) (.const (vs ⟨#[102, 97, 108, 115, 101]⟩)) (vs s5) (vs ⟨#[102, 97, 108, 115, 101]⟩) >>= fun _ => binOp .eql 9 (vs s5) (vs ⟨#[102, 97, 108, 115, 101]⟩))) h4 (vb p16)) ∧ (J18 p16))))))))))))))
theorem ok_query_reader_atom {u_rb u_ro : Nat} {h : Hp} {R : Value → Hp → Prop} (H : VC_query_reader_atom u_rb u_ro h R) : CallOK Tryz.prog 152 [(vhp u_rb u_ro)] h R :=
  call_of (cfg := ⟨[], [], []⟩) noNG mixed Tryz.func152 [.one (.hp u_rb u_ro)] (by kernel_rfl) rfl (by kernel_rfl) H
def VC_query_reader_unary (u_rb u_ro : Nat) (h : Hp) (R : Value → Hp → Prop) : Prop :=
  (∀ (b1 : Nat), h b1 = none → let h2 : Hp := Hp.set h b1 (cellsO [(vs ⟨#[45]⟩)] 9); (CallOK Tryz.prog 41 [(vhp u_rb u_ro), (vsl (some (⟨b1, 0, none⟩ : Addr)) 1 1)] h2 fun v3 h4 => ∃ (s5 : ByteArray), v3 = (vs s5) ∧ (∃ (p6 : Bool), (Rd Tryz.prog ((eqGuard .eql 9 (.tmp 5) (.const (vs ⟨#[]⟩)) (vs s5) (vs ⟨#[]⟩) >>= fun _ => binOp .eql 9 (vs s5) (vs ⟨#[]⟩))) h4 (vb p6)) ∧ ((p6 = true → (CallOK Tryz.prog 152 [(vhp u_rb u_ro)] h4 fun v7 h8 => ∃ (a9 : Option Addr) (n9 c9 : Nat), v7 = (vsl a9 n9 c9) ∧ R (vsl a9 n9 c9) h8)) ∧ (p6 = false → (CallOK Tryz.prog 128 [(vhp u_rb u_ro), (Value.func (.func 150) #[(vhp u_rb u_ro)] #[])] h4 fun v11 h12 => ∃ (a13 : Option Addr) (n13 c13 : Nat), v11 = (vsl a13 n13 c13) ∧ (CallOK Tryz.prog 105 [(vhp u_rb u_ro), (vi 3), (vsl a13 n13 c13), (vsl none 0 0)] h12 fun v14 h15 => ∃ (a16 : Option Addr) (n16 c16 : Nat), v14 = (vsl a16 n16 c16) ∧ R (vsl a16 n16 c16) h15)))))))
theorem ok_query_reader_unary {u_rb u_ro : Nat} {h : Hp} {R : Value → Hp → Prop} (H : VC_query_reader_unary u_rb u_ro h R) : CallOK Tryz.prog 150 [(vhp u_rb u_ro)] h R :=
  call_of (cfg := ⟨[], [], []⟩) noNG mixed Tryz.func150 [.one (.hp u_rb u_ro)] (by kernel_rfl) rfl (by kernel_rfl) H
def VC_query_reader_row (u_rb u_ro : Nat) (u_next : Value) (u_ops : Value) (u_wordsa : Option Addr) (u_wordsn u_wordsc : Nat) (h : Hp) (R : Value → Hp → Prop) : Prop :=
  (InvOK Tryz.prog u_next [] h fun v1 h2 => ∃ (a3 : Option Addr) (n3 c3 : Nat), v1 = (vsl a3 n3 c3) ∧ (let J26 : Option Addr → Nat → Nat → Hp → Prop := fun (a28 : Option Addr) (n28 c28 : Nat) (h29 : Hp) => R (vsl a28 n28 c28) h29; (∃ (I5 : List Value → Hp → Prop) (m6 : List Value → Hp → Nat), I5 [(vsl a3 n3 c3)] h2 ∧ ∀ (vs7 : List Value) (h8 : Hp), I5 vs7 h8 → ∃ (a9 : Option Addr) (n9 c9 : Nat), vs7 = [(vsl a9 n9 c9)] ∧ (∃ (e10 : Option (TypeId × Value)), (Hp.cell h8 u_rb (u_ro + 2) = some (ifv e10)) ∧ (((Option.isNone e10) = true → (CallOK Tryz.prog 41 [(vhp u_rb u_ro), (vsl u_wordsa u_wordsn u_wordsc)] h8 fun v13 h14 => ∃ (s15 : ByteArray), v13 = (vs s15) ∧ (∃ (p16 : Bool), (Rd Tryz.prog ((eqGuard .eql 9 (.tmp 21) (.const (vs ⟨#[]⟩)) (vs s15) (vs ⟨#[]⟩) >>= fun _ => binOp .eql 9 (vs s15) (vs ⟨#[]⟩))) h14 (vb p16)) ∧ ((p16 = true → (J26 a9 n9 c9 h14)) ∧ (p16 = false → (∃ (x19 : Int), (Rd Tryz.prog (Instr.lookup 127 u_ops (vs s15) false) h14 (vi x19)) ∧ (InvOK Tryz.prog u_next [] h14 fun v20 h21 => ∃ (a22 : Option Addr) (n22 c22 : Nat), v20 = (vsl a22 n22 c22) ∧ ((Rd Tryz.prog (Instr.lookup 127 u_ops (vs s15) false) h21 (vi x19)) ∧ (CallOK Tryz.prog 105 [(vhp u_rb u_ro), (vi x19), (vsl a9 n9 c9), (vsl a22 n22 c22)] h21 fun v23 h24 => ∃ (a25 : Option Addr) (n25 c25 : Nat), v23 = (vsl a25 n25 c25) ∧ (I5 [(vsl a25 n25 c25)] h24 ∧ m6 [(vsl a25 n25 c25)] h24 < m6 vs7 h8)))))))))) ∧ ((Option.isNone e10) = false → (J26 a9 n9 c9 h8)))))))
theorem ok_query_reader_row {u_rb u_ro : Nat} {u_next : Value} {u_ops : Value} {u_wordsa : Option Addr} {u_wordsn u_wordsc : Nat} {h : Hp} {R : Value → Hp → Prop} (H : VC_query_reader_row u_rb u_ro u_next u_ops u_wordsa u_wordsn u_wordsc h R) : CallOK Tryz.prog 72 [(vhp u_rb u_ro), u_next, u_ops, (vsl u_wordsa u_wordsn u_wordsc)] h R :=
  call_of (cfg := ⟨[], [(2, ([9], [.one (.slice)], []))], [(5, [0, 1, 2, 3, 4, 5, 6, 7, 8])]⟩) noNG mixed Tryz.func72 [.one (.hp u_rb u_ro), .one (.v u_next), .one (.v u_ops), .one (.v (vsl u_wordsa u_wordsn u_wordsc))] (by kernel_rfl) rfl (by kernel_rfl) H
def VC_query_reader_product (u_rb u_ro : Nat) (h : Hp) (R : Value → Hp → Prop) : Prop :=
  (SemOK Tryz.prog (Instr.makeMap 127 none) h fun v1 h2 => ∃ (y3 : Value), v1 = y3 ∧ (SemOKu Tryz.prog (Instr.mapUpdate 127 y3 (vs ⟨#[42]⟩) (vi 8)) h2 fun h4 => (∀ (b5 : Nat), h4 b5 = none → let h6 : Hp := Hp.set h4 b5 (cellsO [(vs ⟨#[42]⟩)] 9); (CallOK Tryz.prog 72 [(vhp u_rb u_ro), (Value.func (.func 150) #[(vhp u_rb u_ro)] #[]), y3, (vsl (some (⟨b5, 0, none⟩ : Addr)) 1 1)] h6 fun v7 h8 => ∃ (a9 : Option Addr) (n9 c9 : Nat), v7 = (vsl a9 n9 c9) ∧ R (vsl a9 n9 c9) h8))))
theorem ok_query_reader_product {u_rb u_ro : Nat} {h : Hp} {R : Value → Hp → Prop} (H : VC_query_reader_product u_rb u_ro h R) : CallOK Tryz.prog 146 [(vhp u_rb u_ro)] h R :=
  call_of (cfg := ⟨[], [], []⟩) noNG mixed Tryz.func146 [.one (.hp u_rb u_ro)] (by kernel_rfl) rfl (by kernel_rfl) H
def VC_query_reader_sum (u_rb u_ro : Nat) (h : Hp) (R : Value → Hp → Prop) : Prop :=
  (SemOK Tryz.prog (Instr.makeMap 127 none) h fun v1 h2 => ∃ (y3 : Value), v1 = y3 ∧ (SemOKu Tryz.prog (Instr.mapUpdate 127 y3 (vs ⟨#[43]⟩) (vi 6)) h2 fun h4 => (SemOKu Tryz.prog (Instr.mapUpdate 127 y3 (vs ⟨#[45]⟩) (vi 7)) h4 fun h5 => (∀ (b6 : Nat), h5 b6 = none → let h7 : Hp := Hp.set h5 b6 (cellsO [(vs ⟨#[43]⟩), (vs ⟨#[45]⟩)] 9); (CallOK Tryz.prog 72 [(vhp u_rb u_ro), (Value.func (.func 146) #[(vhp u_rb u_ro)] #[]), y3, (vsl (some (⟨b6, 0, none⟩ : Addr)) 2 2)] h7 fun v8 h9 => ∃ (a10 : Option Addr) (n10 c10 : Nat), v8 = (vsl a10 n10 c10) ∧ R (vsl a10 n10 c10) h9)))))
theorem ok_query_reader_sum {u_rb u_ro : Nat} {h : Hp} {R : Value → Hp → Prop} (H : VC_query_reader_sum u_rb u_ro h R) : CallOK Tryz.prog 141 [(vhp u_rb u_ro)] h R :=
  call_of (cfg := ⟨[], [], []⟩) noNG mixed Tryz.func141 [.one (.hp u_rb u_ro)] (by kernel_rfl) rfl (by kernel_rfl) H
def VC_query_reader_compare (u_rb u_ro : Nat) (h : Hp) (R : Value → Hp → Prop) : Prop :=
  (CallOK Tryz.prog 141 [(vhp u_rb u_ro)] h fun v1 h2 => ∃ (a3 : Option Addr) (n3 c3 : Nat), v1 = (vsl a3 n3 c3) ∧ (∀ (b4 : Nat), h2 b4 = none → let h5 : Hp := Hp.set h2 b4 (cellsO [(vs ⟨#[60]⟩), (vs ⟨#[62]⟩), (vs ⟨#[60, 61]⟩), (vs ⟨#[62, 61]⟩), (vs ⟨#[61]⟩), (vs ⟨#[60, 62]⟩), (vs ⟨#[105, 115]⟩)] 9); (CallOK Tryz.prog 41 [(vhp u_rb u_ro), (vsl (some (⟨b4, 0, none⟩ : Addr)) 7 7)] h5 fun v6 h7 => ∃ (s8 : ByteArray), v6 = (vs s8) ∧ (let J78 : Option Addr → Nat → Nat → Hp → Prop := fun (a80 : Option Addr) (n80 c80 : Nat) (h81 : Hp) => R (vsl a80 n80 c80) h81; (∃ (p9 : Bool), (Rd Tryz.prog ((eqGuard .eql 9 (.tmp 11) (.const (vs ⟨#[60]⟩)) (vs s8) (vs ⟨#[60]⟩) >>= fun _ => binOp .eql 9 (vs s8) (vs ⟨#[60]⟩))) h7 (vb p9)) ∧ ((p9 = true → (CallOK Tryz.prog 141 [(vhp u_rb u_ro)] h7 fun v10 h11 => ∃ (a12 : Option Addr) (n12 c12 : Nat), v10 = (vsl a12 n12 c12) ∧ (CallOK Tryz.prog 105 [(vhp u_rb u_ro), (vi 11), (vsl a3 n3 c3), (vsl a12 n12 c12)] h11 fun v13 h14 => ∃ (a15 : Option Addr) (n15 c15 : Nat), v13 = (vsl a15 n15 c15) ∧ R (vsl a15 n15 c15) h14))) ∧ (p9 = false → (∃ (p16 : Bool), (Rd Tryz.prog ((eqGuard .eql 9 (.tmp 11) (.const (vs ⟨#[62]⟩)) (vs s8) (vs ⟨#[62]⟩) >>= fun _ => binOp .eql 9 (vs s8) (vs ⟨#[62]⟩))) h7 (vb p16)) ∧ ((p16 = true → (CallOK Tryz.prog 141 [(vhp u_rb u_ro)] h7 fun v17 h18 => ∃ (a19 : Option Addr) (n19 c19 : Nat), v17 = (vsl a19 n19 c19) ∧ (CallOK Tryz.prog 105 [(vhp u_rb u_ro), (vi 11), (vsl a19 n19 c19), (vsl a3 n3 c3)] h18 fun v20 h21 => ∃ (a22 : Option Addr) (n22 c22 : Nat), v20 = (vsl a22 n22 c22) ∧ R (vsl a22 n22 c22) h21))) ∧ (p16 = false → (∃ (p23 : Bool), (Rd Tryz.prog ((eqGuard .eql 9 (.tmp 11) (.const (vs ⟨#[60, 61]⟩)) (vs s8) (vs ⟨#[60, 61]⟩) >>= fun _ => binOp .eql 9 (vs s8) (vs ⟨#[60, 61]⟩))) h7 (vb p23)) ∧ ((p23 = true → (CallOK Tryz.prog 141 [(vhp u_rb u_ro)] h7 fun v24 h25 => ∃ (a26 : Option Addr) (n26 c26 : Nat), v24 = (vsl a26 n26 c26) ∧ (CallOK Tryz.prog 105 [(vhp u_rb u_ro), (vi 11), (vsl a26 n26 c26), (vsl a3 n3 c3)] h25 fun v27 h28 => ∃ (a29 : Option Addr) (n29 c29 : Nat), v27 = (vsl a29 n29 c29) ∧ (CallOK Tryz.prog 105 [(vhp u_rb u_ro), (vi 4), (vsl a29 n29 c29), (vsl none 0 0)] h28 fun v30 h31 => ∃ (a32 : Option Addr) (n32 c32 : Nat), v30 = (vsl a32 n32 c32) ∧ R (vsl a32 n32 c32) h31)))) ∧ (p23 = false → (∃ (p33 : Bool), (Rd Tryz.prog ((eqGuard .eql 9 (.tmp 11) (.const (vs ⟨#[62, 61]⟩)) (vs s8) (vs ⟨#[62, 61]⟩) >>= fun _ => binOp .eql 9 (vs s8) (vs ⟨#[62, 61]⟩))) h7 (vb p33)) ∧ ((p33 = true → (CallOK Tryz.prog 141 [(vhp u_rb u_ro)] h7 fun v34 h35 => ∃ (a36 : Option Addr) (n36 c36 : Nat), v34 = (vsl a36 n36 c36) ∧ (CallOK Tryz.prog 105 [(vhp u_rb u_ro), (vi 11), (vsl a3 n3 c3), (vsl a36 n36 c36)] h35 fun v37 h38 => ∃ (a39 : Option Addr) (n39 c39 : Nat), v37 = (vsl a39 n39 c39) ∧ (CallOK Tryz.prog 105 [(vhp u_rb u_ro), (vi 4), (vsl a39 n39 c39), (vsl none 0 0)] h38 fun v40 h41 => ∃ (a42 : Option Addr) (n42 c42 : Nat), v40 = (vsl a42 n42 c42) ∧ R (vsl a42 n42 c42) h41)))) ∧ (p33 = false → (∃ (p43 : Bool), (Rd Tryz.prog ((eqGuard .eql 9 (.tmp 11) (.const (vs ⟨#[61]⟩)) (vs s8) (vs ⟨#[61]⟩) >>= fun _ => binOp .eql 9 (vs s8) (vs ⟨#[61]⟩))) h7 (vb p43)) ∧ ((p43 = true → (CallOK Tryz.prog 141 [(vhp u_rb u_ro)] h7 fun v44 h45 => ∃ (a46 : Option Addr) (n46 c46 : Nat), v44 = (vsl a46 n46 c46) ∧ (CallOK Tryz.prog 105 [(vhp u_rb u_ro), (vi 12), (vsl a3 n3 c3), (vsl a46 n46 c46)] h45 fun v47 h48 => ∃ (a49 : Option Addr) (n49 c49 : Nat), v47 = (vsl a49 n49 c49) ∧ R (vsl a49 n49 c49) h48))) ∧ (p43 = false → (∃ (p50 : Bool), (Rd Tryz.prog ((eqGuard .eql 9 (.tmp 11) (.const (vs ⟨#[60, 62]⟩)) (vs s8) (vs ⟨#[60, 62]⟩) >>= fun _ => binOp .eql 9 (vs s8) (vs ⟨#[60, 62]⟩))) h7 (vb p50)) ∧ ((p50 = true → (CallOK Tryz.prog 141 [(vhp u_rb u_ro)] h7 fun v51 h52 => ∃ (a53 : Option Addr) (n53 c53 : Nat), v51 = (vsl a53 n53 c53) ∧ (CallOK Tryz.prog 105 [(vhp u_rb u_ro), (vi 12), (vsl a3 n3 c3), (vsl a53 n53 c53)] h52 fun v54 h55 => ∃ (a56 : Option Addr) (n56 c56 : Nat), v54 = (vsl a56 n56 c56) ∧ (CallOK Tryz.prog 105 [(vhp u_rb u_ro), (vi 4), (vsl a56 n56 c56), (vsl none 0 0)] h55 fun v57 h58 => ∃ (a59 : Option Addr) (n59 c59 : Nat), v57 = (vsl a59 n59 c59) ∧ R (vsl a59 n59 c59) h58)))) ∧ (p50 = false → (∃ (p60 : Bool), (Rd Tryz.prog ((eqGuard .eql 9 (.tmp 11) (.const (vs ⟨#[105, 115]⟩)) (vs s8) (vs ⟨#[105, 115]⟩) >>= fun _ => binOp .eql 9 (vs s8) (vs ⟨#[105, 115]⟩))) h7 (vb p60)) ∧ ((p60 = true → (∀ (b61 : Nat), h7 b61 = none → let h62 : Hp := Hp.set h7 b61 (cellsO [(vs ⟨#[110, 111, 116]⟩)] 9); (CallOK Tryz.prog 41 [(vhp u_rb u_ro), (vsl (some (⟨b61, 0, none⟩ : Addr)) 1 1)] h62 fun v63 h64 => ∃ (s65 : ByteArray), v63 = (vs s65) ∧ (CallOK Tryz.prog 39 [(vhp u_rb u_ro), (vs ⟨#[110, 117, 108, 108]⟩)] h64 fun v66 h67 => v66 = (vtup []) ∧ (CallOK Tryz.prog 105 [(vhp u_rb u_ro), (vi 5), (vsl a3 n3 c3), (vsl none 0 0)] h67 fun v68 h69 => ∃ (a70 : Option Addr) (n70 c70 : Nat), v68 = (vsl a70 n70 c70) ∧ (∃ (p71 : Bool), (Rd Tryz.prog ((eqGuard .neq 9 (.tmp 70) (.const (vs ⟨#[]⟩)) (vs s65) (vs ⟨#[]⟩) >>= fun _ => binOp .neq 9 (vs s65) (vs ⟨#[]⟩))) h69 (vb p71)) ∧ ((p71 = true → (CallOK Tryz.prog 105 [(vhp u_rb u_ro), (vi 4), (vsl a70 n70 c70), (vsl none 0 0)] h69 fun v72 h73 => ∃ (a74 : Option Addr) (n74 c74 : Nat), v72 = (vsl a74 n74 c74) ∧ (J78 a74 n74 c74 h73))) ∧ (p71 = false → (J78 a70 n70 c70 h69))))))))) ∧ (p60 = false → (J78 a3 n3 c3 h7))))))))))))))))))))))))))
theorem ok_query_reader_compare {u_rb u_ro : Nat} {h : Hp} {R : Value → Hp → Prop} (H : VC_query_reader_compare u_rb u_ro h R) : CallOK Tryz.prog 127 [(vhp u_rb u_ro)] h R :=
  call_of (cfg := ⟨[], [], []⟩) noNG mixed Tryz.func127 [.one (.hp u_rb u_ro)] (by kernel_rfl) rfl (by kernel_rfl) H
def VC_query_reader_not (u_rb u_ro : Nat) (h : Hp) (R : Value → Hp → Prop) : Prop :=
  (∀ (b1 : Nat), h b1 = none → let h2 : Hp := Hp.set h b1 (cellsO [(vs ⟨#[110, 111, 116]⟩)] 9); (CallOK Tryz.prog 41 [(vhp u_rb u_ro), (vsl (some (⟨b1, 0, none⟩ : Addr)) 1 1)] h2 fun v3 h4 => ∃ (s5 : ByteArray), v3 = (vs s5) ∧ (∃ (p6 : Bool), (Rd Tryz.prog ((eqGuard .eql 9 (.tmp 5) (.const (vs ⟨#[]⟩)) (vs s5) (vs ⟨#[]⟩) >>= fun _ => binOp .eql 9 (vs s5) (vs ⟨#[]⟩))) h4 (vb p6)) ∧ ((p6 = true → (CallOK Tryz.prog 127 [(vhp u_rb u_ro)] h4 fun v7 h8 => ∃ (a9 : Option Addr) (n9 c9 : Nat), v7 = (vsl a9 n9 c9) ∧ R (vsl a9 n9 c9) h8)) ∧ (p6 = false → (CallOK Tryz.prog 128 [(vhp u_rb u_ro), (Value.func (.func 106) #[(vhp u_rb u_ro)] #[])] h4 fun v11 h12 => ∃ (a13 : Option Addr) (n13 c13 : Nat), v11 = (vsl a13 n13 c13) ∧ (CallOK Tryz.prog 105 [(vhp u_rb u_ro), (vi 4), (vsl a13 n13 c13), (vsl none 0 0)] h12 fun v14 h15 => ∃ (a16 : Option Addr) (n16 c16 : Nat), v14 = (vsl a16 n16 c16) ∧ R (vsl a16 n16 c16) h15)))))))
theorem ok_query_reader_not {u_rb u_ro : Nat} {h : Hp} {R : Value → Hp → Prop} (H : VC_query_reader_not u_rb u_ro h R) : CallOK Tryz.prog 106 [(vhp u_rb u_ro)] h R :=
  call_of (cfg := ⟨[], [], []⟩) noNG mixed Tryz.func106 [.one (.hp u_rb u_ro)] (by kernel_rfl) rfl (by kernel_rfl) H
def VC_query_reader_and (u_rb u_ro : Nat) (h : Hp) (R : Value → Hp → Prop) : Prop :=
  (SemOK Tryz.prog (Instr.makeMap 127 none) h fun v1 h2 => ∃ (y3 : Value), v1 = y3 ∧ (SemOKu Tryz.prog (Instr.mapUpdate 127 y3 (vs ⟨#[97, 110, 100]⟩) (vi 9)) h2 fun h4 => (∀ (b5 : Nat), h4 b5 = none → let h6 : Hp := Hp.set h4 b5 (cellsO [(vs ⟨#[97, 110, 100]⟩)] 9); (CallOK Tryz.prog 72 [(vhp u_rb u_ro), (Value.func (.func 106) #[(vhp u_rb u_ro)] #[]), y3, (vsl (some (⟨b5, 0, none⟩ : Addr)) 1 1)] h6 fun v7 h8 => ∃ (a9 : Option Addr) (n9 c9 : Nat), v7 = (vsl a9 n9 c9) ∧ R (vsl a9 n9 c9) h8))))
theorem ok_query_reader_and {u_rb u_ro : Nat} {h : Hp} {R : Value → Hp → Prop} (H : VC_query_reader_and u_rb u_ro h R) : CallOK Tryz.prog 73 [(vhp u_rb u_ro)] h R :=
  call_of (cfg := ⟨[], [], []⟩) noNG mixed Tryz.func73 [.one (.hp u_rb u_ro)] (by kernel_rfl) rfl (by kernel_rfl) H
def VC_query_reader_or (u_rb u_ro : Nat) (h : Hp) (R : Value → Hp → Prop) : Prop :=
  (SemOK Tryz.prog (Instr.makeMap 127 none) h fun v1 h2 => ∃ (y3 : Value), v1 = y3 ∧ (SemOKu Tryz.prog (Instr.mapUpdate 127 y3 (vs ⟨#[111, 114]⟩) (vi 10)) h2 fun h4 => (∀ (b5 : Nat), h4 b5 = none → let h6 : Hp := Hp.set h4 b5 (cellsO [(vs ⟨#[111, 114]⟩)] 9); (CallOK Tryz.prog 72 [(vhp u_rb u_ro), (Value.func (.func 73) #[(vhp u_rb u_ro)] #[]), y3, (vsl (some (⟨b5, 0, none⟩ : Addr)) 1 1)] h6 fun v7 h8 => ∃ (a9 : Option Addr) (n9 c9 : Nat), v7 = (vsl a9 n9 c9) ∧ R (vsl a9 n9 c9) h8))))
theorem ok_query_reader_or {u_rb u_ro : Nat} {h : Hp} {R : Value → Hp → Prop} (H : VC_query_reader_or u_rb u_ro h R) : CallOK Tryz.prog 42 [(vhp u_rb u_ro)] h R :=
  call_of (cfg := ⟨[], [], []⟩) noNG mixed Tryz.func42 [.one (.hp u_rb u_ro)] (by kernel_rfl) rfl (by kernel_rfl) H
def VC_query_reader_agg (u_rb u_ro : Nat) (h : Hp) (R : Value → Hp → Prop) : Prop :=
  (∀ (b1 : Nat), h b1 = none → let h2 : Hp := Hp.set h b1 (cellsO [(vs ⟨#[99, 111, 117, 110, 116]⟩), (vs ⟨#[115, 117, 109]⟩), (vs ⟨#[109, 105, 110]⟩), (vs ⟨#[109, 97, 120]⟩)] 9); (CallOK Tryz.prog 41 [(vhp u_rb u_ro), (vsl (some (⟨b1, 0, none⟩ : Addr)) 4 4)] h2 fun v3 h4 => ∃ (s5 : ByteArray), v3 = (vs s5) ∧ (∃ (p6 : Bool), (Rd Tryz.prog ((eqGuard .eql 9 (.tmp 8) (.const (vs ⟨#[]⟩)) (vs s5) (vs ⟨#[]⟩) >>= fun _ => binOp .eql 9 (vs s5) (vs ⟨#[]⟩))) h4 (vb p6)) ∧ (let J11 : Hp → Prop := fun (h12 : Hp) => (CallOK Tryz.prog 39 [(vhp u_rb u_ro), (vs ⟨#[40]⟩)] h12 fun v13 h14 => v13 = (vtup []) ∧ (∃ (a15 : Option Addr) (n15 c15 : Nat), (Hp.cell h14 0 0 = some (vsl a15 n15 c15)) ∧ (CallOK Tryz.prog 70 [(vsl a15 n15 c15), (vs s5)] h14 fun v16 h17 => ∃ (x18 : Int), v16 = (vi x18) ∧ (let J56 : Int → Option Addr → Nat → Nat → Hp → Prop := fun (x64 : Int) (a65 : Option Addr) (n65 c65 : Nat) (h66 : Hp) => (CallOK Tryz.prog 39 [(vhp u_rb u_ro), (vs ⟨#[41]⟩)] h66 fun v67 h68 => v67 = (vtup []) ∧ R (vag [(vi x64), (vsl a65 n65 c65)]) h68); (∃ (p19 : Bool), (Rd Tryz.prog ((eqGuard .eql 9 (.tmp 23) (.const (vs ⟨#[99, 111, 117, 110, 116]⟩)) (vs s5) (vs ⟨#[99, 111, 117, 110, 116]⟩) >>= fun _ => binOp .eql 9 (vs s5) (vs ⟨#[99, 111, 117, 110, 116]⟩))) h17 (vb p19)) ∧ ((p19 = true → (∀ (b20 : Nat), h17 b20 = none → let h21 : Hp := Hp.set h17 b20 (cellsO [(vs ⟨#[42]⟩)] 9); (∃ (J22 : SV → Hp → Prop), (p19 = true → (CallOK Tryz.prog 41 [(vhp u_rb u_ro), (vsl (some (⟨b20, 0, none⟩ : Addr)) 1 1)] h21 fun v23 h24 => ∃ (s25 : ByteArray), v23 = (vs s25) ∧ J22 (.t (.one (.v (vs s25)))) h24)) ∧ (¬ (p19 = true) → J22 (.t (.one (.v (vs ⟨#[]⟩)))) h21) ∧ ∀ (h26 : Hp) (s27 : ByteArray), J22 (.t (.one (.v (vs s27)))) h26 → (∃ (p28 : Bool), (p19 = true → Rd Tryz.prog ((eqGuard .neq 9 (.tmp 28) (.const (vs ⟨#[]⟩)) (vs s27) (vs ⟨#[]⟩) >>= fun _ => binOp .neq 9 (vs s27) (vs ⟨#[]⟩))) h26 (vb p28)) ∧ (((bif p19 then p28 else false) = true → (J56 x18 none 0 0 h26)) ∧ ((bif p19 then p28 else false) = false → (∃ (p30 : Bool), (Rd Tryz.prog ((eqGuard .eql 9 (.tmp 32) (.const (vs ⟨#[99, 111, 117, 110, 116]⟩)) (vs s5) (vs ⟨#[99, 111, 117, 110, 116]⟩) >>= fun _ => binOp .eql 9 (vs s5) (vs ⟨#[99, 111, 117, 110, 116]⟩))) h26 (vb p30)) ∧ ((p30 = true → (CallOK Tryz.prog 42 [(vhp u_rb u_ro)] h26 fun v31 h32 => ∃ (a33 : Option Addr) (n33 c33 : Nat), v31 = (vsl a33 n33 c33) ∧ (J56 2 a33 n33 c33 h32))) ∧ (p30 = false → (CallOK Tryz.prog 42 [(vhp u_rb u_ro)] h26 fun v35 h36 => ∃ (a37 : Option Addr) (n37 c37 : Nat), v35 = (vsl a37 n37 c37) ∧ (J56 x18 a37 n37 c37 h36))))))))))) ∧ (¬ (p19 = true) → (∃ (J39 : SV → Hp → Prop), (p19 = true → (CallOK Tryz.prog 41 [(vhp u_rb u_ro), (vsl none 0 0)] h17 fun v40 h41 => ∃ (s42 : ByteArray), v40 = (vs s42) ∧ J39 (.t (.one (.v (vs s42)))) h41)) ∧ (¬ (p19 = true) → J39 (.t (.one (.v (vs ⟨#[]⟩)))) h17) ∧ ∀ (h43 : Hp) (s44 : ByteArray), J39 (.t (.one (.v (vs s44)))) h43 → (∃ (p45 : Bool), (p19 = true → Rd Tryz.prog ((eqGuard .neq 9 (.tmp 28) (.const (vs ⟨#[]⟩)) (vs s44) (vs ⟨#[]⟩) >>= fun _ => binOp .neq 9 (vs s44) (vs ⟨#[]⟩))) h43 (vb p45)) ∧ (((bif p19 then p45 else false) = true → (J56 x18 none 0 0 h43)) ∧ ((bif p19 then p45 else false) = false → (∃ (p47 : Bool), (Rd Tryz.prog ((eqGuard .eql 9 (.tmp 32) (.const (vs ⟨#[99, 111, 117, 110, 116]⟩)) (vs s5) (vs ⟨#[99, 111, 117, 110, 116]⟩) >>= fun _ => binOp .eql 9 (vs s5) (vs ⟨#[99, 111, 117, 110, 116]⟩))) h43 (vb p47)) ∧ ((p47 = true → (CallOK Tryz.prog 42 [(vhp u_rb u_ro)] h43 fun v48 h49 => ∃ (a50 : Option Addr) (n50 c50 : Nat), v48 = (vsl a50 n50 c50) ∧ (J56 2 a50 n50 c50 h49))) ∧ (p47 = false → (CallOK Tryz.prog 42 [(vhp u_rb u_ro)] h43 fun v52 h53 => ∃ (a54 : Option Addr) (n54 c54 : Nat), v52 = (vsl a54 n54 c54) ∧ (J56 x18 a54 n54 c54 h53)))))))))))))))); ((p6 = true → (CallOK Tryz.prog 69 [(vhp u_rb u_ro), (ifv (some (95, (vi 4))))] h4 fun v7 h8 => v7 = (vtup []) ∧ (J11 h8))) ∧ (p6 = false → (J11 h4)))))))
theorem ok_query_reader_agg {u_rb u_ro : Nat} {h : Hp} {R : Value → Hp → Prop} (H : VC_query_reader_agg u_rb u_ro h R) : CallOK Tryz.prog 40 [(vhp u_rb u_ro)] h R :=
  call_of (cfg := ⟨[], [], []⟩) noNG mixed Tryz.func40 [.one (.hp u_rb u_ro)] (by kernel_rfl) rfl (by kernel_rfl) H
def VC_query_reader_optional (u_rb u_ro : Nat) (u_word : ByteArray) (u_otherwise : Int) (h : Hp) (R : Value → Hp → Prop) : Prop :=
  (∀ (b1 : Nat), h b1 = none → let h2 : Hp := Hp.set h b1 (cellsO [(vs u_word)] 9); (CallOK Tryz.prog 41 [(vhp u_rb u_ro), (vsl (some (⟨b1, 0, none⟩ : Addr)) 1 1)] h2 fun v3 h4 => ∃ (s5 : ByteArray), v3 = (vs s5) ∧ (∃ (p6 : Bool), (Rd Tryz.prog ((eqGuard .eql 9 (.tmp 10) (.const (vs ⟨#[]⟩)) (vs s5) (vs ⟨#[]⟩) >>= fun _ => binOp .eql 9 (vs s5) (vs ⟨#[]⟩))) h4 (vb p6)) ∧ ((p6 = true → R (vi u_otherwise) h4) ∧ (p6 = false → (CallOK Tryz.prog 43 [(vhp u_rb u_ro), (vi 1000)] h4 fun v8 h9 => ∃ (x10 : Int), v8 = (vi x10) ∧ R (vi x10) h9))))))
theorem ok_query_reader_optional {u_rb u_ro : Nat} {u_word : ByteArray} {u_otherwise : Int} {h : Hp} {R : Value → Hp → Prop} (H : VC_query_reader_optional u_rb u_ro u_word u_otherwise h R) : CallOK Tryz.prog 44 [(vhp u_rb u_ro), (vs u_word), (vi u_otherwise)] h R :=
  call_of (cfg := ⟨[], [], []⟩) noNG mixed Tryz.func44 [.one (.hp u_rb u_ro), .one (.v (vs u_word)), .one (.v (vi u_otherwise))] (by kernel_rfl) rfl (by kernel_rfl) H
def VC_query_Parse (u_s : ByteArray) (h : Hp) (R : Value → Hp → Prop) : Prop :=
  (CallOK Tryz.prog 38 [(vs u_s)] h fun v1 h2 => ∃ (a3 : Option Addr) (n3 c3 : Nat) (e4 : Option (TypeId × Value)), v1 = (vtup [(vsl a3 n3 c3), (ifv e4)]) ∧ (((Option.isSome e4) = true → R (vtup [(vag [(vsl none 0 0), (vsl none 0 0), (vsl none 0 0), (vi 0), (vi 0), (vi 0), (vi 0)]), (ifv e4)]) h2) ∧ ((Option.isSome e4) = false → (∀ (b6 : Nat), h2 b6 = none → let h7 : Hp := Hp.set h2 b6 (cellsO [(vsl a3 n3 c3), (vi 0), (ifv none)] 88); (CallOK Tryz.prog 39 [(vhp b6 0), (vs ⟨#[115, 101, 108, 101, 99, 116]⟩)] h7 fun v8 h9 => v8 = (vtup []) ∧ (CallOK Tryz.prog 40 [(vhp b6 0)] h9 fun v10 h11 => ∃ (x12 : Int) (a13 : Option Addr) (n13 c13 : Nat), v10 = (vag [(vi x12), (vsl a13 n13 c13)]) ∧ (∀ (b14 : Nat), h11 b14 = none → let h15 : Hp := Hp.set h11 b14 (cellsO [(vi x12), (vsl a13 n13 c13)] 67); (SemOK Tryz.prog (Builtin.append_ #[24, 24] 24 #[(vsl none 0 0), (vsl (some (⟨b14, 0, none⟩ : Addr)) 1 1)]) h15 fun v16 h17 => ∃ (a18 : Option Addr) (n18 c18 : Nat), v16 = (vsl a18 n18 c18) ∧ (let J48 : Option Addr → Nat → Nat → Option Addr → Nat → Nat → Option Addr → Nat → Nat → Hp → Prop := fun (a256 : Option Addr) (n256 c256 : Nat) (a257 : Option Addr) (n257 c257 : Nat) (a258 : Option Addr) (n258 c258 : Nat) (h259 : Hp) => (CallOK Tryz.prog 39 [(vhp b6 0), (vs ⟨#[102, 114, 111, 109]⟩)] h259 fun v260 h261 => v260 = (vtup []) ∧ (CallOK Tryz.prog 39 [(vhp b6 0), (vs ⟨#[101, 118, 101, 110, 116, 115]⟩)] h261 fun v262 h263 => v262 = (vtup []) ∧ (∀ (b264 : Nat), h263 b264 = none → let h265 : Hp := Hp.set h263 b264 (cellsO [(vs ⟨#[119, 104, 101, 114, 101]⟩)] 9); (CallOK Tryz.prog 41 [(vhp b6 0), (vsl (some (⟨b264, 0, none⟩ : Addr)) 1 1)] h265 fun v266 h267 => ∃ (s268 : ByteArray), v266 = (vs s268) ∧ (∃ (p269 : Bool), (Rd Tryz.prog ((eqGuard .neq 9 (.tmp 46) (.const (vs ⟨#[]⟩)) (vs s268) (vs ⟨#[]⟩) >>= fun _ => binOp .neq 9 (vs s268) (vs ⟨#[]⟩))) h267 (vb p269)) ∧ (let J275 : Option Addr → Nat → Nat → Hp → Prop := fun (a314 : Option Addr) (n314 c314 : Nat) (h315 : Hp) => (∀ (b316 : Nat), h315 b316 = none → let h317 : Hp := Hp.set h315 b316 (cellsO [(vs ⟨#[103, 114, 111, 117, 112]⟩)] 9); (CallOK Tryz.prog 41 [(vhp b6 0), (vsl (some (⟨b316, 0, none⟩ : Addr)) 1 1)] h317 fun v318 h319 => ∃ (s320 : ByteArray), v318 = (vs s320) ∧ (∃ (p321 : Bool), (Rd Tryz.prog ((eqGuard .neq 9 (.tmp 53) (.const (vs ⟨#[]⟩)) (vs s320) (vs ⟨#[]⟩) >>= fun _ => binOp .neq 9 (vs s320) (vs ⟨#[]⟩))) h319 (vb p321)) ∧ (let J329 : Option Addr → Nat → Nat → Hp → Prop := fun (a353 : Option Addr) (n353 c353 : Nat) (h354 : Hp) => (CallOK Tryz.prog 39 [(vhp b6 0), (vs ⟨#[119, 105, 110, 100, 111, 119]⟩)] h354 fun v355 h356 => v355 = (vtup []) ∧ (CallOK Tryz.prog 43 [(vhp b6 0), (vi 1000)] h356 fun v357 h358 => ∃ (x359 : Int), v357 = (vi x359) ∧ (CallOK Tryz.prog 44 [(vhp b6 0), (vs ⟨#[115, 108, 105, 100, 101]⟩), (vi x359)] h358 fun v360 h361 => ∃ (x362 : Int), v360 = (vi x362) ∧ (CallOK Tryz.prog 44 [(vhp b6 0), (vs ⟨#[100, 101, 108, 97, 121]⟩), (vi 0)] h361 fun v363 h364 => ∃ (x365 : Int), v363 = (vi x365) ∧ (CallOK Tryz.prog 44 [(vhp b6 0), (vs ⟨#[108, 97, 116, 101]⟩), (vi 0)] h364 fun v366 h367 => ∃ (x368 : Int), v366 = (vi x368) ∧ (∃ (e369 : Option (TypeId × Value)), (Hp.cell h367 b6 (0 + 2) = some (ifv e369)) ∧ (∃ (a370 : Option Addr) (n370 c370 : Nat), ((Option.isNone e369) = true → Hp.cell h367 b6 0 = some (vsl a370 n370 c370)) ∧ (let J374 : Hp → Prop := fun (h375 : Hp) => (∃ (e376 : Option (TypeId × Value)), (Hp.cell h375 b6 (0 + 2) = some (ifv e376)) ∧ (let J383 : Hp → Prop := fun (h384 : Hp) => (∃ (e385 : Option (TypeId × Value)), (Hp.cell h384 b6 (0 + 2) = some (ifv e385)) ∧ (((Option.isSome e385) = true → (∃ (e386 : Option (TypeId × Value)), (Hp.cell h384 b6 (0 + 2) = some (ifv e386)) ∧ ((Hp.cell h384 b6 (0 + 2) = some (ifv e386)) ∧ R (vtup [(vag [(vsl none 0 0), (vsl none 0 0), (vsl none 0 0), (vi 0), (vi 0), (vi 0), (vi 0)]), (ifv e386)]) h384))) ∧ ((Option.isSome e385) = false → R (vtup [(vag [(vsl a256 n256 c256), (vsl a314 n314 c314), (vsl a353 n353 c353), (vi x359), (vi x362), (vi x365), (vi x368)]), (ifv none)]) h384))); (((Option.isNone e376) = true → (CallOK Tryz.prog 45 [(vag [(vsl a256 n256 c256), (vsl a314 n314 c314), (vsl a353 n353 c353), (vi x359), (vi x362), (vi x365), (vi x368)])] h375 fun v377 h378 => ∃ (e379 : Option (TypeId × Value)), v377 = (ifv e379) ∧ (Hp.store h378 b6 (0 + 2) [(ifv e379)] fun h380 => (J383 h380)))) ∧ ((Option.isNone e376) = false → (J383 h375))))); (((bif (Option.isNone e369) then (decide ((((n370 : Nat) : Int) : Int) > 0)) else false) = true → (Hp.store h367 b6 (0 + 2) [(ifv (some (95, (vi 4))))] fun h371 => (J374 h371))) ∧ ((bif (Option.isNone e369) then (decide ((((n370 : Nat) : Int) : Int) > 0)) else false) = false → (J374 h367))))))))))); ((p321 = true → (CallOK Tryz.prog 39 [(vhp b6 0), (vs ⟨#[98, 121]⟩)] h319 fun v322 h323 => v322 = (vtup []) ∧ (CallOK Tryz.prog 42 [(vhp b6 0)] h323 fun v324 h325 => ∃ (a326 : Option Addr) (n326 c326 : Nat), v324 = (vsl a326 n326 c326) ∧ (J329 a326 n326 c326 h325)))) ∧ (p321 = false → (J329 a258 n258 c258 h319))))))); ((p269 = true → (CallOK Tryz.prog 42 [(vhp b6 0)] h267 fun v270 h271 => ∃ (a272 : Option Addr) (n272 c272 : Nat), v270 = (vsl a272 n272 c272) ∧ (J275 a272 n272 c272 h271))) ∧ (p269 = false → (J275 a257 n257 c257 h267))))))))); (∃ (I20 : List Value → Hp → Prop) (m21 : List Value → Hp → Nat), I20 [(vsl a18 n18 c18), (vsl none 0 0), (vsl none 0 0), (vi 0), (vi 0), (vi 0), (vi 0)] h17 ∧ ∀ (vs22 : List Value) (h23 : Hp), I20 vs22 h23 → ∃ (a24 : Option Addr) (n24 c24 : Nat) (a25 : Option Addr) (n25 c25 : Nat) (a26 : Option Addr) (n26 c26 : Nat) (x27 : Int) (x28 : Int) (x29 : Int) (x30 : Int), vs22 = [(vsl a24 n24 c24), (vsl a25 n25 c25), (vsl a26 n26 c26), (vi x27), (vi x28), (vi x29), (vi x30)] ∧ (∀ (b31 : Nat), h23 b31 = none → let h32 : Hp := Hp.set h23 b31 (cellsO [(vs ⟨#[44]⟩)] 9); (CallOK Tryz.prog 41 [(vhp b6 0), (vsl (some (⟨b31, 0, none⟩ : Addr)) 1 1)] h32 fun v33 h34 => ∃ (s35 : ByteArray), v33 = (vs s35) ∧ (∃ (p36 : Bool), (Rd Tryz.prog ((eqGuard .neq 9 (.tmp 31) (.const (vs ⟨#[]⟩)) (vs s35) (vs ⟨#[]⟩) >>= fun _ => binOp .neq 9 (vs s35) (vs ⟨#[]⟩))) h34 (vb p36)) ∧ ((p36 = true → (CallOK Tryz.prog 40 [(vhp b6 0)] h34 fun v39 h40 => ∃ (x41 : Int) (a42 : Option Addr) (n42 c42 : Nat), v39 = (vag [(vi x41), (vsl a42 n42 c42)]) ∧ (∀ (b43 : Nat), h40 b43 = none → let h44 : Hp := Hp.set h40 b43 (cellsO [(vi x41), (vsl a42 n42 c42)] 67); (SemOK Tryz.prog (Builtin.append_ #[24, 24] 24 #[(vsl a24 n24 c24), (vsl (some (⟨b43, 0, none⟩ : Addr)) 1 1)]) h44 fun v45 h46 => ∃ (a47 : Option Addr) (n47 c47 : Nat), v45 = (vsl a47 n47 c47) ∧ (I20 [(vsl a47 n47 c47), (vsl a25 n25 c25), (vsl a26 n26 c26), (vi x27), (vi x28), (vi x29), (vi x30)] h46 ∧ m21 [(vsl a47 n47 c47), (vsl a25 n25 c25), (vsl a26 n26 c26), (vi x27), (vi x28), (vi x29), (vi x30)] h46 < m21 vs22 h23))))) ∧ (p36 = false → (J48 a24 n24 c24 a25 n25 c25 a26 n26 c26 h34))))))))))))))))
theorem ok_query_Parse {u_s : ByteArray} {h : Hp} {R : Value → Hp → Prop} (H : VC_query_Parse u_s h R) : CallOK Tryz.prog 12 [(vs u_s)] h R :=
  call_of (cfg := ⟨[19], [(8, ([], [], [(1, [.slice, .slice, .slice, .int .i64, .int .i64, .int .i64, .int .i64])]))], [(7, [0, 1, 2, 3, 4, 5, 6, 7]), (9, [0, 1, 2, 3, 4, 5, 6, 7]), (27, [0, 1, 2, 3, 4, 5, 6])]⟩) noNG mixed Tryz.func12 [.one (.v (vs u_s))] (by kernel_rfl) rfl (by kernel_rfl) H
def VC_slices_Index_string_string (u_sa : Option Addr) (u_sn u_sc : Nat) (u_v : ByteArray) (h : Hp) (R : Value → Hp → Prop) : Prop :=
  (∃ (I2 : List Value → Hp → Prop) (m3 : List Value → Hp → Nat), I2 [(vi 0)] h ∧ ∀ (vs4 : List Value) (h5 : Hp), I2 vs4 h5 → ∃ (x6 : Int), vs4 = [(vi x6)] ∧ (((decide ((x6 : Int) < ((u_sn : Nat) : Int))) = true → (∃ (b9 o10 : Nat), (u_sa = some ⟨b9, o10, none⟩ ∧ (0 : Int) ≤ x6 ∧ x6 < ((u_sn : Nat) : Int)) ∧ (∃ (s11 : ByteArray), (Hp.cell h5 b9 (o10 + x6.toNat * 1) = some (vs s11)) ∧ (∃ (p12 : Bool), (Rd Tryz.prog ((eqGuard .eql 9 (.tmp 11) (.tmp 15) (vs u_v) (vs s11) >>= fun _ => binOp .eql 9 (vs u_v) (vs s11))) h5 (vb p12)) ∧ ((p12 = true → R (vi x6) h5) ∧ (p12 = false → (∃ (x14 : Int), (IsW x14 (x6 + 1)) ∧ (I2 [(vi x14)] h5 ∧ m3 [(vi x14)] h5 < m3 vs4 h5)))))))) ∧ ((decide ((x6 : Int) < ((u_sn : Nat) : Int))) = false → R (vi (-1)) h5)))
theorem ok_slices_Index_string_string {u_sa : Option Addr} {u_sn u_sc : Nat} {u_v : ByteArray} {h : Hp} {R : Value → Hp → Prop} (H : VC_slices_Index_string_string u_sa u_sn u_sc u_v h R) : CallOK Tryz.prog 70 [(vsl u_sa u_sn u_sc), (vs u_v)] h R :=
  call_of (cfg := ⟨[], [(2, ([8], [.one (.int .i64)], []))], []⟩) noNG mixed Tryz.func70 [.one (.v (vsl u_sa u_sn u_sc)), .one (.v (vs u_v))] (by kernel_rfl) rfl (by kernel_rfl) H
def VC_slices_Contains_string_string (u_sa : Option Addr) (u_sn u_sc : Nat) (u_v : ByteArray) (h : Hp) (R : Value → Hp → Prop) : Prop :=
  (CallOK Tryz.prog 70 [(vsl u_sa u_sn u_sc), (vs u_v)] h fun v1 h2 => ∃ (x3 : Int), v1 = (vi x3) ∧ R (vb (decide ((x3 : Int) ≥ 0))) h2)
theorem ok_slices_Contains_string_string {u_sa : Option Addr} {u_sn u_sc : Nat} {u_v : ByteArray} {h : Hp} {R : Value → Hp → Prop} (H : VC_slices_Contains_string_string u_sa u_sn u_sc u_v h R) : CallOK Tryz.prog 71 [(vsl u_sa u_sn u_sc), (vs u_v)] h R :=
  call_of (cfg := ⟨[], [], []⟩) noNG mixed Tryz.func71 [.one (.v (vsl u_sa u_sn u_sc)), .one (.v (vs u_v))] (by kernel_rfl) rfl (by kernel_rfl) H
end Go.Proofs.YtejefijpcggkfaaGreatDoor
namespace Go.Vc
open Go
set_option linter.unusedVariables false
section
variable {P : Program}
end
structure Bes (F : Nat → Prop) (h : Hp) (F' : Nat → Prop) (h' bx : Hp) : Prop where
  m : Mut F h F' h'
  al : ∀ b, F' b → h' b ≠ none
  x : bx.le h'
  n : ∀ b o, bx b = some o → (h b = none ∨ F b) ∧ ¬ F' b
section
variable {F F' F2 : Nat → Prop} {h h' h2 bx : Hp}
end
end Go.Vc
namespace Go.Vc
open Go Go.MapKept
set_option linter.unusedVariables false
section
variable {P : Program} {h : Hp}
theorem sem_makeMap {T : TypeId} {K : Value → Hp → Prop} (hK : ∀ b, h b = none → K (.map (some b)) (h.set b (.map #[] 0))) : SemOK P (Instr.makeMap T none) h K := by
  intro w hs
  refine ⟨.map (some w.heap.size), _, _, ?_, Sub.pushSet hs _, Fr.pushSet h w _, hK _ hs.none⟩
  simp [Instr.makeMap, newObj, Sem.run_bind, Sem.run]
theorem run_getObj {w : World} {r : Nat} {es : Array MapEntry} {c : Nat} (hb : w.heap[r]? = some (.map es c)) : (getObj r).run P w = .ok (.map es c) w := by simp [getObj, Sem.run, hb]
theorem Sub.mapSet {w : World} (hs : Sub h w) {b : Nat} {o o' : Obj} (hb : h b = some o) : Sub (h.set b o') { w with heap := w.heap.setIfInBounds b o' } ∧ Fr h (h.set b o') w { w with heap := w.heap.setIfInBounds b o' } := by
  have hw := hs b _ hb
  obtain ⟨k1, k2⟩ := heap_set (o' := o') hw
  refine ⟨fun c oc hc => ?_, ⟨rfl, rfl, rfl, by simp, fun c hc hn => ?_⟩⟩
  · by_cases e : c = b
    · subst e; rw [Hp.set_same] at hc; cases hc; exact k1
    · rw [Hp.set_other _ _ e] at hc; exact (k2 c e).trans (hs c oc hc)
  · have e : c ≠ b := fun e => by subst e; rw [hn] at hb; cases hb
    exact ⟨k2 c e, by rw [Hp.set_other _ _ e]; exact hn⟩
theorem sem_mapNew {T k e : TypeId} {d : TypeDesc} (hT : P.underlying T = some (.map k e)) (hd : P.underlying k = some d) {b : Nat} {es : Array MapEntry} {clock : Nat} (hb : h b = some (.map es clock)) {key v : Value} (hk : IsKey d key) (hf : Instr.findNow d key es.toList 0 = some none) {K : Hp → Prop}
    (hK : K (h.set b (.map (es.push { key := key, val := v, born := clock }) (clock + 1)))) : SemOKu P (Instr.mapUpdate T (.map (some b)) key v) h K := by
  intro w hs
  have hw := hs b _ hb
  obtain ⟨k1, k2⟩ := hs.mapSet (o' := .map (es.push { key := key, val := v, born := clock }) (clock + 1)) hb
  refine ⟨_, _, ?_, k1, k2, hK⟩
  simp only [Instr.mapUpdate, Sem.run_bind, run_underlying hT, Result.andThen_ok, run_getObj hw, run_checkKey hd hk, run_findKey hd hf, run_setObj_map _ hw]
theorem rd_lookup {T k e : TypeId} {d : TypeDesc} (hT : P.underlying T = some (.map k e)) (hd : P.underlying k = some d) {b : Nat} {es : Array MapEntry} {clock : Nat} (hb : h b = some (.map es clock)) {key v : Value} (hk : IsKey d key) {i : Nat} (hf : Instr.findNow d key es.toList 0 = some (some (i, v))) : Rd P (Instr.lookup T (.map (some b)) key false) h v := by
  intro w hs
  have hw := hs b _ hb
  simp only [Instr.lookup, Sem.run_bind, run_underlying hT, Result.andThen_ok, run_getObj hw, run_checkKey hd hk, run_findKey hd hf, Sem.run_pure]
  rfl
end
end Go.Vc
namespace Go.Proofs.YtejefijpcggkfaaGreatDoor
open Go Go.Vc
set_option maxRecDepth 100000
set_option linter.unusedVariables false
def VC_expr_Arity (u_op : Int) (h : Hp) (R : Value → Hp → Prop) : Prop :=
  (((bif (decide ((u_op : Int) = 1)) then true else (decide ((u_op : Int) = 2))) = true → R (vi 0) h) ∧ ((bif (decide ((u_op : Int) = 1)) then true else (decide ((u_op : Int) = 2))) = false → (((bif (bif (decide ((u_op : Int) = 3)) then true else (decide ((u_op : Int) = 4))) then true else (decide ((u_op : Int) = 5))) = true → R (vi 1) h) ∧ ((bif (bif (decide ((u_op : Int) = 3)) then true else (decide ((u_op : Int) = 4))) then true else (decide ((u_op : Int) = 5))) = false → (((bif (decide ((u_op : Int) ≥ 6)) then (decide ((u_op : Int) ≤ 12)) else false) = true → R (vi 2) h) ∧ ((bif (decide ((u_op : Int) ≥ 6)) then (decide ((u_op : Int) ≤ 12)) else false) = false → R (vi (-1)) h))))))
theorem ok_expr_Arity {u_op : Int} {h : Hp} {R : Value → Hp → Prop} (H : VC_expr_Arity u_op h R) : CallOK Tryz.prog 135 [(vi u_op)] h R :=
  call_of (cfg := ⟨[], [], []⟩) noNG mixed Tryz.func135 [.one (.v (vi u_op))] (by kernel_rfl) rfl (by kernel_rfl) H
def VC_expr_field (u_eTime : Int) (u_eKKind : Int) (u_eKN : Int) (u_eAKind : Int) (u_eAN : Int) (u_eBKind : Int) (u_eBN : Int) (u_n : Int) (h : Hp) (R : Value → Hp → Prop) : Prop :=
  (CallOK Tryz.prog 101 [(vi u_eTime)] h fun v1 h2 => ∃ (x3 : Int) (x4 : Int), v1 = (vag [(vi x3), (vi x4)]) ∧ (∃ (x5 : Int) (x6 : Int), (Rd Tryz.prog (Instr.index 165 (vag [(vi x3), (vi x4), (vi u_eKKind), (vi u_eKN), (vi u_eAKind), (vi u_eAN), (vi u_eBKind), (vi u_eBN)]) (vi u_n)) h2 (vag [(vi x5), (vi x6)])) ∧ R (vag [(vi x5), (vi x6)]) h2))
theorem ok_expr_field {u_eTime : Int} {u_eKKind : Int} {u_eKN : Int} {u_eAKind : Int} {u_eAN : Int} {u_eBKind : Int} {u_eBN : Int} {u_n : Int} {h : Hp} {R : Value → Hp → Prop} (H : VC_expr_field u_eTime u_eKKind u_eKN u_eAKind u_eAN u_eBKind u_eBN u_n h R) : CallOK Tryz.prog 86 [(vag [(vi u_eTime), (vi u_eKKind), (vi u_eKN), (vi u_eAKind), (vi u_eAN), (vi u_eBKind), (vi u_eBN)]), (vi u_n)] h R :=
  call_of (cfg := ⟨[], [], [(1, [0, 1, 3, 4, 5, 6, 7, 8, 10, 2, 9, 11, 12])]⟩) noNG mixed Tryz.func86 [.ag [.v (vi u_eTime), .v (vi u_eKKind), .v (vi u_eKN), .v (vi u_eAKind), .v (vi u_eAN), .v (vi u_eBKind), .v (vi u_eBN)], .one (.v (vi u_n))] (by kernel_rfl) rfl (by kernel_rfl) H
def VC_expr_Eval (u_la : Option Addr) (u_ln u_lc : Nat) (u_eTime : Int) (u_eKKind : Int) (u_eKN : Int) (u_eAKind : Int) (u_eAN : Int) (u_eBKind : Int) (u_eBN : Int) (h : Hp) (R : Value → Hp → Prop) : Prop :=
  (SemOK Tryz.prog (Instr.makeSlice 49 (vi ((u_ln : Nat) : Int)) (vi ((u_ln : Nat) : Int))) h fun v1 h2 => ∃ (a3 : Option Addr) (n3 c3 : Nat), v1 = (vsl a3 n3 c3) ∧ (∃ (I5 : List Value → Hp → Prop) (m6 : List Value → Hp → Nat), I5 [(vi 0)] h2 ∧ ∀ (vs7 : List Value) (h8 : Hp), I5 vs7 h8 → ∃ (x9 : Int), vs7 = [(vi x9)] ∧ (((decide ((x9 : Int) < ((u_ln : Nat) : Int))) = true → (let J83 : Hp → Prop := fun (h84 : Hp) => (∃ (x85 : Int), (IsW x85 (x9 + 1)) ∧ (I5 [(vi x85)] h84 ∧ m6 [(vi x85)] h84 < m6 vs7 h8)); (∃ (b12 o13 : Nat), (u_la = some ⟨b12, o13, none⟩ ∧ (0 : Int) ≤ x9 ∧ x9 < ((u_ln : Nat) : Int)) ∧ (∃ (x14 : Int) (x15 : Int) (x16 : Int) (x17 : Int) (x18 : Int) (x19 : Int), (Hp.row h8 b12 (o13 + x9.toNat * 6) 6 = some [(vi x14), (vi x15), (vi x16), (vi x17), (vi x18), (vi x19)]) ∧ (((decide ((x14 : Int) = 1)) = true → (∃ (b20 o21 : Nat), (a3 = some ⟨b20, o21, none⟩ ∧ (0 : Int) ≤ x9 ∧ x9 < ((n3 : Nat) : Int)) ∧ (Hp.store h8 b20 (o21 + x9.toNat * 2) [(vi x18), (vi x19)] fun h22 => (J83 h22)))) ∧ ((decide ((x14 : Int) = 1)) = false → (((decide ((x14 : Int) = 2)) = true → (CallOK Tryz.prog 86 [(vag [(vi u_eTime), (vi u_eKKind), (vi u_eKN), (vi u_eAKind), (vi u_eAN), (vi u_eBKind), (vi u_eBN)]), (vi x17)] h8 fun v24 h25 => ∃ (x26 : Int) (x27 : Int), v24 = (vag [(vi x26), (vi x27)]) ∧ (∃ (b28 o29 : Nat), (a3 = some ⟨b28, o29, none⟩ ∧ (0 : Int) ≤ x9 ∧ x9 < ((n3 : Nat) : Int)) ∧ (Hp.store h25 b28 (o29 + x9.toNat * 2) [(vi x26), (vi x27)] fun h30 => (J83 h30))))) ∧ ((decide ((x14 : Int) = 2)) = false → (((decide ((x14 : Int) = 3)) = true → (∃ (b32 o33 : Nat), (a3 = some ⟨b32, o33, none⟩ ∧ (0 : Int) ≤ x15 ∧ x15 < ((n3 : Nat) : Int)) ∧ (∃ (x34 : Int) (x35 : Int), (Hp.row h8 b32 (o33 + x15.toNat * 2) 2 = some [(vi x34), (vi x35)]) ∧ (CallOK Tryz.prog 87 [(vag [(vi x34), (vi x35)])] h8 fun v36 h37 => ∃ (x38 : Int) (x39 : Int), v36 = (vag [(vi x38), (vi x39)]) ∧ (∃ (b40 o41 : Nat), (a3 = some ⟨b40, o41, none⟩ ∧ (0 : Int) ≤ x9 ∧ x9 < ((n3 : Nat) : Int)) ∧ (Hp.store h37 b40 (o41 + x9.toNat * 2) [(vi x38), (vi x39)] fun h42 => (J83 h42))))))) ∧ ((decide ((x14 : Int) = 3)) = false → (((decide ((x14 : Int) = 4)) = true → (∃ (b44 o45 : Nat), (a3 = some ⟨b44, o45, none⟩ ∧ (0 : Int) ≤ x15 ∧ x15 < ((n3 : Nat) : Int)) ∧ (∃ (x46 : Int) (x47 : Int), (Hp.row h8 b44 (o45 + x15.toNat * 2) 2 = some [(vi x46), (vi x47)]) ∧ (CallOK Tryz.prog 88 [(vag [(vi x46), (vi x47)])] h8 fun v48 h49 => ∃ (x50 : Int) (x51 : Int), v48 = (vag [(vi x50), (vi x51)]) ∧ (∃ (b52 o53 : Nat), (a3 = some ⟨b52, o53, none⟩ ∧ (0 : Int) ≤ x9 ∧ x9 < ((n3 : Nat) : Int)) ∧ (Hp.store h49 b52 (o53 + x9.toNat * 2) [(vi x50), (vi x51)] fun h54 => (J83 h54))))))) ∧ ((decide ((x14 : Int) = 4)) = false → (((decide ((x14 : Int) = 5)) = true → (∃ (b56 o57 : Nat), (a3 = some ⟨b56, o57, none⟩ ∧ (0 : Int) ≤ x15 ∧ x15 < ((n3 : Nat) : Int)) ∧ (∃ (x58 : Int), (Hp.cell h8 b56 (o57 + x15.toNat * 2) = some (vi x58)) ∧ (CallOK Tryz.prog 55 [(vb (decide ((x58 : Int) = 0)))] h8 fun v59 h60 => ∃ (x61 : Int) (x62 : Int), v59 = (vag [(vi x61), (vi x62)]) ∧ (∃ (b63 o64 : Nat), (a3 = some ⟨b63, o64, none⟩ ∧ (0 : Int) ≤ x9 ∧ x9 < ((n3 : Nat) : Int)) ∧ (Hp.store h60 b63 (o64 + x9.toNat * 2) [(vi x61), (vi x62)] fun h65 => (J83 h65))))))) ∧ ((decide ((x14 : Int) = 5)) = false → (∃ (b67 o68 : Nat), (a3 = some ⟨b67, o68, none⟩ ∧ (0 : Int) ≤ x15 ∧ x15 < ((n3 : Nat) : Int)) ∧ (∃ (x69 : Int) (x70 : Int), (Hp.row h8 b67 (o68 + x15.toNat * 2) 2 = some [(vi x69), (vi x70)]) ∧ (∃ (b71 o72 : Nat), (a3 = some ⟨b71, o72, none⟩ ∧ (0 : Int) ≤ x16 ∧ x16 < ((n3 : Nat) : Int)) ∧ (∃ (x73 : Int) (x74 : Int), (Hp.row h8 b71 (o72 + x16.toNat * 2) 2 = some [(vi x73), (vi x74)]) ∧ (CallOK Tryz.prog 89 [(vi x14), (vag [(vi x69), (vi x70)]), (vag [(vi x73), (vi x74)])] h8 fun v75 h76 => ∃ (x77 : Int) (x78 : Int), v75 = (vag [(vi x77), (vi x78)]) ∧ (∃ (b79 o80 : Nat), (a3 = some ⟨b79, o80, none⟩ ∧ (0 : Int) ≤ x9 ∧ x9 < ((n3 : Nat) : Int)) ∧ (Hp.store h76 b79 (o80 + x9.toNat * 2) [(vi x77), (vi x78)] fun h81 => (J83 h81)))))))))))))))))))))) ∧ ((decide ((x9 : Int) < ((u_ln : Nat) : Int))) = false → (∃ (x86 : Int), (IsW x86 (((n3 : Nat) : Int) - 1)) ∧ (∃ (b87 o88 : Nat), (a3 = some ⟨b87, o88, none⟩ ∧ (0 : Int) ≤ x86 ∧ x86 < ((n3 : Nat) : Int)) ∧ (∃ (x89 : Int) (x90 : Int), (Hp.row h8 b87 (o88 + x86.toNat * 2) 2 = some [(vi x89), (vi x90)]) ∧ R (vag [(vi x89), (vi x90)]) h8)))))))
theorem ok_expr_Eval {u_la : Option Addr} {u_ln u_lc : Nat} {u_eTime : Int} {u_eKKind : Int} {u_eKN : Int} {u_eAKind : Int} {u_eAN : Int} {u_eBKind : Int} {u_eBN : Int} {h : Hp} {R : Value → Hp → Prop} (H : VC_expr_Eval u_la u_ln u_lc u_eTime u_eKKind u_eKN u_eAKind u_eAN u_eBKind u_eBN h R) : CallOK Tryz.prog 54 [(vsl u_la u_ln u_lc), (vag [(vi u_eTime), (vi u_eKKind), (vi u_eKN), (vi u_eAKind), (vi u_eAN), (vi u_eBKind), (vi u_eBN)])] h R :=
  call_of (cfg := ⟨[], [(3, ([13], [.one (.int .i64)], []))], [(6, [0, 1, 2, 3, 4, 5, 6, 7, 8, 9, 10, 11, 12, 13, 14, 15, 16])]⟩) noNG mixed Tryz.func54 [.one (.v (vsl u_la u_ln u_lc)), .ag [.v (vi u_eTime), .v (vi u_eKKind), .v (vi u_eKN), .v (vi u_eAKind), .v (vi u_eAN), .v (vi u_eBKind), .v (vi u_eBN)]] (by kernel_rfl) rfl (by kernel_rfl) H
def VC_expr_join (u_a : Int) (u_b : Int) (h : Hp) (R : Value → Hp → Prop) : Prop :=
  (((decide ((u_a : Int) = 0)) = true → R (vtup [(vi u_b), (vb true)]) h) ∧ ((decide ((u_a : Int) = 0)) = false → (let J3 : Bool → Prop := fun (p4 : Bool) => ((p4 = true → R (vtup [(vi u_a), (vb true)]) h) ∧ (p4 = false → R (vtup [(vi 0), (vb false)]) h)); (((decide ((u_b : Int) = 0)) = true → (J3 (decide ((u_b : Int) = 0)))) ∧ ((decide ((u_b : Int) = 0)) = false → (J3 (decide ((u_a : Int) = u_b))))))))
theorem ok_expr_join {u_a : Int} {u_b : Int} {h : Hp} {R : Value → Hp → Prop} (H : VC_expr_join u_a u_b h R) : CallOK Tryz.prog 136 [(vi u_a), (vi u_b)] h R :=
  call_of (cfg := ⟨[], [], []⟩) noNG mixed Tryz.func136 [.one (.v (vi u_a)), .one (.v (vi u_b))] (by kernel_rfl) rfl (by kernel_rfl) H
def VC_expr_Type (u_la : Option Addr) (u_ln u_lc : Nat) (h : Hp) (R : Value → Hp → Prop) : Prop :=
  (SemOK Tryz.prog (Instr.makeSlice 57 (vi ((u_ln : Nat) : Int)) (vi ((u_ln : Nat) : Int))) h fun v1 h2 => ∃ (a3 : Option Addr) (n3 c3 : Nat), v1 = (vsl a3 n3 c3) ∧ (∃ (I5 : List Value → Hp → Prop) (m6 : List Value → Hp → Nat), I5 [(vi 0)] h2 ∧ ∀ (vs7 : List Value) (h8 : Hp), I5 vs7 h8 → ∃ (x9 : Int), vs7 = [(vi x9)] ∧ (((decide ((x9 : Int) < ((u_ln : Nat) : Int))) = true → (let J95 : Hp → Prop := fun (h96 : Hp) => (∃ (x97 : Int), (IsW x97 (x9 + 1)) ∧ (I5 [(vi x97)] h96 ∧ m6 [(vi x97)] h96 < m6 vs7 h8)); (∃ (b12 o13 : Nat), (u_la = some ⟨b12, o13, none⟩ ∧ (0 : Int) ≤ x9 ∧ x9 < ((u_ln : Nat) : Int)) ∧ (∃ (x14 : Int) (x15 : Int) (x16 : Int) (x17 : Int) (x18 : Int) (x19 : Int), (Hp.row h8 b12 (o13 + x9.toNat * 6) 6 = some [(vi x14), (vi x15), (vi x16), (vi x17), (vi x18), (vi x19)]) ∧ (let J39 : Int → Prop := fun (x60 : Int) => (CallOK Tryz.prog 135 [(vi x14)] h8 fun v61 h62 => ∃ (x63 : Int), v61 = (vi x63) ∧ (∀ (b64 : Nat), h62 b64 = none → let h65 : Hp := Hp.set h62 b64 (cellsO [(vi x15), (vi x16)] 3); (∃ (a66 : Option Addr) (n66 c66 : Nat), (Rd Tryz.prog (Instr.sliceAt 57 (vsl (some (⟨b64, 0, none⟩ : Addr)) 2 2) none (some (vi x63)) none) h65 (vsl a66 n66 c66)) ∧ (∃ (I68 : List Value → Hp → Prop) (m69 : List Value → Hp → Nat), I68 [(vi 0)] h65 ∧ ∀ (vs70 : List Value) (h71 : Hp), I68 vs70 h71 → ∃ (x72 : Int), vs70 = [(vi x72)] ∧ (((decide ((x72 : Int) < ((n66 : Nat) : Int))) = true → (∃ (b75 o76 : Nat), (a66 = some ⟨b75, o76, none⟩ ∧ (0 : Int) ≤ x72 ∧ x72 < ((n66 : Nat) : Int)) ∧ (∃ (x77 : Int), (Hp.cell h71 b75 (o76 + x72.toNat * 1) = some (vi x77)) ∧ (∃ (b78 o79 : Nat), (a3 = some ⟨b78, o79, none⟩ ∧ (0 : Int) ≤ x77 ∧ x77 < ((n3 : Nat) : Int)) ∧ (∃ (x80 : Int), (Hp.cell h71 b78 (o79 + x77.toNat * 1) = some (vi x80)) ∧ (CallOK Tryz.prog 136 [(vi x60), (vi x80)] h71 fun v81 h82 => ∃ (x83 : Int) (p84 : Bool), v81 = (vtup [(vi x83), (vb p84)]) ∧ (((!p84) = true → R (vtup [(vi 0), (ifv (some (95, (vi 3))))]) h82) ∧ ((!p84) = false → (∃ (x86 : Int), (IsW x86 (x72 + 1)) ∧ (I68 [(vi x86)] h82 ∧ m69 [(vi x86)] h82 < m69 vs70 h71)))))))))) ∧ ((decide ((x72 : Int) < ((n66 : Nat) : Int))) = false → (∃ (b87 o88 : Nat), (a3 = some ⟨b87, o88, none⟩ ∧ (0 : Int) ≤ x9 ∧ x9 < ((n3 : Nat) : Int)) ∧ (Hp.store h71 b87 (o88 + x9.toNat * 1) [(vi x60)] fun h89 => (((bif (decide ((x14 : Int) = 11)) then true else (decide ((x14 : Int) = 12))) = true → (∃ (b90 o91 : Nat), (a3 = some ⟨b90, o91, none⟩ ∧ (0 : Int) ≤ x9 ∧ x9 < ((n3 : Nat) : Int)) ∧ (Hp.store h89 b90 (o91 + x9.toNat * 1) [(vi 2)] fun h92 => (J95 h92)))) ∧ ((bif (decide ((x14 : Int) = 11)) then true else (decide ((x14 : Int) = 12))) = false → (J95 h89))))))))))); (((decide ((x14 : Int) = 1)) = true → (∃ (b20 o21 : Nat), (a3 = some ⟨b20, o21, none⟩ ∧ (0 : Int) ≤ x9 ∧ x9 < ((n3 : Nat) : Int)) ∧ (Hp.store h8 b20 (o21 + x9.toNat * 1) [(vi x18)] fun h22 => (J95 h22)))) ∧ ((decide ((x14 : Int) = 1)) = false → (((decide ((x14 : Int) = 2)) = true → (∃ (b24 o25 : Nat), (a3 = some ⟨b24, o25, none⟩ ∧ (0 : Int) ≤ x9 ∧ x9 < ((n3 : Nat) : Int)) ∧ (Hp.store h8 b24 (o25 + x9.toNat * 1) [(vi 1)] fun h26 => (J95 h26)))) ∧ ((decide ((x14 : Int) = 2)) = false → (((decide ((x14 : Int) = 5)) = true → (∃ (b28 o29 : Nat), (a3 = some ⟨b28, o29, none⟩ ∧ (0 : Int) ≤ x9 ∧ x9 < ((n3 : Nat) : Int)) ∧ (Hp.store h8 b28 (o29 + x9.toNat * 1) [(vi 2)] fun h30 => (J95 h30)))) ∧ ((decide ((x14 : Int) = 5)) = false → (let J35 : Bool → Prop := fun (p36 : Bool) => ((p36 = true → (J39 2)) ∧ (p36 = false → (J39 1))); (((decide ((x14 : Int) = 4)) = true → (J35 (decide ((x14 : Int) = 4)))) ∧ ((decide ((x14 : Int) = 4)) = false → (((decide ((x14 : Int) = 9)) = true → (J35 (decide ((x14 : Int) = 9)))) ∧ ((decide ((x14 : Int) = 9)) = false → (J35 (decide ((x14 : Int) = 10))))))))))))))))))) ∧ ((decide ((x9 : Int) < ((u_ln : Nat) : Int))) = false → (∃ (x98 : Int), (IsW x98 (((n3 : Nat) : Int) - 1)) ∧ (∃ (b99 o100 : Nat), (a3 = some ⟨b99, o100, none⟩ ∧ (0 : Int) ≤ x98 ∧ x98 < ((n3 : Nat) : Int)) ∧ (∃ (x101 : Int), (Hp.cell h8 b99 (o100 + x98.toNat * 1) = some (vi x101)) ∧ R (vtup [(vi x101), (ifv none)]) h8)))))))
theorem ok_expr_Type {u_la : Option Addr} {u_ln u_lc : Nat} {h : Hp} {R : Value → Hp → Prop} (H : VC_expr_Type u_la u_ln u_lc h R) : CallOK Tryz.prog 110 [(vsl u_la u_ln u_lc)] h R :=
  call_of (cfg := ⟨[], [(18, ([56], [.one (.int .i64)], [])), (3, ([17], [.one (.int .i64)], []))], [(17, [0, 1, 2, 3, 5, 6, 10, 7, 4, 8, 9])]⟩) noNG mixed Tryz.func110 [.one (.v (vsl u_la u_ln u_lc))] (by kernel_rfl) rfl (by kernel_rfl) H
def VC_expr_Join (u_op : Int) (u_xa : Option Addr) (u_xn u_xc : Nat) (u_ya : Option Addr) (u_yn u_yc : Nat) (h : Hp) (R : Value → Hp → Prop) : Prop :=
  (CallOK Tryz.prog 140 [(vsl u_xa u_xn u_xc)] h fun v1 h2 => ∃ (a3 : Option Addr) (n3 c3 : Nat), v1 = (vsl a3 n3 c3) ∧ (∃ (x4 : Int), (IsW x4 (((u_xn : Nat) : Int) - 1)) ∧ (∃ (I6 : List Value → Hp → Prop) (m7 : List Value → Hp → Nat), I6 [(vsl a3 n3 c3), (vi 0)] h2 ∧ ∀ (vs8 : List Value) (h9 : Hp), I6 vs8 h9 → ∃ (a10 : Option Addr) (n10 c10 : Nat) (x11 : Int), vs8 = [(vsl a10 n10 c10), (vi x11)] ∧ (((decide ((x11 : Int) < ((u_yn : Nat) : Int))) = true → (∃ (b14 o15 : Nat), (u_ya = some ⟨b14, o15, none⟩ ∧ (0 : Int) ≤ x11 ∧ x11 < ((u_yn : Nat) : Int)) ∧ (∃ (x16 : Int) (x17 : Int) (x18 : Int) (x19 : Int) (x20 : Int) (x21 : Int), (Hp.row h9 b14 (o15 + x11.toNat * 6) 6 = some [(vi x16), (vi x17), (vi x18), (vi x19), (vi x20), (vi x21)]) ∧ (CallOK Tryz.prog 135 [(vi x16)] h9 fun v22 h23 => ∃ (x24 : Int), v22 = (vi x24) ∧ (let J28 : Int → Prop := fun (x38 : Int) => (CallOK Tryz.prog 135 [(vi x16)] h23 fun v39 h40 => ∃ (x41 : Int), v39 = (vi x41) ∧ (let J45 : Int → Prop := fun (x48 : Int) => (∀ (b49 : Nat), h40 b49 = none → let h50 : Hp := Hp.set h40 b49 (cellsO [(vi x16), (vi x38), (vi x48), (vi x19), (vi x20), (vi x21)] 137); (SemOK Tryz.prog (Builtin.append_ #[25, 25] 25 #[(vsl a10 n10 c10), (vsl (some (⟨b49, 0, none⟩ : Addr)) 1 1)]) h50 fun v51 h52 => ∃ (a53 : Option Addr) (n53 c53 : Nat), v51 = (vsl a53 n53 c53) ∧ (∃ (x55 : Int), (IsW x55 (x11 + 1)) ∧ (I6 [(vsl a53 n53 c53), (vi x55)] h52 ∧ m7 [(vsl a53 n53 c53), (vi x55)] h52 < m7 vs8 h9)))); (((decide ((x41 : Int) > 1)) = true → (∃ (x42 : Int), (IsW x42 (x18 + ((u_xn : Nat) : Int))) ∧ (J45 x42))) ∧ ((decide ((x41 : Int) > 1)) = false → (J45 x18))))); (((decide ((x24 : Int) > 0)) = true → (∃ (x25 : Int), (IsW x25 (x17 + ((u_xn : Nat) : Int))) ∧ (J28 x25))) ∧ ((decide ((x24 : Int) > 0)) = false → (J28 x17)))))))) ∧ ((decide ((x11 : Int) < ((u_yn : Nat) : Int))) = false → (CallOK Tryz.prog 135 [(vi u_op)] h9 fun v56 h57 => ∃ (x58 : Int), v56 = (vi x58) ∧ (let J62 : Int → Prop := fun (x65 : Int) => (∀ (b66 : Nat), h57 b66 = none → let h67 : Hp := Hp.set h57 b66 (cellsO [(vi u_op), (vi x4), (vi x65), (vi 0), (vi 0), (vi 0)] 137); (SemOK Tryz.prog (Builtin.append_ #[25, 25] 25 #[(vsl a10 n10 c10), (vsl (some (⟨b66, 0, none⟩ : Addr)) 1 1)]) h67 fun v68 h69 => ∃ (a70 : Option Addr) (n70 c70 : Nat), v68 = (vsl a70 n70 c70) ∧ R (vsl a70 n70 c70) h69)); (((decide ((x58 : Int) > 1)) = true → (∃ (x59 : Int), (IsW x59 (((n10 : Nat) : Int) - 1)) ∧ (J62 x59))) ∧ ((decide ((x58 : Int) > 1)) = false → (J62 0))))))))))
theorem ok_expr_Join {u_op : Int} {u_xa : Option Addr} {u_xn u_xc : Nat} {u_ya : Option Addr} {u_yn u_yc : Nat} {h : Hp} {R : Value → Hp → Prop} (H : VC_expr_Join u_op u_xa u_xn u_xc u_ya u_yn u_yc h R) : CallOK Tryz.prog 126 [(vi u_op), (vsl u_xa u_xn u_xc), (vsl u_ya u_yn u_yc)] h R :=
  call_of (cfg := ⟨[], [(4, ([7, 20], [.one (.slice), .one (.int .i64)], []))], []⟩) noNG mixed Tryz.func126 [.one (.v (vi u_op)), .one (.v (vsl u_xa u_xn u_xc)), .one (.v (vsl u_ya u_yn u_yc))] (by kernel_rfl) rfl (by kernel_rfl) H
def VC_slices_Clone_api_Node_api_Node (u_sa : Option Addr) (u_sn u_sc : Nat) (h : Hp) (R : Value → Hp → Prop) : Prop :=
  (∃ (p1 : Bool), (Rd Tryz.prog ((eqGuard .eql 25 (.tmp 3) (.const (vsl none 0 0)) (vsl u_sa u_sn u_sc) (vsl none 0 0) >>= fun _ => binOp .eql 25 (vsl u_sa u_sn u_sc) (vsl none 0 0))) h (vb p1)) ∧ ((p1 = true → R (vsl none 0 0) h) ∧ (p1 = false → (∀ (b3 : Nat), h b3 = none → let h4 : Hp := Hp.set h b3 (cellsO [] 137); (SemOK Tryz.prog (Builtin.append_ #[25, 25] 25 #[(vsl (some (⟨b3, 0, none⟩ : Addr)) 0 0), (vsl u_sa u_sn u_sc)]) h4 fun v5 h6 => ∃ (a7 : Option Addr) (n7 c7 : Nat), v5 = (vsl a7 n7 c7) ∧ R (vsl a7 n7 c7) h6)))))
theorem ok_slices_Clone_api_Node_api_Node {u_sa : Option Addr} {u_sn u_sc : Nat} {h : Hp} {R : Value → Hp → Prop} (H : VC_slices_Clone_api_Node_api_Node u_sa u_sn u_sc h R) : CallOK Tryz.prog 140 [(vsl u_sa u_sn u_sc)] h R :=
  call_of (cfg := ⟨[], [], []⟩) noNG mixed Tryz.func140 [.one (.v (vsl u_sa u_sn u_sc))] (by kernel_rfl) rfl (by kernel_rfl) H
end Go.Proofs.YtejefijpcggkfaaGreatDoor
namespace Go.Proofs.YtejefijpcggkfaaGreatDoor
open Go Go.Vc
set_option maxRecDepth 100000
set_option linter.unusedVariables false
def VC_R_Arity (u_op : Int) (h : Hp) (R : Value → Hp → Prop) : Prop :=
  (((bif (decide ((u_op : Int) = 1)) then true else (decide ((u_op : Int) = 2))) = true → R (vi 0) h) ∧ ((bif (decide ((u_op : Int) = 1)) then true else (decide ((u_op : Int) = 2))) = false → (((bif (decide ((u_op : Int) ≥ 3)) then (decide ((u_op : Int) ≤ 5)) else false) = true → R (vi 1) h) ∧ ((bif (decide ((u_op : Int) ≥ 3)) then (decide ((u_op : Int) ≤ 5)) else false) = false → (((bif (decide ((u_op : Int) ≥ 6)) then (decide ((u_op : Int) ≤ 12)) else false) = true → R (vi 2) h) ∧ ((bif (decide ((u_op : Int) ≥ 6)) then (decide ((u_op : Int) ≤ 12)) else false) = false → R (vi (-1)) h))))))
theorem ok_R_Arity {u_op : Int} {h : Hp} {R : Value → Hp → Prop} (H : VC_R_Arity u_op h R) : CallOK Tryz.prog 111 [(vi u_op)] h R :=
  call_of (cfg := ⟨[], [], []⟩) noNG mixed Tryz.func111 [.one (.v (vi u_op))] (by kernel_rfl) rfl (by kernel_rfl) H
def VC_R_ExprFault (u_la : Option Addr) (u_ln u_lc : Nat) (h : Hp) (R : Value → Hp → Prop) : Prop :=
  (((decide ((((u_ln : Nat) : Int) : Int) > 40)) = true → R (vi 2) h) ∧ ((decide ((((u_ln : Nat) : Int) : Int) > 40)) = false → (∃ (I3 : List Value → Hp → Prop) (m4 : List Value → Hp → Nat), I3 [(vsl none 0 0), (vi 0)] h ∧ ∀ (vs5 : List Value) (h6 : Hp), I3 vs5 h6 → ∃ (a7 : Option Addr) (n7 c7 : Nat) (x8 : Int), vs5 = [(vsl a7 n7 c7), (vi x8)] ∧ (((decide ((x8 : Int) < ((u_ln : Nat) : Int))) = true → (∃ (b11 o12 : Nat), (u_la = some ⟨b11, o12, none⟩ ∧ (0 : Int) ≤ x8 ∧ x8 < ((u_ln : Nat) : Int)) ∧ (∃ (x13 : Int) (x14 : Int) (x15 : Int) (x16 : Int) (x17 : Int) (x18 : Int), (Hp.row h6 b11 (o12 + x8.toNat * 6) 6 = some [(vi x13), (vi x14), (vi x15), (vi x16), (vi x17), (vi x18)]) ∧ (CallOK Tryz.prog 111 [(vi x13)] h6 fun v19 h20 => ∃ (x21 : Int), v19 = (vi x21) ∧ (((decide ((x21 : Int) < 0)) = true → R (vi 3) h20) ∧ ((decide ((x21 : Int) < 0)) = false → (((bif (bif (bif (bif (decide ((x13 : Int) ≠ 1)) then (bif (decide ((x17 : Int) ≠ 0)) then true else (decide ((x18 : Int) ≠ 0))) else false) then true else (bif (decide ((x13 : Int) ≠ 2)) then (decide ((x16 : Int) ≠ 0)) else false)) then true else (bif (decide ((x21 : Int) < 2)) then (decide ((x15 : Int) ≠ 0)) else false)) then true else (bif (decide ((x21 : Int) < 1)) then (decide ((x14 : Int) ≠ 0)) else false)) = true → R (vi 3) h20) ∧ ((bif (bif (bif (bif (decide ((x13 : Int) ≠ 1)) then (bif (decide ((x17 : Int) ≠ 0)) then true else (decide ((x18 : Int) ≠ 0))) else false) then true else (bif (decide ((x13 : Int) ≠ 2)) then (decide ((x16 : Int) ≠ 0)) else false)) then true else (bif (decide ((x21 : Int) < 2)) then (decide ((x15 : Int) ≠ 0)) else false)) then true else (bif (decide ((x21 : Int) < 1)) then (decide ((x14 : Int) ≠ 0)) else false)) = false → (((bif (decide ((x16 : Int) < 0)) then true else (decide ((x16 : Int) > 3))) = true → R (vi 1) h20) ∧ ((bif (decide ((x16 : Int) < 0)) then true else (decide ((x16 : Int) > 3))) = false → (CallOK Tryz.prog 18 [(vag [(vi x17), (vi x18)])] h20 fun v25 h26 => ∃ (x27 : Int), v25 = (vi x27) ∧ (((decide ((x27 : Int) > 0)) = true → R (vi 3) h26) ∧ ((decide ((x27 : Int) > 0)) = false → (∃ (x29 : Int), (IsW x29 (((n7 : Nat) : Int) - x21)) ∧ (∃ (b30 o31 : Nat), (((decide ((x29 : Int) < 0)) = false ∧ (decide ((x21 : Int) > 0)) = true) → (a7 = some ⟨b30, o31, none⟩ ∧ (0 : Int) ≤ x29 ∧ x29 < ((n7 : Nat) : Int))) ∧ (∃ (x32 : Int), (((decide ((x29 : Int) < 0)) = false ∧ (decide ((x21 : Int) > 0)) = true) → Hp.cell h26 b30 (o31 + x29.toNat * 1) = some (vi x32)) ∧ (∃ (x33 : Int), (((bif (decide ((x29 : Int) < 0)) then true else (bif (decide ((x21 : Int) > 0)) then (decide ((x32 : Int) ≠ x14)) else false)) = false ∧ (decide ((x21 : Int) > 1)) = true) → IsW x33 (x29 + 1)) ∧ (∃ (b34 o35 : Nat), (((bif (decide ((x29 : Int) < 0)) then true else (bif (decide ((x21 : Int) > 0)) then (decide ((x32 : Int) ≠ x14)) else false)) = false ∧ (decide ((x21 : Int) > 1)) = true) → (a7 = some ⟨b34, o35, none⟩ ∧ (0 : Int) ≤ x33 ∧ x33 < ((n7 : Nat) : Int))) ∧ (∃ (x36 : Int), (((bif (decide ((x29 : Int) < 0)) then true else (bif (decide ((x21 : Int) > 0)) then (decide ((x32 : Int) ≠ x14)) else false)) = false ∧ (decide ((x21 : Int) > 1)) = true) → Hp.cell h26 b34 (o35 + x33.toNat * 1) = some (vi x36)) ∧ (((bif (bif (decide ((x29 : Int) < 0)) then true else (bif (decide ((x21 : Int) > 0)) then (decide ((x32 : Int) ≠ x14)) else false)) then true else (bif (decide ((x21 : Int) > 1)) then (decide ((x36 : Int) ≠ x15)) else false)) = true → R (vi 3) h26) ∧ ((bif (bif (decide ((x29 : Int) < 0)) then true else (bif (decide ((x21 : Int) > 0)) then (decide ((x32 : Int) ≠ x14)) else false)) then true else (bif (decide ((x21 : Int) > 1)) then (decide ((x36 : Int) ≠ x15)) else false)) = false → (∃ (a38 : Option Addr) (n38 c38 : Nat), (Rd Tryz.prog (Instr.sliceAt 57 (vsl a7 n7 c7) none (some (vi x29)) none) h26 (vsl a38 n38 c38)) ∧ (SemOK Tryz.prog (Builtin.append_ #[57, 57] 57 #[(vsl none 0 0), (vsl a38 n38 c38)]) h26 fun v39 h40 => ∃ (a41 : Option Addr) (n41 c41 : Nat), v39 = (vsl a41 n41 c41) ∧ (∀ (b42 : Nat), h40 b42 = none → let h43 : Hp := Hp.set h40 b42 (cellsO [(vi x8)] 3); (SemOK Tryz.prog (Builtin.append_ #[57, 57] 57 #[(vsl a41 n41 c41), (vsl (some (⟨b42, 0, none⟩ : Addr)) 1 1)]) h43 fun v44 h45 => ∃ (a46 : Option Addr) (n46 c46 : Nat), v44 = (vsl a46 n46 c46) ∧ (∃ (x48 : Int), (IsW x48 (x8 + 1)) ∧ (I3 [(vsl a46 n46 c46), (vi x48)] h45 ∧ m4 [(vsl a46 n46 c46), (vi x48)] h45 < m4 vs5 h6))))))))))))))))))))))))))) ∧ ((decide ((x8 : Int) < ((u_ln : Nat) : Int))) = false → (((decide ((((n7 : Nat) : Int) : Int) ≠ 1)) = true → R (vi 3) h6) ∧ ((decide ((((n7 : Nat) : Int) : Int) ≠ 1)) = false → R (vi 0) h6)))))))
theorem ok_R_ExprFault {u_la : Option Addr} {u_ln u_lc : Nat} {h : Hp} {R : Value → Hp → Prop} (H : VC_R_ExprFault u_la u_ln u_lc h R) : CallOK Tryz.prog 113 [(vsl u_la u_ln u_lc)] h R :=
  call_of (cfg := ⟨[], [(5, ([3, 4], [.one (.slice), .one (.int .i64)], []))], [(18, [0, 1, 2, 3, 4, 5, 6, 7, 8, 9, 10, 11, 12, 13, 14, 15, 16, 17, 18, 19, 20, 21, 22, 23, 24, 25, 26, 27, 28])]⟩) noNG mixed Tryz.func113 [.one (.v (vsl u_la u_ln u_lc))] (by kernel_rfl) rfl (by kernel_rfl) H
def VC_R_typeAt (u_la : Option Addr) (u_ln u_lc : Nat) (u_at : Int) (h : Hp) (R : Value → Hp → Prop) : Prop :=
  (∃ (b1 o2 : Nat), (u_la = some ⟨b1, o2, none⟩ ∧ (0 : Int) ≤ u_at ∧ u_at < ((u_ln : Nat) : Int)) ∧ (∃ (x3 : Int) (x4 : Int) (x5 : Int) (x6 : Int) (x7 : Int) (x8 : Int), (Hp.row h b1 (o2 + u_at.toNat * 6) 6 = some [(vi x3), (vi x4), (vi x5), (vi x6), (vi x7), (vi x8)]) ∧ (((decide ((x3 : Int) = 1)) = true → R (vtup [(vi x7), (vb true)]) h) ∧ ((decide ((x3 : Int) = 1)) = false → (((decide ((x3 : Int) = 2)) = true → R (vtup [(vi 1), (vb true)]) h) ∧ ((decide ((x3 : Int) = 2)) = false → (CallOK Tryz.prog 137 [(vsl u_la u_ln u_lc), (vi x4)] h fun v11 h12 => ∃ (x13 : Int) (p14 : Bool), v11 = (vtup [(vi x13), (vb p14)]) ∧ (CallOK Tryz.prog 111 [(vi x3)] h12 fun v15 h16 => ∃ (x17 : Int), v15 = (vi x17) ∧ (let J24 : Int → Bool → Hp → Prop := fun (x34 : Int) (p35 : Bool) (h36 : Hp) => (((bif (!p14) then true else (!p35)) = true → R (vtup [(vi 0), (vb false)]) h36) ∧ ((bif (!p14) then true else (!p35)) = false → (((decide ((x3 : Int) = 5)) = true → R (vtup [(vi 2), (vb true)]) h36) ∧ ((decide ((x3 : Int) = 5)) = false → (let J41 : Int → Prop := fun (x42 : Int) => (((bif (bif (decide ((x13 : Int) ≠ 0)) then (decide ((x13 : Int) ≠ x42)) else false) then true else (bif (decide ((x34 : Int) ≠ 0)) then (decide ((x34 : Int) ≠ x42)) else false)) = true → R (vtup [(vi 0), (vb false)]) h36) ∧ ((bif (bif (decide ((x13 : Int) ≠ 0)) then (decide ((x13 : Int) ≠ x42)) else false) then true else (bif (decide ((x34 : Int) ≠ 0)) then (decide ((x34 : Int) ≠ x42)) else false)) = false → (let J46 : Int → Prop := fun (x47 : Int) => R (vtup [(vi x47), (vb true)]) h36; (((bif (decide ((x3 : Int) = 11)) then true else (decide ((x3 : Int) = 12))) = true → (J46 2)) ∧ ((bif (decide ((x3 : Int) = 11)) then true else (decide ((x3 : Int) = 12))) = false → (J46 x42)))))); (((bif (bif (decide ((x3 : Int) = 4)) then true else (decide ((x3 : Int) = 9))) then true else (decide ((x3 : Int) = 10))) = true → (J41 2)) ∧ ((bif (bif (decide ((x3 : Int) = 4)) then true else (decide ((x3 : Int) = 9))) then true else (decide ((x3 : Int) = 10))) = false → (J41 1)))))))); (((decide ((x17 : Int) = 2)) = true → (CallOK Tryz.prog 137 [(vsl u_la u_ln u_lc), (vi x5)] h16 fun v18 h19 => ∃ (x20 : Int) (p21 : Bool), v18 = (vtup [(vi x20), (vb p21)]) ∧ (J24 x20 p21 h19))) ∧ ((decide ((x17 : Int) = 2)) = false → (J24 x13 p14 h16))))))))))))
theorem ok_R_typeAt {u_la : Option Addr} {u_ln u_lc : Nat} {u_at : Int} {h : Hp} {R : Value → Hp → Prop} (H : VC_R_typeAt u_la u_ln u_lc u_at h R) : CallOK Tryz.prog 137 [(vsl u_la u_ln u_lc), (vi u_at)] h R :=
  call_of (cfg := ⟨[], [], []⟩) noNG mixed Tryz.func137 [.one (.v (vsl u_la u_ln u_lc)), .one (.v (vi u_at))] (by kernel_rfl) rfl (by kernel_rfl) H
def VC_R_Type (u_la : Option Addr) (u_ln u_lc : Nat) (h : Hp) (R : Value → Hp → Prop) : Prop :=
  (∃ (x1 : Int), (IsW x1 (((u_ln : Nat) : Int) - 1)) ∧ (CallOK Tryz.prog 137 [(vsl u_la u_ln u_lc), (vi x1)] h fun v2 h3 => ∃ (x4 : Int) (p5 : Bool), v2 = (vtup [(vi x4), (vb p5)]) ∧ (((!p5) = true → R (vtup [(vi 0), (vi 3)]) h3) ∧ ((!p5) = false → R (vtup [(vi x4), (vi 0)]) h3))))
theorem ok_R_Type {u_la : Option Addr} {u_ln u_lc : Nat} {h : Hp} {R : Value → Hp → Prop} (H : VC_R_Type u_la u_ln u_lc h R) : CallOK Tryz.prog 114 [(vsl u_la u_ln u_lc)] h R :=
  call_of (cfg := ⟨[], [], []⟩) noNG mixed Tryz.func114 [.one (.v (vsl u_la u_ln u_lc))] (by kernel_rfl) rfl (by kernel_rfl) H
end Go.Proofs.YtejefijpcggkfaaGreatDoor
namespace Go.Proofs.YtejefijpcggkfaaGreatDoor
open Go Go.Vc
set_option linter.unusedVariables false
set_option maxRecDepth 100000
def encN (n : Nd) : List Value := [vi n.op, vi n.x, vi n.y, vi n.n, vi n.v.1, vi n.v.2]
theorem encN_len (n : Nd) : (encN n).length = 6 := rfl
theorem one_encN (n : Nd) : ∀ u ∈ encN n, u.oneCell' = true := by
  intro u hu
  simp [encN] at hu
  rcases hu with rfl | rfl | rfl | rfl | rfl | rfl <;> rfl
theorem one_nds (l : List Nd) : ∀ u ∈ l.flatMap encN, u.oneCell' = true := by
  intro u hu
  obtain ⟨v, _, hv⟩ := List.mem_flatMap.1 hu
  exact one_encN v u hv
theorem elNd : ElT Tryz.prog 25 137 6 48 := .of (by kernel_rfl) (by kernel_rfl) (by decide)
end Go.Proofs.YtejefijpcggkfaaGreatDoor
namespace Go.Proofs.YtejefijpcggkfaaGreatDoor
open Go Go.Vc
set_option linter.unusedVariables false
set_option maxRecDepth 100000
theorem R_Arity_ok {op : Int} {h : Hp} {R : Value → Hp → Prop} (hK : R (vi (arI op)) h) : CallOK Tryz.prog 111 [vi op] h R := by
  refine ok_R_Arity ?_
  unfold VC_R_Arity
  unfold arI at hK
  refine ⟨fun e => ?_, fun e => ⟨fun e2 => ?_, fun e2 => ⟨fun e3 => ?_, fun e3 => ?_⟩⟩⟩
  · rw [if_pos (by simp [Bool.cond_eq_ite] at e; omega)] at hK; exact hK
  · rw [if_neg (by simp [Bool.cond_eq_ite] at e; omega), if_pos (by simp [Bool.cond_eq_ite] at e2; omega)] at hK; exact hK
  · rw [if_neg (by simp [Bool.cond_eq_ite] at e; omega), if_neg (by simp [Bool.cond_eq_ite] at e2; omega), if_pos (by simp [Bool.cond_eq_ite] at e3; omega)] at hK; exact hK
  · rw [if_neg (by simp [Bool.cond_eq_ite] at e; omega), if_neg (by simp [Bool.cond_eq_ite] at e2; omega), if_neg (by simp [Bool.cond_eq_ite] at e3; omega)] at hK; exact hK
theorem ne_pair (v : Int × Int) : (v ≠ (0, 0)) = (v.1 ≠ 0 ∨ v.2 ≠ 0) := by
  refine propext ⟨fun h => ?_, fun h e => ?_⟩
  · by_cases h1 : v.1 = 0
    · by_cases h2 : v.2 = 0
      · exact absurd (Prod.ext h1 h2) h
      · exact .inr h2
    · exact .inl h1
  · rw [e] at h; simp at h
theorem popN_some {n : Nd} {st s : List Int} (ha : 0 ≤ arI n.op) (h : popN n st = some s) : (s.length : Int) = st.length - arI n.op ∧ st.reverse.take s.length = s.reverse := by
  unfold popN at h
  rcases arI_range ha with h1 | h1 | h1
  · rw [if_pos h1] at h
    cases h
    refine ⟨by omega, ?_⟩
    rw [List.take_of_length_le (by simp)]
  · rw [if_neg (by omega), if_pos h1] at h
    match st, h with
    | a :: t, h =>
      simp only at h
      split at h
      · cases h
        refine ⟨by simp; omega, ?_⟩
        rw [List.reverse_cons, List.take_left' (by simp)]
      · cases h
  · rw [if_neg (by omega), if_neg (by omega)] at h
    match st, h with
    | b :: a :: t, h =>
      simp only at h
      split at h
      · cases h
        refine ⟨by simp; omega, ?_⟩
        rw [List.reverse_cons, List.reverse_cons, List.append_assoc, List.take_left' (by simp)]
      · cases h
theorem chk_none {n : Nd} {l : List Nd} {st : List Int} {i : Nat} (h0 : nodeF n = 0) (h : popN n st = none) : chkGo st i (n :: l) = 3 := by
  rw [chkGo, if_neg (fun q => q h0), h]
theorem chk_some {n : Nd} {l : List Nd} {st s : List Int} {i : Nat} (h0 : nodeF n = 0) (h : popN n st = some s) : chkGo st i (n :: l) = chkGo (i :: s) (i + 1) l := by
  rw [chkGo, if_neg (fun q => q h0), h]
theorem chk_fault {n : Nd} {l : List Nd} {st : List Int} {i : Nat} {f : Int} (h0 : nodeF n = f) (hf : f ≠ 0) : chkGo st i (n :: l) = f := by
  rw [chkGo, if_pos (by rw [h0]; exact hf), h0]
theorem R_ExprFault_ok {a : Option Addr} {k c : Nat} {l : List Nd} {h : Hp} {R : Value → Hp → Prop} (S : SlP encN h a k l) (hK : ∀ h', h.le h' → R (vi (exprF l)) h') : CallOK Tryz.prog 113 [vsl a k c] h R := by
  refine ok_R_ExprFault ?_
  unfold VC_R_ExprFault
  have hk := S.1
  subst hk
  refine ⟨fun e => ?_, fun e => ?_⟩
  · have : exprF l = 2 := by unfold exprF; rw [if_pos (by have := of_decide_eq_true e; omega)]
    rw [this] at hK; exact hK h (Hp.le_refl h)
  have h40 : l.length ≤ 40 := by have := of_decide_eq_false e; omega
  have e1 : exprF l = chkGo [] 0 l := by unfold exprF; rw [if_neg (by omega)]
  rw [e1] at hK
  refine ⟨fun vs hh => ∃ (i : Nat) (a : Option Addr) (c : Nat) (st : List Int), vs = [vsl a st.length c, vi i] ∧ i ≤ l.length ∧ st.length ≤ i ∧ chkGo [] 0 l = chkGo st i (l.drop i) ∧ OwnV h hh 3 1 a st.length c (st.reverse.map vi), fun vs hh => l.length - (vint vs 1).toNat,
    ⟨0, none, 0, [], rfl, Nat.zero_le _, Nat.le_refl _, rfl, OwnV.nil (Hp.le_refl h) _ _⟩, ?_⟩
  rintro vs hh ⟨i, a1, c1, st, rfl, hi, hst, hc, O⟩
  refine ⟨_, _, _, _, rfl, fun q => ?_, fun q => ?_⟩
  · have hlt : i < l.length := by have := of_decide_eq_true q; omega
    have hx : l[i]? = some l[i] := List.getElem?_eq_getElem hlt
    rw [drop_get hlt] at hc
    obtain ⟨b, o, ha, hr⟩ := (S.le O.le).get encN_len (by decide) hx
    generalize l[i] = n at *
    refine ⟨b, o, ⟨ha, by omega, by omega⟩, _, _, _, _, _, _, hr, R_Arity_ok ⟨_, rfl, fun q2 => ?_, fun q2 => ⟨fun q3 => ?_, fun q3 => ⟨fun q4 => ?_, fun q4 => R_ValueFault_ok (v := n.v) ⟨_, rfl, fun q5 => ?_, fun q5 => ?_⟩⟩⟩⟩⟩
    · have hf : nodeF n = 3 := by unfold nodeF; rw [if_pos (of_decide_eq_true q2)]
      rw [chk_fault hf (by decide)] at hc
      rw [hc] at hK; exact hK hh O.le
    · have c2 : ¬ arI n.op < 0 := of_decide_eq_false q2
      simp only [cand, cor] at q3
      have c3 := of_decide_eq_true q3
      have hf : nodeF n = 3 := by unfold nodeF; rw [if_neg c2, if_pos (by rw [ne_pair]; omega)]
      rw [chk_fault hf (by decide)] at hc
      rw [hc] at hK; exact hK hh O.le
    · have c2 : ¬ arI n.op < 0 := of_decide_eq_false q2
      simp only [cand, cor] at q3 q4
      have c3 := of_decide_eq_false q3
      have c4 := of_decide_eq_true q4
      have hf : nodeF n = 1 := by unfold nodeF; rw [if_neg c2, if_neg (by rw [ne_pair]; omega), if_pos (by omega)]
      rw [chk_fault hf (by decide)] at hc
      rw [hc] at hK; exact hK hh O.le
    · have c2 : ¬ arI n.op < 0 := of_decide_eq_false q2
      simp only [cand, cor] at q3 q4
      have c3 := of_decide_eq_false q3
      have c4 := of_decide_eq_false q4
      have hf : nodeF n = 3 := by
        unfold nodeF; rw [if_neg c2, if_neg (by rw [ne_pair]; omega), if_neg (by omega), if_pos]
        intro hg
        rw [if_pos hg] at q5
        cases q5
      rw [chk_fault hf (by decide)] at hc
      rw [hc] at hK; exact hK hh O.le
    have c2 : ¬ arI n.op < 0 := of_decide_eq_false q2
    simp only [cand, cor] at q3 q4
    have c3 := of_decide_eq_false q3
    have c4 := of_decide_eq_false q4
    have hf : nodeF n = 0 := by
      unfold nodeF; rw [if_neg c2, if_neg (by rw [ne_pair]; omega), if_neg (by omega), if_neg]
      intro hg
      rw [if_neg hg] at q5
      cases q5
    have har : 0 ≤ arI n.op := by omega
    have SI : SlI hh a1 st.length st.reverse := by have := O.sli; exact this
    refine ⟨_, isW (by unfold InR; rcases arI_range har with h | h | h <;> omega), ?_⟩
    have hbad : popN n st = none → R (vi 3) hh := fun hp => by
      rw [chk_none hf hp] at hc
      rw [hc] at hK; exact hK hh O.le
    have hgood : ∀ s, popN n st = some s → ∀ x : Int, x = (st.length : Nat) - arI n.op → ∀ K : Value → Hp → Prop, (∀ (a46 : Option Addr) (n46 c46 : Nat) (h45 : Hp), OwnV h h45 3 1 a46 n46 c46 ((((i : Int) :: s).reverse).map vi) → n46 = s.length + 1 → K (vsl a46 n46 c46) h45) →
        ∃ (a38 : Option Addr) (n38 c38 : Nat), (Rd Tryz.prog (Instr.sliceAt 57 (vsl a1 st.length c1) none (some (vi x)) none) hh (vsl a38 n38 c38)) ∧ (SemOK Tryz.prog (Builtin.append_ #[57, 57] 57 #[(vsl none 0 0), (vsl a38 n38 c38)]) hh fun v39 h40 => ∃ (a41 : Option Addr) (n41 c41 : Nat), v39 = (vsl a41 n41 c41) ∧ (∀ (b42 : Nat), h40 b42 = none → SemOK Tryz.prog (Builtin.append_ #[57, 57] 57 #[(vsl a41 n41 c41), (vsl (some (⟨b42, 0, none⟩ : Addr)) 1 1)]) (Hp.set h40 b42 (cellsO [(vi i)] 3)) K)) := by
      intro s hs x hx K hK
      rw [hx]
      obtain ⟨p1, p2⟩ := popN_some har hs
      have hcap := O.own.cap
      rw [← p1]
      refine ⟨_, _, _, rd_slice_h (e := 3) (by kernel_rfl) (by kernel_rfl) (by omega) (by omega), ?_⟩
      rw [Int.toNat_natCast]
      have ST : SlI hh a1 s.length s.reverse := by
        have := SI.take (i := s.length) (by omega)
        rw [p2] at this
        exact this
      refine OwnV.append elInt (OwnV.nil O.le _ _) ST.2 (m := s.length) (by simp) (one_ints _) (by omega) (by omega) fun a' c' h' O' _ _ => ⟨_, _, _, rfl, fun b42 hb42 => ?_⟩
      rw [Nat.zero_add, List.nil_append] at *
      refine OwnV.append elInt (OwnV.set hb42 _ O') (HasRow.new _ _ [vi i] _) (m := 1) rfl (by simp [Value.oneCell']) (by omega) (by omega) fun a2 c2 h2 O2 _ _ => hK _ _ _ _ ?_ rfl
      rw [List.reverse_cons, List.map_append]
      exact O2
    have hnext : ∀ s, popN n st = some s → ∀ (a46 : Option Addr) (n46 c46 : Nat) (h45 : Hp), OwnV h h45 3 1 a46 n46 c46 ((((i : Int) :: s).reverse).map vi) → n46 = s.length + 1 → ∃ (x48 : Int), IsW x48 ((i : Int) + 1) ∧ (∃ (i' : Nat) (a : Option Addr) (c : Nat) (st : List Int), [vsl a46 n46 c46, vi x48] = [vsl a st.length c, vi i'] ∧ i' ≤ l.length ∧ st.length ≤ i' ∧ chkGo [] 0 l = chkGo st i' (l.drop i') ∧ OwnV h h45 3 1 a st.length c (st.reverse.map vi)) ∧ l.length - (vint [vsl a46 n46 c46, vi x48] 1).toNat < l.length - (vint [vsl a1 st.length c1, vi i] 1).toNat := by
      intro s hs a46 n46 c46 h45 O45 hn
      subst hn
      obtain ⟨p1, p2⟩ := popN_some har hs
      refine ⟨_, isW (by unfold InR; omega), ⟨i + 1, a46, c46, (i : Int) :: s, rfl, by omega, by simp; omega, ?_, O45⟩, by simp [vint]; omega⟩
      rw [hc, chk_some hf hs]
    rcases arI_range har with h0 | h0 | h0
    · have hs : popN n st = some st := by unfold popN; rw [if_pos h0]
      rw [h0]
      refine ⟨0, 0, fun g => (by cases g.2), 0, fun g => (by cases g.2), 0, fun g => (by cases g.2), 0, 0, fun g => (by cases g.2), 0, fun g => (by cases g.2), fun g => ?_, fun _ => hgood st hs _ (by rw [h0]) _ fun a46 n46 c46 h45 O e => ⟨_, _, _, rfl, hnext st hs a46 n46 c46 h45 O e⟩⟩
      exfalso
      simp only [cand, cor] at g
      have := of_decide_eq_true g
      omega
    · match st with
      | [] =>
        have hs : popN n [] = none := by unfold popN; rw [if_neg (by omega), if_pos h0]
        have := hbad hs
        rw [h0]
        exact ⟨0, 0, fun g => (by cases g.1), 0, fun g => (by cases g.1), 0, fun g => (by cases g.1), 0, 0, fun g => (by cases g.1), 0, fun g => (by cases g.1), fun _ => this, fun g => (by cases g)⟩
      | z :: s =>
        obtain ⟨q, p, hq, hcell⟩ := SI.get (i := s.length) (by simp)
        have ez : ((z :: s).reverse).getD s.length 0 = z := by
          rw [List.getD_eq_getElem?_getD, List.reverse_cons, List.getElem?_append_right (by simp)]
          simp
        rw [ez] at hcell
        have hx29 : (((z :: s).length : Nat) : Int) - arI n.op = (s.length : Nat) := by rw [h0]; simp
        by_cases hz : z = n.x
        · have hs : popN n (z :: s) = some s := by unfold popN; rw [if_neg (by omega), if_pos h0]; simp [hz]
          have hx30 := hx29
          rw [hx29, h0]
          refine ⟨q, p, fun g => ⟨hq, by omega, by simp; omega⟩, z, fun g => hcell, 0, fun g => (by cases g.2), 0, 0, fun g => (by cases g.2), 0, fun g => (by cases g.2), fun g => ?_, fun _ => hgood s hs _ hx30.symm _ fun a46 n46 c46 h45 O e => ⟨_, _, _, rfl, hnext s hs a46 n46 c46 h45 O e⟩⟩
          exfalso
          simp only [cand, cor] at g
          have := of_decide_eq_true g
          omega
        · have hs : popN n (z :: s) = none := by unfold popN; rw [if_neg (by omega), if_pos h0]; simp [hz]
          have := hbad hs
          rw [hx29, h0]
          refine ⟨q, p, fun g => ⟨hq, by omega, by simp; omega⟩, z, fun g => hcell, 0, fun g => (by cases g.2), 0, 0, fun g => (by cases g.2), 0, fun g => (by cases g.2), fun _ => this, fun g => ?_⟩
          exfalso
          simp only [cand, cor] at g
          have := of_decide_eq_false g
          omega
    · match st with
      | [] =>
        have hs : popN n [] = none := by unfold popN; rw [if_neg (by omega), if_neg (by omega)]
        have := hbad hs
        rw [h0]
        exact ⟨0, 0, fun g => (by cases g.1), 0, fun g => (by cases g.1), 0, fun g => (by cases g.1), 0, 0, fun g => (by cases g.1), 0, fun g => (by cases g.1), fun _ => this, fun g => (by cases g)⟩
      | [z] =>
        have hs : popN n [z] = none := by unfold popN; rw [if_neg (by omega), if_neg (by omega)]
        have := hbad hs
        rw [h0]
        exact ⟨0, 0, fun g => (by cases g.1), 0, fun g => (by cases g.1), 0, fun g => (by cases g.1), 0, 0, fun g => (by cases g.1), 0, fun g => (by cases g.1), fun _ => this, fun g => (by cases g)⟩
      | z :: y :: s =>
        obtain ⟨q, p, hq, hcell⟩ := SI.get (i := s.length) (by simp; omega)
        obtain ⟨q', p', hq', hcell'⟩ := SI.get (i := s.length + 1) (by simp)
        have ey : ((z :: y :: s).reverse).getD s.length 0 = y := by
          rw [List.getD_eq_getElem?_getD, List.reverse_cons, List.reverse_cons, List.append_assoc, List.getElem?_append_right (by simp)]
          simp
        have ez : ((z :: y :: s).reverse).getD (s.length + 1) 0 = z := by
          rw [List.getD_eq_getElem?_getD, List.reverse_cons, List.reverse_cons, List.append_assoc, List.getElem?_append_right (by simp)]
          simp
        rw [ey] at hcell
        rw [ez] at hcell'
        have hx29 : (((z :: y :: s).length : Nat) : Int) - arI n.op = (s.length : Nat) := by rw [h0]; simp; omega
        have hw : IsW (((s.length + 1 : Nat) : Int)) ((s.length : Nat) + 1) := isW (by have hst2 : (z :: y :: s).length ≤ i := hst; simp at hst2; unfold InR; omega)
        by_cases hz : y = n.x ∧ z = n.y
        · have hs : popN n (z :: y :: s) = some s := by unfold popN; rw [if_neg (by omega), if_neg (by omega)]; simp [hz.1, hz.2]
          have hx30 := hx29
          rw [hx29, h0]
          refine ⟨q, p, fun g => ⟨hq, by omega, by simp; omega⟩, y, fun g => hcell, ((s.length + 1 : Nat) : Int), fun g => hw, q', p', fun g => ⟨hq', by omega, by simp; omega⟩, z, fun g => hcell', fun g => ?_, fun _ => hgood s hs _ hx30.symm _ fun a46 n46 c46 h45 O e => ⟨_, _, _, rfl, hnext s hs a46 n46 c46 h45 O e⟩⟩
          exfalso
          simp only [cand, cor] at g
          have := of_decide_eq_true g
          omega
        · have hs : popN n (z :: y :: s) = none := by unfold popN; rw [if_neg (by omega), if_neg (by omega)]; simp; intro h1 h2; exact hz ⟨h1, h2⟩
          have := hbad hs
          rw [hx29, h0]
          refine ⟨q, p, fun g => ⟨hq, by omega, by simp; omega⟩, y, fun g => hcell, ((s.length + 1 : Nat) : Int), fun g => hw, q', p', fun g => ⟨hq', by omega, by simp; omega⟩, z, fun g => hcell', fun _ => this, fun g => ?_⟩
          exfalso
          simp only [cand, cor] at g
          have := of_decide_eq_false g
          omega
  · have hge : i = l.length := by have := of_decide_eq_false q; omega
    subst hge
    rw [List.drop_eq_nil_of_le (Nat.le_refl _), chkGo] at hc
    refine ⟨fun q2 => ?_, fun q2 => ?_⟩
    · rw [if_neg (by have := of_decide_eq_true q2; omega)] at hc
      rw [hc] at hK; exact hK hh O.le
    · rw [if_pos (by have := of_decide_eq_false q2; omega)] at hc
      rw [hc] at hK; exact hK hh O.le
end Go.Proofs.YtejefijpcggkfaaGreatDoor
namespace Go.Proofs.YtejefijpcggkfaaGreatDoor
open Go Go.Vc
set_option linter.unusedVariables false
set_option maxRecDepth 100000
theorem expr_Arity_ok {op : Int} {h : Hp} {R : Value → Hp → Prop} (hK : R (vi (arI op)) h) : CallOK Tryz.prog 135 [vi op] h R := by
  refine ok_expr_Arity ?_
  unfold VC_expr_Arity
  unfold arI at hK
  refine ⟨fun e => ?_, fun e => ⟨fun e2 => ?_, fun e2 => ⟨fun e3 => ?_, fun e3 => ?_⟩⟩⟩
  all_goals simp only [cand, cor] at *
  · rw [if_pos (of_decide_eq_true e)] at hK; exact hK
  · rw [if_neg (of_decide_eq_false e), if_pos (by have := of_decide_eq_true e2; omega)] at hK; exact hK
  · rw [if_neg (of_decide_eq_false e), if_neg (by have := of_decide_eq_false e2; omega), if_pos (by have := of_decide_eq_true e3; omega)] at hK; exact hK
  · rw [if_neg (of_decide_eq_false e), if_neg (by have := of_decide_eq_false e2; omega), if_neg (by have := of_decide_eq_false e3; omega)] at hK; exact hK
end Go.Proofs.YtejefijpcggkfaaGreatDoor
namespace Go.Proofs.YtejefijpcggkfaaGreatDoor
open Go Go.Vc
set_option maxRecDepth 100000
set_option linter.unusedVariables false
def VC_R_valueAt (u_la : Option Addr) (u_ln u_lc : Nat) (u_at : Int) (u_eTime : Int) (u_eKKind : Int) (u_eKN : Int) (u_eAKind : Int) (u_eAN : Int) (u_eBKind : Int) (u_eBN : Int) (h : Hp) (R : Value → Hp → Prop) : Prop :=
  (∃ (b1 o2 : Nat), (u_la = some ⟨b1, o2, none⟩ ∧ (0 : Int) ≤ u_at ∧ u_at < ((u_ln : Nat) : Int)) ∧ (∃ (x3 : Int) (x4 : Int) (x5 : Int) (x6 : Int) (x7 : Int) (x8 : Int), (Hp.row h b1 (o2 + u_at.toNat * 6) 6 = some [(vi x3), (vi x4), (vi x5), (vi x6), (vi x7), (vi x8)]) ∧ (((decide ((x3 : Int) = 1)) = true → R (vag [(vi x7), (vi x8)]) h) ∧ ((decide ((x3 : Int) = 1)) = false → (((decide ((x3 : Int) = 2)) = true → (((decide ((x6 : Int) = 0)) = true → (CallOK Tryz.prog 103 [(vi u_eTime)] h fun v9 h10 => ∃ (x11 : Int) (x12 : Int), v9 = (vag [(vi x11), (vi x12)]) ∧ R (vag [(vi x11), (vi x12)]) h10)) ∧ ((decide ((x6 : Int) = 0)) = false → (((decide ((x6 : Int) = 1)) = true → R (vag [(vi u_eKKind), (vi u_eKN)]) h) ∧ ((decide ((x6 : Int) = 1)) = false → (((decide ((x6 : Int) = 2)) = true → R (vag [(vi u_eAKind), (vi u_eAN)]) h) ∧ ((decide ((x6 : Int) = 2)) = false → R (vag [(vi u_eBKind), (vi u_eBN)]) h))))))) ∧ ((decide ((x3 : Int) = 2)) = false → (((decide ((x3 : Int) = 3)) = true → (CallOK Tryz.prog 102 [(vsl u_la u_ln u_lc), (vi x4), (vag [(vi u_eTime), (vi u_eKKind), (vi u_eKN), (vi u_eAKind), (vi u_eAN), (vi u_eBKind), (vi u_eBN)])] h fun v16 h17 => ∃ (x18 : Int) (x19 : Int), v16 = (vag [(vi x18), (vi x19)]) ∧ (((decide ((x18 : Int) = 1)) = true → (∃ (x20 : Int), (IsW x20 (-x19)) ∧ (CallOK Tryz.prog 103 [(vi x20)] h17 fun v21 h22 => ∃ (x23 : Int) (x24 : Int), v21 = (vag [(vi x23), (vi x24)]) ∧ R (vag [(vi x23), (vi x24)]) h22))) ∧ ((decide ((x18 : Int) = 1)) = false → R (vag [(vi 0), (vi 0)]) h17)))) ∧ ((decide ((x3 : Int) = 3)) = false → (((decide ((x3 : Int) = 4)) = true → (CallOK Tryz.prog 102 [(vsl u_la u_ln u_lc), (vi x4), (vag [(vi u_eTime), (vi u_eKKind), (vi u_eKN), (vi u_eAKind), (vi u_eAN), (vi u_eBKind), (vi u_eBN)])] h fun v26 h27 => ∃ (x28 : Int) (x29 : Int), v26 = (vag [(vi x28), (vi x29)]) ∧ (((decide ((x28 : Int) = 2)) = true → (CallOK Tryz.prog 122 [(vb (decide ((x29 : Int) = 0)))] h27 fun v30 h31 => ∃ (x32 : Int) (x33 : Int), v30 = (vag [(vi x32), (vi x33)]) ∧ R (vag [(vi x32), (vi x33)]) h31)) ∧ ((decide ((x28 : Int) = 2)) = false → R (vag [(vi 0), (vi 0)]) h27)))) ∧ ((decide ((x3 : Int) = 4)) = false → (((decide ((x3 : Int) = 5)) = true → (CallOK Tryz.prog 102 [(vsl u_la u_ln u_lc), (vi x4), (vag [(vi u_eTime), (vi u_eKKind), (vi u_eKN), (vi u_eAKind), (vi u_eAN), (vi u_eBKind), (vi u_eBN)])] h fun v35 h36 => ∃ (x37 : Int) (x38 : Int), v35 = (vag [(vi x37), (vi x38)]) ∧ (CallOK Tryz.prog 122 [(vb (decide ((x37 : Int) = 0)))] h36 fun v39 h40 => ∃ (x41 : Int) (x42 : Int), v39 = (vag [(vi x41), (vi x42)]) ∧ R (vag [(vi x41), (vi x42)]) h40))) ∧ ((decide ((x3 : Int) = 5)) = false → (CallOK Tryz.prog 102 [(vsl u_la u_ln u_lc), (vi x4), (vag [(vi u_eTime), (vi u_eKKind), (vi u_eKN), (vi u_eAKind), (vi u_eAN), (vi u_eBKind), (vi u_eBN)])] h fun v44 h45 => ∃ (x46 : Int) (x47 : Int), v44 = (vag [(vi x46), (vi x47)]) ∧ (CallOK Tryz.prog 102 [(vsl u_la u_ln u_lc), (vi x5), (vag [(vi u_eTime), (vi u_eKKind), (vi u_eKN), (vi u_eAKind), (vi u_eAN), (vi u_eBKind), (vi u_eBN)])] h45 fun v48 h49 => ∃ (x50 : Int) (x51 : Int), v48 = (vag [(vi x50), (vi x51)]) ∧ (CallOK Tryz.prog 123 [(vi x3), (vag [(vi x46), (vi x47)]), (vag [(vi x50), (vi x51)])] h49 fun v52 h53 => ∃ (x54 : Int) (x55 : Int), v52 = (vag [(vi x54), (vi x55)]) ∧ R (vag [(vi x54), (vi x55)]) h53)))))))))))))))
theorem ok_R_valueAt {u_la : Option Addr} {u_ln u_lc : Nat} {u_at : Int} {u_eTime : Int} {u_eKKind : Int} {u_eKN : Int} {u_eAKind : Int} {u_eAN : Int} {u_eBKind : Int} {u_eBN : Int} {h : Hp} {R : Value → Hp → Prop} (H : VC_R_valueAt u_la u_ln u_lc u_at u_eTime u_eKKind u_eKN u_eAKind u_eAN u_eBKind u_eBN h R) : CallOK Tryz.prog 102 [(vsl u_la u_ln u_lc), (vi u_at), (vag [(vi u_eTime), (vi u_eKKind), (vi u_eKN), (vi u_eAKind), (vi u_eAN), (vi u_eBKind), (vi u_eBN)])] h R :=
  call_of (cfg := ⟨[], [], [(26, [0, 1, 2, 3, 4, 5, 7, 8, 9, 10, 6, 11, 12, 13])]⟩) noNG mixed Tryz.func102 [.one (.v (vsl u_la u_ln u_lc)), .one (.v (vi u_at)), .ag [.v (vi u_eTime), .v (vi u_eKKind), .v (vi u_eKN), .v (vi u_eAKind), .v (vi u_eAN), .v (vi u_eBKind), .v (vi u_eBN)]] (by kernel_rfl) rfl (by kernel_rfl) H
def VC_R_Eval (u_la : Option Addr) (u_ln u_lc : Nat) (u_eTime : Int) (u_eKKind : Int) (u_eKN : Int) (u_eAKind : Int) (u_eAN : Int) (u_eBKind : Int) (u_eBN : Int) (h : Hp) (R : Value → Hp → Prop) : Prop :=
  (∃ (x1 : Int), (IsW x1 (((u_ln : Nat) : Int) - 1)) ∧ (CallOK Tryz.prog 102 [(vsl u_la u_ln u_lc), (vi x1), (vag [(vi u_eTime), (vi u_eKKind), (vi u_eKN), (vi u_eAKind), (vi u_eAN), (vi u_eBKind), (vi u_eBN)])] h fun v2 h3 => ∃ (x4 : Int) (x5 : Int), v2 = (vag [(vi x4), (vi x5)]) ∧ R (vag [(vi x4), (vi x5)]) h3))
theorem ok_R_Eval {u_la : Option Addr} {u_ln u_lc : Nat} {u_eTime : Int} {u_eKKind : Int} {u_eKN : Int} {u_eAKind : Int} {u_eAN : Int} {u_eBKind : Int} {u_eBN : Int} {h : Hp} {R : Value → Hp → Prop} (H : VC_R_Eval u_la u_ln u_lc u_eTime u_eKKind u_eKN u_eAKind u_eAN u_eBKind u_eBN h R) : CallOK Tryz.prog 63 [(vsl u_la u_ln u_lc), (vag [(vi u_eTime), (vi u_eKKind), (vi u_eKN), (vi u_eAKind), (vi u_eAN), (vi u_eBKind), (vi u_eBN)])] h R :=
  call_of (cfg := ⟨[], [], []⟩) noNG mixed Tryz.func63 [.one (.v (vsl u_la u_ln u_lc)), .ag [.v (vi u_eTime), .v (vi u_eKKind), .v (vi u_eKN), .v (vi u_eAKind), .v (vi u_eAN), .v (vi u_eBKind), .v (vi u_eBN)]] (by kernel_rfl) rfl (by kernel_rfl) H
end Go.Proofs.YtejefijpcggkfaaGreatDoor
namespace Go.Proofs.YtejefijpcggkfaaGreatDoor
open Go Go.Vc
set_option linter.unusedVariables false
set_option maxRecDepth 100000
section
variable {a : Option Addr} {m c : Nat} {l : List Nd} {h : Hp}
theorem R_valueAt_ok (S : SlP encN h a m l) (W : WfL l) {e : EvL} : ∀ (k : Nat) (i : Int), i.toNat = k → 0 ≤ i → i < l.length → ∀ (R : Value → Hp → Prop), R (vag (encV (vAt e l i.toNat))) h → CallOK Tryz.prog 102 [vsl a m c, vi i, vag (encE e)] h R := by
  intro k
  induction k using Nat.strongRecOn with
  | _ k ih =>
    intro i hik h0 h1 R hK
    refine ok_R_valueAt ?_
    unfold VC_R_valueAt
    have hm := S.1
    have hx : l[i.toNat]? = some (l[i.toNat]'(by omega)) := List.getElem?_eq_getElem (by omega)
    have Wn := W _ _ hx
    have hv : vAt e l i.toNat = _ := fAt_wf (own_stepF e) hx Wn
    rw [hv] at hK
    clear hv
    obtain ⟨b, o, ha, hr⟩ := S.get encN_len (by decide) hx
    generalize l[i.toNat]'(by omega) = n at *
    have hX : 1 ≤ arI n.op → ∀ (R : Value → Hp → Prop), R (vag (encV (vAt e l n.x.toNat))) h → CallOK Tryz.prog 102 [vsl a m c, vi n.x, vag (encE e)] h R := fun h2 R hR => by
      have := Wn.x h2
      exact ih n.x.toNat (by omega) n.x rfl (by omega) (by omega) R hR
    have hY : 2 ≤ arI n.op → ∀ (R : Value → Hp → Prop), R (vag (encV (vAt e l n.y.toNat))) h → CallOK Tryz.prog 102 [vsl a m c, vi n.y, vag (encE e)] h R := fun h2 R hR => by
      have := Wn.y h2
      exact ih n.y.toNat (by omega) n.y rfl (by omega) (by omega) R hR
    have ar := ar0 Wn.a
    have hfold : vAt e l = fAt (0, 0) (stepF e) l := rfl
    rw [← hfold] at hK
    generalize vAt e l n.x.toNat = vx at *
    generalize vAt e l n.y.toNat = vy at *
    unfold stepF at hK
    refine ⟨b, o, ⟨ha, h0, by omega⟩, _, _, _, _, _, _, hr, fun q => ?_, fun q1 => ⟨fun q => ?_, fun q2 => ⟨fun q => ?_, fun q3 => ⟨fun q => ?_, fun q4 => ⟨fun q => ?_, fun q5 => ?_⟩⟩⟩⟩⟩
    · rw [if_pos (of_decide_eq_true q)] at hK; exact hK
    · rw [if_neg (of_decide_eq_false q1), if_pos (of_decide_eq_true q)] at hK
      unfold fieldV at hK
      refine ⟨fun p => ?_, fun p => ⟨fun p2 => ?_, fun p2 => ⟨fun p3 => ?_, fun p3 => ?_⟩⟩⟩
      · rw [if_pos (of_decide_eq_true p)] at hK; exact R_Num_ok ⟨_, _, rfl, hK⟩
      · rw [if_neg (of_decide_eq_false p), if_pos (of_decide_eq_true p2)] at hK; exact hK
      · rw [if_neg (of_decide_eq_false p), if_neg (of_decide_eq_false p2), if_pos (of_decide_eq_true p3)] at hK; exact hK
      · rw [if_neg (of_decide_eq_false p), if_neg (of_decide_eq_false p2), if_neg (of_decide_eq_false p3)] at hK; exact hK
    · rw [if_neg (of_decide_eq_false q1), if_neg (of_decide_eq_false q2), if_pos (of_decide_eq_true q)] at hK
      have := of_decide_eq_true q
      refine hX (by omega) _ ⟨_, _, rfl, fun p => ?_, fun p => ?_⟩
      · unfold negV at hK
        rw [if_pos (of_decide_eq_true p)] at hK
        exact ⟨_, w64_isW _, R_Num_ok ⟨_, _, rfl, hK⟩⟩
      · unfold negV at hK
        rw [if_neg (of_decide_eq_false p)] at hK
        exact hK
    · rw [if_neg (of_decide_eq_false q1), if_neg (of_decide_eq_false q2), if_neg (of_decide_eq_false q3), if_pos (of_decide_eq_true q)] at hK
      have := of_decide_eq_true q
      refine hX (by omega) _ ⟨_, _, rfl, fun p => ?_, fun p => ?_⟩
      · unfold notV at hK
        rw [if_pos (of_decide_eq_true p)] at hK
        exact R_Truth_ok ⟨_, _, rfl, hK⟩
      · unfold notV at hK
        rw [if_neg (of_decide_eq_false p)] at hK
        exact hK
    · rw [if_neg (of_decide_eq_false q1), if_neg (of_decide_eq_false q2), if_neg (of_decide_eq_false q3), if_neg (of_decide_eq_false q4), if_pos (of_decide_eq_true q)] at hK
      have := of_decide_eq_true q
      exact hX (by omega) _ ⟨_, _, rfl, R_Truth_ok ⟨_, _, rfl, hK⟩⟩
    · have p1 := of_decide_eq_false q1
      have p2 := of_decide_eq_false q2
      have p3 := of_decide_eq_false q3
      have p4 := of_decide_eq_false q4
      have p5 := of_decide_eq_false q5
      rw [if_neg p1, if_neg p2, if_neg p3, if_neg p4, if_neg p5] at hK
      have h2 : arI n.op = 2 := by rcases arI_range Wn.a with h | h | h <;> omega
      exact hX (by omega) _ ⟨_, _, rfl, hY (by omega) _ ⟨_, _, rfl, R_Do_ok ⟨_, _, rfl, hK⟩⟩⟩
theorem R_Eval_ok (S : SlP encN h a m l) (W : WfL l) (hl : 0 < l.length) (hm : l.length ≤ 1000000) {e : EvL} {R : Value → Hp → Prop} (hK : R (vag (encV (valE e l))) h) : CallOK Tryz.prog 63 [vsl a m c, vag (encE e)] h R := by
  refine ok_R_Eval ?_
  unfold VC_R_Eval
  have hm := S.1
  refine ⟨_, isW (by unfold InR; omega), R_valueAt_ok S W _ ((m : Int) - 1) rfl (by omega) (by omega) _ ⟨_, _, rfl, ?_⟩⟩
  have e1 : ((m : Int) - 1).toNat = l.length - 1 := by omega
  rw [e1]
  exact hK
end
end Go.Proofs.YtejefijpcggkfaaGreatDoor
namespace Go.Proofs.YtejefijpcggkfaaGreatDoor
open Go Go.Vc
set_option linter.unusedVariables false
set_option maxRecDepth 100000
section
variable {a : Option Addr} {m c : Nat} {l : List Nd} {h : Hp}
theorem tyG_some (op a b : Int) : tyG op (some a) (some b) = if op = 5 then some 2 else if (a ≠ 0 ∧ a ≠ wantT op) ∨ (b ≠ 0 ∧ b ≠ wantT op) then none else if op = 11 ∨ op = 12 then some 2 else some (wantT op) := rfl
def tyOut : Option Int → Value
  | some t => vtup [vi t, vb true]
  | none => vtup [vi 0, vb false]
theorem R_typeAt_ok (S : SlP encN h a m l) (W : WfL l) : ∀ (k : Nat) (i : Int), i.toNat = k → 0 ≤ i → i < l.length → ∀ (R : Value → Hp → Prop), R (tyOut (tAt l i.toNat)) h → CallOK Tryz.prog 137 [vsl a m c, vi i] h R := by
  intro k
  induction k using Nat.strongRecOn with
  | _ k ih =>
    intro i hik h0 h1 R hK
    refine ok_R_typeAt ?_
    unfold VC_R_typeAt
    have hm := S.1
    have hx : l[i.toNat]? = some (l[i.toNat]'(by omega)) := List.getElem?_eq_getElem (by omega)
    have Wn := W _ _ hx
    have hv : tAt l i.toNat = _ := fAt_wf own_tyF hx Wn
    rw [hv] at hK
    clear hv
    obtain ⟨b, o, ha, hr⟩ := S.get encN_len (by decide) hx
    generalize l[i.toNat]'(by omega) = n at *
    have hX : 1 ≤ arI n.op → ∀ (R : Value → Hp → Prop), R (tyOut (tAt l n.x.toNat)) h → CallOK Tryz.prog 137 [vsl a m c, vi n.x] h R := fun h2 R hR => by
      have := Wn.x h2
      exact ih n.x.toNat (by omega) n.x rfl (by omega) (by omega) R hR
    have hY : 2 ≤ arI n.op → ∀ (R : Value → Hp → Prop), R (tyOut (tAt l n.y.toNat)) h → CallOK Tryz.prog 137 [vsl a m c, vi n.y] h R := fun h2 R hR => by
      have := Wn.y h2
      exact ih n.y.toNat (by omega) n.y rfl (by omega) (by omega) R hR
    have ar := ar0 Wn.a
    have hfold : tAt l = fAt none tyF l := rfl
    rw [← hfold] at hK
    generalize tAt l n.x.toNat = vx at *
    generalize tAt l n.y.toNat = vy at *
    refine ⟨b, o, ⟨ha, h0, by omega⟩, _, _, _, _, _, _, hr, fun q => ?_, fun q1 => ⟨fun q => ?_, fun q2 => ?_⟩⟩
    · unfold tyF at hK
      rw [if_pos (of_decide_eq_true q)] at hK; exact hK
    · unfold tyF at hK
      rw [if_neg (of_decide_eq_false q1), if_pos (of_decide_eq_true q)] at hK; exact hK
    have p1 := of_decide_eq_false q1
    have p2 := of_decide_eq_false q2
    rw [tyF_op p1 p2] at hK
    have h1 : 1 ≤ arI n.op := by rcases arI_range Wn.a with h | h | h <;> omega
    -- what is done once both kinds are there
    have hJ : ∀ (x : Option Int) (p14 p35 : Bool) (x13 x34 : Int), tyOut vx = vtup [vi x13, vb p14] → tyOut x = vtup [vi x34, vb p35] → R (tyOut (tyG n.op vx x)) h →
        (((bif (!p14) then true else (!p35)) = true → R (vtup [(vi 0), (vb false)]) h) ∧ ((bif (!p14) then true else (!p35)) = false → (((decide ((n.op : Int) = 5)) = true → R (vtup [(vi 2), (vb true)]) h) ∧ ((decide ((n.op : Int) = 5)) = false → (let J41 : Int → Prop := fun (x42 : Int) => (((bif (bif (decide ((x13 : Int) ≠ 0)) then (decide ((x13 : Int) ≠ x42)) else false) then true else (bif (decide ((x34 : Int) ≠ 0)) then (decide ((x34 : Int) ≠ x42)) else false)) = true → R (vtup [(vi 0), (vb false)]) h) ∧ ((bif (bif (decide ((x13 : Int) ≠ 0)) then (decide ((x13 : Int) ≠ x42)) else false) then true else (bif (decide ((x34 : Int) ≠ 0)) then (decide ((x34 : Int) ≠ x42)) else false)) = false → (let J46 : Int → Prop := fun (x47 : Int) => R (vtup [(vi x47), (vb true)]) h; (((bif (decide ((n.op : Int) = 11)) then true else (decide ((n.op : Int) = 12))) = true → (J46 2)) ∧ ((bif (decide ((n.op : Int) = 11)) then true else (decide ((n.op : Int) = 12))) = false → (J46 x42)))))); (((bif (bif (decide ((n.op : Int) = 4)) then true else (decide ((n.op : Int) = 9))) then true else (decide ((n.op : Int) = 10))) = true → (J41 2)) ∧ ((bif (bif (decide ((n.op : Int) = 4)) then true else (decide ((n.op : Int) = 9))) then true else (decide ((n.op : Int) = 10))) = false → (J41 1)))))))) := by
      intro x p14 p35 x13 x34 e1 e2 hR
      match vx, x, e1, e2, hR with
      | none, x, e1, e2, hR =>
        cases e1
        rw [(tyG_none n.op x).1] at hR
        exact ⟨fun _ => hR, fun g => (by cases g)⟩
      | some t, none, e1, e2, hR =>
        cases e1
        cases e2
        rw [(tyG_none n.op _).2] at hR
        exact ⟨fun _ => hR, fun g => (by cases g)⟩
      | some t, some u, e1, e2, hR =>
        cases e1
        cases e2
        rw [tyG_some] at hR
        refine ⟨fun g => (by cases g), fun _ => ⟨fun g => ?_, fun g => ?_⟩⟩
        · rw [if_pos (of_decide_eq_true g)] at hR; exact hR
        rw [if_neg (of_decide_eq_false g)] at hR
        intro J41
        have hw : J41 (wantT n.op) := by
          refine ⟨fun g => ?_, fun g => ?_⟩
          · simp only [cand, cor] at g
            rw [if_pos (of_decide_eq_true g)] at hR; exact hR
          · simp only [cand, cor] at g
            rw [if_neg (of_decide_eq_false g)] at hR
            intro J46
            refine ⟨fun g => ?_, fun g => ?_⟩
            · simp only [cand, cor] at g
              rw [if_pos (of_decide_eq_true g)] at hR; exact hR
            · simp only [cand, cor] at g
              rw [if_neg (of_decide_eq_false g)] at hR; exact hR
        clear_value J41
        unfold wantT at hw
        refine ⟨fun g => ?_, fun g => ?_⟩
        · simp only [cand, cor] at g
          have := of_decide_eq_true g
          rw [if_pos (by omega)] at hw; exact hw
        · simp only [cand, cor] at g
          have := of_decide_eq_false g
          rw [if_neg (by omega)] at hw; exact hw
    have out : ∀ x : Option Int, ∃ (t : Int) (p : Bool), tyOut x = vtup [vi t, vb p] := by
      intro x
      cases x with
      | none => exact ⟨_, _, rfl⟩
      | some t => exact ⟨_, _, rfl⟩
    obtain ⟨t1, p1', o1⟩ := out vx
    refine hX h1 _ ⟨t1, p1', o1, R_Arity_ok ⟨_, rfl, ?_⟩⟩
    intro J24
    refine ⟨fun g => ?_, fun g => ?_⟩
    · have h2 := of_decide_eq_true g
      obtain ⟨t2, p2', o2⟩ := out vy
      rw [if_pos h2] at hK
      exact hY (by omega) _ ⟨t2, p2', o2, hJ _ _ _ _ _ o1 o2 hK⟩
    · rw [if_neg (of_decide_eq_false g)] at hK
      exact hJ _ _ _ _ _ o1 o1 hK
theorem R_Type_ok (S : SlP encN h a m l) (W : WfL l) (hl : 0 < l.length) (hm : l.length ≤ 1000000) {R : Value → Hp → Prop} (hK : R (vtup [vi (typE l).1, vi (typE l).2]) h) : CallOK Tryz.prog 114 [vsl a m c] h R := by
  refine ok_R_Type ?_
  unfold VC_R_Type
  have hm := S.1
  refine ⟨_, isW (by unfold InR; omega), R_typeAt_ok S W _ ((m : Int) - 1) rfl (by omega) (by omega) _ ?_⟩
  have e1 : ((m : Int) - 1).toNat = l.length - 1 := by omega
  rw [e1]
  unfold typE at hK
  cases ht : tAt l (l.length - 1) with
  | none =>
    rw [ht] at hK
    exact ⟨_, _, rfl, fun _ => hK, fun g => (by cases g)⟩
  | some t =>
    rw [ht] at hK
    exact ⟨_, _, rfl, fun g => (by cases g), fun _ => hK⟩
end
end Go.Proofs.YtejefijpcggkfaaGreatDoor
namespace Go.Proofs.YtejefijpcggkfaaGreatDoor
open Go Go.Vc
set_option linter.unusedVariables false
set_option maxRecDepth 100000
theorem expr_field_ok {e : EvL} {n : Int} (hn : 0 ≤ n ∧ n ≤ 3) {h : Hp} {R : Value → Hp → Prop} (hK : R (vag (encV (fieldV e n))) h) : CallOK Tryz.prog 86 [vag (encE e), vi n] h R := by
  refine ok_expr_field ?_
  unfold VC_expr_field
  refine value_Number_ok ⟨_, _, rfl, ?_⟩
  have r : n = 0 ∨ n = 1 ∨ n = 2 ∨ n = 3 := by omega
  rcases r with rfl | rfl | rfl | rfl
  · exact ⟨_, _, fun w _ => by kernel_rfl, hK⟩
  · exact ⟨_, _, fun w _ => by kernel_rfl, hK⟩
  · exact ⟨_, _, fun w _ => by kernel_rfl, hK⟩
  · exact ⟨_, _, fun w _ => by kernel_rfl, hK⟩
theorem elVal : ElT Tryz.prog 49 33 2 16 := .of (by kernel_rfl) (by kernel_rfl) (by decide)
theorem outs_get {β : Type} {d : β} {F : Nd → β → β → β} {l : List Nd} {outs : List β} {i k : Nat} (ho : outs.take i = fwd d F (l.take i)) (hi : i ≤ l.length) (hk : k < i) : outs[k]? = some (fAt d F l k) := by
  have h1 : outs[k]? = (outs.take i)[k]? := by rw [List.getElem?_take, if_pos hk]
  rw [h1, ho]
  have hlen : (fwd d F (l.take i)).length = i := by rw [fwd_length, List.length_take]; omega
  rw [← fAt_take l hk hi, List.getD_eq_getElem?_getD, List.getElem?_eq_getElem (by omega)]
  rfl
theorem outs_set {β : Type} {d : β} {F : Nd → β → β → β} {l : List Nd} {outs : List β} {i : Nat} {n : Nd} (ho : outs.take i = fwd d F (l.take i)) (hn : l[i]? = some n) (hl : outs.length = l.length) : (outs.set i (fAt d F l i)).take (i + 1) = fwd d F (l.take (i + 1)) := by
  have hlt := (List.getElem?_eq_some_iff.1 hn).1
  rw [fwd_take l hn, ← ho, List.take_succ_eq_append_getElem (by rw [List.length_set]; omega), List.take_set_of_le (Nat.le_refl _), List.getElem_set_self]
section
variable {a : Option Addr} {m c : Nat} {l : List Nd} {h : Hp}
theorem expr_Eval_ok (S : SlP encN h a m l) (W : WfL l) (hl : 0 < l.length) (hm : l.length ≤ 1000000) {e : EvL} {R : Value → Hp → Prop} (hK : ∀ h', h.le h' → R (vag (encV (valE e l))) h') : CallOK Tryz.prog 54 [vsl a m c, vag (encE e)] h R := by
  refine ok_expr_Eval ?_
  unfold VC_expr_Eval
  obtain rfl := S.1
  refine Vec.make (enc := encV) (x := (0, 0)) elVal (z := [vi 0, vi 0]) (by kernel_rfl) rfl rfl hm (by omega) fun a3 h2 V2 => ⟨_, _, _, rfl, ?_⟩
  refine ⟨fun vs hh => ∃ (i : Nat) (outs : List (Int × Int)), vs = [vi i] ∧ i ≤ l.length ∧ outs.length = l.length ∧ outs.take i = fwd (0, 0) (stepF e) (l.take i) ∧ Vec encV 2 33 h hh a3 l.length outs, fun vs hh => l.length - (vint vs 0).toNat,
    ⟨0, _, rfl, Nat.zero_le _, by simp, rfl, V2⟩, ?_⟩
  rintro vs hh ⟨i, outs, rfl, hi, hlo, ho, V⟩
  refine ⟨i, rfl, fun q => ?_, fun q => ?_⟩
  · have hlt : i < l.length := by have := of_decide_eq_true q; omega
    have hx : l[i]? = some l[i] := List.getElem?_eq_getElem hlt
    have Wn := W _ _ hx
    have hv : vAt e l i = _ := fAt_wf (own_stepF e) hx Wn
    have hset := outs_set ho hx hlo
    obtain ⟨b, o, ha, hr⟩ := (S.le V.le0).get encN_len (by decide) hx
    generalize l[i] = n at *
    have hout : outs[i]? = some (outs[i]'(by omega)) := List.getElem?_eq_getElem (by omega)
    obtain ⟨b3, o3, ha3, hput⟩ := V.put encV_len (x' := vAt e l i) (k := 0) (vs := encV (vAt e l i)) hout (by rw [encV_len]; decide) (by rw [encV_len]; decide) rfl
    have A3 : ∀ {x : Int}, 0 ≤ x → x < l.length → a3 = some ⟨b3, o3, none⟩ ∧ (0 : Int) ≤ x ∧ x < (l.length : Nat) := fun h0 h1 => ⟨ha3, h0, h1⟩
    have rdo : ∀ {x : Int}, 0 ≤ x → x < i → hh.row b3 (o3 + x.toNat * 2) 2 = some (encV (vAt e l x.toNat)) := by
      intro x h0 h1
      obtain ⟨b', o', ha', hr'⟩ := (V.slp encV_len (by decide)).get encV_len (by decide) (outs_get ho hi (k := x.toNat) (by omega))
      rw [ha3] at ha'
      cases ha'
      exact hr'
    intro J83
    have hJ : ∀ h', Vec encV 2 33 h h' a3 l.length (outs.set i (vAt e l i)) → J83 h' := by
      intro h' V'
      exact ⟨_, isW (by unfold InR; omega), ⟨i + 1, _, rfl, by omega, by rw [List.length_set]; exact hlo, hset, V'⟩, by simp [vint]; omega⟩
    clear_value J83
    have fin : ∀ {v : Int × Int}, v = vAt e l i → hh.store b3 (o3 + i * 2) (encV v) J83 := by
      rintro v rfl
      exact hput _ hJ
    have ar := ar0 Wn.a
    have hfold : vAt e l = fAt (0, 0) (stepF e) l := rfl
    rw [← hfold] at hv
    unfold stepF at hv
    have Ai : a3 = some ⟨b3, o3, none⟩ ∧ (0 : Int) ≤ i ∧ (i : Int) < (l.length : Nat) := A3 (by omega) (by omega)
    refine ⟨b, o, ⟨ha, by omega, by omega⟩, _, _, _, _, _, _, hr, fun q => ?_, fun q1 => ⟨fun q => ?_, fun q2 => ⟨fun q => ?_, fun q3 => ⟨fun q => ?_, fun q4 => ⟨fun q => ?_, fun q5 => ?_⟩⟩⟩⟩⟩
    · rw [if_pos (of_decide_eq_true q)] at hv
      exact ⟨b3, o3, Ai, fin hv.symm⟩
    · rw [if_neg (of_decide_eq_false q1), if_pos (of_decide_eq_true q)] at hv
      exact expr_field_ok (Wn.f (of_decide_eq_true q)) ⟨_, _, rfl, b3, o3, Ai, fin hv.symm⟩
    · rw [if_neg (of_decide_eq_false q1), if_neg (of_decide_eq_false q2), if_pos (of_decide_eq_true q)] at hv
      have := of_decide_eq_true q
      have hX := Wn.x (by omega)
      exact ⟨b3, o3, A3 (by omega) (by omega), _, _, rdo hX.1 hX.2, value_Neg_ok ⟨_, _, rfl, b3, o3, Ai, fin hv.symm⟩⟩
    · rw [if_neg (of_decide_eq_false q1), if_neg (of_decide_eq_false q2), if_neg (of_decide_eq_false q3), if_pos (of_decide_eq_true q)] at hv
      have := of_decide_eq_true q
      have hX := Wn.x (by omega)
      exact ⟨b3, o3, A3 (by omega) (by omega), _, _, rdo hX.1 hX.2, value_Not_ok ⟨_, _, rfl, b3, o3, Ai, fin hv.symm⟩⟩
    · rw [if_neg (of_decide_eq_false q1), if_neg (of_decide_eq_false q2), if_neg (of_decide_eq_false q3), if_neg (of_decide_eq_false q4), if_pos (of_decide_eq_true q)] at hv
      have := of_decide_eq_true q
      have hX := Wn.x (by omega)
      exact ⟨b3, o3, A3 (by omega) (by omega), _, Hp.row_cell (rdo hX.1 hX.2) (i := 0) rfl, value_Truth_ok ⟨_, _, rfl, b3, o3, Ai, fin hv.symm⟩⟩
    · have p1 := of_decide_eq_false q1
      have p2 := of_decide_eq_false q2
      have p3 := of_decide_eq_false q3
      have p4 := of_decide_eq_false q4
      have p5 := of_decide_eq_false q5
      rw [if_neg p1, if_neg p2, if_neg p3, if_neg p4, if_neg p5] at hv
      have h2 : arI n.op = 2 := by rcases arI_range Wn.a with h | h | h <;> omega
      have hX := Wn.x (by omega)
      have hY := Wn.y (by omega)
      exact ⟨b3, o3, A3 (by omega) (by omega), _, _, rdo hX.1 hX.2, b3, o3, A3 (by omega) (by omega), _, _, rdo hY.1 hY.2, value_Do_ok ⟨_, _, rfl, b3, o3, Ai, fin hv.symm⟩⟩
  · have hge : i = l.length := by have := of_decide_eq_false q; omega
    subst hge
    obtain ⟨b', o', ha', hr'⟩ := (V.slp encV_len (by decide)).get encV_len (by decide) (outs_get ho (Nat.le_refl _) (k := l.length - 1) (by omega))
    refine ⟨_, isW (by unfold InR; omega), b', o', ⟨ha', by omega, by omega⟩, _, _, ?_, hK hh V.le0⟩
    have e1 : (((l.length : Nat) : Int) - 1).toNat = l.length - 1 := by omega
    rw [e1]
    exact hr'
theorem expr_join_ok {x y : Int} {R : Value → Hp → Prop} (hK : R (vtup [vi (if x = 0 then y else if y = 0 ∨ x = y then x else 0), vb (decide (x = 0 ∨ y = 0 ∨ x = y))]) h) : CallOK Tryz.prog 136 [vi x, vi y] h R := by
  refine ok_expr_join ?_
  unfold VC_expr_join
  refine ⟨fun q => ?_, fun q => ?_⟩
  · have q := of_decide_eq_true q
    rw [if_pos q, decide_eq_true (.inl q)] at hK; exact hK
  have q := of_decide_eq_false q
  rw [if_neg q] at hK
  intro J3
  refine ⟨fun q2 => ⟨fun _ => ?_, fun q3 => ?_⟩, fun q2 => ⟨fun q3 => ?_, fun q3 => ?_⟩⟩
  · have q2 := of_decide_eq_true q2
    rw [if_pos (.inl q2), decide_eq_true (.inr (.inl q2))] at hK; exact hK
  · rw [q2] at q3; cases q3
  · have q3 := of_decide_eq_true q3
    rw [if_pos (.inr q3), decide_eq_true (.inr (.inr q3))] at hK; exact hK
  · have q2 := of_decide_eq_false q2
    have q3 := of_decide_eq_false q3
    rw [if_neg (by omega), decide_eq_false (by omega)] at hK; exact hK
def encI (x : Int) : List Value := [vi x]
theorem encI_len (x : Int) : (encI x).length = 1 := rfl
theorem expr_Type_ok (S : SlP encN h a m l) (O : OkE l) (hm : l.length ≤ 1000000) {R : Value → Hp → Prop} (hK : ∀ h', h.le h' → R (vtup [vi (typE l).1, ifv (errV (typE l).2)]) h') : CallOK Tryz.prog 110 [vsl a m c] h R := by
  have W := O.wf
  have hl := O.pos
  refine ok_expr_Type ?_
  unfold VC_expr_Type
  obtain rfl := S.1
  refine Vec.make (enc := encI) (x := 0) elInt (z := [vi 0]) (by kernel_rfl) rfl rfl hm (by omega) fun a3 h2 V2 => ⟨_, _, _, rfl, ?_⟩
  refine ⟨fun vs hh => ∃ (i : Nat) (outs : List Int), vs = [vi i] ∧ i ≤ l.length ∧ outs.length = l.length ∧ (outs.map some).take i = fwd none tyF (l.take i) ∧ Vec encI 1 3 h hh a3 l.length outs, fun vs hh => l.length - (vint vs 0).toNat,
    ⟨0, _, rfl, Nat.zero_le _, by simp, rfl, V2⟩, ?_⟩
  rintro vs hh ⟨i, outs, rfl, hi, hlo, ho, V⟩
  have get : ∀ {k : Nat}, k < i → ∃ t, outs[k]? = some t ∧ tAt l k = some t := by
    intro k hk
    have := outs_get ho hi hk
    rw [List.getElem?_map, Option.map_eq_some_iff] at this
    obtain ⟨t, h1, h2⟩ := this
    exact ⟨t, h1, h2.symm⟩
  refine ⟨i, rfl, fun q => ?_, fun q => ?_⟩
  · have hlt : i < l.length := by have := of_decide_eq_true q; omega
    have hx : l[i]? = some l[i] := List.getElem?_eq_getElem hlt
    have Wn := W _ _ hx
    have hv : tAt l i = _ := fAt_wf own_tyF hx Wn
    have hset := fun t (e : tAt l i = some t) => (by
      have := outs_set (outs := outs.map some) ho hx (by simpa using hlo)
      rw [show fAt none tyF l i = some t from e, ← List.map_set] at this
      exact this : ((outs.set i t).map some).take (i + 1) = fwd none tyF (l.take (i + 1)))
    obtain ⟨b, o, ha, hr⟩ := (S.le V.le0).get encN_len (by decide) hx
    generalize l[i] = n at *
    have hout : outs[i]? = some (outs[i]'(by omega)) := List.getElem?_eq_getElem (by omega)
    obtain ⟨b3, o3, ha3, _⟩ := V.put encI_len (x' := 0) (k := 0) (vs := [vi 0]) hout (by decide) (by decide) rfl
    have A3 : ∀ {x : Int}, 0 ≤ x → x < l.length → a3 = some ⟨b3, o3, none⟩ ∧ (0 : Int) ≤ x ∧ x < (l.length : Nat) := fun h0 h1 => ⟨ha3, h0, h1⟩
    have put : ∀ (outs' : List Int) (hh' : Hp), outs'.length = l.length → Vec encI 1 3 h hh' a3 l.length outs' → ∀ (t : Int) (K : Hp → Prop), (∀ h', Vec encI 1 3 h h' a3 l.length (outs'.set i t) → K h') → hh'.store b3 (o3 + i * 1) [vi t] K := by
      intro outs' hh' h1 V' t K hK
      obtain ⟨b', o', ha', hp⟩ := V'.put encI_len (i := i) (x := outs'[i]'(by omega)) (x' := t) (k := 0) (vs := [vi t]) (List.getElem?_eq_getElem (by omega)) (Nat.succ_pos 0) (Nat.le_refl 1) rfl
      rw [ha3] at ha'
      cases ha'
      exact hp K hK
    intro J95
    have hJ : ∀ t, tAt l i = some t → ∀ h', Vec encI 1 3 h h' a3 l.length (outs.set i t) → J95 h' := by
      intro t e h' V'
      exact ⟨_, isW (by unfold InR; omega), ⟨i + 1, _, rfl, by omega, by rw [List.length_set]; exact hlo, hset t e, V'⟩, by simp [vint]; omega⟩
    clear_value J95
    have ar := ar0 Wn.a
    have hfold : tAt l = fAt none tyF l := rfl
    rw [← hfold] at hv
    have Ai : a3 = some ⟨b3, o3, none⟩ ∧ (0 : Int) ≤ i ∧ (i : Int) < (l.length : Nat) := A3 (by omega) (by omega)
    refine ⟨b, o, ⟨ha, by omega, by omega⟩, _, _, _, _, _, _, hr, ?_⟩
    intro J39
    have bad : tAt l i = none → ∀ h', h.le h' → R (vtup [vi 0, ifv (errV 3)]) h' := by
      intro e h' l'
      have : typE l = (0, 3) := by
        unfold typE
        cases ht : tAt l (l.length - 1) with
        | none => rfl
        | some t => exact absurd e (O.b.ty W (by rw [ht]; simp) i (Nat.zero_le _) hlt)
      rw [this] at hK
      exact hK h' l'
    have hJ39 : ¬ n.op = 1 → ¬ n.op = 2 → ¬ n.op = 5 → J39 (wantT n.op) := by
      intro p1 p2 p5
      have har : 1 ≤ arI n.op := by rcases arI_range Wn.a with h | h | h <;> omega
      rw [tyF_op p1 p2] at hv
      have hX := Wn.x har
      obtain ⟨tx, ox, ex⟩ := get (k := n.x.toNat) (by omega)
      have hy : ∃ ty, 2 ≤ arI n.op → outs[n.y.toNat]? = some ty ∧ tAt l n.y.toNat = some ty := by
        by_cases h2 : 2 ≤ arI n.op
        · have hY := Wn.y h2
          obtain ⟨ty, q⟩ := get (k := n.y.toNat) (by omega)
          exact ⟨ty, fun _ => q⟩
        · exact ⟨0, fun h => absurd h h2⟩
      obtain ⟨ty, hy⟩ := hy
      have hv2 : tAt l i = tyG n.op (some tx) (some (if arI n.op = 2 then ty else tx)) := by
        rw [hv, ex]
        by_cases h2 : arI n.op = 2
        · rw [if_pos h2, if_pos h2, (hy (by omega)).2]
        · rw [if_neg h2, if_neg h2]
      rw [tyG_some, if_neg p5] at hv2
      have hw0 : wantT n.op ≠ 0 := by unfold wantT; split <;> decide
      generalize hwd : wantT n.op = want at *
      refine expr_Arity_ok ⟨_, rfl, fun b64 hb64 => ?_⟩
      intro h65
      have S65 : SlI h65 (some ⟨b64, 0, none⟩) 2 [n.x, n.y] := ⟨rfl, HasRow.new _ _ [vi n.x, vi n.y] _⟩
      have V65 : Vec encI 1 3 h h65 a3 l.length outs := V.keep0 (Hp.le_set (Hp.le_refl hh) hb64 _)
      clear_value h65
      refine ⟨_, _, _, rd_slice_h (e := 3) (by kernel_rfl) (by kernel_rfl) (by omega) (by rcases arI_range Wn.a with h | h | h <;> omega), ?_⟩
      have rdo : ∀ {x t : Int}, 0 ≤ x → outs[x.toNat]? = some t → h65.cell b3 (o3 + x.toNat * 1) = some (vi t) := by
        intro x t h0 h1
        obtain ⟨b', o', ha', hr'⟩ := (V65.slp encI_len (by decide)).cell (j := 0) encI_len (by decide) h1 rfl
        rw [ha3] at ha'
        cases ha'
        exact hr'
      refine ⟨fun vs h' => h' = h65 ∧ ∃ j : Nat, vs = [vi j] ∧ (j : Int) ≤ arI n.op ∧ (1 ≤ j → tx = 0 ∨ tx = want) ∧ (2 ≤ j → ty = 0 ∨ ty = want), fun vs hh => (arI n.op).toNat - (vint vs 0).toNat, ⟨rfl, 0, rfl, by omega, by omega, by omega⟩, ?_⟩
      rintro vs h71 ⟨rfl, j, rfl, hj, f1, f2⟩
      refine ⟨j, rfl, fun g => ?_, fun g => ?_⟩
      · have hj2 : (j : Int) < arI n.op := by have := of_decide_eq_true g; omega
        have fact : ∃ x t : Int, [n.x, n.y].getD j 0 = x ∧ 0 ≤ x ∧ x < l.length ∧ outs[x.toNat]? = some t ∧ (¬ (t = 0 ∨ t = want) → tAt l i = none) ∧ (j = 0 → t = tx) ∧ (j = 1 → t = ty) := by
          by_cases hj0 : j = 0
          · subst hj0
            refine ⟨n.x, tx, rfl, hX.1, by omega, ox, fun hb => ?_, fun _ => rfl, fun h => by omega⟩
            rw [hv2, if_pos (by omega)]
          · have hj1 : j = 1 := by rcases arI_range Wn.a with h | h | h <;> omega
            subst hj1
            have hY := Wn.y (by omega)
            refine ⟨n.y, ty, rfl, hY.1, by omega, (hy (by omega)).1, fun hb => ?_, fun h => by omega, fun _ => rfl⟩
            rw [hv2, if_pos]
            rw [if_pos (by rcases arI_range Wn.a with h | h | h <;> omega)]
            omega
        obtain ⟨x, t, e0, h0, h1, e1, hb, u1, u2⟩ := fact
        obtain ⟨q, p, hq, hcell⟩ := S65.get (i := j) (by rcases arI_range Wn.a with h | h | h <;> omega)
        rw [e0] at hcell
        refine ⟨q, p, ⟨hq, by omega, by omega⟩, _, hcell, b3, o3, A3 h0 h1, _, rdo h0 e1, expr_join_ok ⟨_, _, rfl, fun g => ?_, fun g => ?_⟩⟩
        · rw [cnot] at g
          have g := of_decide_eq_true g
          exact bad (hb (by omega)) h71 V65.le0
        · rw [cnot] at g
          have g := of_decide_eq_false g
          refine ⟨_, isW (by unfold InR; rcases arI_range Wn.a with h | h | h <;> omega), ⟨rfl, j + 1, rfl, by omega, fun _ => ?_, fun h => ?_⟩, by simp [vint]; omega⟩
          · by_cases hj0 : j = 0
            · have := u1 hj0; omega
            · exact f1 (by omega)
          · have := u2 (by rcases arI_range Wn.a with h | h | h <;> omega); omega
      · have hje : (j : Int) = arI n.op := by have := of_decide_eq_false g; omega
        have hfine : tAt l i = some (if n.op = 11 ∨ n.op = 12 then 2 else want) := by
          rw [hv2, if_neg]
          · split <;> rfl
          · have := f1 (by omega)
            by_cases h2 : arI n.op = 2
            · rw [if_pos h2]
              have := f2 (by omega)
              omega
            · rw [if_neg h2]
              omega
        refine ⟨b3, o3, Ai, put outs _ hlo V65 want _ fun h89 V89 => ⟨fun g => ?_, fun g => ?_⟩⟩
        · rw [cor] at g
          have g := of_decide_eq_true g
          rw [if_pos g] at hfine
          refine ⟨b3, o3, Ai, put _ h89 (by rw [List.length_set]; exact hlo) V89 2 _ fun h92 V92 => hJ 2 hfine h92 ?_⟩
          rw [List.set_set] at V92
          exact V92
        · rw [cor] at g
          have g := of_decide_eq_false g
          rw [if_neg g] at hfine
          exact hJ want hfine h89 V89
    clear_value J39
    refine ⟨fun q => ?_, fun q1 => ⟨fun q => ?_, fun q2 => ⟨fun q => ?_, fun q5 => ?_⟩⟩⟩
    · have e : tAt l i = some n.v.1 := by rw [hv]; unfold tyF; exact if_pos (of_decide_eq_true q)
      exact ⟨b3, o3, Ai, put outs hh hlo V _ _ (hJ _ e)⟩
    · have e : tAt l i = some 1 := by rw [hv]; unfold tyF; rw [if_neg (of_decide_eq_false q1)]; exact if_pos (of_decide_eq_true q)
      exact ⟨b3, o3, Ai, put outs hh hlo V _ _ (hJ _ e)⟩
    · have h5 := of_decide_eq_true q
      have hX := Wn.x (by omega)
      obtain ⟨tx, ox, ex⟩ := get (k := n.x.toNat) (by omega)
      have e : tAt l i = some 2 := by
        rw [hv, tyF_op (by omega) (by omega), if_neg (by omega), ex, tyG_some, if_pos h5]
      exact ⟨b3, o3, Ai, put outs hh hlo V _ _ (hJ _ e)⟩
    · have p1 := of_decide_eq_false q1
      have p2 := of_decide_eq_false q2
      have p5 := of_decide_eq_false q5
      have hw := hJ39 p1 p2 p5
      unfold wantT at hw
      intro J35
      refine ⟨fun g => ⟨fun _ => ?_, fun g2 => ?_⟩, fun g1 => ⟨fun g => ⟨fun _ => ?_, fun g2 => ?_⟩, fun g2 => ⟨fun g => ?_, fun g => ?_⟩⟩⟩
      · rw [if_pos (.inl (of_decide_eq_true g))] at hw; exact hw
      · rw [g] at g2; cases g2
      · rw [if_pos (.inr (.inl (of_decide_eq_true g)))] at hw; exact hw
      · rw [g] at g2; cases g2
      · rw [if_pos (.inr (.inr (of_decide_eq_true g)))] at hw; exact hw
      · have a1 := of_decide_eq_false g1
        have a2 := of_decide_eq_false g2
        have a3 := of_decide_eq_false g
        rw [if_neg (by omega)] at hw; exact hw
  · have hge : i = l.length := by have := of_decide_eq_false q; omega
    subst hge
    obtain ⟨t, ot, et⟩ := get (k := l.length - 1) (by omega)
    obtain ⟨b', o', ha', hr'⟩ := (V.slp encI_len (by decide)).cell (j := 0) encI_len (by decide) ot rfl
    refine ⟨_, isW (by unfold InR; omega), b', o', ⟨ha', by omega, by omega⟩, t, ?_, ?_⟩
    · have e1 : (((l.length : Nat) : Int) - 1).toNat = l.length - 1 := by omega
      rw [e1]
      exact hr'
    · have : typE l = (t, 0) := by unfold typE; rw [et]
      rw [this] at hK
      exact hK hh V.le0
end
end Go.Proofs.YtejefijpcggkfaaGreatDoor
namespace Go.Proofs.YtejefijpcggkfaaGreatDoor
open Go Go.Vc
set_option linter.unusedVariables false
set_option maxRecDepth 100000
abbrev NdVec := Vec encN 6 137
theorem cloneN_ok {a : Option Addr} {n c : Nat} {l : List Nd} {h : Hp} {R : Value → Hp → Prop} (S : SlP encN h a n l) (hn : n ≤ 1000000) (hK : ∀ a' c' h', NdVec h h' a' c' l → R (vsl a' l.length c') h') :
    CallOK Tryz.prog 140 [vsl a n c] h R := by
  refine ok_slices_Clone_api_Node_api_Node ?_
  unfold VC_slices_Clone_api_Node_api_Node
  have hl := S.1
  subst hl
  have hfl : (l.flatMap encN).length = l.length * 6 := by rw [flatMap_length encN_len]
  refine ⟨_, rd_eqNilS (e := 137) (by kernel_rfl), fun e => ?_, fun e => ?_⟩
  · have h0 : l.flatMap encN = [] := by
      rcases S.2 with h1 | ⟨b, o, ha, _⟩
      · exact h1
      · rw [ha] at e; cases e
    rw [h0] at hfl
    have hn0 : l = [] := List.eq_nil_of_length_eq_zero (by simp at hfl; omega)
    subst hn0
    exact hK none 0 h (OwnV.nil (Hp.le_refl h) _ _)
  · intro b3 hb3 h4
    have O0 : OwnV h h4 137 6 (some ⟨b3, 0, none⟩) 0 0 [] := OwnV.mk_new (Hp.le_refl h) hb3 _ [] rfl (by simp [maxLen])
    refine OwnV.append elNd O0 (S.le (Hp.le_set (Hp.le_refl h) hb3 _)).2 hfl (one_nds l) (by omega) (by omega) fun a' c' h' O' _ _ => ⟨_, _, _, rfl, ?_⟩
    rw [Nat.zero_add, List.nil_append] at *
    exact hK a' c' h' O'
inductive Pend (l : List Nd) (f : Nat) : Nat → Nat → Prop where
  | nil : Pend l f f 0
  | cons {g e k : Nat} : Blk l g e → Pend l f g k → Pend l f e (k + 1)
section
variable {a : Option Addr} {m c : Nat} {l : List Nd} {h : Hp}
theorem expr_Join_ok {op : Int} {a2 : Option Addr} {m2 c2 : Nat} {l2 : List Nd} (S : SlP encN h a m l) (S2 : SlP encN h a2 m2 l2) (W2 : WfL l2) (hm : l.length ≤ 1000000) (hm2 : l2.length ≤ 1000000) {R : Value → Hp → Prop}
    (hK : ∀ a' c' h', NdVec h h' a' c' (joinL op l l2) → R (vsl a' (joinL op l l2).length c') h') : CallOK Tryz.prog 126 [vi op, vsl a m c, vsl a2 m2 c2] h R := by
  refine ok_expr_Join ?_
  unfold VC_expr_Join
  obtain rfl := S.1
  obtain rfl := S2.1
  refine cloneN_ok S hm fun a3 c3 h2 V2 => ⟨_, _, _, rfl, _, isW (by unfold InR; omega), ?_⟩
  refine ⟨fun vs hh => ∃ (i : Nat) (a : Option Addr) (c : Nat), vs = [vsl a (l ++ (l2.take i).map (shN l.length)).length c, vi i] ∧ i ≤ l2.length ∧ NdVec h hh a c (l ++ (l2.take i).map (shN l.length)), fun vs hh => l2.length - (vint vs 1).toNat,
    ⟨0, a3, c3, by simp, Nat.zero_le _, by simpa using V2⟩, ?_⟩
  rintro vs hh ⟨i, a4, c4, rfl, hi, V⟩
  have hlen : (l ++ (l2.take i).map (shN l.length)).length = l.length + i := by simp; omega
  refine ⟨_, _, _, _, rfl, fun g => ?_, fun g => ?_⟩
  · have hlt : i < l2.length := by have := of_decide_eq_true g; omega
    have hx : l2[i]? = some l2[i] := List.getElem?_eq_getElem hlt
    have wn := W2 _ _ hx
    obtain ⟨b, o, ha, hr⟩ := (S2.le V.le0).get encN_len (by decide) hx
    have tk : (l2.take (i + 1)).map (shN l.length) = (l2.take i).map (shN l.length) ++ [shN l.length l2[i]] := by
      rw [List.take_succ_eq_append_getElem hlt, List.map_append]; rfl
    generalize l2[i] = y at *
    refine ⟨b, o, ⟨ha, by omega, by omega⟩, _, _, _, _, _, _, hr, expr_Arity_ok ⟨_, rfl, ?_⟩⟩
    intro J28
    have fin : ∀ (x' y' : Int), x' = (shN (l.length : Int) y).x → y' = (shN (l.length : Int) y).y → ∀ (b49 : Nat), hh b49 = none → SemOK Tryz.prog (Builtin.append_ #[25, 25] 25 #[(vsl a4 (l ++ (l2.take i).map (shN l.length)).length c4), (vsl (some (⟨b49, 0, none⟩ : Addr)) 1 1)]) (Hp.set hh b49 (cellsO [(vi y.op), (vi x'), (vi y'), (vi y.n), (vi y.v.1), (vi y.v.2)] 137)) fun v51 h52 => ∃ (a53 : Option Addr) (n53 c53 : Nat), v51 = (vsl a53 n53 c53) ∧ (∃ (x55 : Int), (IsW x55 ((i : Int) + 1)) ∧ ((∃ (i' : Nat) (a : Option Addr) (c : Nat), [vsl a53 n53 c53, vi x55] = [vsl a (l ++ (l2.take i').map (shN l.length)).length c, vi i'] ∧ i' ≤ l2.length ∧ NdVec h h52 a c (l ++ (l2.take i').map (shN l.length))) ∧ l2.length - (vint [vsl a53 n53 c53, vi x55] 1).toNat < l2.length - (vint [vsl a4 (l ++ (l2.take i).map (shN l.length)).length c4, vi i] 1).toNat)) := by
      rintro x' y' rfl rfl b49 hb49
      refine V.app (x := shN (l.length : Int) y) elNd encN_len one_encN (by omega) (by omega) hb49 fun a' c' h' V' => ⟨_, _, _, rfl, _, isW (by unfold InR; omega), ⟨i + 1, a', c', ?_, by omega, ?_⟩, by simp [vint]; omega⟩
      · rw [tk, ← List.append_assoc]; rfl
      · rw [tk, ← List.append_assoc]; exact V'
    have hJ : ∀ x', x' = (shN (l.length : Int) y).x → J28 x' := by
      intro x' hx'
      refine expr_Arity_ok ⟨_, rfl, ?_⟩
      intro J45
      refine ⟨fun g => ?_, fun g => ?_⟩
      · have g := of_decide_eq_true g
        have hy := wn.y (by omega)
        refine ⟨_, isW (by unfold InR; omega), fin _ _ hx' ?_⟩
        unfold shN
        simp only
        rw [if_pos (show 1 < arI y.op by omega)]
      · have g := of_decide_eq_false g
        refine fin _ _ hx' ?_
        unfold shN
        simp only
        rw [if_neg (show ¬ 1 < arI y.op by omega)]
    clear_value J28
    refine ⟨fun g => ?_, fun g => ?_⟩
    · have g := of_decide_eq_true g
      have hX := wn.x (by omega)
      refine ⟨_, isW (by unfold InR; omega), hJ _ ?_⟩
      unfold shN
      simp only
      rw [if_pos (show 0 < arI y.op by omega)]
    · have g := of_decide_eq_false g
      refine hJ _ ?_
      unfold shN
      simp only
      rw [if_neg (show ¬ 0 < arI y.op by omega)]
  · have hge : i = l2.length := by have := of_decide_eq_false g; omega
    subst hge
    rw [List.take_of_length_le (Nat.le_refl _)] at V hlen ⊢
    refine expr_Arity_ok ⟨_, rfl, ?_⟩
    intro J62
    have hJ : ∀ y', y' = (if 1 < arI op then ((l.length + l2.length : Nat) : Int) - 1 else 0) → J62 y' := by
      rintro y' rfl b66 hb66
      intro h67
      exact V.app (x := ⟨op, (l.length : Int) - 1, if 1 < arI op then ((l.length + l2.length : Nat) : Int) - 1 else 0, 0, (0, 0)⟩) elNd encN_len one_encN (by omega) (by omega) hb66 fun a' c' h' V' => ⟨_, _, _, rfl, hK a' c' h' V'⟩
    clear_value J62
    refine ⟨fun g => ?_, fun g => ?_⟩
    · have g := of_decide_eq_true g
      refine ⟨_, isW (by unfold InR; omega), hJ _ ?_⟩
      rw [if_pos (show 1 < arI op by omega), hlen]
    · have g := of_decide_eq_false g
      refine hJ _ ?_
      rw [if_neg (show ¬ 1 < arI op by omega)]
end
end Go.Proofs.YtejefijpcggkfaaGreatDoor
namespace Go.Proofs.YtejefijpcggkfaaGreatDoor
open Go Go.Vc Go.Txt
set_option linter.unusedVariables false
set_option maxRecDepth 100000
structure RdAt (h0 h : Hp) (g : Nat) (s : RS) : Prop where
  b : ∃ a c, h g = some (cellsO [vsl a s.ws.length c, vi s.deep, ifv (errV s.f)] 88) ∧ SlB h0 a s.ws.length s.ws ∧ s.ws.length ≤ c
  l : h0.le h
  n : h0 g = none
  w : ∀ x ∈ s.ws, x.length ≤ 1000000
theorem le_put {h0 h : Hp} {g : Nat} (l : h0.le h) (hg : h0 g = none) (o : Obj) : h0.le (h.set g o) := fun b p hb => by
  rw [Hp.set_other _ _ (fun e => by rw [e, hg] at hb; cases hb)]
  exact l b p hb
theorem slices_Index_ok {a : Option Addr} {n c : Nat} {l : List Wd} {w : Wd} {h : Hp} (S : SlB h a n l) (hn : n ≤ 1000000) {R : Value → Hp → Prop} (hK : R (vi (if w ∈ l then (l.idxOf w : Int) else -1)) h) : CallOK Tryz.prog 70 [vsl a n c, vs (bs w)] h R := by
  refine ok_slices_Index_string_string ?_
  unfold VC_slices_Index_string_string
  have hl := S.1
  refine ⟨fun v hh => hh = h ∧ ∃ i : Nat, v = [vi i] ∧ i ≤ n ∧ w ∉ l.take i, fun v _ => n - (vint v 0).toNat, ⟨rfl, 0, rfl, Nat.zero_le _, by simp⟩, ?_⟩
  rintro v hh ⟨rfl, i, rfl, hi, hno⟩
  refine ⟨i, rfl, fun e => ?_, fun e => ?_⟩
  · have hlt : i < n := by have := of_decide_eq_true e; omega
    obtain ⟨b, o, ha, hc⟩ := SlP.get1 S hlt
    refine ⟨b, o, ⟨ha, by omega, by omega⟩, _, hc, _, rd_eqBs, fun e2 => ?_, fun e2 => ?_⟩
    · have e3 := of_decide_eq_true e2
      have hx : l.getD i [] = l[i]'(by omega) := by rw [List.getD_eq_getElem?_getD, List.getElem?_eq_getElem (by omega)]; rfl
      rw [hx] at e3
      have hm : w ∈ l := by rw [e3]; exact List.getElem_mem _
      have hidx : l.idxOf w = i := by
        have hsp : l = l.take i ++ l[i]'(by omega) :: l.drop (i + 1) := by rw [← List.drop_eq_getElem_cons, List.take_append_drop]
        rw [hsp, List.idxOf_append, if_neg hno, ← e3, List.idxOf_cons_self, List.length_take]
        omega
      rw [if_pos hm, hidx] at hK
      exact hK
    · have e3 := of_decide_eq_false e2
      have hx : l.getD i [] = l[i]'(by omega) := by rw [List.getD_eq_getElem?_getD, List.getElem?_eq_getElem (by omega)]; rfl
      rw [hx] at e3
      refine ⟨_, isW (by unfold InR; omega), ⟨rfl, i + 1, rfl, by omega, ?_⟩, ?_⟩
      · rw [List.take_succ_eq_append_getElem (by omega)]
        intro hm
        rcases List.mem_append.1 hm with h1 | h1
        · exact hno h1
        · exact e3 (by simpa using h1)
      · show n - ((i : Int) + 1).toNat < n - (i : Int).toNat
        omega
  · have hge : i = n := by have := of_decide_eq_false e; omega
    rw [hge, List.take_of_length_le (by omega)] at hno
    rw [if_neg hno] at hK
    exact hK
theorem slices_Contains_ok {a : Option Addr} {n c : Nat} {l : List Wd} {w : Wd} {h : Hp} (S : SlB h a n l) (hn : n ≤ 1000000) {R : Value → Hp → Prop} (hK : R (vb (decide (w ∈ l))) h) : CallOK Tryz.prog 71 [vsl a n c, vs (bs w)] h R := by
  refine ok_slices_Contains_string_string ?_
  unfold VC_slices_Contains_string_string
  refine slices_Index_ok S hn ⟨_, rfl, ?_⟩
  have : decide ((if w ∈ l then (l.idxOf w : Int) else -1) ≥ 0) = decide (w ∈ l) := by
    by_cases hm : w ∈ l
    · simp [hm]
    · simp [hm]
  rw [this]
  exact hK
def At (g : Nat) : Nat → Prop := fun b => b = g
theorem mut_set (h : Hp) (g : Nat) (o : Obj) : Mut (At g) h (At g) (h.set g o) := ⟨fun b o2 hb ho => by rw [Hp.set_other _ _ (fun e => hb e)]; exact ho, fun b hb => .inl hb⟩
theorem rd_block {h : Hp} {g : Nat} {x y z : Value} {T : TypeId} (hb : h g = some (cellsO [x, y, z] T)) : h.cell g 0 = some x ∧ h.cell g (0 + 1) = some y ∧ h.cell g (0 + 2) = some z := ⟨cell_cells hb rfl, cell_cells hb rfl, cell_cells hb rfl⟩
theorem rd_put0 {h : Hp} {g : Nat} {x y z x' : Value} {T : TypeId} (hb : h g = some (cellsO [x, y, z] T)) {K : Hp → Prop} (hK : K (h.set g (cellsO [x', y, z] T))) : h.store g 0 [x'] K := store_cells hb (by simp) hK
theorem rd_put1 {h : Hp} {g : Nat} {x y z y' : Value} {T : TypeId} (hb : h g = some (cellsO [x, y, z] T)) {K : Hp → Prop} (hK : K (h.set g (cellsO [x, y', z] T))) : h.store g (0 + 1) [y'] K := store_cells hb (by simp) hK
theorem rd_put2 {h : Hp} {g : Nat} {x y z z' : Value} {T : TypeId} (hb : h g = some (cellsO [x, y, z] T)) {K : Hp → Prop} (hK : K (h.set g (cellsO [x, y, z'] T))) : h.store g (0 + 2) [z'] K := store_cells hb (by simp) hK
theorem slb_nil (h : Hp) : SlB h none 0 [] := ⟨rfl, (OwnS.nil h 9 1).row⟩
theorem reader_fail_ok {h0 h : Hp} {g : Nat} {s : RS} (D : RdAt h0 h g s) {f : Int} (hf : f ≠ 0) {R : Value → Hp → Prop} (hK : ∀ h', RdAt h0 h' g (s.fail f) → Mut (At g) h (At g) h' → R (vtup []) h') : CallOK Tryz.prog 69 [vhp g 0, ifv (some (95, vi f))] h R := by
  obtain ⟨a, c, hb, hS, hc⟩ := D.b
  refine ok_query_reader_fail ?_
  unfold VC_query_reader_fail
  refine ⟨_, (rd_block hb).2.2, ?_⟩
  intro J5
  refine ⟨fun e => ?_, fun e => ?_⟩
  · have e0 : s.f = 0 := by unfold errV at e; split at e <;> simp_all
    refine rd_put2 hb (rd_put0 (Hp.set_same _ _ _) ?_)
    refine hK _ ⟨⟨none, 0, ?_, slb_nil _, Nat.le_refl _⟩, le_put (le_put D.l D.n _) D.n _, D.n, fun x hx => by cases hx⟩ ((mut_set _ _ _).trans (mut_set _ _ _))
    rw [Hp.set_same]
    show _ = some (cellsO [vsl none 0 0, vi s.deep, ifv (errV (if s.f = 0 then f else s.f))] 88)
    rw [if_pos e0]
    unfold errV
    rw [if_neg hf]
  · have e0 : s.f ≠ 0 := by intro e1; rw [e1] at e; cases e
    refine rd_put0 hb ?_
    refine hK _ ⟨⟨none, 0, ?_, slb_nil _, Nat.le_refl _⟩, le_put D.l D.n _, D.n, fun x hx => by cases hx⟩ (mut_set _ _ _)
    rw [Hp.set_same]
    show _ = some (cellsO [vsl none 0 0, vi s.deep, ifv (errV (if s.f = 0 then f else s.f))] 88)
    rw [if_neg e0]
theorem reader_is_ok {h0 h : Hp} {g : Nat} {s : RS} (D : RdAt h0 h g s) {wa : Option Addr} {wn wc : Nat} {l : List Wd} (S : SlB h wa wn l) (hwn : wn ≤ 1000) (hwl : s.ws.length ≤ 1000000) {R : Value → Hp → Prop} (hK : ∀ h', RdAt h0 h' g (s.is l).2 → Mut (At g) h (At g) h' → R (vs (bs (s.is l).1)) h') : CallOK Tryz.prog 41 [vhp g 0, vsl wa wn wc] h R := by
  obtain ⟨a, c, hb, hS, hc⟩ := D.b
  refine ok_query_reader_is ?_
  unfold VC_query_reader_is
  obtain ⟨ws, dp, f⟩ := s
  simp only at hb hS hc hwl
  have hcell := (rd_block hb).1
  cases ws with
  | nil =>
    refine ⟨_, _, _, hcell, none, 0, 0, fun e => by simp at e, 0, 0, fun e => by simp at e, ⟨#[]⟩, fun e => by simp at e, fun v hh => hh = h ∧ v = .t (.one (.v (vb false))), fun e => by simp at e, fun _ => ⟨rfl, rfl⟩, ?_⟩
    rintro h10 p11 ⟨rfl, e⟩
    cases e
    refine ⟨fun _ => hK _ D (Mut.of_le (Hp.le_refl _)), fun e => by simp at e⟩
  | cons w r =>
    obtain ⟨b, o, ha, hc0⟩ := SlP.get1 (SlP.le D.l hS) (i := 0) (by simp)
    have hc1 : h.cell b (o + (0 : Int).toNat * 1) = some (vs (bs w)) := hc0
    refine ⟨_, _, _, hcell, _, _, _, fun _ => hcell, b, o, fun _ => ⟨ha, by decide, by simp⟩, _, fun _ => hc1, fun v hh => hh = h ∧ v = .t (.one (.v (vb (decide (w ∈ l))))), fun _ => slices_Contains_ok S (by omega) ⟨_, rfl, rfl, rfl⟩, fun e => absurd (by simp; omega) e, ?_⟩
    rintro h10 p11 ⟨rfl, e⟩
    cases e
    refine ⟨fun e => ?_, fun e => ?_⟩
    · have hno : w ∉ l := by
        intro hm
        simp [hm] at e
        omega
      have h1 : (⟨w :: r, dp, f⟩ : RS).is l = ([], ⟨w :: r, dp, f⟩) := by unfold RS.is; simp only; rw [if_neg hno]
      rw [h1] at hK
      exact hK _ D (Mut.of_le (Hp.le_refl _))
    · have hm : w ∈ l := by
        rcases Decidable.em (w ∈ l) with hm | hm
        · exact hm
        · simp [hm] at e
      have h1 : (⟨w :: r, dp, f⟩ : RS).is l = (w, ⟨r, dp, f⟩) := by unfold RS.is; simp only; rw [if_pos hm]
      rw [h1] at hK
      have hsz : szT Tryz.prog 9 = 1 := by kernel_rfl
      have hr := rd_slice_l (P := Tryz.prog) (h := h10) (t := 83) (e := 9) (by kernel_rfl) (by kernel_rfl) (a := a) (n := (w :: r).length) (c := c) (x := 1) (by decide) (by simp; omega)
      rw [hsz] at hr
      refine ⟨_, _, _, hcell, b, o, ⟨ha, by decide, by simp⟩, _, hc1, _, _, _, hcell, _, _, _, hr, rd_put0 hb ?_⟩
      have hS2 := SlP.drop encB_len hS (i := 1) (by simp) hc
      exact hK _ ⟨⟨_, _, Hp.set_same _ _ _, ⟨rfl, hS2.2⟩, by simp at hc ⊢; omega⟩, le_put D.l D.n _, D.n, fun x hx => D.w x (List.mem_cons_of_mem _ hx)⟩ (mut_set _ _ _)
theorem RdAt.le {h0 h h' : Hp} {g : Nat} {s : RS} (D : RdAt h0 h g s) (l : h.le h') : RdAt h0 h' g s := by
  obtain ⟨a, c, hb, hS, hc⟩ := D.b
  exact ⟨⟨a, c, l g _ hb, hS, hc⟩, Hp.le_trans D.l l, D.n, D.w⟩
theorem slb_one (h : Hp) (b : Nat) (w : Wd) : SlB (h.set b (cellsO [vs (bs w)] 9)) (some ⟨b, 0, none⟩) 1 [w] := ⟨rfl, (OwnS.new h b 9 (sz := 1) (n := 1) [vs (bs w)] rfl (by decide)).row⟩
theorem reader_must_ok {h0 h : Hp} {g : Nat} {s : RS} (D : RdAt h0 h g s) (hwl : s.ws.length ≤ 1000000) {w : Wd} {R : Value → Hp → Prop} (hK : ∀ h', RdAt h0 h' g (s.must w) → Mut (At g) h (At g) h' → R (vtup []) h') : CallOK Tryz.prog 39 [vhp g 0, vs (bs w)] h R := by
  refine ok_query_reader_must ?_
  unfold VC_query_reader_must
  intro b1 hb1 h2
  have hl : h.le h2 := Hp.le_set (Hp.le_refl h) hb1 _
  unfold RS.must at hK
  refine reader_is_ok (D.le hl) (slb_one h b1 w) (by decide) hwl fun h4 D4 M4 => ⟨_, rfl, _, rd_eqBs (b := []), fun e => ?_, fun e => ?_⟩
  · rw [if_pos (of_decide_eq_true e)] at hK
    exact reader_fail_ok D4 (by decide) fun h5 D5 M5 => ⟨rfl, hK h5 D5 (((Mut.of_le hl).trans M4).trans M5)⟩
  · rw [if_neg (of_decide_eq_false e)] at hK
    exact hK h4 D4 ((Mut.of_le hl).trans M4)
structure NdAt (hB h : Hp) (a : Option Addr) (n : Nat) (l : List Nd) : Prop where
  s : SlP encN h a n l
  nw : ∀ b o, a = some ⟨b, o, none⟩ → hB b = none
theorem NdAt.base {hB hC h : Hp} {a : Option Addr} {n : Nat} {l : List Nd} (N : NdAt hC h a n l) (hh : ∀ b, hC b = none → hB b = none) : NdAt hB h a n l := ⟨N.s, fun b o e => hh b (N.nw b o e)⟩
theorem NdAt.le {hB h h' : Hp} {a : Option Addr} {n : Nat} {l : List Nd} (N : NdAt hB h a n l) (hl : h.le h') : NdAt hB h' a n l := ⟨N.s.le hl, N.nw⟩
theorem NdAt.mut {hB h h' : Hp} {g : Nat} {a : Option Addr} {n : Nat} {l : List Nd} (N : NdAt hB h a n l) (hg : hB g ≠ none) (M : Mut (At g) h (At g) h') : NdAt hB h' a n l := by
  have ne : ∀ b o, a = some ⟨b, o, none⟩ → b ≠ g := fun b o e q => hg (by rw [← q]; exact N.nw b o e)
  refine ⟨⟨N.s.1, (HasRow.del N.s.2 ne).le fun b o hb => ?_⟩, N.nw⟩
  by_cases e : b = g
  · subst e; simp [Hp.del] at hb
  · refine M.keep b o (fun h => e h) ?_
    simpa [Hp.del, e] using hb
theorem nd_nil (hB h : Hp) : NdAt hB h none 0 [] := ⟨⟨rfl, (OwnS.nil h 137 6).row⟩, fun b o e => by cases e⟩
theorem _root_.Go.Vc.Mut.up {h h' : Hp} {g : Nat} (M : Mut (At g) h (At g) h') (hg : h' g ≠ none) : ∀ b, h' b = none → h b = none := by
  intro b hb
  cases e : h b with
  | none => rfl
  | some o =>
    by_cases q : b = g
    · subst q; exact absurd hb hg
    · rw [M.keep b o (fun h => q h) e] at hb; cases hb
theorem le_up {h h' : Hp} (l : h.le h') : ∀ b, h' b = none → h b = none := fun b hb => Hp.none_of_le l hb
theorem query_leaf_ok {h : Hp} (n : Nd) {R : Value → Hp → Prop} (hK : ∀ a c h', NdAt h h' a 1 [n] → 1 ≤ c → h.le h' → R (vsl a 1 c) h') : CallOK Tryz.prog 125 [vag (encN n)] h R := by
  refine ok_query_leaf ?_
  unfold VC_query_leaf
  intro b1 hb1 h2
  refine hK _ _ _ ⟨⟨rfl, (OwnS.new h b1 137 (sz := 6) (n := 1) (encN n) rfl (by decide)).row⟩, fun b o e => ?_⟩ (by decide) (Hp.le_set (Hp.le_refl h) hb1 _)
  cases e
  exact hb1
theorem RdAt.al {h0 h : Hp} {g : Nat} {s : RS} (D : RdAt h0 h g s) : h g ≠ none := by
  obtain ⟨a, c, hb, _⟩ := D.b
  rw [hb]; simp
theorem reader_join_ok {h0 h : Hp} {g : Nat} {s : RS} (D : RdAt h0 h g s) {op : Int} {ax ay : Option Addr} {nx ny cx cy : Nat} {x y : List Nd} (X : SlP encN h ax nx x) (Y : SlP encN h ay ny y) (Wy : WfL y) (hx : x.length ≤ 1000) (hy : y.length ≤ 1000) {R : Value → Hp → Prop}
    (hK : ∀ a c h', RdAt h0 h' g (joinP op x y s).2 → NdAt h h' a (joinP op x y s).1.length (joinP op x y s).1 → Mut (At g) h (At g) h' → R (vsl a (joinP op x y s).1.length c) h') : CallOK Tryz.prog 105 [vhp g 0, vi op, vsl ax nx cx, vsl ay ny cy] h R := by
  refine ok_query_reader_join ?_
  unfold VC_query_reader_join
  have hnx := X.1
  have hny := Y.1
  unfold joinP at hK
  refine ⟨_, isW (by unfold InR; omega), fun e => ?_, fun e => ?_⟩
  · have e2 := of_decide_eq_true e
    rw [if_pos (by omega)] at hK
    refine reader_fail_ok D (by decide) fun h3 D3 M3 => ⟨rfl, query_leaf_ok leafN fun a c h5 N5 _ l5 => ⟨_, _, _, rfl, ?_⟩⟩
    exact hK a c h5 (D3.le l5) (N5.base (M3.up D3.al)) (M3.trans (Mut.of_le l5))
  · have e2 := of_decide_eq_false e
    rw [if_neg (by omega)] at hK
    refine expr_Join_ok X Y Wy (by omega) (by omega) fun a' c' h' V => ⟨_, _, _, rfl, ?_⟩
    refine hK a' c' h' (D.le V.le0) ⟨V.slp encN_len (by decide), fun b o e => ?_⟩ (Mut.of_le V.le0)
    obtain rfl := (OwnV.own V).at0 b o e
    exact OwnV.new V b e
end Go.Proofs.YtejefijpcggkfaaGreatDoor
namespace Go.Txt
open Go.Lib
set_option linter.unusedVariables false
theorem parse_inv : ∀ (l : List UInt8) (a u : Nat), parseUint10 a l = .ok u → (∀ c ∈ l, isD c) ∧ u = valF a l
  | [], a, u, h => by
    rw [parseUint10] at h
    injection h with h
    exact ⟨by simp, h.symm⟩
  | c :: l, a, u, h => by
    rw [parseUint10] at h
    split at h
    · rename_i hc
      split at h
      · cases h
      · split at h
        · cases h
        · obtain ⟨h1, h2⟩ := parse_inv l _ u h
          refine ⟨fun x hx => ?_, ?_⟩
          · rcases List.mem_cons.1 hx with rfl | hx
            · exact hc
            · exact h1 x hx
          · rw [h2, Nat.mul_comm]; rfl
    · cases h
theorem natF_go {l : List UInt8} (hl : l ≠ []) (most : Int) : natF l most false = natGo most 0 l := by
  unfold natF
  rw [if_neg]
  rintro (h | ⟨h, _⟩)
  · exact hl h
  · cases h
theorem natF_eq {l : List UInt8} (hl : l ≠ []) {most : Int} (hm : 0 ≤ most) : natF l most false = if (∀ c ∈ l, isD c) ∧ (valF 0 l : Int) ≤ most then (valF 0 l : Int) else -1 := by
  rw [natF_go hl]
  exact natGo_spec most l 0 hm
theorem natF_low {l : List UInt8} {most : Int} (hm : 0 ≤ most) : -1 ≤ natF l most false ∧ natF l most false ≤ most := by
  by_cases hl : l = []
  · subst hl; unfold natF; simp; omega
  · rw [natF_eq hl hm]
    split <;> omega
theorem atoi_digits {c : UInt8} {r : List UInt8} (hc : isD c) {v : Int} (h : atoiAll (c :: r) = .ok v) : (∀ x ∈ c :: r, isD x) ∧ v = valF 0 (c :: r) := by
  have hc' := hc
  unfold isD at hc'
  unfold atoiAll at h
  simp only at h
  rw [if_neg (by omega)] at h
  unfold parseMag at h
  rw [if_neg (by simp)] at h
  cases hp : parseUint10 0 (c :: r) with
  | ok u =>
    rw [hp] at h
    simp only at h
    rw [if_neg (show ¬ (c.toNat = 45 ∧ 9223372036854775808 < u) by omega), if_neg (show ¬ c.toNat = 45 by omega)] at h
    split at h
    · cases h
    · injection h with h
      obtain ⟨h1, h2⟩ := parse_inv _ _ _ hp
      exact ⟨h1, by rw [← h, h2]⟩
  | range => rw [hp] at h; cases h
  | _ => rw [hp] at h; cases h
theorem atoi_of_digits {l : List UInt8} (hl : l ≠ []) (hd : ∀ x ∈ l, isD x) (hv : valF 0 l ≤ 1000000000000) : atoiAll l = .ok (valF 0 l) := by
  match l, hl with
  | c :: r, hl =>
    have hc := hd c (List.mem_cons_self ..)
    unfold isD at hc
    have hp := parse_spec (c :: r) 0 hd (by omega)
    unfold atoiAll
    simp only
    rw [if_neg (by omega)]
    unfold parseMag
    rw [if_neg (by simp), hp]
    simp only
    rw [if_neg (by omega), if_neg (by omega), if_neg (by omega)]
theorem atoi_nat {c : UInt8} {r : List UInt8} {v : Int} (h : atoiAll (c :: r) = .ok v) {most : Int} (hm : 0 ≤ most) : natF (c :: r) most false = if isD c ∧ v ≤ most then v else -1 := by
  by_cases hc : isD c
  · obtain ⟨h1, h2⟩ := atoi_digits hc h
    rw [natF_eq (by simp) hm, h2]
    by_cases h3 : (valF 0 (c :: r) : Int) ≤ most
    · rw [if_pos ⟨h1, h3⟩, if_pos ⟨hc, h3⟩]
    · rw [if_neg (fun e => h3 e.2), if_neg (fun e => h3 e.2)]
  · rw [natF_eq (by simp) hm, if_neg (fun e => hc (e.1 c (List.mem_cons_self ..))), if_neg (fun e => hc e.1)]
theorem atoi_none {l : List UInt8} (h : ∀ v, atoiAll l ≠ .ok v) {most : Int} (hm : 0 ≤ most) (hm2 : most ≤ 1000000000000) : natF l most false = -1 := by
  by_cases hl : l = []
  · subst hl; unfold natF; simp
  · rw [natF_eq hl hm]
    by_cases h3 : (∀ c ∈ l, isD c) ∧ (valF 0 l : Int) ≤ most
    · exact absurd (atoi_of_digits hl h3.1 (by omega)) (h _)
    · rw [if_neg h3]
end Go.Txt
namespace Go.Proofs.YtejefijpcggkfaaGreatDoor
open Go Go.Vc Go.Txt
set_option linter.unusedVariables false
set_option maxRecDepth 100000
def aggsW : List Wd := [[], wCount, wCount, wSum, wMin, wMax]
structure TabQ (h : Hp) : Prop where
  p : TabP h
  e : TabE h
  f : ∃ a c, Hp.cell h 4 0 = some (vsl a 4 c) ∧ SlB h a 4 fieldW
  a : ∃ a c, Hp.cell h 0 0 = some (vsl a 6 c) ∧ SlB h a 6 aggsW
theorem TabQ.le {h h' : Hp} (T : TabQ h) (l : h.le h') : TabQ h' := by
  obtain ⟨p, e, ⟨a, c, h1, h2⟩, b, d, h3, h4⟩ := T
  exact ⟨p.le l, e.le l, ⟨a, c, Hp.cell_le l h1, SlP.le l h2⟩, b, d, Hp.cell_le l h3, SlP.le l h4⟩
structure EnvQ (h0 h : Hp) (g : Nat) : Prop where
  t : TabQ h0
  l : h0.le h
  n : h0 g = none
theorem EnvQ.mut {h0 h h' : Hp} {g : Nat} (E : EnvQ h0 h g) (M : Mut (At g) h (At g) h') : EnvQ h0 h' g :=
  ⟨E.t, fun b o hb => M.keep b o (fun e => by rw [show b = g from e, E.n] at hb; cases hb) (E.l b o hb), E.n⟩
theorem EnvQ.now {h0 h : Hp} {g : Nat} (E : EnvQ h0 h g) : TabQ h := E.t.le E.l
structure ElAt {α : Type} (enc : α → List Value) (h : Hp) (g : Nat) (a : Option Addr) (n : Nat) (l : List α) : Prop where
  s : SlP enc h a n l
  ne : ∀ b o, a = some ⟨b, o, none⟩ → b ≠ g
theorem ElAt.mut {α : Type} {enc : α → List Value} {h h' : Hp} {g : Nat} {a : Option Addr} {n : Nat} {l : List α} (N : ElAt enc h g a n l) (M : Mut (At g) h (At g) h') : ElAt enc h' g a n l := by
  refine ⟨⟨N.s.1, (HasRow.del N.s.2 N.ne).le fun b o hb => ?_⟩, N.ne⟩
  by_cases e : b = g
  · subst e; simp [Hp.del] at hb
  · refine M.keep b o (fun h => e h) ?_
    simpa [Hp.del, e] using hb
theorem RdAt.c0 {h0 h : Hp} {g : Nat} {s : RS} (D : RdAt h0 h g s) : ∃ a c, h.cell g 0 = some (vsl a s.ws.length c) := by
  obtain ⟨a, c, hb, _⟩ := D.b
  exact ⟨a, c, (rd_block hb).1⟩
theorem RdAt.c1 {h0 h : Hp} {g : Nat} {s : RS} (D : RdAt h0 h g s) : h.cell g (0 + 1) = some (vi s.deep) := by
  obtain ⟨a, c, hb, _⟩ := D.b
  exact (rd_block hb).2.1
theorem RdAt.c2 {h0 h : Hp} {g : Nat} {s : RS} (D : RdAt h0 h g s) : h.cell g (0 + 2) = some (ifv (errV s.f)) := by
  obtain ⟨a, c, hb, _⟩ := D.b
  exact (rd_block hb).2.2
theorem RdAt.put1 {h0 h : Hp} {g : Nat} {s : RS} (D : RdAt h0 h g s) {d : Int} {K : Hp → Prop} (hK : ∀ h', RdAt h0 h' g ⟨s.ws, d, s.f⟩ → Mut (At g) h (At g) h' → K h') : h.store g (0 + 1) [vi d] K := by
  obtain ⟨a, c, hb, hS, hc⟩ := D.b
  exact rd_put1 hb (hK _ ⟨⟨a, c, Hp.set_same _ _ _, hS, hc⟩, le_put D.l D.n _, D.n, D.w⟩ (mut_set _ _ _))
theorem RdAt.put2 {h0 h : Hp} {g : Nat} {s : RS} (D : RdAt h0 h g s) {f : Int} {K : Hp → Prop} (hK : ∀ h', RdAt h0 h' g ⟨s.ws, s.deep, f⟩ → Mut (At g) h (At g) h' → K h') : h.store g (0 + 2) [ifv (errV f)] K := by
  obtain ⟨a, c, hb, hS, hc⟩ := D.b
  exact rd_put2 hb (hK _ ⟨⟨a, c, Hp.set_same _ _ _, hS, hc⟩, le_put D.l D.n _, D.n, D.w⟩ (mut_set _ _ _))
theorem isD_le {c : UInt8} : (decide (((c.toNat : Nat) : Int) < 48) = false ∧ decide (((c.toNat : Nat) : Int) > 57) = false) ↔ isD c := by
  unfold isD
  constructor
  · rintro ⟨h1, h2⟩
    have h1 := of_decide_eq_false h1
    have h2 := of_decide_eq_false h2
    omega
  · intro h
    exact ⟨decide_eq_false (by omega), decide_eq_false (by omega)⟩
theorem reader_number_ok {h0 h : Hp} {g : Nat} {s : RS} (D : RdAt h0 h g s) (E : EnvQ h0 h g) (hl : s.ws.length ≤ 1000000) {most : Int} (hm : 0 ≤ most) (hm2 : most ≤ 1000000000000) {R : Value → Hp → Prop} (hK : ∀ h', RdAt h0 h' g (s.number most).2 → Mut (At g) h (At g) h' → R (vi (s.number most).1) h') : CallOK Tryz.prog 43 [vhp g 0, vi most] h R := by
  have hfail : (s.number most) = (0, s.fail 4) → CallOK Tryz.prog 69 [vhp g 0, ifv (some (95, vi 4))] h fun v2 h3 => v2 = vtup [] ∧ R (vi 0) h3 := by
    intro e
    rw [e] at hK
    exact reader_fail_ok D (by decide) fun h' D' M => ⟨rfl, hK h' D' M⟩
  obtain ⟨a, c, hb, hS, hc⟩ := D.b
  refine ok_query_reader_number ?_
  unfold VC_query_reader_number
  have hcell := (rd_block hb).1
  have hw := D.w
  obtain ⟨ws, dp, f⟩ := s
  simp only at hb hS hc hcell hw hl
  refine ⟨_, _, _, hcell, fun e => ?_, fun e => ?_⟩
  · have : ws = [] := by
      have := of_decide_eq_true e
      exact List.length_eq_zero_iff.1 (by omega)
    subst this
    exact hfail rfl
  cases ws with
  | nil => simp at e
  | cons w r =>
    obtain ⟨b, o, ha, hc0⟩ := SlP.get1 (SlP.le D.l hS) (i := 0) (by simp)
    have hc1 : h.cell b (o + (0 : Int).toNat * 1) = some (vs (bs w)) := hc0
    have hlen : (0 : Int) < (((w :: r).length : Nat) : Int) := by simp
    have hwl := hw w (List.mem_cons_self ..)
    refine ⟨_, _, _, hcell, b, o, ⟨ha, by decide, hlen⟩, _, hc1, ?_⟩
    refine strconv_Atoi_ok hwl E.now.e (fun v hv => ?_) fun hn x e => ?_
    · match w, hv with
      | [], hv => exact absurd hv (by simp [Lib.atoiAll])
      | c0 :: cs, hv =>
      have hx : Rd Tryz.prog (Instr.index 9 (vs (bs (c0 :: cs))) (vi 0)) h (vk .u8 (c0.toNat : Nat)) := rd_idx (by kernel_rfl) (l := c0 :: cs) (i := 0) (by decide) (by simp)
      refine ⟨_, _, rfl, _, _, _, fun _ => hcell, b, o, fun _ => ⟨ha, by decide, hlen⟩, _, fun _ => hc1, _, fun _ => hx, _, _, _, fun _ => hcell, b, o, fun _ => ⟨ha, by decide, hlen⟩, _, fun _ => hc1, _, fun _ => hx, ?_⟩
      have hnat := atoi_nat hv hm
      have hnum : (⟨(c0 :: cs) :: r, dp, f⟩ : RS).number most = if natF (c0 :: cs) most false < 0 then (0, (⟨(c0 :: cs) :: r, dp, f⟩ : RS).fail 4) else (natF (c0 :: cs) most false, ⟨r, dp, f⟩) := rfl
      have hcond : (bif (bif (bif (Option.isSome (none : Option (TypeId × Value))) then true else (decide (((c0.toNat : Nat) : Int) < 48))) then true else (decide (((c0.toNat : Nat) : Int) > 57))) then true else (decide ((v : Int) > most))) = !decide (isD c0 ∧ v ≤ most) := by
        have hi := @isD_le c0
        rw [show (decide (v > most)) = !decide (v ≤ most) by rw [cnot]; exact decide_eq_decide.2 (by omega)]
        cases h1 : decide (((c0.toNat : Nat) : Int) < 48) <;> cases h2 : decide (((c0.toNat : Nat) : Int) > 57) <;> simp only [h1, h2] at hi <;> simp at hi <;> simp [hi]
      rw [hcond]
      refine ⟨fun e => ?_, fun e => ?_⟩
      · have e2 : ¬ (isD c0 ∧ v ≤ most) := by rw [cnot] at e; exact of_decide_eq_true e
        rw [if_neg e2] at hnat
        rw [hnat, if_pos (by decide)] at hnum
        exact hfail hnum
      · have e2 : isD c0 ∧ v ≤ most := by rw [cnot] at e; exact Decidable.not_not.1 (of_decide_eq_false e)
        rw [if_pos e2] at hnat
        obtain ⟨_, hv2⟩ := atoi_digits e2.1 hv
        rw [hnat, if_neg (by omega)] at hnum
        rw [hnum] at hK
        have hsz : szT Tryz.prog 9 = 1 := by kernel_rfl
        have hr := rd_slice_l (P := Tryz.prog) (h := h) (t := 83) (e := 9) (by kernel_rfl) (by kernel_rfl) (a := a) (n := ((c0 :: cs) :: r).length) (c := c) (x := 1) (by decide) (by simp; omega)
        rw [hsz] at hr
        refine ⟨_, _, _, hcell, _, _, _, hr, rd_put0 hb ?_⟩
        have hS2 := SlP.drop encB_len hS (i := 1) (by simp) hc
        exact hK _ ⟨⟨_, _, Hp.set_same _ _ _, ⟨rfl, hS2.2⟩, by simp at hc ⊢; omega⟩, le_put D.l D.n _, D.n, fun x hx => hw x (List.mem_cons_of_mem _ hx)⟩ (mut_set _ _ _)
    · have no : ∀ {p : Prop}, Option.isSome (some e) = false → p := fun q => by cases q
      refine ⟨x, some e, rfl, none, 0, 0, no, 0, 0, no, ⟨#[]⟩, no, 0, no, none, 0, 0, (fun q => by cases q), 0, 0, (fun q => by cases q), ⟨#[]⟩, (fun q => by cases q), 0, (fun q => by cases q), (fun _ => ?_), (fun q => by cases q)⟩
      have hnat := atoi_none hn hm hm2
      refine hfail ?_
      show (if natF w most false < 0 then (0, (⟨w :: r, dp, f⟩ : RS).fail 4) else (natF w most false, ⟨r, dp, f⟩)) = _
      rw [hnat, if_pos (by decide)]
structure SOk (n : Nat) (s : RS) : Prop where
  good : s.good
  len : s.ws.length < n
  big : s.ws.length ≤ 1000
  d0 : 0 ≤ s.deep
  d1 : s.deep + s.ws.length ≤ 1000000
theorem SOk.goes {n : Nat} {s t : RS} (S : SOk n s) (G : Goes t s) : SOk n t := by
  have h1 := G.len
  have h2 := G.deep
  have := S.len
  have := S.big
  have := S.d0
  have := S.d1
  exact ⟨G.ok, by omega, by omega, by omega, by omega⟩
def Reads (f : FuncId) (P : Ps) (n : Nat) : Prop := ∀ {h0 h : Hp} {g : Nat} {s : RS}, RdAt h0 h g s → EnvQ h0 h g → SOk n s → ∀ {R : Value → Hp → Prop}, (∀ a c h', RdAt h0 h' g (P s).2 → NdAt h h' a (P s).1.length (P s).1 → Mut (At g) h (At g) h' → R (vsl a (P s).1.length c) h') → CallOK Tryz.prog f [vhp g 0] h R
def Bodied (f : FuncId) : Prop := ∃ fn, Tryz.prog.funcs[f]? = some fn ∧ (fn.name == "runtime.NumGoroutine") = false ∧ fn.body.isNone = false
theorem inv_of {f : FuncId} (B : Bodied f) {g : Nat} {h : Hp} {K : Value → Hp → Prop} (H : CallOK Tryz.prog f [vhp g 0] h K) : InvOK Tryz.prog (.func (.func f) #[vhp g 0] #[]) [] h K := ⟨f, _, _, rfl, B, H⟩
theorem reader_down_ok {f : FuncId} {P : Ps} {n : Nat} (B : Bodied f) (F : Reads f P n) (kp : KP P n) {h0 h : Hp} {g : Nat} {s : RS} (D : RdAt h0 h g s) (E : EnvQ h0 h g) (S : SOk n s) (hd : s.deep + s.ws.length < 1000000) {R : Value → Hp → Prop} (hK : ∀ a c h', RdAt h0 h' g (downP P s).2 → NdAt h h' a (downP P s).1.length (downP P s).1 → Mut (At g) h (At g) h' → R (vsl a (downP P s).1.length c) h') : CallOK Tryz.prog 128 [vhp g 0, .func (.func f) #[vhp g 0] #[]] h R := by
  refine ok_query_reader_down ?_
  unfold VC_query_reader_down
  have d0 := S.d0
  refine ⟨_, D.c1, _, isW (by unfold InR; omega), D.put1 fun h3 D3 M3 => ⟨_, D3.c1, ?_⟩⟩
  intro J9
  have key : ∀ (h10 : Hp) (u : RS), RdAt h0 h10 g u → Mut (At g) h (At g) h10 → SOk n u → downP P s = ((P u).1, ⟨(P u).2.ws, (P u).2.deep - 1, (P u).2.f⟩) → J9 h10 := by
    intro h10 u D10 M10 Su hP
    rw [hP] at hK
    have k := kp u Su.good (Nat.le_of_lt Su.len)
    have hdp := k.deep
    have du := Su.d0
    have du1 := Su.d1
    have hg := D.al
    refine inv_of B (F D10 (E.mut M10) Su fun a c h' D' N' M' => ⟨_, _, _, rfl, _, D'.c1, _, isW (by unfold InR; omega), D'.put1 fun h4 D4 M4 => ?_⟩)
    exact hK a c h4 D4 ((N'.base (M10.up D10.al)).mut hg M4) ((M10.trans M').trans M4)
  clear_value J9
  refine ⟨fun e => ?_, fun e => ?_⟩
  · have e2 : s.deep + 1 > 12 := of_decide_eq_true e
    refine reader_fail_ok D3 (by decide) fun h4 D4 M4 => ⟨rfl, key h4 _ D4 (M3.trans M4) ⟨RS.fail_good _ _, by have := S.len; exact Nat.lt_of_le_of_lt (Nat.zero_le _) this, Nat.zero_le _, by show 0 ≤ s.deep + 1; omega, by show s.deep + 1 + ((0 : Nat) : Int) ≤ 1000000; omega⟩ ?_⟩
    unfold downP
    simp only [if_pos e2]
  · have e2 : ¬ s.deep + 1 > 12 := of_decide_eq_false e
    refine key h3 _ D3 M3 ⟨S.good, S.len, S.big, by show 0 ≤ s.deep + 1; omega, by show s.deep + 1 + (s.ws.length : Int) ≤ 1000000; omega⟩ ?_
    unfold downP
    simp only [if_neg e2]
end Go.Proofs.YtejefijpcggkfaaGreatDoor
namespace Go.Proofs.YtejefijpcggkfaaGreatDoor
open Go Go.Vc Go.Txt
set_option linter.unusedVariables false
def signW (op : Int) : Wd := if op = 6 then [43] else if op = 7 then [45] else if op = 8 then [42] else if op = 9 then wAnd else if op = 10 then wOr else if op = 11 then [60] else [61]
def txF (n : Nd) (a b : Wd) : Wd :=
  if n.op = 1 then (if n.v.2 < 0 then [40, 48, 32, 45, 32] ++ Lib.itoa (-n.v.2) ++ [41] else textV n.v)
  else if n.op = 2 then fieldW.getD n.n.toNat []
  else if n.op = 3 then [40, 45, 32] ++ a ++ [41]
  else if n.op = 4 then [40, 110, 111, 116, 32] ++ a ++ [41]
  else if n.op = 5 then [40] ++ a ++ [32, 105, 115, 32, 110, 117, 108, 108, 41]
  else [40] ++ a ++ [32] ++ signW n.op ++ [32] ++ b ++ [41]
abbrev txAt (l : List Nd) (i : Nat) : Wd := fAt [] txF l i
def txE (l : List Nd) : Wd := txAt l (l.length - 1)
def aggT (a : Ag) : Wd := aggsW.getD a.1.toNat [] ++ [40] ++ (if a.1 = 1 then [42] else txE a.2) ++ [41]
def wSel : Wd := [115, 101, 108, 101, 99, 116, 32]
def wFrE : Wd := [32, 102, 114, 111, 109, 32, 101, 118, 101, 110, 116, 115]
def wWhr : Wd := [32, 119, 104, 101, 114, 101, 32]
def wGrp : Wd := [32, 103, 114, 111, 117, 112, 32, 98, 121, 32]
def wWin : Wd := [32, 119, 105, 110, 100, 111, 119, 32]
def wSli : Wd := [32, 115, 108, 105, 100, 101, 32]
def wDel : Wd := [32, 100, 101, 108, 97, 121, 32]
def wLat : Wd := [32, 108, 97, 116, 101, 32]
def wSep : Wd := [44, 32]
def numsT (s : Wd) (q : Qy) : Wd := s ++ wWin ++ Lib.itoa q.size ++ wSli ++ Lib.itoa q.slide ++ wDel ++ Lib.itoa q.delay ++ wLat ++ Lib.itoa q.late
def whT (s : Wd) (q : Qy) : Wd := if q.wh = [] then s else s ++ (wWhr ++ txE q.wh)
def byT (s : Wd) (q : Qy) : Wd := if q.by_ = [] then s else s ++ (wGrp ++ txE q.by_)
def queryT (q : Qy) : Wd := numsT (byT (whT (wSel ++ Lib.join (q.aggs.map aggT) wSep ++ wFrE) q) q) q
structure QOk (q : Qy) : Prop where
  n1 : 1 ≤ q.aggs.length
  n2 : q.aggs.length ≤ 4
  g : ∀ a ∈ q.aggs, 1 ≤ a.1 ∧ a.1 ≤ 5 ∧ (a.1 ≠ 1 → exprF a.2 = 0) ∧ (a.1 = 1 → a.2 = [])
  w : q.wh ≠ [] → exprF q.wh = 0
  b : q.by_ ≠ [] → exprF q.by_ = 0
  s : 1 ≤ q.size ∧ q.size ≤ 1000
  l : 1 ≤ q.slide ∧ q.slide ≤ 1000
  d : 0 ≤ q.delay ∧ q.delay ≤ 1000
  t : 0 ≤ q.late ∧ q.late ≤ 1000
  r : q.slide ≤ q.size ∧ q.size ≤ 4 * q.slide
  ga : ∀ a ∈ q.aggs, a.1 ≠ 1 → typedF a.2 (if a.1 = 2 then 0 else 1) = 0
  wa : q.wh ≠ [] → typedF q.wh 2 = 0
  ba : q.by_ ≠ [] → typedF q.by_ 0 = 0
theorem typedF_expr {l : List Nd} {k : Int} (h : typedF l k = 0) : exprF l = 0 := by
  unfold typedF at h
  split at h
  · rename_i q; exact absurd h q
  · rename_i q; exact Decidable.not_not.1 q
theorem qok_of {q : Qy} (h : qryF q = 0) : QOk q := by
  unfold qryF at h
  split at h
  · cases h
  rename_i h1
  split at h
  · rename_i h2; exact absurd h h2
  rename_i h2
  have h2 := firstF_all (Decidable.not_not.1 h2)
  have h3 := firstF_all h
  have ha : ∀ a ∈ q.aggs, aggF a = 0 := fun a ha => h2 _ (List.mem_map.2 ⟨a, ha, rfl⟩)
  have hw := h3 (if q.wh = [] then 0 else typedF q.wh 2) (by simp)
  have hb := h3 (if q.by_ = [] then 0 else typedF q.by_ 0) (by simp)
  have hn := h3 (numsF q) (by simp)
  have hga : ∀ a ∈ q.aggs, 1 ≤ a.1 ∧ a.1 ≤ 5 ∧ (a.1 ≠ 1 → typedF a.2 (if a.1 = 2 then 0 else 1) = 0) ∧ (a.1 = 1 → a.2 = []) := by
    intro a h4
    have h5 := ha a h4
    unfold aggF at h5
    split at h5
    · cases h5
    · rename_i h6
      refine ⟨by omega, by omega, fun h7 => ?_, fun h7 => ?_⟩
      · rw [if_neg h7] at h5; exact h5
      · exact Decidable.byContradiction fun h8 => h6 (.inr (.inr ⟨h7, h8⟩))
  have hwa : q.wh ≠ [] → typedF q.wh 2 = 0 := fun h4 => by rw [if_neg h4] at hw; exact hw
  have hba : q.by_ ≠ [] → typedF q.by_ 0 = 0 := fun h4 => by rw [if_neg h4] at hb; exact hb
  have hnn : ¬ (q.size < 1 ∨ q.size > 1000 ∨ q.slide < 1 ∨ q.slide > 1000 ∨ q.delay < 0 ∨ q.delay > 1000 ∨ q.late < 0 ∨ q.late > 1000) ∧ ¬ (q.slide > q.size ∨ q.size > 4 * q.slide) := by
    unfold numsF at hn
    split at hn
    · cases hn
    · rename_i h4
      split at hn
      · cases hn
      · rename_i h5; exact ⟨h4, h5⟩
  exact ⟨by omega, by omega, fun a h4 => ⟨(hga a h4).1, (hga a h4).2.1, fun h5 => typedF_expr ((hga a h4).2.2.1 h5), (hga a h4).2.2.2⟩, fun h4 => typedF_expr (hwa h4), fun h4 => typedF_expr (hba h4), by omega, by omega, by omega, by omega, by omega, fun a h4 h5 => (hga a h4).2.2.1 h5, hwa, hba⟩
end Go.Proofs.YtejefijpcggkfaaGreatDoor
namespace Go.Proofs.YtejefijpcggkfaaGreatDoor
open Go Go.Vc
set_option maxRecDepth 100000
set_option linter.unusedVariables false
def VC_query_typed (u_la : Option Addr) (u_ln u_lc : Nat) (u_kind : Int) (h : Hp) (R : Value → Hp → Prop) : Prop :=
  (CallOK Tryz.prog 109 [(vsl u_la u_ln u_lc)] h fun v1 h2 => ∃ (e3 : Option (TypeId × Value)), v1 = (ifv e3) ∧ (((Option.isSome e3) = true → R (ifv e3) h2) ∧ ((Option.isSome e3) = false → (CallOK Tryz.prog 110 [(vsl u_la u_ln u_lc)] h2 fun v5 h6 => ∃ (x7 : Int) (e8 : Option (TypeId × Value)), v5 = (vtup [(vi x7), (ifv e8)]) ∧ (let J11 : Option (TypeId × Value) → Prop := fun (e12 : Option (TypeId × Value)) => R (ifv e12) h6; (((bif (bif (bif (Option.isNone e8) then (decide ((u_kind : Int) ≠ 0)) else false) then (decide ((x7 : Int) ≠ u_kind)) else false) then (decide ((x7 : Int) ≠ 0)) else false) = true → (J11 (some (95, (vi 3))))) ∧ ((bif (bif (bif (Option.isNone e8) then (decide ((u_kind : Int) ≠ 0)) else false) then (decide ((x7 : Int) ≠ u_kind)) else false) then (decide ((x7 : Int) ≠ 0)) else false) = false → (J11 e8))))))))
theorem ok_query_typed {u_la : Option Addr} {u_ln u_lc : Nat} {u_kind : Int} {h : Hp} {R : Value → Hp → Prop} (H : VC_query_typed u_la u_ln u_lc u_kind h R) : CallOK Tryz.prog 75 [(vsl u_la u_ln u_lc), (vi u_kind)] h R :=
  call_of (cfg := ⟨[], [], []⟩) noNG mixed Tryz.func75 [.one (.v (vsl u_la u_ln u_lc)), .one (.v (vi u_kind))] (by kernel_rfl) rfl (by kernel_rfl) H
def VC_query_numbers (u_qAggsa : Option Addr) (u_qAggsn u_qAggsc : Nat) (u_qWherea : Option Addr) (u_qWheren u_qWherec : Nat) (u_qBya : Option Addr) (u_qByn u_qByc : Nat) (u_qSize : Int) (u_qSlide : Int) (u_qDelay : Int) (u_qLate : Int) (h : Hp) (R : Value → Hp → Prop) : Prop :=
  (∀ (b1 : Nat), h b1 = none → let h2 : Hp := Hp.set h b1 (cellsO [(vi u_qSize), (vi u_qSlide)] 3); (∃ (I4 : List Value → Hp → Prop) (m5 : List Value → Hp → Nat), I4 [(vi 0)] h2 ∧ ∀ (vs6 : List Value) (h7 : Hp), I4 vs6 h7 → ∃ (x8 : Int), vs6 = [(vi x8)] ∧ (((decide ((x8 : Int) < ((2 : Nat) : Int))) = true → (∃ (b11 o12 : Nat), ((some (⟨b1, 0, none⟩ : Addr)) = some ⟨b11, o12, none⟩ ∧ (0 : Int) ≤ x8 ∧ x8 < ((2 : Nat) : Int)) ∧ (∃ (x13 : Int), (Hp.cell h7 b11 (o12 + x8.toNat * 1) = some (vi x13)) ∧ (((bif (decide ((x13 : Int) < 1)) then true else (decide ((x13 : Int) > 1000))) = true → R (ifv (some (95, (vi 1)))) h7) ∧ ((bif (decide ((x13 : Int) < 1)) then true else (decide ((x13 : Int) > 1000))) = false → (∃ (x15 : Int), (IsW x15 (x8 + 1)) ∧ (I4 [(vi x15)] h7 ∧ m5 [(vi x15)] h7 < m5 vs6 h7))))))) ∧ ((decide ((x8 : Int) < ((2 : Nat) : Int))) = false → (∀ (b16 : Nat), h7 b16 = none → let h17 : Hp := Hp.set h7 b16 (cellsO [(vi u_qDelay), (vi u_qLate)] 3); (∃ (I19 : List Value → Hp → Prop) (m20 : List Value → Hp → Nat), I19 [(vi 0)] h17 ∧ ∀ (vs21 : List Value) (h22 : Hp), I19 vs21 h22 → ∃ (x23 : Int), vs21 = [(vi x23)] ∧ (((decide ((x23 : Int) < ((2 : Nat) : Int))) = true → (∃ (b26 o27 : Nat), ((some (⟨b16, 0, none⟩ : Addr)) = some ⟨b26, o27, none⟩ ∧ (0 : Int) ≤ x23 ∧ x23 < ((2 : Nat) : Int)) ∧ (∃ (x28 : Int), (Hp.cell h22 b26 (o27 + x23.toNat * 1) = some (vi x28)) ∧ (((bif (decide ((x28 : Int) < 0)) then true else (decide ((x28 : Int) > 1000))) = true → R (ifv (some (95, (vi 1)))) h22) ∧ ((bif (decide ((x28 : Int) < 0)) then true else (decide ((x28 : Int) > 1000))) = false → (∃ (x30 : Int), (IsW x30 (x23 + 1)) ∧ (I19 [(vi x30)] h22 ∧ m20 [(vi x30)] h22 < m20 vs21 h22))))))) ∧ ((decide ((x23 : Int) < ((2 : Nat) : Int))) = false → (∃ (x31 : Int), ((decide ((u_qSlide : Int) > u_qSize)) = false → IsW x31 (4 * u_qSlide)) ∧ (((bif (decide ((u_qSlide : Int) > u_qSize)) then true else (decide ((u_qSize : Int) > x31))) = true → R (ifv (some (95, (vi 3)))) h22) ∧ ((bif (decide ((u_qSlide : Int) > u_qSize)) then true else (decide ((u_qSize : Int) > x31))) = false → R (ifv none) h22)))))))))))
theorem ok_query_numbers {u_qAggsa : Option Addr} {u_qAggsn u_qAggsc : Nat} {u_qWherea : Option Addr} {u_qWheren u_qWherec : Nat} {u_qBya : Option Addr} {u_qByn u_qByc : Nat} {u_qSize : Int} {u_qSlide : Int} {u_qDelay : Int} {u_qLate : Int} {h : Hp} {R : Value → Hp → Prop} (H : VC_query_numbers u_qAggsa u_qAggsn u_qAggsc u_qWherea u_qWheren u_qWherec u_qBya u_qByn u_qByc u_qSize u_qSlide u_qDelay u_qLate h R) : CallOK Tryz.prog 76 [(vag [(vsl u_qAggsa u_qAggsn u_qAggsc), (vsl u_qWherea u_qWheren u_qWherec), (vsl u_qBya u_qByn u_qByc), (vi u_qSize), (vi u_qSlide), (vi u_qDelay), (vi u_qLate)])] h R :=
  call_of (cfg := ⟨[], [(2, ([13], [.one (.int .i64)], [])), (8, ([31], [.one (.int .i64)], []))], []⟩) noNG mixed Tryz.func76 [.ag [.v (vsl u_qAggsa u_qAggsn u_qAggsc), .v (vsl u_qWherea u_qWheren u_qWherec), .v (vsl u_qBya u_qByn u_qByc), .v (vi u_qSize), .v (vi u_qSlide), .v (vi u_qDelay), .v (vi u_qLate)]] (by kernel_rfl) rfl (by kernel_rfl) H
def VC_query_Check (u_qAggsa : Option Addr) (u_qAggsn u_qAggsc : Nat) (u_qWherea : Option Addr) (u_qWheren u_qWherec : Nat) (u_qBya : Option Addr) (u_qByn u_qByc : Nat) (u_qSize : Int) (u_qSlide : Int) (u_qDelay : Int) (u_qLate : Int) (h : Hp) (R : Value → Hp → Prop) : Prop :=
  (((bif (decide ((((u_qAggsn : Nat) : Int) : Int) < 1)) then true else (decide ((((u_qAggsn : Nat) : Int) : Int) > 4))) = true → R (ifv (some (95, (vi 2)))) h) ∧ ((bif (decide ((((u_qAggsn : Nat) : Int) : Int) < 1)) then true else (decide ((((u_qAggsn : Nat) : Int) : Int) > 4))) = false → (∃ (I3 : List Value → Hp → Prop) (m4 : List Value → Hp → Nat), I3 [(vi 0)] h ∧ ∀ (vs5 : List Value) (h6 : Hp), I3 vs5 h6 → ∃ (x7 : Int), vs5 = [(vi x7)] ∧ (((decide ((x7 : Int) < ((u_qAggsn : Nat) : Int))) = true → (let J25 : Hp → Prop := fun (h26 : Hp) => (∃ (x27 : Int), (IsW x27 (x7 + 1)) ∧ (I3 [(vi x27)] h26 ∧ m4 [(vi x27)] h26 < m4 vs5 h6)); (∃ (b10 o11 : Nat), (u_qAggsa = some ⟨b10, o11, none⟩ ∧ (0 : Int) ≤ x7 ∧ x7 < ((u_qAggsn : Nat) : Int)) ∧ (∃ (x12 : Int) (a13 : Option Addr) (n13 c13 : Nat), (Hp.row h6 b10 (o11 + x7.toNat * 2) 2 = some [(vi x12), (vsl a13 n13 c13)]) ∧ (((bif (bif (decide ((x12 : Int) < 1)) then true else (decide ((x12 : Int) > 5))) then true else (bif (decide ((x12 : Int) = 1)) then (decide ((((n13 : Nat) : Int) : Int) > 0)) else false)) = true → R (ifv (some (95, (vi 3)))) h6) ∧ ((bif (bif (decide ((x12 : Int) < 1)) then true else (decide ((x12 : Int) > 5))) then true else (bif (decide ((x12 : Int) = 1)) then (decide ((((n13 : Nat) : Int) : Int) > 0)) else false)) = false → (((decide ((x12 : Int) = 1)) = true → (J25 h6)) ∧ ((decide ((x12 : Int) = 1)) = false → (let J19 : Int → Prop := fun (x20 : Int) => (CallOK Tryz.prog 75 [(vsl a13 n13 c13), (vi x20)] h6 fun v21 h22 => ∃ (e23 : Option (TypeId × Value)), v21 = (ifv e23) ∧ (((Option.isSome e23) = true → R (ifv e23) h22) ∧ ((Option.isSome e23) = false → (J25 h22)))); (((decide ((x12 : Int) = 2)) = true → (J19 0)) ∧ ((decide ((x12 : Int) = 2)) = false → (J19 1)))))))))))) ∧ ((decide ((x7 : Int) < ((u_qAggsn : Nat) : Int))) = false → (let J33 : Hp → Prop := fun (h34 : Hp) => (let J40 : Hp → Prop := fun (h41 : Hp) => (CallOK Tryz.prog 76 [(vag [(vsl u_qAggsa u_qAggsn u_qAggsc), (vsl u_qWherea u_qWheren u_qWherec), (vsl u_qBya u_qByn u_qByc), (vi u_qSize), (vi u_qSlide), (vi u_qDelay), (vi u_qLate)])] h41 fun v42 h43 => ∃ (e44 : Option (TypeId × Value)), v42 = (ifv e44) ∧ R (ifv e44) h43); (((decide ((((u_qByn : Nat) : Int) : Int) > 0)) = true → (CallOK Tryz.prog 75 [(vsl u_qBya u_qByn u_qByc), (vi 0)] h34 fun v35 h36 => ∃ (e37 : Option (TypeId × Value)), v35 = (ifv e37) ∧ (((Option.isSome e37) = true → R (ifv e37) h36) ∧ ((Option.isSome e37) = false → (J40 h36))))) ∧ ((decide ((((u_qByn : Nat) : Int) : Int) > 0)) = false → (J40 h34)))); (((decide ((((u_qWheren : Nat) : Int) : Int) > 0)) = true → (CallOK Tryz.prog 75 [(vsl u_qWherea u_qWheren u_qWherec), (vi 2)] h6 fun v28 h29 => ∃ (e30 : Option (TypeId × Value)), v28 = (ifv e30) ∧ (((Option.isSome e30) = true → R (ifv e30) h29) ∧ ((Option.isSome e30) = false → (J33 h29))))) ∧ ((decide ((((u_qWheren : Nat) : Int) : Int) > 0)) = false → (J33 h6)))))))))
theorem ok_query_Check {u_qAggsa : Option Addr} {u_qAggsn u_qAggsc : Nat} {u_qWherea : Option Addr} {u_qWheren u_qWherec : Nat} {u_qBya : Option Addr} {u_qByn u_qByc : Nat} {u_qSize : Int} {u_qSlide : Int} {u_qDelay : Int} {u_qLate : Int} {h : Hp} {R : Value → Hp → Prop} (H : VC_query_Check u_qAggsa u_qAggsn u_qAggsc u_qWherea u_qWheren u_qWherec u_qBya u_qByn u_qByc u_qSize u_qSlide u_qDelay u_qLate h R) : CallOK Tryz.prog 45 [(vag [(vsl u_qAggsa u_qAggsn u_qAggsc), (vsl u_qWherea u_qWheren u_qWherec), (vsl u_qBya u_qByn u_qByc), (vi u_qSize), (vi u_qSlide), (vi u_qDelay), (vi u_qLate)])] h R :=
  call_of (cfg := ⟨[], [(4, ([23], [.one (.int .i64)], []))], []⟩) noNG mixed Tryz.func45 [.ag [.v (vsl u_qAggsa u_qAggsn u_qAggsc), .v (vsl u_qWherea u_qWheren u_qWherec), .v (vsl u_qBya u_qByn u_qByc), .v (vi u_qSize), .v (vi u_qSlide), .v (vi u_qDelay), .v (vi u_qLate)]] (by kernel_rfl) rfl (by kernel_rfl) H
end Go.Proofs.YtejefijpcggkfaaGreatDoor
namespace Go.Proofs.YtejefijpcggkfaaGreatDoor
open Go Go.Vc
set_option maxRecDepth 100000
set_option linter.unusedVariables false
def VC_expr_one (u_nOp : Int) (u_nX : Int) (u_nY : Int) (u_nN : Int) (u_nValKind : Int) (u_nValN : Int) (h : Hp) (R : Value → Hp → Prop) : Prop :=
  (CallOK Tryz.prog 135 [(vi u_nOp)] h fun v1 h2 => ∃ (x3 : Int), v1 = (vi x3) ∧ (((decide ((x3 : Int) < 0)) = true → R (ifv (some (95, (vi 3)))) h2) ∧ ((decide ((x3 : Int) < 0)) = false → (∃ (p5 : Bool), ((decide ((u_nOp : Int) ≠ 1)) = true → Rd Tryz.prog ((eqGuard .neq 33 (.tmp 15) (.tmp 16) (vag [(vi u_nValKind), (vi u_nValN)]) (vag [(vi 0), (vi 0)]) >>= fun _ => binOp .neq 33 (vag [(vi u_nValKind), (vi u_nValN)]) (vag [(vi 0), (vi 0)]))) h2 (vb p5)) ∧ (((bif (bif (bif (bif (decide ((u_nOp : Int) ≠ 1)) then p5 else false) then true else (bif (decide ((u_nOp : Int) ≠ 2)) then (decide ((u_nN : Int) ≠ 0)) else false)) then true else (bif (decide ((x3 : Int) < 2)) then (decide ((u_nY : Int) ≠ 0)) else false)) then true else (bif (decide ((x3 : Int) < 1)) then (decide ((u_nX : Int) ≠ 0)) else false)) = true → R (ifv (some (95, (vi 3)))) h2) ∧ ((bif (bif (bif (bif (decide ((u_nOp : Int) ≠ 1)) then p5 else false) then true else (bif (decide ((u_nOp : Int) ≠ 2)) then (decide ((u_nN : Int) ≠ 0)) else false)) then true else (bif (decide ((x3 : Int) < 2)) then (decide ((u_nY : Int) ≠ 0)) else false)) then true else (bif (decide ((x3 : Int) < 1)) then (decide ((u_nX : Int) ≠ 0)) else false)) = false → (((bif (decide ((u_nOp : Int) = 2)) then (bif (decide ((u_nN : Int) < 0)) then true else (decide ((u_nN : Int) > 3))) else false) = true → R (ifv (some (95, (vi 1)))) h2) ∧ ((bif (decide ((u_nOp : Int) = 2)) then (bif (decide ((u_nN : Int) < 0)) then true else (decide ((u_nN : Int) > 3))) else false) = false → (CallOK Tryz.prog 77 [(vag [(vi u_nValKind), (vi u_nValN)])] h2 fun v8 h9 => ∃ (e10 : Option (TypeId × Value)), v8 = (ifv e10) ∧ R (ifv e10) h9)))))))))
theorem ok_expr_one {u_nOp : Int} {u_nX : Int} {u_nY : Int} {u_nN : Int} {u_nValKind : Int} {u_nValN : Int} {h : Hp} {R : Value → Hp → Prop} (H : VC_expr_one u_nOp u_nX u_nY u_nN u_nValKind u_nValN h R) : CallOK Tryz.prog 134 [(vag [(vi u_nOp), (vi u_nX), (vi u_nY), (vi u_nN), (vi u_nValKind), (vi u_nValN)])] h R :=
  call_of (cfg := ⟨[], [], []⟩) noNG mixed Tryz.func134 [.ag [.v (vi u_nOp), .v (vi u_nX), .v (vi u_nY), .v (vi u_nN), .v (vi u_nValKind), .v (vi u_nValN)]] (by kernel_rfl) rfl (by kernel_rfl) H
def VC_expr_Check (u_la : Option Addr) (u_ln u_lc : Nat) (h : Hp) (R : Value → Hp → Prop) : Prop :=
  (((decide ((((u_ln : Nat) : Int) : Int) > 40)) = true → R (ifv (some (95, (vi 2)))) h) ∧ ((decide ((((u_ln : Nat) : Int) : Int) > 40)) = false → (∃ (I3 : List Value → Hp → Prop) (m4 : List Value → Hp → Nat), I3 [(vsl none 0 0), (vi 0)] h ∧ ∀ (vs5 : List Value) (h6 : Hp), I3 vs5 h6 → ∃ (a7 : Option Addr) (n7 c7 : Nat) (x8 : Int), vs5 = [(vsl a7 n7 c7), (vi x8)] ∧ (((decide ((x8 : Int) < ((u_ln : Nat) : Int))) = true → (∃ (b11 o12 : Nat), (u_la = some ⟨b11, o12, none⟩ ∧ (0 : Int) ≤ x8 ∧ x8 < ((u_ln : Nat) : Int)) ∧ (∃ (x13 : Int) (x14 : Int) (x15 : Int) (x16 : Int) (x17 : Int) (x18 : Int), (Hp.row h6 b11 (o12 + x8.toNat * 6) 6 = some [(vi x13), (vi x14), (vi x15), (vi x16), (vi x17), (vi x18)]) ∧ (CallOK Tryz.prog 134 [(vag [(vi x13), (vi x14), (vi x15), (vi x16), (vi x17), (vi x18)])] h6 fun v19 h20 => ∃ (e21 : Option (TypeId × Value)), v19 = (ifv e21) ∧ (((Option.isSome e21) = true → R (ifv e21) h20) ∧ ((Option.isSome e21) = false → (CallOK Tryz.prog 135 [(vi x13)] h20 fun v23 h24 => ∃ (x25 : Int), v23 = (vi x25) ∧ (((decide ((x25 : Int) > ((n7 : Nat) : Int))) = true → R (ifv (some (95, (vi 3)))) h24) ∧ ((decide ((x25 : Int) > ((n7 : Nat) : Int))) = false → (∃ (x27 : Int), (IsW x27 (((n7 : Nat) : Int) - x25)) ∧ (∃ (a28 : Option Addr) (n28 c28 : Nat), (Rd Tryz.prog (Instr.sliceAt 57 (vsl a7 n7 c7) (some (vi x27)) none none) h24 (vsl a28 n28 c28)) ∧ (∃ (b29 o30 : Nat), ((decide ((x25 : Int) > 0)) = true → (a28 = some ⟨b29, o30, none⟩ ∧ (0 : Int) ≤ 0 ∧ 0 < ((n28 : Nat) : Int))) ∧ (∃ (x31 : Int), ((decide ((x25 : Int) > 0)) = true → Hp.cell h24 b29 (o30 + (0 : Int).toNat * 1) = some (vi x31)) ∧ (∃ (b32 o33 : Nat), (((bif (decide ((x25 : Int) > 0)) then (decide ((x31 : Int) ≠ x14)) else false) = false ∧ (decide ((x25 : Int) > 1)) = true) → (a28 = some ⟨b32, o33, none⟩ ∧ (0 : Int) ≤ 1 ∧ 1 < ((n28 : Nat) : Int))) ∧ (∃ (x34 : Int), (((bif (decide ((x25 : Int) > 0)) then (decide ((x31 : Int) ≠ x14)) else false) = false ∧ (decide ((x25 : Int) > 1)) = true) → Hp.cell h24 b32 (o33 + (1 : Int).toNat * 1) = some (vi x34)) ∧ (((bif (bif (decide ((x25 : Int) > 0)) then (decide ((x31 : Int) ≠ x14)) else false) then true else (bif (decide ((x25 : Int) > 1)) then (decide ((x34 : Int) ≠ x15)) else false)) = true → R (ifv (some (95, (vi 3)))) h24) ∧ ((bif (bif (decide ((x25 : Int) > 0)) then (decide ((x31 : Int) ≠ x14)) else false) then true else (bif (decide ((x25 : Int) > 1)) then (decide ((x34 : Int) ≠ x15)) else false)) = false → (∃ (x36 : Int), (IsW x36 (((n7 : Nat) : Int) - x25)) ∧ (∃ (a37 : Option Addr) (n37 c37 : Nat), (Rd Tryz.prog (Instr.sliceAt 57 (vsl a7 n7 c7) none (some (vi x36)) none) h24 (vsl a37 n37 c37)) ∧ (∀ (b38 : Nat), h24 b38 = none → let h39 : Hp := Hp.set h24 b38 (cellsO [(vi x8)] 3); (SemOK Tryz.prog (Builtin.append_ #[57, 57] 57 #[(vsl a37 n37 c37), (vsl (some (⟨b38, 0, none⟩ : Addr)) 1 1)]) h39 fun v40 h41 => ∃ (a42 : Option Addr) (n42 c42 : Nat), v40 = (vsl a42 n42 c42) ∧ (∃ (x44 : Int), (IsW x44 (x8 + 1)) ∧ (I3 [(vsl a42 n42 c42), (vi x44)] h41 ∧ m4 [(vsl a42 n42 c42), (vi x44)] h41 < m4 vs5 h6))))))))))))))))))))))) ∧ ((decide ((x8 : Int) < ((u_ln : Nat) : Int))) = false → (((decide ((((n7 : Nat) : Int) : Int) ≠ 1)) = true → R (ifv (some (95, (vi 3)))) h6) ∧ ((decide ((((n7 : Nat) : Int) : Int) ≠ 1)) = false → R (ifv none) h6)))))))
theorem ok_expr_Check {u_la : Option Addr} {u_ln u_lc : Nat} {h : Hp} {R : Value → Hp → Prop} (H : VC_expr_Check u_la u_ln u_lc h R) : CallOK Tryz.prog 109 [(vsl u_la u_ln u_lc)] h R :=
  call_of (cfg := ⟨[], [(5, ([3, 15], [.one (.slice), .one (.int .i64)], []))], [(14, [0, 1, 2, 3, 4, 5, 6, 7, 8, 9, 10, 11, 12, 13, 14, 15, 16, 17, 18, 19, 20, 21])]⟩) noNG mixed Tryz.func109 [.one (.v (vsl u_la u_ln u_lc))] (by kernel_rfl) rfl (by kernel_rfl) H
end Go.Proofs.YtejefijpcggkfaaGreatDoor
namespace Go.Proofs.YtejefijpcggkfaaGreatDoor
open Go Go.Vc
set_option maxRecDepth 100000
set_option linter.unusedVariables false
def VC_value_Check (u_vKind : Int) (u_vN : Int) (h : Hp) (R : Value → Hp → Prop) : Prop :=
  (let J4 : Bool → Prop := fun (p5 : Bool) => ((p5 = true → R (ifv none) h) ∧ (p5 = false → R (ifv (some (95, (vi 3)))) h)); (((bif (decide ((u_vKind : Int) = 0)) then (decide ((u_vN : Int) = 0)) else false) = true → (J4 (bif (decide ((u_vKind : Int) = 0)) then (decide ((u_vN : Int) = 0)) else false))) ∧ ((bif (decide ((u_vKind : Int) = 0)) then (decide ((u_vN : Int) = 0)) else false) = false → (((bif (bif (decide ((u_vKind : Int) = 1)) then (decide ((u_vN : Int) ≥ (-1000000000))) else false) then (decide ((u_vN : Int) ≤ 1000000000)) else false) = true → (J4 (bif (bif (decide ((u_vKind : Int) = 1)) then (decide ((u_vN : Int) ≥ (-1000000000))) else false) then (decide ((u_vN : Int) ≤ 1000000000)) else false))) ∧ ((bif (bif (decide ((u_vKind : Int) = 1)) then (decide ((u_vN : Int) ≥ (-1000000000))) else false) then (decide ((u_vN : Int) ≤ 1000000000)) else false) = false → (J4 (bif (decide ((u_vKind : Int) = 2)) then (bif (decide ((u_vN : Int) = 0)) then true else (decide ((u_vN : Int) = 1))) else false)))))))
theorem ok_value_Check {u_vKind : Int} {u_vN : Int} {h : Hp} {R : Value → Hp → Prop} (H : VC_value_Check u_vKind u_vN h R) : CallOK Tryz.prog 77 [(vag [(vi u_vKind), (vi u_vN)])] h R :=
  call_of (cfg := ⟨[], [], []⟩) noNG mixed Tryz.func77 [.ag [.v (vi u_vKind), .v (vi u_vN)]] (by kernel_rfl) rfl (by kernel_rfl) H
end Go.Proofs.YtejefijpcggkfaaGreatDoor
namespace Go.Proofs.YtejefijpcggkfaaGreatDoor
open Go Go.Vc
set_option linter.unusedVariables false
theorem value_Check_ok {v : Int × Int} {h : Hp} {R : Value → Hp → Prop} (hK : R (ifv (errV (if goodV v then 0 else 3))) h) : CallOK Tryz.prog 77 [vag (encV v)] h R := by
  refine ok_value_Check ?_
  unfold VC_value_Check
  intro J4
  have yes : goodV v → J4 true := fun hg => ⟨fun _ => by rw [if_pos hg] at hK; exact hK, fun e => by cases e⟩
  have no : ¬ goodV v → J4 false := fun hg => ⟨fun e => (by cases e), fun _ => by rw [if_neg hg] at hK; exact hK⟩
  refine ⟨fun e => ?_, fun e => ⟨fun e2 => ?_, fun e2 => ?_⟩⟩
  · rw [e]; exact yes (by unfold goodV; simp [Bool.cond_eq_ite] at e; omega)
  · rw [e2]; exact yes (by unfold goodV; simp [Bool.cond_eq_ite] at e2; omega)
  · by_cases hg : goodV v
    · have : (bif (decide (v.1 = 2)) then (bif (decide (v.2 = 0)) then true else (decide (v.2 = 1))) else false) = true := by
        unfold goodV at hg
        simp [Bool.cond_eq_ite] at e e2 ⊢
        omega
      rw [this]; exact yes hg
    · have : (bif (decide (v.1 = 2)) then (bif (decide (v.2 = 0)) then true else (decide (v.2 = 1))) else false) = false := by
        unfold goodV at hg
        simp [Bool.cond_eq_ite]
        omega
      rw [this]; exact no hg
end Go.Proofs.YtejefijpcggkfaaGreatDoor
namespace Go.Proofs.YtejefijpcggkfaaGreatDoor
open Go Go.Vc
set_option linter.unusedVariables false
set_option maxRecDepth 100000
theorem eq_pair (v : Int × Int) : (v = (0, 0)) = (v.1 = 0 ∧ v.2 = 0) := propext ⟨fun h => by rw [h]; exact ⟨rfl, rfl⟩, fun h => Prod.ext h.1 h.2⟩
theorem expr_one_ok {n : Nd} {h : Hp} {R : Value → Hp → Prop} (hK : R (ifv (errV (nodeF n))) h) : CallOK Tryz.prog 134 [vag (encN n)] h R := by
  refine ok_expr_one ?_
  unfold VC_expr_one
  unfold nodeF at hK
  refine expr_Arity_ok ⟨_, rfl, fun q => ?_, fun q => ⟨_, fun _ => rd_neqV (a := n.v) (b := (0, 0)), fun q2 => ?_, fun q2 => ⟨fun q3 => ?_, fun q3 => value_Check_ok (v := n.v) ⟨_, rfl, ?_⟩⟩⟩⟩
  · rw [if_pos (of_decide_eq_true q)] at hK; exact hK
  all_goals
    have c1 := of_decide_eq_false q
    simp only [cand, cor, cnot] at *
  · have c2 := of_decide_eq_true q2
    rw [if_neg c1, if_pos (by simp only [ne_eq, eq_pair] at c2 ⊢; omega)] at hK
    exact hK
  · have c2 := of_decide_eq_false q2
    have c3 := of_decide_eq_true q3
    rw [if_neg c1, if_neg (by simp only [ne_eq, eq_pair] at c2 ⊢; omega), if_pos c3] at hK
    exact hK
  · have c2 := of_decide_eq_false q2
    have c3 := of_decide_eq_false q3
    rw [if_neg c1, if_neg (by simp only [ne_eq, eq_pair] at c2 ⊢; omega), if_neg c3] at hK
    by_cases hg : goodV n.v
    · rw [if_neg (by simp [hg])] at hK
      rw [if_pos hg]; exact hK
    · rw [if_pos hg] at hK
      rw [if_neg hg]; exact hK
theorem expr_Check_ok {a : Option Addr} {k c : Nat} {l : List Nd} {h : Hp} {R : Value → Hp → Prop} (S : SlP encN h a k l) (hK : ∀ h', h.le h' → R (ifv (errV (exprF l))) h') : CallOK Tryz.prog 109 [vsl a k c] h R := by
  refine ok_expr_Check ?_
  unfold VC_expr_Check
  have hk := S.1
  subst hk
  refine ⟨fun e => ?_, fun e => ?_⟩
  · have : exprF l = 2 := by unfold exprF; rw [if_pos (by have := of_decide_eq_true e; omega)]
    rw [this] at hK; exact hK h (Hp.le_refl h)
  have h40 : l.length ≤ 40 := by have := of_decide_eq_false e; omega
  have e1 : exprF l = chkGo [] 0 l := by unfold exprF; rw [if_neg (by omega)]
  rw [e1] at hK
  refine ⟨fun vs hh => ∃ (i : Nat) (a : Option Addr) (c : Nat) (st : List Int), vs = [vsl a st.length c, vi i] ∧ i ≤ l.length ∧ st.length ≤ i ∧ chkGo [] 0 l = chkGo st i (l.drop i) ∧ OwnV h hh 3 1 a st.length c (st.reverse.map vi), fun vs hh => l.length - (vint vs 1).toNat,
    ⟨0, none, 0, [], rfl, Nat.zero_le _, Nat.le_refl _, rfl, OwnV.nil (Hp.le_refl h) _ _⟩, ?_⟩
  rintro vs hh ⟨i, a1, c1, st, rfl, hi, hst, hc, O⟩
  refine ⟨_, _, _, _, rfl, fun q => ?_, fun q => ?_⟩
  · have hlt : i < l.length := by have := of_decide_eq_true q; omega
    have hx : l[i]? = some l[i] := List.getElem?_eq_getElem hlt
    rw [drop_get hlt] at hc
    obtain ⟨b, o, ha, hr⟩ := (S.le O.le).get encN_len (by decide) hx
    generalize l[i] = n at *
    refine ⟨b, o, ⟨ha, by omega, by omega⟩, _, _, _, _, _, _, hr, expr_one_ok (n := n) ⟨_, rfl, fun q2 => ?_, fun q2 => expr_Arity_ok ⟨_, rfl, ?_⟩⟩⟩
    · rw [errV_some] at q2
      have hf : nodeF n ≠ 0 := by simpa using q2
      rw [chk_fault rfl hf] at hc
      rw [hc] at hK; exact hK hh O.le
    rw [errV_some] at q2
    have hf : nodeF n = 0 := by simpa using q2
    have har : 0 ≤ arI n.op := nodeF_ar hf
    have SI : SlI hh a1 st.length st.reverse := by have := O.sli; exact this
    have hbad : popN n st = none → R (ifv (errV 3)) hh := fun hp => by
      rw [chk_none hf hp] at hc
      rw [hc] at hK; exact hK hh O.le
    have hcap := O.own.cap
    have hgood : ∀ s, popN n st = some s → ∀ x : Int, x = (st.length : Nat) - arI n.op → ∀ K : Value → Hp → Prop, (∀ (a46 : Option Addr) (n46 c46 : Nat) (h45 : Hp), OwnV h h45 3 1 a46 n46 c46 ((((i : Int) :: s).reverse).map vi) → n46 = s.length + 1 → K (vsl a46 n46 c46) h45) →
        ∃ (a38 : Option Addr) (n38 c38 : Nat), (Rd Tryz.prog (Instr.sliceAt 57 (vsl a1 st.length c1) none (some (vi x)) none) hh (vsl a38 n38 c38)) ∧ (∀ (b42 : Nat), hh b42 = none → SemOK Tryz.prog (Builtin.append_ #[57, 57] 57 #[(vsl a38 n38 c38), (vsl (some (⟨b42, 0, none⟩ : Addr)) 1 1)]) (Hp.set hh b42 (cellsO [(vi i)] 3)) K) := by
      intro s hs x hx K hK
      rw [hx]
      obtain ⟨p1, p2⟩ := popN_some har hs
      rw [← p1]
      refine ⟨_, _, _, rd_slice_h (e := 3) (by kernel_rfl) (by kernel_rfl) (by omega) (by omega), fun b42 hb42 => ?_⟩
      rw [Int.toNat_natCast]
      have OC : OwnV h hh 3 1 a1 s.length c1 (s.reverse.map vi) := by
        have := O.cut (m := s.length) (by omega)
        rw [Nat.mul_one, ← List.map_take, p2] at this
        exact this
      refine OwnV.append elInt (OwnV.set hb42 _ OC) (HasRow.new _ _ [vi i] _) (m := 1) rfl (by simp [Value.oneCell']) (by omega) (by omega) fun a2 c2 h2 O2 _ _ => hK _ _ _ _ ?_ rfl
      rw [List.reverse_cons, List.map_append]
      exact O2
    have hnext : ∀ s, popN n st = some s → ∀ (a46 : Option Addr) (n46 c46 : Nat) (h45 : Hp), OwnV h h45 3 1 a46 n46 c46 ((((i : Int) :: s).reverse).map vi) → n46 = s.length + 1 → ∃ (x48 : Int), IsW x48 ((i : Int) + 1) ∧ (∃ (i' : Nat) (a : Option Addr) (c : Nat) (st : List Int), [vsl a46 n46 c46, vi x48] = [vsl a st.length c, vi i'] ∧ i' ≤ l.length ∧ st.length ≤ i' ∧ chkGo [] 0 l = chkGo st i' (l.drop i') ∧ OwnV h h45 3 1 a st.length c (st.reverse.map vi)) ∧ l.length - (vint [vsl a46 n46 c46, vi x48] 1).toNat < l.length - (vint [vsl a1 st.length c1, vi i] 1).toNat := by
      intro s hs a46 n46 c46 h45 O45 hn
      subst hn
      obtain ⟨p1, p2⟩ := popN_some har hs
      refine ⟨_, isW (by unfold InR; omega), ⟨i + 1, a46, c46, (i : Int) :: s, rfl, by omega, by simp; omega, ?_, O45⟩, by simp [vint]; omega⟩
      rw [hc, chk_some hf hs]
    refine ⟨fun q3 => ?_, fun q3 => ?_⟩
    · have hlt2 := of_decide_eq_true q3
      have : popN n st = none := by
        cases hp : popN n st with
        | none => rfl
        | some s => have := (popN_some har hp).1; omega
      exact hbad this
    have hge := of_decide_eq_false q3
    have hw : ∀ {K : Int → Prop}, K ((st.length : Nat) - arI n.op) → ∃ x, IsW x (((st.length : Nat) : Int) - arI n.op) ∧ K x := fun hk => ⟨_, isW (by unfold InR; omega), hk⟩
    refine hw ?_
    have hsz : szT Tryz.prog 3 = 1 := by kernel_rfl
    have rdl := fun (x : Int) (h0 : 0 ≤ x) (h1 : x ≤ st.length) => rd_slice_l (P := Tryz.prog) (h := hh) (t := 57) (e := 3) (by kernel_rfl) (by kernel_rfl) (a := a1) (n := st.length) (c := c1) h0 h1
    rw [hsz] at rdl
    refine ⟨_, _, _, rdl _ (by omega) (by omega), ?_⟩
    have SD := SI.drop (i := ((st.length : Nat) - arI n.op).toNat) (c := c1) (by omega) hcap
    rcases arI_range har with h0 | h0 | h0
    · have hs : popN n st = some st := by unfold popN; rw [if_pos h0]
      rw [h0]
      refine ⟨0, 0, fun g => (by cases g), 0, fun g => (by cases g), 0, 0, fun g => (by cases g.2), 0, fun g => (by cases g.2), fun g => ?_, fun _ => ⟨_, isW (by unfold InR; omega), hgood st hs _ (by rw [h0]) _ fun a46 n46 c46 h45 O e => ⟨_, _, _, rfl, hnext st hs a46 n46 c46 h45 O e⟩⟩⟩
      exfalso
      simp only [cand, cor] at g
      have := of_decide_eq_true g
      omega
    · match st with
      | [] => exfalso; simp at hge; omega
      | z :: s =>
        have hx29 : (((z :: s).length : Nat) : Int) - arI n.op = (s.length : Nat) := by rw [h0]; simp
        rw [hx29] at SD ⊢
        rw [Int.toNat_natCast] at SD ⊢
        have ed : ((z :: s).reverse).drop s.length = [z] := by rw [List.reverse_cons, List.drop_left' (by simp)]
        rw [ed] at SD
        obtain ⟨q, p, hq, hcell⟩ := SD.get (i := 0) (by simp)
        rw [h0]
        by_cases hz : z = n.x
        · have hs : popN n (z :: s) = some s := by unfold popN; rw [if_neg (by omega), if_pos h0]; simp [hz]
          refine ⟨q, p, fun g => ⟨hq, by omega, by simp⟩, z, fun g => hcell, 0, 0, fun g => (by cases g.2), 0, fun g => (by cases g.2), fun g => ?_, fun _ => ?_⟩
          · exfalso
            simp only [cand, cor] at g
            have := of_decide_eq_true g
            omega
          · exact ⟨_, isW (by have : (z :: s).length ≤ i := hst; unfold InR; omega), hgood s hs _ hx29.symm _ fun a46 n46 c46 h45 O e => ⟨_, _, _, rfl, hnext s hs a46 n46 c46 h45 O e⟩⟩
        · have hs : popN n (z :: s) = none := by unfold popN; rw [if_neg (by omega), if_pos h0]; simp [hz]
          have := hbad hs
          refine ⟨q, p, fun g => ⟨hq, by omega, by simp⟩, z, fun g => hcell, 0, 0, fun g => (by cases g.2), 0, fun g => (by cases g.2), fun _ => this, fun g => ?_⟩
          exfalso
          simp only [cand, cor] at g
          have := of_decide_eq_false g
          omega
    · match st with
      | [] => exfalso; simp at hge; omega
      | [z] => exfalso; simp at hge; omega
      | z :: y :: s =>
        have hx29 : (((z :: y :: s).length : Nat) : Int) - arI n.op = (s.length : Nat) := by rw [h0]; simp; omega
        rw [hx29] at SD ⊢
        rw [Int.toNat_natCast] at SD ⊢
        have ed : ((z :: y :: s).reverse).drop s.length = [y, z] := by rw [List.reverse_cons, List.reverse_cons, List.append_assoc, List.drop_left' (by simp)]; rfl
        rw [ed] at SD
        have en : (z :: y :: s).length - s.length = 2 := by simp; omega
        rw [en] at SD ⊢
        obtain ⟨q, p, hq, hcell⟩ := SD.get (i := 0) (by simp)
        obtain ⟨q', p', hq', hcell'⟩ := SD.get (i := 1) (by simp)
        rw [h0]
        by_cases hz : y = n.x ∧ z = n.y
        · have hs : popN n (z :: y :: s) = some s := by unfold popN; rw [if_neg (by omega), if_neg (by omega)]; simp [hz.1, hz.2]
          refine ⟨q, p, fun g => ⟨hq, by omega, by decide⟩, y, fun g => hcell, q', p', fun g => ⟨hq', by omega, by decide⟩, z, fun g => hcell', fun g => ?_, fun _ => ?_⟩
          · exfalso
            simp only [cand, cor] at g
            have := of_decide_eq_true g
            omega
          · exact ⟨_, isW (by have : (z :: y :: s).length ≤ i := hst; unfold InR; omega), hgood s hs _ hx29.symm _ fun a46 n46 c46 h45 O e => ⟨_, _, _, rfl, hnext s hs a46 n46 c46 h45 O e⟩⟩
        · have hs : popN n (z :: y :: s) = none := by unfold popN; rw [if_neg (by omega), if_neg (by omega)]; simp; intro h1 h2; exact hz ⟨h1, h2⟩
          have := hbad hs
          refine ⟨q, p, fun g => ⟨hq, by omega, by decide⟩, y, fun g => hcell, q', p', fun g => ⟨hq', by omega, by decide⟩, z, fun g => hcell', fun _ => this, fun g => ?_⟩
          exfalso
          simp only [cand, cor] at g
          have := of_decide_eq_false g
          omega
  · have hge : i = l.length := by have := of_decide_eq_false q; omega
    subst hge
    rw [List.drop_eq_nil_of_le (Nat.le_refl _), chkGo] at hc
    refine ⟨fun q2 => ?_, fun q2 => ?_⟩
    · rw [if_neg (by have := of_decide_eq_true q2; omega)] at hc
      rw [hc] at hK; exact hK hh O.le
    · rw [if_pos (by have := of_decide_eq_false q2; omega)] at hc
      rw [hc] at hK; exact hK hh O.le
end Go.Proofs.YtejefijpcggkfaaGreatDoor
