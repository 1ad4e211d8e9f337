/-
  The framework, part M: what reads only: two structs compared, a slice of a slice. No program in sight. Conditions: none.
-/
import Derived.Test.YtjdheefginfjgaaVcL
import Derived.Laws.StructEq
import Derived.Laws.Slices
namespace Go.Vc
open Go
set_option linter.unusedVariables false

def leafEq : TypeDesc → List Value → List Value → Option Bool
  | .int _, [.int k a], [.int k' b] => bif k == k' then some (decide (a = b)) else none
  | .bool, [.bool a], [.bool b] => some (a == b)
  | .string, [.string a], [.string b] => some (a == b)
  | _, _, _ => none
def andO : Option Bool → Option Bool → Option Bool
  | some a, some b => some (a && b)
  | _, _ => none
section
variable (P : Program)
def cutF (f : Field) (xs : List Value) : List Value := (xs.drop f.offset).take (bif isAggT P f.type then szT P f.type else 1)
/-- Two values of a type, cell by cell. -/
def eqFl : Nat → TypeId → List Value → List Value → Option Bool
  | 0, _, _, _ => none
  | d + 1, t, xs, ys =>
    match P.underlying t with
    | some (.struct fs) => bif P.stoodInHeld t then none else fs.toList.foldr (fun f acc => bif f.name == "_" then none else andO (eqFl d f.type (cutF P f xs) (cutF P f ys)) acc) (some true)
    | some u => leafEq u xs ys
    | none => none
end
section
variable {P : Program}
def valT (P : Program) (t : TypeId) (xs : List Value) : Value := bif isAggT P t then .agg xs.toArray else xs.headD undef
theorem run_isAgg' {t : TypeId} {u : TypeDesc} (h : P.underlying t = some u) (w : World) : (isAgg t).run P w = .ok (isAggT P t) w := by
  simp only [isAgg, Sem.run_bind, run_underlying h, Result.andThen_ok, isAggT, h]
  cases u <;> simp
theorem run_part' {t : TypeId} {u : TypeDesc} (h : P.underlying t = some u) {xs : List Value} {off : Nat} (hb : isAggT P t = false → off < xs.length) (w : World) :
    (part t xs.toArray off).run P w = .ok (valT P t ((xs.drop off).take (bif isAggT P t then szT P t else 1))) w := by
  have hi : ∃ i, P.info? t = some i := by
    unfold Program.underlying at h
    split at h <;> first | (rename_i hi; exact ⟨_, hi⟩) | cases h
  obtain ⟨i, hi⟩ := hi
  unfold part
  simp only [Sem.run_bind, run_isAgg' h, Result.andThen_ok]
  cases hA : isAggT P t with
  | true =>
    simp [valT, hA, sizeOf, typeInfo, hi, szT, Program.cellsOf, List.extract_eq_take_drop]
  | false =>
    have := hb hA
    simp only [Bool.false_eq_true, if_false]
    have e : xs.toArray[off]? = some xs[off] := by simp [this]
    rw [e]
    simp [valT, hA, List.take_one, this]
theorem eqFl_ok : ∀ (d : Nat) {t : TypeId} {xs ys : List Value} {b : Bool}, eqFl P d t xs ys = some b → ∀ (k : Nat) (w : World), (Op.equalIn (d + k) t (valT P t xs) (valT P t ys)).run P w = .ok b w
  | 0, t, xs, ys, b, h, k, w => by simp [eqFl] at h
  | d + 1, t, xs, ys, b, h, k, w => by
    have IH := fun {t : TypeId} {xs ys : List Value} {b : Bool} h => @eqFl_ok d t xs ys b h
    unfold eqFl at h
    rw [show d + 1 + k = (d + k) + 1 by omega]
    split at h
    · rename_i fs hu
      cases hp : P.stoodInHeld t with
      | true => rw [hp] at h; cases h
      | false =>
        rw [hp] at h
        simp only [cond_false] at h
        have hA : isAggT P t = true := by simp [isAggT, hu]
        have hF : P.underlying t = some (.struct (P.fieldsOf t)) := by simp [Program.fieldsOf, hu]
        have hfs : P.fieldsOf t = fs := by simp [Program.fieldsOf, hu]
        simp only [valT, hA, cond_true]
        rw [run_equalIn_struct w (d + k) t _ _ hF hp, hfs]
        generalize fs.toList = l at h
        clear hF hfs hu
        induction l generalizing b w with
        | nil => simp only [List.foldr_nil, Option.some.injEq] at h; subst h; simp [Op.eqFields]
        | cons f l ih =>
          simp only [List.foldr_cons] at h
          cases hn : (f.name == "_") with
          | true => rw [hn] at h; cases h
          | false =>
            rw [hn] at h
            simp only [cond_false] at h
            have hne : f.name ≠ "_" := by simpa using hn
            cases h1 : eqFl P d f.type (cutF P f xs) (cutF P f ys) with
            | none => rw [h1] at h; simp [andO] at h
            | some b1 =>
              cases h2 : List.foldr (fun f acc => bif f.name == "_" then none else andO (eqFl P d f.type (cutF P f xs) (cutF P f ys)) acc) (some true) l with
              | none => rw [h1, h2] at h; simp [andO] at h
              | some b2 =>
                rw [h1, h2] at h
                simp only [andO, Option.some.injEq] at h
                subst h
                have hu' : ∃ u, P.underlying f.type = some u := by
                  cases d with
                  | zero => simp [eqFl] at h1
                  | succ d =>
                    unfold eqFl at h1
                    split at h1
                    · rename_i hu; exact ⟨_, hu⟩
                    · rename_i hu; exact ⟨_, hu⟩
                    · cases h1
                obtain ⟨u, hu'⟩ := hu'
                have hlen : ∀ zs : List Value, (∃ zs', eqFl P d f.type (cutF P f zs) zs' = some b1) ∨ (∃ zs', eqFl P d f.type zs' (cutF P f zs) = some b1) → isAggT P f.type = false → f.offset < zs.length := by
                  intro zs hz hA'
                  rcases Nat.lt_or_ge f.offset zs.length with hh | hh
                  · exact hh
                  · have hnil : cutF P f zs = [] := by simp [cutF, List.drop_eq_nil_of_le hh]
                    exfalso
                    have nl : ∀ zs', eqFl P d f.type [] zs' ≠ some b1 ∧ eqFl P d f.type zs' [] ≠ some b1 := by
                      intro zs'
                      cases d with
                      | zero => simp [eqFl]
                      | succ d =>
                        unfold eqFl
                        rw [hu']
                        cases u with
                        | struct fs => simp [isAggT, hu'] at hA'
                        | _ => constructor <;> (cases zs' <;> simp [leafEq])
                    rw [hnil] at hz
                    rcases hz with ⟨z, hz⟩ | ⟨z, hz⟩
                    · exact (nl z).1 hz
                    · exact (nl z).2 hz
                have p1 := run_part' hu' (xs := xs) (off := f.offset) (hlen xs (.inl ⟨_, h1⟩)) w
                have p2 := run_part' hu' (xs := ys) (off := f.offset) (hlen ys (.inr ⟨_, h1⟩)) w
                have e := IH h1 k w
                simp only [cutF] at e
                simp only [Op.eqFields, hne, ne_eq, not_false_eq_true, if_true, Sem.run_bind, p1, p2, Result.andThen_ok, e]
                cases b1 with
                | false => simp
                | true =>
                  have := @ih b2
                  first | simpa using this w h2 | simpa using this h2 w
    · rename_i u hns hu
      unfold leafEq at h
      split at h
      · rename_i kt k1 a k2 b'
        cases hk : (k1 == k2) with
        | false => rw [hk] at h; cases h
        | true =>
          rw [hk] at h
          simp only [cond_true, Option.some.injEq] at h
          have : k1 = k2 := eq_of_beq hk
          subst this
          subst h
          have hA : isAggT P t = false := by simp [isAggT, hu]
          simp only [valT, hA, cond_false, List.headD_cons]
          rw [run_equalIn_int w (d + k) t _ _ _ _ hu]
          rfl
      · simp only [Option.some.injEq] at h
        subst h
        have hA : isAggT P t = false := by simp [isAggT, hu]
        simp only [valT, hA, cond_false, List.headD_cons]
        rw [run_equalIn_bool' w (d + k) t _ _ hu]
      · simp only [Option.some.injEq] at h
        subst h
        have hA : isAggT P t = false := by simp [isAggT, hu]
        simp only [valT, hA, cond_false, List.headD_cons]
        rw [run_equalIn_string w (d + k) t _ _ hu, beq_toListBytes]
      · cases h
    · cases h
/-- '==' of two structs. -/
theorem rd_eql {h : Hp} {t : TypeId} {x y : Operand} {xs ys : List Value} {b : Bool} (h1 : eqFl P 8 t xs ys = some b) (hA : isAggT P t = true) (h2 : P.eqGuardType P.depth t = false) :
    Rd P (eqGuard .eql t x y (vag xs) (vag ys) >>= fun _ => binOp .eql t (vag xs) (vag ys)) h (vb b) := by
  intro w _
  have e := eqFl_ok 8 h1 9992 w
  simp only [valT, hA, cond_true] at e
  rw [Sem.run_bind, run_eqGuard_agg w .eql t x y _ _ h2, Result.andThen_ok, run_eql_struct, e]
  rfl
theorem rd_neq {h : Hp} {t : TypeId} {x y : Operand} {xs ys : List Value} {b : Bool} (h1 : eqFl P 8 t xs ys = some b) (hA : isAggT P t = true) (h2 : P.eqGuardType P.depth t = false) :
    Rd P (eqGuard .neq t x y (vag xs) (vag ys) >>= fun _ => binOp .neq t (vag xs) (vag ys)) h (vb (!b)) := by
  intro w _
  have e := eqFl_ok 8 h1 9992 w
  simp only [valT, hA, cond_true] at e
  rw [Sem.run_bind, run_eqGuard_agg w .neq t x y _ _ h2, Result.andThen_ok, run_neq_struct, e]
  rfl
end
end Go.Vc
