/-
  The framework of this prover's proofs, part I: a function's condition gives its call. Conditions: none.
-/
import Derived.Test.YtjdheefginfjgaaVcH
set_option linter.unusedVariables false
namespace Go.Vc
open Go

section
variable {P : Program} {cfg : Cfg} {w0 : World} {h0 : Hp}

def resOne (tm : Array Value) : ResultVar → Sem Value
  | .tmp t => pure (tm.getD t undef)
  | .cell c t => do loadVar t (← asAddr (tm.getD c undef))
def tupV : List Value → Value
  | [v] => v
  | vs => .tuple vs.toArray

theorem resV_ok {ρ : Nat → Option Nat} {st : St} {h : Hp} {a : Act} {w : World} (R : RelR ρ w0 h0 st h a w) : ∀ {l : List ResultVar} {vs : List Value}, resV P st l = some vs →
    (l.mapM (resOne a.tmps)).run P w = .ok vs w
  | [], vs, H => by simp [resV] at H; simp [← H]
  | .tmp t :: l, vs, H => by
    simp only [resV] at H
    split at H
    · rename_i v vs' hv hl
      simp only [Option.some.injEq] at H
      subst H
      have e : a.tmps.getD t undef = v := val_ok R (fun _ _ hm => by simp at hm) hv
      have ih := resV_ok R hl
      simp only [List.mapM_cons, Sem.run_bind, resOne, Sem.run_pure, Result.andThen_ok, e, ih]
    · simp at H
  | .cell c T :: l, vs, H => by
    simp only [resV] at H
    split at H
    · rename_i i vs' hc hl
      split at H
      · rename_i bx hbx
        cases hb : Nat.beq bx.c.length (szT P T) with
        | false => rw [hb] at H; simp at H
        | true =>
          rw [hb] at H
          have hlen := Nat.eq_of_beq_eq_true hb
          obtain ⟨b, h1, h2, h3, h4⟩ := R.box i bx hbx
          have hr := R.fr c
          rw [hc] at hr
          obtain ⟨b', k1, k2⟩ := hr
          rw [h1] at k1
          obtain rfl := Option.some.inj k1
          have ih := resV_ok R hl
          have e : (asAddr (a.tmps.getD c undef)).run P w = .ok ⟨b, 0, none⟩ w := by rw [k2]; rfl
          have hcell : ∀ j v, (tvals bx.c)[j]? = some v → w.cell? ((⟨b, 0, none⟩ : Addr).add j) = some v := by
            intro j v hj
            rw [addr_add]
            simp [World.cell?, h2, hj]
          cases hA : isAggT P T with
          | true =>
            rw [hA] at H
            simp only [cond_true, Option.some.injEq] at H
            subst H
            have hrun := run_loadVar_agg (P := P) (w := w) (b := b) (o := 0) (l := tvals bx.c) hA (by rw [tvals_length, hlen]) hcell
            simp only [List.mapM_cons, Sem.run_bind, resOne, e, Sem.run_pure, Result.andThen_ok, hrun, ih]
          | false =>
            rw [hA] at H
            simp only [cond_true, cond_false] at H
            split at H
            · rename_i v hv
              cases hS : (P.underlying T).isSome with
              | false => rw [hS] at H; simp at H
              | true =>
              rw [hS] at H
              simp only [cond_true, Option.some.injEq] at H
              subst H
              obtain ⟨d, hd⟩ := Option.isSome_iff_exists.1 hS
              have hc0 : w.cell? ⟨b, 0, none⟩ = some v.val := by
                have := hcell 0 v.val (by rw [hv]; rfl)
                rwa [addr_add] at this
              have hrun := run_loadVar_one (P := P) (w := w) hA hd hc0
              simp only [List.mapM_cons, Sem.run_bind, resOne, e, Sem.run_pure, Result.andThen_ok, hrun, ih]
            · simp at H
      · simp at H
    · simp at H

theorem results_ok {ρ : Nat → Option Nat} {st : St} {h : Hp} {a : Act} {w : World} {fn : Func} (R : RelR ρ w0 h0 st h a w) {vs : List Value} (H : resV P st fn.results.toList = some vs) :
    (results fn a.tmps).run P w = .ok (tupV vs) w := by
  have h1 := resV_ok (P := P) R H
  have h2 : results fn a.tmps = (do let vs ← fn.results.mapM (resOne a.tmps); pure (if h : vs.size = 1 then vs[0] else .tuple vs)) := rfl
  rw [h2, Array.mapM_eq_mapM_toList]
  simp only [Sem.run_bind, Sem.run_map, h1, Result.andThen_ok, Sem.run_pure]
  match vs with
  | [] => rfl
  | [v] => rfl
  | u :: v :: l => simp [tupV]

theorem argSlots_ok (args : List TW) (n : Nat) (i : Nat) : (argSlots args i).ok (fun _ => none) ((args.map TW.val).toArray ++ Array.replicate n undef) (((args.map TW.val).toArray ++ Array.replicate n undef).getD i undef) := by
  have : ∀ (args : List TW) (i : Nat), argSlots args i = .s .any ∨ ∃ x, args[i]? = some x ∧ argSlots args i = .s (.t x) := by
    intro args
    induction args with
    | nil => intro i; left; simp [argSlots]
    | cons x l ih =>
      intro i
      cases i with
      | zero => right; exact ⟨x, rfl, rfl⟩
      | succ i => simpa [argSlots] using ih i
  rcases this args i with h | ⟨x, h1, h2⟩
  · rw [h]; exact trivial
  · rw [h2]
    have hl := (List.getElem?_eq_some_iff.1 h1).1
    simp only [Sl.ok, SV.ok, Array.getD_eq_getD_getElem?, Array.getElem?_append, List.size_toArray, List.length_map]
    rw [if_pos hl]
    simp [h1]

/-- THE FRAMEWORK's THEOREM: what a function's text asks, computed from it, gives its contract. -/
theorem vcFn_ok (hP : NoNG P) (hm : P.follows .mixedOrders = true) {f : FuncId} {fn : Func} (hf : P.funcs[f]? = some fn) {args : List TW} {h : Hp} {R : Value → Hp → Prop} (hn : args.length ≤ fn.ntmps) (H : vcFn P cfg fn args h R) : CallOK P f (args.map TW.val) h R := by
  intro w hs
  unfold vcFn at H
  split at H
  · exact H.elim
  · rename_i c hb
    refine calls_of_wp hf hb ?_
    have hR0 : Rel w h ⟨fn.ntmps, argSlots args, fun _ => false, []⟩ h { tmps := (args.map TW.val).toArray ++ Array.replicate (fn.ntmps - (args.map TW.val).toArray.size) undef, defers := [] } w := by
      refine ⟨fun _ => none, ?_, rfl, argSlots_ok args _, ?_, hs, Fr.refl h w, ?_, ?_, ?_⟩
      · simp; omega
      · intro i s p x e
        have : ∀ (args : List TW) (i : Nat), argSlots args i ≠ .gd s p x := by
          intro args
          induction args with
          | nil => intro i; simp [argSlots]
          | cons y l ih => intro i; cases i <;> simp [argSlots]; exact ih _
        exact (this args i e).elim
      · intro i bx hbx; simp at hbx
      · intro i b hb; simp at hb
      · intro i j b hb; simp at hb
    refine wp_mono (vcC_ok hP hm c H rfl hR0) ?_
    rintro e a' w' ⟨ex, st', h', he, hq, ⟨ρ, R'⟩, hg', E'⟩
    have fin : ∀ x : Ex, (match x with
        | .ext _ => False
        | _ => match resV P st' fn.results.toList with
          | some [v] => R v h'
          | some vs => R (.tuple vs.toArray) h'
          | none => False) → a'.defers = [] ∧ ∃ v, (results fn a'.tmps).run P w' = .ok v w' ∧ ∃ v' h', Ending.returned v = .returned v' ∧ Sub h' w' ∧ Fr h h' w w' ∧ R v' h' := by
      intro x hx
      refine ⟨R'.d, ?_⟩
      cases hv : resV P st' fn.results.toList with
      | none => rw [hv] at hx; cases x <;> exact hx.elim
      | some vs =>
        rw [hv] at hx
        refine ⟨_, results_ok R' hv, _, h', rfl, R'.sub, R'.F, ?_⟩
        match vs, hx with
        | [], hx => cases x <;> first | exact hx.elim | exact hx
        | [v], hx => cases x <;> first | exact hx.elim | exact hx
        | u :: v :: l, hx => cases x <;> first | exact hx.elim | exact hx
    cases e with
    | normal => simp only [toEx, Option.some.injEq] at he; subst he; exact fin .nrm hq
    | ret => simp only [toEx, Option.some.injEq] at he; subst he; exact fin .ret hq
    | exit id => simp only [toEx, Option.some.injEq] at he; subst he; exact hq.elim
    | goto l => simp [toEx] at he
    | panic ch => simp [toEx] at he
    | outgrown => simp [toEx] at he

/-- A condition in words that the kernel finds to be the function's. -/
theorem call_of (hP : NoNG P) (hm : P.follows .mixedOrders = true) {f : FuncId} {fn : Func} (hf : P.funcs[f]? = some fn) (args : List TW) {vs : List Value} {h : Hp} {R : Value → Hp → Prop} (hn : Nat.ble args.length fn.ntmps = true) (hv : vs = args.map TW.val) {V : Prop} (hV : V = vcFn P cfg fn args h R) (H : V) : CallOK P f vs h R := by
  subst hv
  exact vcFn_ok hP hm hf (Nat.le_of_ble_eq_true hn) (hV ▸ H)

theorem CallOK.mono {f : FuncId} {vs : List Value} {h : Hp} {R R' : Value → Hp → Prop} (H : CallOK P f vs h R) (hr : ∀ v h', R v h' → R' v h') : CallOK P f vs h R' :=
  fun w hs => (H w hs).mono fun e w' ⟨v, h', h1, h2, h3, h4⟩ => ⟨v, h', h1, h2, h3, hr _ _ h4⟩
theorem SemOK.mono {m : Sem Value} {h : Hp} {R R' : Value → Hp → Prop} (H : SemOK P m h R) (hr : ∀ v h', R v h' → R' v h') : SemOK P m h R' :=
  fun w hs => let ⟨v, w', h', h1, h2, h3, h4⟩ := H w hs; ⟨v, w', h', h1, h2, h3, hr _ _ h4⟩
end
end Go.Vc
