/-
  Contracts: numbers as texts, off the library's own: strconv.Itoa, strconv.Atoi. Conditions: that the tables and errors of the library lie as the program's text lays them.
-/
import Derived.Test.YtgonnpleihbklaaDoorShelf
import Derived.Test.YtgonnpleihbklaaDoorCDec
import Derived.Test.YtgonnpleihbklaaDoorVcK
namespace Go.Proofs.YtgonnpleihbklaaDoor
open Go Go.Vc Go.RowKit
set_option linter.unusedVariables false
set_option maxRecDepth 100000

/-- The table of powers lies there. -/
def TabP (h : Hp) : Prop := ∀ w, Sub h w → Lib.TabIs Tryd.prog w "internal/strconv.uint64pow10" .u64 Lib.pow10Tab
theorem sub_le {h h' : Hp} {w : World} (hl : h.le h') (hs : Sub h' w) : Sub h w := fun b o ho => hs b o (hl b o ho)
theorem TabP.le {h h' : Hp} (T : TabP h) (hl : h.le h') : TabP h' := fun w hs => T w (sub_le hl hs)
theorem vars_sub {W w : World} {name : String} {cs : Array Value} (hT : W.var? Tryd.prog name = some cs) (hs : Sub (hpOf W) w) : w.var? Tryd.prog name = some cs := by
  unfold World.var? at *
  cases hg : Tryd.prog.globalNamed name with
  | none => rw [hg] at hT; cases hT
  | some g =>
    rw [hg] at hT
    simp only [Option.bind_some] at hT ⊢
    cases hb : W.heap[g]? with
    | none => rw [hb] at hT; cases hT
    | some o =>
      rw [hs g o hb]
      rw [hb] at hT
      exact hT
theorem var_sub {W w : World} {name : String} {k : IntKind} {zs : List Int} (hT : Lib.TabIs Tryd.prog W name k zs) (hs : Sub (hpOf W) w) : Lib.TabIs Tryd.prog w name k zs := vars_sub hT hs
theorem below_grow (w : World) (k : Nat) (os : Array Obj) : Below w.heap.size w (Go.Sort.grow (w.drewN k) os) := by
  refine ⟨rfl, rfl, rfl, ?_, fun i hi => ?_⟩
  · show w.heap.size ≤ (w.heap ++ os).size
    rw [Array.size_append]
    omega
  · show (w.heap ++ os)[i]? = w.heap[i]?
    rw [Array.getElem?_append_left hi]
theorem strconv_Itoa_ok {n : Int} (hn : InR n) {h : Hp} (T : TabP h) {R : Value → Hp → Prop} (hK : R (vs (bs (Lib.itoa n))) h) : CallOK Tryd.prog 29 [vi n] h R :=
  callOK_below fun w hs => (Tryd.strconv_Itoa n hn.1 hn.2 w (T w hs)).mono fun e w' ⟨he, k, os, hw⟩ => ⟨_, he, by rw [hw]; exact below_grow w k os, hK⟩
end Go.Proofs.YtgonnpleihbklaaDoor
