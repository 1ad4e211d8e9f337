/-
  Contracts: lists of nodes that are the same; how many are light. Conditions: that they are the same.
-/
import Derived.Test.YtdjacmkolakdeaaFSmN
import Derived.Test.YtdjacmkolakdeaaFLNd
import Derived.Test.YtdjacmkolakdeaaCRExp
namespace Go.Proofs.Ytdjacmkolakdeaa
open Go Go.Vc
set_option linter.unusedVariables false
set_option maxRecDepth 100000

theorem eqFl_N (a b c d e f a' b' c' d' e' f' : Int) : eqFl Try.prog 8 54 [vi a, vi b, vi c, vi d, vi e, vi f] [vi a', vi b', vi c', vi d', vi e', vi f'] =
    some (decide (a = a') && (decide (b = b') && (decide (c = c') && (decide (d = d') && ((decide (e = e') && (decide (f = f') && true)) && true))))) := by kernel_rfl
theorem rd_neqN {h : Hp} {x y : Operand} {a : Nd} : Rd Try.prog (eqGuard .neq 54 x y (vag (encN a)) (vag (encN a)) >>= fun _ => binOp .neq 54 (vag (encN a)) (vag (encN a))) h (vb false) := by
  have := rd_neq (P := Try.prog) (h := h) (t := 54) (x := x) (y := y) (eqFl_N a.op a.x a.y a.n a.v.1 a.v.2 a.op a.x a.y a.n a.v.1 a.v.2) (by kernel_rfl) (by kernel_rfl)
  have e : (!(decide (a.op = a.op) && (decide (a.x = a.x) && (decide (a.y = a.y) && (decide (a.n = a.n) && ((decide (a.v.1 = a.v.1) && (decide (a.v.2 = a.v.2) && true)) && true)))))) = false := by simp
  rw [e] at this
  exact this
theorem R_SameNodes_ok {a a2 : Option Addr} {n n2 c c2 : Nat} {l : List Nd} {h : Hp} {R : Value → Hp → Prop} (S : SlP encN h a n l) (S2 : SlP encN h a2 n2 l) (hl : l.length ≤ 1000000) (hK : R (vb true) h) : CallOK Try.prog 28 [vsl a n c, vsl a2 n2 c2] h R := by
  refine ok_R_SameNodes ?_
  unfold VC_R_SameNodes
  obtain rfl := S.1
  obtain rfl := S2.1
  refine ⟨fun g => by simp at g, fun _ => ⟨fun vs hh => hh = h ∧ ∃ i : Nat, vs = [vi i] ∧ i ≤ l.length, fun vs hh => l.length - (vint vs 0).toNat, ⟨rfl, 0, rfl, Nat.zero_le _⟩, ?_⟩⟩
  rintro vs hh ⟨rfl, i, rfl, hi⟩
  refine ⟨i, rfl, fun q => ?_, fun _ => hK⟩
  have hlt : i < l.length := by have := of_decide_eq_true q; omega
  have hx : l[i]? = some l[i] := List.getElem?_eq_getElem hlt
  obtain ⟨b, o, ha, hr⟩ := S.get encN_len (by decide) hx
  obtain ⟨b', o', ha', hr'⟩ := S2.get encN_len (by decide) hx
  generalize l[i] = y at *
  exact ⟨b, o, ⟨ha, by omega, by omega⟩, _, _, _, _, _, _, hr, b', o', ⟨ha', by omega, by omega⟩, _, _, _, _, _, _, hr', _, rd_neqN (a := y), fun g => (by cases g), fun _ => ⟨_, isW (by unfold InR; omega), ⟨rfl, i + 1, rfl, by omega⟩, by simp [vint]; omega⟩⟩
theorem law_LightNodes_ok {a : Option Addr} {n c : Nat} {h : Hp} {R : Value → Hp → Prop} (hK : R (vb (decide ((n : Int) ≤ 50))) h) : CallOK Try.prog 15 [vsl a n c] h R := ok_law_LightNodes hK
theorem bor_false {a b : Bool} (h : (bif a then true else b) = false) : a = false ∧ b = false := by
  cases a
  · exact ⟨rfl, h⟩
  · cases h
end Go.Proofs.Ytdjacmkolakdeaa
