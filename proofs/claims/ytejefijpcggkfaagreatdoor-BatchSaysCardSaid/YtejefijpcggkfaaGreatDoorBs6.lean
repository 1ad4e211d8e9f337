/-
  The statement that the last part names, proved; and all that it stands on that is not in the parts ahead. Conditions: those stated at each.
-/
import Derived.Test.YtejefijpcggkfaaGreatDoorRows
import Derived.Test.YtejefijpcggkfaaGreatDoorCards
import Derived.Test.YtejefijpcggkfaaGreatDoorTie
import Derived.WalkKit
import Derived.ProofKit
import Derived.OpenShut
import Derived.LaidMore
import Derived.Stop.Joined
import Derived.Stop.LaidErr
import Derived.SevenTiedAt
import Derived.Test.YtejefijpcggkfaaGreatDoorBs5
namespace Go.Proofs.YtejefijpcggkfaaGreatDoor
open Go Go.Vc Go.Txt
set_option linter.unusedVariables false
set_option maxRecDepth 100000
theorem typE_2 (l : List Nd) : 0 ≤ (typE l).2 := by
  unfold typE
  split
  · exact Int.le_refl _
  · show (0 : Int) ≤ 3
    decide
theorem R_typed_ok {a : Option Addr} {k c : Nat} {l : List Nd} {kind : Int} (h0 : 0 ≤ kind) {h : Hp} {R : Value → Hp → Prop} (S : SlP encN h a k l) (hl : l.length ≤ 1000000) (hK : ∀ h', h.le h' → R (vi (typedF l kind)) h') : CallOK Tryz.prog 85 [vsl a k c, vi kind] h R := by
  refine ok_R_typed ?_
  unfold VC_R_typed
  unfold typedF at hK
  have e2 := exprF_2 l
  have t2 := typE_2 l
  refine R_ExprFault_ok S fun h2 l2 => ⟨_, rfl, fun e => ?_, fun e => ?_⟩
  · have e := of_decide_eq_true e
    rw [if_pos (by omega)] at hK
    exact hK h2 l2
  · have e := of_decide_eq_false e
    have ez : exprF l = 0 := by omega
    rw [if_neg (by omega)] at hK
    have O := (exprF_ok ez).1
    have tn := typE_nat O
    refine R_Type_ok (S.le l2) O.wf O.pos hl ⟨_, _, rfl, fun q => ?_, fun q => ?_⟩
    · have q := of_decide_eq_true q
      rw [if_pos (by omega)] at hK
      exact hK h2 l2
    · have q := of_decide_eq_false q
      rw [if_neg (by omega)] at hK
      rw [cand, cand]
      refine ⟨fun q2 => ?_, fun q2 => ?_⟩
      · have q2 := of_decide_eq_true q2
        rw [if_pos (by omega)] at hK
        exact hK h2 l2
      · have q2 := of_decide_eq_false q2
        rw [if_neg (by omega)] at hK
        exact hK h2 l2
theorem typedF_2 (l : List Nd) (k : Int) : 0 ≤ typedF l k := by
  have e2 := exprF_2 l
  have t2 := typE_2 l
  unfold typedF
  split
  · exact e2
  · split
    · exact t2
    · split <;> decide
theorem R_QueryFault_ok {q : Qy} {a1 : Option Addr} {n1 c1 : Nat} {a2 : Option Addr} {n2 c2 : Nat} {a3 : Option Addr} {n3 c3 : Nat} {h : Hp} {R : Value → Hp → Prop} (Q : QAt h q a1 n1 a2 n2 a3 n3) (B : QBig q) (hK : ∀ h', h.le h' → R (vi (qryF q)) h') : CallOK Tryz.prog 53 [qV a1 n1 c1 a2 n2 c2 a3 n3 c3 q] h R := by
  refine ok_R_QueryFault ?_
  unfold VC_R_QueryFault
  have hn1 := Q.g.len
  have hn2 := Q.w.1
  have hn3 := Q.b.1
  have hB := B.n
  rw [cor]
  refine ⟨fun e => ?_, fun e => ?_⟩
  · have e := of_decide_eq_true e
    have : qryF q = 2 := by unfold qryF; rw [if_pos (by omega)]
    rw [this] at hK
    exact hK h (Hp.le_refl h)
  have e := of_decide_eq_false e
  have hq : qryF q = if firstF (q.aggs.map aggF) ≠ 0 then firstF (q.aggs.map aggF) else tailF q := by unfold qryF; rw [if_neg (by omega)]
  rw [hq] at hK
  clear hq
  refine ⟨fun vs' hh => h.le hh ∧ ∃ i : Nat, vs' = [vi i] ∧ i ≤ n1 ∧ ∀ y ∈ q.aggs.take i, aggF y = 0, fun vs' hh => n1 - (vint vs' 0).toNat, ⟨Hp.le_refl h, 0, rfl, Nat.zero_le _, by simp⟩, ?_⟩
  rintro vs' hh ⟨lh, i, rfl, hi, hz⟩
  refine ⟨i, rfl, fun g => ?_, fun g => ?_⟩
  · have hlt : i < n1 := by have := of_decide_eq_true g; omega
    have hlt2 : i < q.aggs.length := by omega
    have hx : q.aggs[i]? = some q.aggs[i] := List.getElem?_eq_getElem hlt2
    have hbig := B.g _ (List.mem_of_getElem? hx)
    have hall := @take_all _ q.aggs aggF i hlt2 hz
    generalize q.aggs[i] = y at hx hbig hall
    obtain ⟨k, l⟩ := y
    obtain ⟨b, o, a', c', ha, hrow, hS⟩ := (Q.g.le lh).row aggRw_len (by decide) hx
    have bad : ∀ f, f ≠ 0 → aggF (k, l) = f → ∀ h', h.le h' → R (vi f) h' := by
      intro f hf hk h' l'
      have h1 := firstF_at (g := aggF) hz hx (by rw [hk]; exact hf)
      rw [h1, hk, if_pos hf] at hK
      exact hK h' l'
    intro J25
    refine ⟨b, o, ⟨ha, by omega, by omega⟩, k, a', l.length, c', by rw [Int.toNat_natCast]; exact hrow, ?_⟩
    have good : aggF (k, l) = 0 → ∀ h', h.le h' → J25 h' := fun hk h' l' => ⟨_, isW (by unfold InR; omega), ⟨l', i + 1, rfl, by omega, hall hk⟩, by simp [vint]; omega⟩
    clear_value J25
    rw [cor, cand, cor]
    have hnil : l ≠ [] ↔ (l.length : Int) > 0 := by rw [ne_eq, nil_len]; omega
    refine ⟨fun g2 => ?_, fun g2 => ?_⟩
    · have g2 := of_decide_eq_true g2
      refine bad 3 (by decide) ?_ hh lh
      unfold aggF
      rw [if_pos (by simp only [hnil]; omega)]
    · have g2 := of_decide_eq_false g2
      intro J17
      have hJ : J17 (if k = 2 then 0 else 1) := by
        refine ⟨fun g3 => ?_, fun g3 => ?_⟩
        · have g3 := of_decide_eq_true g3
          have hf : aggF (k, l) = typedF l (if k = 2 then 0 else 1) := by
            unfold aggF
            rw [if_neg (by simp only [hnil]; omega), if_neg (by show ¬ k = 1; omega)]
          have t2 := typedF_2 l (if k = 2 then 0 else 1)
          refine R_typed_ok (by split <;> decide) hS hbig fun h' l' => ⟨_, rfl, fun g4 => ?_, fun g4 => ?_⟩
          · have g4 := of_decide_eq_true g4
            exact bad _ (by omega) hf h' (Hp.le_trans lh l')
          · have g4 := of_decide_eq_false g4
            exact good (by rw [hf]; omega) h' (Hp.le_trans lh l')
        · have g3 := of_decide_eq_false g3
          refine good ?_ hh lh
          unfold aggF
          rw [if_neg (by simp only [hnil]; omega), if_pos (by show k = 1; omega)]
      clear_value J17
      refine ⟨fun g4 => ?_, fun g4 => ?_⟩
      · rw [if_pos (of_decide_eq_true g4)] at hJ; exact hJ
      · rw [if_neg (of_decide_eq_false g4)] at hJ; exact hJ
  · have hge : i = n1 := by have := of_decide_eq_false g; omega
    have hz0 : firstF (q.aggs.map aggF) = 0 := firstF_zero (by
      intro x hx
      obtain ⟨y, hy, rfl⟩ := List.mem_map.1 hx
      exact hz y (by rw [List.take_of_length_le (by omega)]; exact hy))
    rw [hz0, if_neg (fun h => h rfl)] at hK
    unfold tailF at hK
    have Q := Q.le lh
    intro J33
    have hJ33 : ∀ h', hh.le h' → (if q.wh = [] then 0 else typedF q.wh 2) = 0 → J33 h' := by
      intro h' l' hw
      rw [hw, firstF, if_neg (fun h => h rfl)] at hK
      unfold J33
      intro J40
      have hJ40 : ∀ h2, h'.le h2 → (if q.by_ = [] then 0 else typedF q.by_ 0) = 0 → J40 h2 := by
        intro h2 l2 hb
        rw [hb, firstF, if_neg (fun h => h rfl)] at hK
        have hK := hK h2 (Hp.le_trans lh (Hp.le_trans l' l2))
        rw [firstF, firstF] at hK
        have hnum : numsF q = if ((((((q.size < 1 ∨ q.size > 1000) ∨ q.slide < 1) ∨ q.slide > 1000) ∨ q.delay < 0) ∨ q.delay > 1000) ∨ q.late < 0) ∨ q.late > 1000 then 1 else if q.slide > q.size ∨ q.size > 4 * q.slide then 3 else 0 := by
          unfold numsF
          simp only [or_assoc]
        show (_ ∧ _)
        simp only [cor]
        refine ⟨fun g2 => ?_, fun g2 => ?_⟩
        · rw [if_pos (of_decide_eq_true g2)] at hnum
          rw [hnum, if_pos (by decide)] at hK
          exact hK
        · have g3 := of_decide_eq_false g2
          rw [if_neg g3] at hnum
          refine ⟨4 * q.slide, fun _ => isW (by unfold InR; omega), fun g4 => ?_, fun g4 => ?_⟩
          · rw [if_pos (of_decide_eq_true g4)] at hnum
            rw [hnum, if_pos (by decide)] at hK
            exact hK
          · rw [if_neg (of_decide_eq_false g4)] at hnum
            rw [hnum, if_neg (by decide)] at hK
            exact hK
      clear_value J40
      refine ⟨fun g2 => ?_, fun g2 => ?_⟩
      · have hne : ¬ q.by_ = [] := by have := of_decide_eq_true g2; rw [nil_len]; omega
        rw [if_neg hne] at hJ40 hK
        have t2 := typedF_2 q.by_ 0
        refine R_typed_ok (by decide) (Q.le l').b B.b fun h2 l2 => ⟨_, rfl, fun g4 => ?_, fun g4 => ?_⟩
        · have g4 := of_decide_eq_true g4
          rw [firstF, if_pos (by omega)] at hK
          exact hK h2 (Hp.le_trans lh (Hp.le_trans l' l2))
        · have g4 := of_decide_eq_false g4
          exact hJ40 h2 l2 (by omega)
      · have hnil : q.by_ = [] := by have := of_decide_eq_false g2; rw [nil_len]; omega
        exact hJ40 h' (Hp.le_refl h') (if_pos hnil)
    clear_value J33
    refine ⟨fun g2 => ?_, fun g2 => ?_⟩
    · have hne : ¬ q.wh = [] := by have := of_decide_eq_true g2; rw [nil_len]; omega
      rw [if_neg hne] at hJ33 hK
      have t2 := typedF_2 q.wh 2
      refine R_typed_ok (by decide) Q.w B.w fun h2 l2 => ⟨_, rfl, fun g4 => ?_, fun g4 => ?_⟩
      · have g4 := of_decide_eq_true g4
        rw [firstF, if_pos (by omega)] at hK
        exact hK h2 (Hp.le_trans lh l2)
      · have g4 := of_decide_eq_false g4
        exact hJ33 h2 l2 (by omega)
    · have hnil : q.wh = [] := by have := of_decide_eq_false g2; rw [nil_len]; omega
      exact hJ33 hh (Hp.le_refl hh) (if_pos hnil)
end Go.Proofs.YtejefijpcggkfaaGreatDoor
namespace Go.Proofs.YtejefijpcggkfaaGreatDoor
open Go Go.Vc
set_option maxRecDepth 100000
set_option linter.unusedVariables false
def VC_R_WordsOf (u_s : ByteArray) (h : Hp) (R : Value → Hp → Prop) : Prop :=
  (((decide ((((ByteArray.size u_s : Nat) : Int) : Int) > 240)) = true → R (vtup [(vsl none 0 0), (vi 2)]) h) ∧ ((decide ((((ByteArray.size u_s : Nat) : Int) : Int) > 240)) = false → (∃ (I3 : List Value → Hp → Prop) (m4 : List Value → Hp → Nat), I3 [(vsl none 0 0), (vi 0)] h ∧ ∀ (vs5 : List Value) (h6 : Hp), I3 vs5 h6 → ∃ (a7 : Option Addr) (n7 c7 : Nat) (x8 : Int), vs5 = [(vsl a7 n7 c7), (vi x8)] ∧ (((decide ((x8 : Int) < ((ByteArray.size u_s : Nat) : Int))) = true → (∃ (x11 : Int), (Rd Tryz.prog (Instr.index 9 (vs u_s) (vi x8)) h6 (vk .u8 x11)) ∧ (((decide ((x11 : Int) = 32)) = true → (∃ (x12 : Int), (IsW x12 (x8 + 1)) ∧ (I3 [(vsl a7 n7 c7), (vi x12)] h6 ∧ m4 [(vsl a7 n7 c7), (vi x12)] h6 < m4 vs5 h6))) ∧ ((decide ((x11 : Int) = 32)) = false → (∃ (I15 : List Value → Hp → Prop) (m16 : List Value → Hp → Nat), I15 [(vi x8)] h6 ∧ ∀ (vs17 : List Value) (h18 : Hp), I15 vs17 h18 → ∃ (x19 : Int), vs17 = [(vi x19)] ∧ (∃ (x20 : Int), ((decide ((x19 : Int) < ((ByteArray.size u_s : Nat) : Int))) = true → Rd Tryz.prog (Instr.index 9 (vs u_s) (vi x19)) h18 (vk .u8 x20)) ∧ (∃ (x21 : Int), ((bif (decide ((x19 : Int) < ((ByteArray.size u_s : Nat) : Int))) then (decide ((x20 : Int) ≥ 97)) else false) = true → Rd Tryz.prog (Instr.index 9 (vs u_s) (vi x19)) h18 (vk .u8 x21)) ∧ (((bif (bif (decide ((x19 : Int) < ((ByteArray.size u_s : Nat) : Int))) then (decide ((x20 : Int) ≥ 97)) else false) then (decide ((x21 : Int) ≤ 122)) else false) = true → (∃ (x24 : Int), (IsW x24 (x19 + 1)) ∧ (I15 [(vi x24)] h18 ∧ m16 [(vi x24)] h18 < m16 vs17 h18))) ∧ ((bif (bif (decide ((x19 : Int) < ((ByteArray.size u_s : Nat) : Int))) then (decide ((x20 : Int) ≥ 97)) else false) then (decide ((x21 : Int) ≤ 122)) else false) = false → (let J37 : Int → Hp → Prop := fun (x39 : Int) (h40 : Hp) => (∃ (x41 : Int), ((decide ((x39 : Int) = x8)) = true → IsW x41 (x39 + 1)) ∧ (∃ (x42 : Int), ((bif (decide ((x39 : Int) = x8)) then (decide ((x41 : Int) < ((ByteArray.size u_s : Nat) : Int))) else false) = true → IsW x42 (x39 + 2)) ∧ (∃ (s43 : ByteArray), ((bif (decide ((x39 : Int) = x8)) then (decide ((x41 : Int) < ((ByteArray.size u_s : Nat) : Int))) else false) = true → Rd Tryz.prog (Instr.sliceAt 9 (vs u_s) (some (vi x39)) (some (vi x42)) none) h40 (vs s43)) ∧ (∃ (p44 : Bool), ((bif (decide ((x39 : Int) = x8)) then (decide ((x41 : Int) < ((ByteArray.size u_s : Nat) : Int))) else false) = true → Rd Tryz.prog ((eqGuard .eql 9 (.tmp 77) (.const (vs ⟨#[60, 61]⟩)) (vs s43) (vs ⟨#[60, 61]⟩) >>= fun _ => binOp .eql 9 (vs s43) (vs ⟨#[60, 61]⟩))) h40 (vb p44)) ∧ (∃ (x45 : Int), (((bif (decide ((x39 : Int) = x8)) then (decide ((x41 : Int) < ((ByteArray.size u_s : Nat) : Int))) else false) = true ∧ p44 = false) → IsW x45 (x39 + 2)) ∧ (∃ (s46 : ByteArray), (((bif (decide ((x39 : Int) = x8)) then (decide ((x41 : Int) < ((ByteArray.size u_s : Nat) : Int))) else false) = true ∧ p44 = false) → Rd Tryz.prog (Instr.sliceAt 9 (vs u_s) (some (vi x39)) (some (vi x45)) none) h40 (vs s46)) ∧ (∃ (p47 : Bool), (((bif (decide ((x39 : Int) = x8)) then (decide ((x41 : Int) < ((ByteArray.size u_s : Nat) : Int))) else false) = true ∧ p44 = false) → Rd Tryz.prog ((eqGuard .eql 9 (.tmp 84) (.const (vs ⟨#[62, 61]⟩)) (vs s46) (vs ⟨#[62, 61]⟩) >>= fun _ => binOp .eql 9 (vs s46) (vs ⟨#[62, 61]⟩))) h40 (vb p47)) ∧ (∃ (x48 : Int), (((bif (decide ((x39 : Int) = x8)) then (decide ((x41 : Int) < ((ByteArray.size u_s : Nat) : Int))) else false) = true ∧ (bif p44 then true else p47) = false) → IsW x48 (x39 + 2)) ∧ (∃ (s49 : ByteArray), (((bif (decide ((x39 : Int) = x8)) then (decide ((x41 : Int) < ((ByteArray.size u_s : Nat) : Int))) else false) = true ∧ (bif p44 then true else p47) = false) → Rd Tryz.prog (Instr.sliceAt 9 (vs u_s) (some (vi x39)) (some (vi x48)) none) h40 (vs s49)) ∧ (∃ (p50 : Bool), (((bif (decide ((x39 : Int) = x8)) then (decide ((x41 : Int) < ((ByteArray.size u_s : Nat) : Int))) else false) = true ∧ (bif p44 then true else p47) = false) → Rd Tryz.prog ((eqGuard .eql 9 (.tmp 92) (.const (vs ⟨#[60, 62]⟩)) (vs s49) (vs ⟨#[60, 62]⟩) >>= fun _ => binOp .eql 9 (vs s49) (vs ⟨#[60, 62]⟩))) h40 (vb p50)) ∧ (let J54 : Int → Prop := fun (x55 : Int) => (let J59 : Int → Prop := fun (x60 : Int) => (((decide ((x60 : Int) = x8)) = true → R (vtup [(vsl none 0 0), (vi 4)]) h40) ∧ ((decide ((x60 : Int) = x8)) = false → (∃ (s62 : ByteArray), (Rd Tryz.prog (Instr.sliceAt 9 (vs u_s) (some (vi x8)) (some (vi x60)) none) h40 (vs s62)) ∧ (∀ (b63 : Nat), h40 b63 = none → let h64 : Hp := Hp.set h40 b63 (cellsO [(vs s62)] 9); (SemOK Tryz.prog (Builtin.append_ #[83, 83] 83 #[(vsl a7 n7 c7), (vsl (some (⟨b63, 0, none⟩ : Addr)) 1 1)]) h64 fun v65 h66 => ∃ (a67 : Option Addr) (n67 c67 : Nat), v65 = (vsl a67 n67 c67) ∧ (((decide ((((n67 : Nat) : Int) : Int) > 80)) = true → R (vtup [(vsl none 0 0), (vi 2)]) h66) ∧ ((decide ((((n67 : Nat) : Int) : Int) > 80)) = false → (I3 [(vsl a67 n67 c67), (vi x60)] h66 ∧ m4 [(vsl a67 n67 c67), (vi x60)] h66 < m4 vs5 h6)))))))); (((bif (decide ((x55 : Int) = x8)) then (bif (bif (bif (bif (bif (bif (bif (bif (decide ((x11 : Int) = 40)) then true else (decide ((x11 : Int) = 41))) then true else (decide ((x11 : Int) = 44))) then true else (decide ((x11 : Int) = 42))) then true else (decide ((x11 : Int) = 43))) then true else (decide ((x11 : Int) = 45))) then true else (decide ((x11 : Int) = 60))) then true else (decide ((x11 : Int) = 62))) then true else (decide ((x11 : Int) = 61))) else false) = true → (∃ (x56 : Int), (IsW x56 (x55 + 1)) ∧ (J59 x56))) ∧ ((bif (decide ((x55 : Int) = x8)) then (bif (bif (bif (bif (bif (bif (bif (bif (decide ((x11 : Int) = 40)) then true else (decide ((x11 : Int) = 41))) then true else (decide ((x11 : Int) = 44))) then true else (decide ((x11 : Int) = 42))) then true else (decide ((x11 : Int) = 43))) then true else (decide ((x11 : Int) = 45))) then true else (decide ((x11 : Int) = 60))) then true else (decide ((x11 : Int) = 62))) then true else (decide ((x11 : Int) = 61))) else false) = false → (J59 x55)))); (((bif (bif (decide ((x39 : Int) = x8)) then (decide ((x41 : Int) < ((ByteArray.size u_s : Nat) : Int))) else false) then (bif (bif p44 then true else p47) then true else p50) else false) = true → (∃ (x51 : Int), (IsW x51 (x39 + 2)) ∧ (J54 x51))) ∧ ((bif (bif (decide ((x39 : Int) = x8)) then (decide ((x41 : Int) < ((ByteArray.size u_s : Nat) : Int))) else false) then (bif (bif p44 then true else p47) then true else p50) else false) = false → (J54 x39)))))))))))))); (((decide ((x19 : Int) = x8)) = true → (∃ (I26 : List Value → Hp → Prop) (m27 : List Value → Hp → Nat), I26 [(vi x19)] h18 ∧ ∀ (vs28 : List Value) (h29 : Hp), I26 vs28 h29 → ∃ (x30 : Int), vs28 = [(vi x30)] ∧ (∃ (x31 : Int), ((decide ((x30 : Int) < ((ByteArray.size u_s : Nat) : Int))) = true → Rd Tryz.prog (Instr.index 9 (vs u_s) (vi x30)) h29 (vk .u8 x31)) ∧ (∃ (x32 : Int), ((bif (decide ((x30 : Int) < ((ByteArray.size u_s : Nat) : Int))) then (decide ((x31 : Int) ≥ 48)) else false) = true → Rd Tryz.prog (Instr.index 9 (vs u_s) (vi x30)) h29 (vk .u8 x32)) ∧ (((bif (bif (decide ((x30 : Int) < ((ByteArray.size u_s : Nat) : Int))) then (decide ((x31 : Int) ≥ 48)) else false) then (decide ((x32 : Int) ≤ 57)) else false) = true → (∃ (x35 : Int), (IsW x35 (x30 + 1)) ∧ (I26 [(vi x35)] h29 ∧ m27 [(vi x35)] h29 < m27 vs28 h29))) ∧ ((bif (bif (decide ((x30 : Int) < ((ByteArray.size u_s : Nat) : Int))) then (decide ((x31 : Int) ≥ 48)) else false) then (decide ((x32 : Int) ≤ 57)) else false) = false → (J37 x30 h29))))))) ∧ ((decide ((x19 : Int) = x8)) = false → (J37 x19 h18))))))))))))) ∧ ((decide ((x8 : Int) < ((ByteArray.size u_s : Nat) : Int))) = false → R (vtup [(vsl a7 n7 c7), (vi 0)]) h6)))))
theorem ok_R_WordsOf {u_s : ByteArray} {h : Hp} {R : Value → Hp → Prop} (H : VC_R_WordsOf u_s h R) : CallOK Tryz.prog 47 [(vs u_s)] h R :=
  call_of (cfg := ⟨[], [(10, ([7], [.one (.int .i64)], [])), (13, ([7], [.one (.int .i64)], [])), (5, ([4, 5], [.one (.slice), .one (.int .i64)], []))], []⟩) noNG mixed Tryz.func47 [.one (.v (vs u_s))] (by kernel_rfl) rfl (by kernel_rfl) H
end Go.Proofs.YtejefijpcggkfaaGreatDoor
namespace Go.Proofs.YtejefijpcggkfaaGreatDoor
open Go Go.Vc
set_option linter.unusedVariables false
set_option maxRecDepth 100000
theorem kind_letter {c : UInt8} : kindB c = 97 ↔ isL c = true := by
  unfold kindB
  cases isL c <;> cases isDg c <;> cases isS c <;> simp
theorem kind_digit {c : UInt8} : kindB c = 48 ↔ isL c = false ∧ isDg c = true := by
  unfold kindB
  cases isL c <;> cases isDg c <;> cases isS c <;> simp
theorem kind_sign {c : UInt8} : kindB c = 40 ↔ isL c = false ∧ isDg c = false ∧ isS c = true := by
  unfold kindB
  cases isL c <;> cases isDg c <;> cases isS c <;> simp
theorem kind_none {c : UInt8} : kindB c = 32 ↔ isL c = false ∧ isDg c = false ∧ isS c = false := by
  unfold kindB
  cases isL c <;> cases isDg c <;> cases isS c <;> simp
theorem isL_isDg {c : UInt8} (h : isDg c = true) : isL c = false := by
  unfold isDg at h
  unfold isL
  simp at h ⊢
  omega
theorem letter_fun : (fun c => kindB c == 97) = isL := by
  funext c
  cases h : isL c with
  | true => simp [kind_letter.2 h]
  | false => simp only [beq_eq_false_iff_ne, ne_eq]; intro h'; rw [kind_letter.1 h'] at h; cases h
theorem digit_fun : (fun c => kindB c == 48) = isDg := by
  funext c
  cases h : isDg c with
  | true => simp [kind_digit.2 ⟨isL_isDg h, h⟩]
  | false => simp only [beq_eq_false_iff_ne, ne_eq]; intro h'; rw [(kind_digit.1 h').2] at h; cases h
theorem dec_isL (c : UInt8) : (decide (((c.toNat : Nat) : Int) ≥ 97) && decide (((c.toNat : Nat) : Int) ≤ 122)) = isL c := by
  unfold isL
  congr 1 <;> exact decide_eq_decide.2 (by omega)
theorem dec_isDg (c : UInt8) : (decide (((c.toNat : Nat) : Int) ≥ 48) && decide (((c.toNat : Nat) : Int) ≤ 57)) = isDg c := by
  unfold isDg
  congr 1 <;> exact decide_eq_decide.2 (by omega)
theorem dec_c (c d : UInt8) : decide (((c.toNat : Nat) : Int) = ((d.toNat : Nat) : Int)) = (c == d) := by
  by_cases h : c = d
  · subst h; simp
  · have : ¬ ((c.toNat : Nat) : Int) = (d.toNat : Nat) := fun e => h (u8_eq.1 e)
    rw [decide_eq_false this]
    symm
    simpa using h
theorem two_bytes {l : List UInt8} {i : Nat} (h : i + 1 < l.length) : (l.drop i).take 2 = [l.getD i 0, l.getD (i + 1) 0] := by
  rw [drop_getB (by omega), drop_getB (n := i + 1) h]
  rfl
theorem R_WordsOf_ok {l : List UInt8} {h : Hp} {R : Value → Hp → Prop} (hK : ∀ a n c h', OwnV h h' 9 1 a n c ((wordsL l).1.flatMap encB) → R (vtup [vsl a n c, vi (wordsL l).2]) h') :
    CallOK Tryz.prog 47 [vs (bs l)] h R := by
  refine ok_R_WordsOf ?_
  unfold VC_R_WordsOf
  rw [bs_size]
  refine ⟨fun e => ?_, fun e => ?_⟩
  · have : wordsL l = ([], 2) := by unfold wordsL; rw [if_pos (by simp at e; omega)]
    rw [this] at hK
    exact hK none 0 0 h (OwnV.nil (Hp.le_refl h) _ _)
  have hl : l.length ≤ 240 := by simp at e; omega
  have hw : wordsL l = lexF l (l.length + 1) 0 [] := by unfold wordsL; rw [if_neg (by omega)]
  refine ⟨fun vs hh => ∃ (k i : Nat) (acc : List (List UInt8)) (a : Option Addr) (n c : Nat), vs = [vsl a n c, vi i] ∧ l.length < i + k ∧ i ≤ l.length ∧ lexF l k i acc = wordsL l ∧ OwnV h hh 9 1 a n c (acc.flatMap encB) ∧ acc.length ≤ 80,
    fun vs hh => l.length - (vint vs 1).toNat, ⟨l.length + 1, 0, [], none, 0, 0, rfl, by omega, by omega, hw.symm, OwnV.nil (Hp.le_refl h) _ _, by simp⟩, ?_⟩
  rintro vs hh ⟨k, i, acc, a, n, c, rfl, hk, hi, hf, O, hacc⟩
  have hn : n = acc.length := (O.slp encB_len (by decide)).1
  refine ⟨a, n, c, i, rfl, fun e => ?_, fun e => ?_⟩
  · have hlt : i < l.length := by simpa using e
    obtain ⟨k, rfl⟩ : ∃ k', k = k' + 1 := ⟨k - 1, by omega⟩
    rw [lexF, if_neg (by omega)] at hf
    refine ⟨_, rd_idx (by kernel_rfl) (by omega) (by omega), ?_⟩
    rw [Int.toNat_natCast]
    generalize hc0 : l.getD i 0 = c0 at *
    have h32 : decide (((c0.toNat : Nat) : Int) = 32) = (c0 == 32) := dec_c c0 32
    rw [h32]
    refine ⟨fun e => ?_, fun e => ?_⟩
    · rw [if_pos (by simpa using e)] at hf
      exact ⟨_, isW (by unfold InR; omega), ⟨k, i + 1, acc, a, n, c, rfl, by omega, by omega, hf, O, hacc⟩, by simp [vint]; omega⟩
    rw [if_neg (by simpa using e)] at hf
    have gidx : ∀ {h' : Hp} (m : Nat), m < l.length → Rd Tryz.prog (Instr.index 9 (vs (bs l)) (vi (m : Nat))) h' (vk .u8 ((l.getD m 0).toNat : Nat)) := by
      intro h' m hm
      have := rd_idx (P := Tryz.prog) (h := h') (t := 9) (by kernel_rfl) (l := l) (i := (m : Nat)) (by omega) (by omega)
      rwa [Int.toNat_natCast] at this
    have g1 := endW_gt l i
    have g2 := endW_le hlt
    refine ⟨fun vs h' => h' = hh ∧ ∃ m : Nat, vs = [vi m] ∧ i ≤ m ∧ m ≤ l.length ∧ m + runP isL (l.drop m) = i + runP isL (l.drop i), fun vs hh => l.length - (vint vs 0).toNat, ⟨rfl, i, rfl, Nat.le_refl _, hi, rfl⟩, ?_⟩
    rintro vs hh2 ⟨rfl, m, rfl, him, hml, hrun⟩
    -- what is read at m
    refine ⟨m, rfl, ((l.getD m 0).toNat : Nat), fun e => gidx m (by have := of_decide_eq_true e; omega), ((l.getD m 0).toNat : Nat), fun e => gidx m (by
      by_cases q : m < l.length
      · exact q
      · have : decide (((m : Nat) : Int) < (l.length : Nat)) = false := decide_eq_false (by omega)
        rw [this] at e; simp at e), ?_⟩
    have hcond : (bif (bif (decide (((m : Nat) : Int) < (l.length : Nat))) then (decide ((((l.getD m 0).toNat : Nat) : Int) ≥ 97)) else false) then (decide ((((l.getD m 0).toNat : Nat) : Int) ≤ 122)) else false) = (decide (m < l.length) && isL (l.getD m 0)) := by
      rw [← dec_isL]
      by_cases q : m < l.length
      · rw [decide_eq_true (show ((m : Nat) : Int) < (l.length : Nat) by omega), decide_eq_true q, cond_true, Bool.true_and, Bool.and_eq_decide, Bool.cond_eq_ite]
        by_cases q2 : ((l.getD m 0).toNat : Int) ≥ 97 <;> by_cases q3 : ((l.getD m 0).toNat : Int) ≤ 122 <;> simp only [decide_eq_true, decide_eq_false, q2, q3, if_true, if_false, not_false_eq_true, and_self, and_true, true_and, false_and, and_false, decide_true, decide_false, Bool.false_eq_true]
      · rw [decide_eq_false (show ¬ ((m : Nat) : Int) < (l.length : Nat) by omega), decide_eq_false q]
        rfl
    rw [hcond]
    refine ⟨fun e => ?_, fun e => ?_⟩
    · have hm : m < l.length ∧ isL (l.getD m 0) = true := by rw [Bool.and_eq_true, decide_eq_true_eq] at e; exact e
      rw [runP_yes hm.1 hm.2] at hrun
      exact ⟨_, isW (by unfold InR; omega), ⟨rfl, m + 1, rfl, by omega, by omega, by omega⟩, by simp [vint]; omega⟩
    have hrun0 : runP isL (l.drop m) = 0 := runP_no fun q => by rw [decide_eq_true q, Bool.true_and] at e; exact e
    rw [hrun0] at hrun
    clear hcond e
    intro J37
    -- the end, where the word's end is known
    have tail : ∀ J59 : Int → Prop, (J59 = fun (x60 : Int) => (((decide ((x60 : Int) = (i : Nat))) = true → R (vtup [(vsl none 0 0), (vi 4)]) hh2) ∧ ((decide ((x60 : Int) = (i : Nat))) = false → (∃ (s62 : ByteArray), (Rd Tryz.prog (Instr.sliceAt 9 (vs (bs l)) (some (vi (i : Nat))) (some (vi x60)) none) hh2 (vs s62)) ∧ (∀ (b63 : Nat), hh2 b63 = none → let h64 : Hp := Hp.set hh2 b63 (cellsO [(vs s62)] 9); (SemOK Tryz.prog (Builtin.append_ #[83, 83] 83 #[(vsl a n c), (vsl (some (⟨b63, 0, none⟩ : Addr)) 1 1)]) h64 fun v65 h66 => ∃ (a67 : Option Addr) (n67 c67 : Nat), v65 = (vsl a67 n67 c67) ∧ (((decide ((((n67 : Nat) : Int) : Int) > 80)) = true → R (vtup [(vsl none 0 0), (vi 2)]) h66) ∧ ((decide ((((n67 : Nat) : Int) : Int) > 80)) = false → ((∃ (k i : Nat) (acc : List (List UInt8)) (a : Option Addr) (n c : Nat), [(vsl a67 n67 c67), (vi x60)] = [vsl a n c, vi i] ∧ l.length < i + k ∧ i ≤ l.length ∧ lexF l k i acc = wordsL l ∧ OwnV h h66 9 1 a n c (acc.flatMap encB) ∧ acc.length ≤ 80) ∧ l.length - (vint [(vsl a67 n67 c67), (vi x60)] 1).toNat < l.length - (vint [vsl a n c, vi (i : Nat)] 1).toNat))))))))) →
        (kindB c0 = 32 → J59 ((i : Nat) : Int)) ∧ (kindB c0 ≠ 32 → J59 ((endW l i : Nat) : Int)) := by
      rintro J59 rfl
      refine ⟨fun hk32 => ⟨fun _ => ?_, fun e => by simp at e⟩, fun hk32 => ⟨fun e => ?_, fun _ => ?_⟩⟩
      · rw [if_pos hk32] at hf
        rw [← hf] at hK
        exact hK none 0 0 hh2 (OwnV.nil O.le _ _)
      · have := of_decide_eq_true e; omega
      · rw [if_neg hk32] at hf
        refine ⟨_, rd_cut (by kernel_rfl) (by omega) (by omega) (by omega), ?_⟩
        rw [Int.toNat_natCast, Int.toNat_natCast]
        intro b hb h24
        refine OwnV.append elStr (OwnV.set hb _ O) (HasRow.new _ _ [vs (bs ((l.drop i).take (endW l i - i)))] _) (m := 1) rfl (by simp [Value.oneCell']) (by omega) (by omega) fun a' c' h' O' _ _ => ⟨_, _, _, rfl, fun e => ?_, fun e => ?_⟩
        · rw [if_pos (by simp at e; omega)] at hf
          rw [← hf] at hK
          exact hK none 0 0 h' (OwnV.nil O'.le _ _)
        · have h80 : ¬ acc.length + 1 > 80 := by simp at e; omega
          rw [if_neg h80] at hf
          refine ⟨⟨k, endW l i, acc ++ [(l.drop i).take (endW l i - i)], a', _, c', rfl, by omega, g2, hf, ?_, by simp; omega⟩, by simp [vint]; omega⟩
          rw [List.flatMap_append]
          exact O'
    have big : ∀ m' : Nat, i < m' → m' = endW l i → kindB c0 ≠ 32 → J37 (m' : Nat) hh2 := by
      intro m' h1 h2 h3
      have hd : decide (((m' : Nat) : Int) = (i : Nat)) = false := decide_eq_false (by omega)
      refine ⟨0, fun e => by simp [hd] at e, 0, fun e => by simp [hd] at e, bs [], fun e => by simp [hd] at e, false, fun e => by simp [hd] at e, 0, fun e => by simp [hd] at e, bs [], fun e => by simp [hd] at e, false, fun e => by simp [hd] at e, 0, fun e => by simp [hd] at e, bs [], fun e => by simp [hd] at e, false, fun e => by simp [hd] at e, ?_⟩
      intro J54
      refine ⟨fun e => by simp [hd] at e, fun _ => ?_⟩
      refine ⟨fun e => by simp [hd] at e, fun _ => ?_⟩
      rw [h2]
      exact (tail _ rfl).2 h3
    have small : isL c0 = false → isDg c0 = false → J37 (i : Nat) hh2 := by
      intro hL hD
      have hd : decide (((i : Nat) : Int) = (i : Nat)) = true := decide_eq_true rfl
      have e1 : ((i : Nat) : Int) + 1 = ((i + 1 : Nat) : Int) := by omega
      have e2 : ((i : Nat) : Int) + 2 = ((i + 2 : Nat) : Int) := by omega
      have cut : ∀ {b : Prop}, (b → i + 1 < l.length) → b → Rd Tryz.prog (Instr.sliceAt 9 (vs (bs l)) (some (vi (i : Nat))) (some (vi ((i + 2 : Nat) : Int))) none) hh2 (vs (bs [c0, l.getD (i + 1) 0])) := by
        intro b hb hb'
        have q := hb hb'
        have := rd_cut (P := Tryz.prog) (h := hh2) (t := 9) (by kernel_rfl) (l := l) (i := (i : Nat)) (j := ((i + 2 : Nat) : Int)) (by omega) (by omega) (by omega)
        rw [Int.toNat_natCast, Int.toNat_natCast, show i + 2 - i = 2 by omega, two_bytes q, hc0] at this
        exact this
      have lt : ∀ {e : Bool}, (bif decide (((i : Nat) : Int) = (i : Nat)) then decide (((i + 1 : Nat) : Int) < (l.length : Nat)) else false) = true → i + 1 < l.length := by
        intro _ e
        rw [hd, cond_true] at e
        have := of_decide_eq_true e
        omega
      have w2 : IsW ((i + 2 : Nat) : Int) (((i : Nat) : Int) + 2) := by rw [e2]; exact isW (by unfold InR; omega)
      refine ⟨((i + 1 : Nat) : Int), fun _ => by rw [e1]; exact isW (by unfold InR; omega), ((i + 2 : Nat) : Int), fun _ => w2, _, cut (lt (e := true)), _, fun _ => rd_eqBs (b := [60, 61]), ((i + 2 : Nat) : Int), fun _ => w2, _, cut (fun e => lt (e := true) e.1), _, fun _ => rd_eqBs (b := [62, 61]),
        ((i + 2 : Nat) : Int), fun _ => w2, _, cut (fun e => lt (e := true) e.1), _, fun _ => rd_eqBs (b := [60, 62]), ?_⟩
      intro J54
      have hlen : decide (((i + 1 : Nat) : Int) < (l.length : Nat)) = decide (i + 1 < l.length) := decide_eq_decide.2 (by omega)
      rw [hd, cond_true, hlen]
      have d40 : decide (((c0.toNat : Nat) : Int) = 40) = (c0 == 40) := dec_c c0 40
      have d41 : decide (((c0.toNat : Nat) : Int) = 41) = (c0 == 41) := dec_c c0 41
      have d44 : decide (((c0.toNat : Nat) : Int) = 44) = (c0 == 44) := dec_c c0 44
      have d42 : decide (((c0.toNat : Nat) : Int) = 42) = (c0 == 42) := dec_c c0 42
      have d43 : decide (((c0.toNat : Nat) : Int) = 43) = (c0 == 43) := dec_c c0 43
      have d45 : decide (((c0.toNat : Nat) : Int) = 45) = (c0 == 45) := dec_c c0 45
      have d60 : decide (((c0.toNat : Nat) : Int) = 60) = (c0 == 60) := dec_c c0 60
      have d62 : decide (((c0.toNat : Nat) : Int) = 62) = (c0 == 62) := dec_c c0 62
      have d61 : decide (((c0.toNat : Nat) : Int) = 61) = (c0 == 61) := dec_c c0 61
      have hsign : (bif (bif (bif (bif (bif (bif (bif (bif (c0 == 40) then true else (c0 == 41)) then true else (c0 == 44)) then true else (c0 == 42)) then true else (c0 == 43)) then true else (c0 == 45)) then true else (c0 == 60)) then true else (c0 == 62)) then true else (c0 == 61)) = isS c0 := by
        unfold isS
        cases c0 == 40 <;> cases c0 == 41 <;> cases c0 == 44 <;> cases c0 == 42 <;> cases c0 == 43 <;> cases c0 == 45 <;> cases c0 == 60 <;> cases c0 == 62 <;> cases c0 == 61 <;> rfl
      by_cases hS : isS c0 = true
      · have hk40 : kindB c0 = 40 := kind_sign.2 ⟨hL, hD, hS⟩
        have hne : kindB c0 ≠ 32 := by omega
        refine ⟨fun e => ?_, fun e => ?_⟩
        · have he : endW l i = i + 2 := by
            unfold endW
            rw [hc0, if_pos hk40, if_pos ?_]
            by_cases q : i + 1 < l.length
            · refine ⟨q, ?_⟩
              generalize l.getD (i + 1) 0 = c1 at e ⊢
              by_cases q1 : c0 = 60 <;> by_cases q2 : c1 = 61 <;> by_cases q3 : c1 = 62 <;> by_cases q4 : c0 = 62 <;> simp [q, q1, q2, q3, q4] at e ⊢
            · simp [q] at e
          refine ⟨((i + 2 : Nat) : Int), w2, ?_⟩
          have hd2 : decide (((i + 2 : Nat) : Int) = (i : Nat)) = false := decide_eq_false (by omega)
          refine ⟨fun e => absurd e (by rw [hd2, cond_false]; simp), fun _ => ?_⟩
          have := (tail _ rfl).2 hne
          rw [he] at this
          exact this
        · have he : endW l i = i + 1 := by
            unfold endW
            rw [hc0, if_pos hk40, if_neg ?_]
            rintro ⟨q, q0⟩
            generalize l.getD (i + 1) 0 = c1 at e q0
            by_cases q1 : c0 = 60 <;> by_cases q2 : c1 = 61 <;> by_cases q3 : c1 = 62 <;> by_cases q4 : c0 = 62 <;> simp [q, q1, q2, q3, q4] at e q0
          refine ⟨fun _ => ⟨((i + 1 : Nat) : Int), by rw [e1]; exact isW (by unfold InR; omega), ?_⟩, fun e => ?_⟩
          · have := (tail _ rfl).2 hne
            rw [he] at this
            exact this
          · rw [hd, cond_true, d40, d41, d44, d42, d43, d45, d60, d62, d61, hsign, hS] at e
            cases e
      · have hS' : isS c0 = false := by simpa using hS
        have hk32 : kindB c0 = 32 := kind_none.2 ⟨hL, hD, hS'⟩
        refine ⟨fun e => ?_, fun e => ?_⟩
        · exfalso
          have h60 : ¬ c0 = 60 := fun h => by rw [h] at hS'; revert hS'; decide
          have h62 : ¬ c0 = 62 := fun h => by rw [h] at hS'; revert hS'; decide
          simp [h60, h62] at e
        · refine ⟨fun e => ?_, fun e => (tail _ rfl).1 hk32⟩
          rw [hd, cond_true, d40, d41, d44, d42, d43, d45, d60, d62, d61, hsign, hS'] at e
          cases e
    -- letters, digits, or neither
    by_cases hL : isL c0 = true
    · have hk97 : kindB c0 = 97 := kind_letter.2 hL
      have he : endW l i = i + runP isL (l.drop i) := by
        unfold endW
        rw [hc0, hk97, if_neg (by decide), letter_fun, runP_yes hlt (by rw [hc0]; exact hL)]
        omega
      have hme : m = endW l i := by omega
      have hd : decide (((m : Nat) : Int) = (i : Nat)) = false := decide_eq_false (by omega)
      refine ⟨fun e => ?_, fun _ => big m (by omega) hme (by omega)⟩
      rw [hd] at e; cases e
    · have hL' : isL c0 = false := by simpa using hL
      have hr0 : runP isL (l.drop i) = 0 := runP_no fun _ => by rw [hc0]; exact hL'
      have hmi : m = i := by omega
      subst hmi
      have hd : decide (((m : Nat) : Int) = (m : Nat)) = true := decide_eq_true rfl
      refine ⟨fun _ => ?_, fun e => by rw [hd] at e; cases e⟩
      refine ⟨fun vs h' => h' = hh2 ∧ ∃ d : Nat, vs = [vi d] ∧ m ≤ d ∧ d ≤ l.length ∧ d + runP isDg (l.drop d) = m + runP isDg (l.drop m), fun vs hh => l.length - (vint vs 0).toNat, ⟨rfl, m, rfl, Nat.le_refl _, hi, rfl⟩, ?_⟩
      rintro vs hh3 ⟨rfl, d, rfl, hmd, hdl, hrund⟩
      refine ⟨d, rfl, ((l.getD d 0).toNat : Nat), fun e => gidx d (by have := of_decide_eq_true e; omega), ((l.getD d 0).toNat : Nat), fun e => gidx d (by
        by_cases q : d < l.length
        · exact q
        · have : decide (((d : Nat) : Int) < (l.length : Nat)) = false := decide_eq_false (by omega)
          rw [this] at e; simp at e), ?_⟩
      have hcond : (bif (bif (decide (((d : Nat) : Int) < (l.length : Nat))) then (decide ((((l.getD d 0).toNat : Nat) : Int) ≥ 48)) else false) then (decide ((((l.getD d 0).toNat : Nat) : Int) ≤ 57)) else false) = (decide (d < l.length) && isDg (l.getD d 0)) := by
        rw [← dec_isDg]
        by_cases q : d < l.length
        · rw [decide_eq_true (show ((d : Nat) : Int) < (l.length : Nat) by omega), decide_eq_true q, cond_true, Bool.true_and, Bool.and_eq_decide, Bool.cond_eq_ite]
          by_cases q2 : ((l.getD d 0).toNat : Int) ≥ 48 <;> by_cases q3 : ((l.getD d 0).toNat : Int) ≤ 57 <;> simp only [decide_eq_true, decide_eq_false, q2, q3, if_true, if_false, not_false_eq_true, and_self, and_true, true_and, false_and, and_false, decide_true, decide_false, Bool.false_eq_true]
        · rw [decide_eq_false (show ¬ ((d : Nat) : Int) < (l.length : Nat) by omega), decide_eq_false q]
          rfl
      rw [hcond]
      refine ⟨fun e => ?_, fun e => ?_⟩
      · have hm : d < l.length ∧ isDg (l.getD d 0) = true := by rw [Bool.and_eq_true, decide_eq_true_eq] at e; exact e
        rw [runP_yes hm.1 hm.2] at hrund
        exact ⟨_, isW (by unfold InR; omega), ⟨rfl, d + 1, rfl, by omega, by omega, by omega⟩, by simp [vint]; omega⟩
      have hrund0 : runP isDg (l.drop d) = 0 := runP_no fun q => by rw [decide_eq_true q, Bool.true_and] at e; exact e
      rw [hrund0] at hrund
      by_cases hD : isDg c0 = true
      · have hk48 : kindB c0 = 48 := kind_digit.2 ⟨hL', hD⟩
        have he : endW l m = m + runP isDg (l.drop m) := by
          unfold endW
          rw [hc0, hk48, if_neg (by decide), digit_fun, runP_yes hlt (by rw [hc0]; exact hD)]
          omega
        exact big d (by omega) (by omega) (by omega)
      · have hD' : isDg c0 = false := by simpa using hD
        have hr1 : runP isDg (l.drop m) = 0 := runP_no fun _ => by rw [hc0]; exact hD'
        have hdm : d = m := by omega
        subst hdm
        exact small hL' hD'
  · have hge : i = l.length := by simp at e; omega
    have : lexF l k i acc = (acc, 0) := by
      cases k with
      | zero => rfl
      | succ k => rw [lexF, if_pos (by omega)]
    rw [this] at hf
    rw [← hf] at hK
    exact hK a n c hh O
end Go.Proofs.YtejefijpcggkfaaGreatDoor
namespace Go.Proofs.YtejefijpcggkfaaGreatDoor
open Go Go.Vc Go.Txt
set_option linter.unusedVariables false
set_option maxRecDepth 100000
def aggL : List Wd := [wCount, wSum, wMin, wMax]
def refKind (w : Wd) : Int := if w = wCount then 2 else aggKind w
theorem aggL_at {i : Nat} (hi : i < 4) : aggL.getD i [] ∈ aggL ∧ aggL.getD i [] ≠ [] ∧ refKind (aggL.getD i []) = (i : Int) + 2 := by
  match i, hi with
  | 0, _ => decide
  | 1, _ => decide
  | 2, _ => decide
  | 3, _ => decide
theorem ints_at (h : Hp) (b : Nat) {i : Nat} (hi : i < 4) : (h.set b (cellsO [vi 2, vi 3, vi 4, vi 5] 3)).cell b (0 + (i : Int).toNat * 1) = some (vi ((i : Int) + 2)) := by
  match i, hi with
  | 0, _ => exact cell_cells (Hp.set_same _ _ _) rfl
  | 1, _ => exact cell_cells (Hp.set_same _ _ _) rfl
  | 2, _ => exact cell_cells (Hp.set_same _ _ _) rfl
  | 3, _ => exact cell_cells (Hp.set_same _ _ _) rfl
theorem RrAt.keep {h0 h h' : Hp} {g : Nat} {W : List Wd} {s : RS} (D : RrAt h0 h g W s) (hb : h' g = h g) (l : h0.le h') : RrAt h0 h' g W s := by
  obtain ⟨a, c, i, hb', hS, hi, hw⟩ := D.b
  exact ⟨⟨a, c, i, hb.trans hb', hS, hi, hw⟩, l, D.z, D.f0, D.n, D.w⟩
structure AgW (h0 h : Hp) (g : Nat) (a : Option Addr) (m c : Nat) (s : RS) (L : List Ag) : Prop where
  own : ∃ xs, OwnV h0 h 67 2 a m c xs
  ne : a ≠ some ⟨g, 0, none⟩
  ok : s.f = 0 → AggB (At g) h0 h a c L ∧ m = L.length
theorem AgW.mut {h0 h h' : Hp} {g : Nat} {a : Option Addr} {m c : Nat} {s : RS} {L : List Ag} (A : AgW h0 h g a m c s L) (hg : h0 g = none) (M : Mut (At g) h (At g) h') : AgW h0 h' g a m c s L := by
  have hG2 : ∀ b, At g b → h0 b = none := fun b e => by rw [show b = g from e]; exact hg
  obtain ⟨xs, O⟩ := A.own
  refine ⟨⟨xs, ⟨fun b o hb => M.keep b o (fun q => by rw [hG2 b q] at hb; cases hb) (O.le b o hb), O.own.keep fun b o ha hb => M.keep b o (fun q => A.ne (by rw [ha, show b = g from q])) hb, O.new⟩⟩, A.ne, fun hf => ⟨(A.ok hf).1.keep hG2 M.keep, (A.ok hf).2⟩⟩
theorem AgW.state {h0 h : Hp} {g : Nat} {a : Option Addr} {m c : Nat} {s t : RS} {L : List Ag} (A : AgW h0 h g a m c s L) (hh : t.f = 0 → s.f = 0) : AgW h0 h g a m c t L := ⟨A.own, A.ne, fun hf => A.ok (hh hf)⟩
theorem AgW.al {h0 h : Hp} {g : Nat} {a : Option Addr} {m c : Nat} {s : RS} {L : List Ag} (A : AgW h0 h g a m c s L) {b : Nat} (ha : a = some ⟨b, 0, none⟩) : h b ≠ none := by
  obtain ⟨xs, O⟩ := A.own
  rcases O.own.2 with ⟨q1, _⟩ | ⟨g', cur, q1, q2, _⟩
  · rw [q1] at ha; cases ha
  · rw [q1] at ha; cases ha; rw [q2]; simp
theorem agw_app {h0 hB h1 : Hp} {g : Nat} {a : Option Addr} {m c : Nat} {L : List Ag} {W : List Wd} {s : RS} (A : AgW h0 h1 g a m c s L) (D : RrAt h0 h1 g W s) (hBg : hB g ≠ none) (hBa : ∀ b, a = some ⟨b, 0, none⟩ → hB b ≠ none) {k : Int} {a2 : Option Addr} {m2 c2 : Nat} {l : List Nd} (N : s.f = 0 → NdAt hB h1 a2 m2 l) (hL : m ≤ 1000)
    {b : Nat} (hb : h1 b = none) {K : Value → Hp → Prop} (hK : ∀ a' c' h', AgW h0 h' g a' (m + 1) c' s (L ++ [(k, l)]) → RrAt h0 h' g W s → K (vsl a' (m + 1) c') h') :
    SemOK Tryz.prog (Builtin.append_ #[24, 24] 24 #[vsl a m c, vsl (some ⟨b, 0, none⟩) 1 1]) (h1.set b (cellsO [vi k, vsl a2 m2 c2] 67)) K := by
  obtain ⟨o, ho⟩ : ∃ o, h1 g = some o := by
    cases e : h1 g with
    | none => exact absurd e D.al
    | some o => exact ⟨o, rfl⟩
  by_cases hf : s.f = 0
  · obtain ⟨B, hm⟩ := A.ok hf
    have N := N hf
    obtain rfl := N.s.1
    subst hm
    refine B.app (x := k) (c2 := c2) elAgg (Hp.le_refl h1) (fun b' e => by rw [show b' = g from e]; exact hBg) hBa N.s.2 N.nw ?_ rfl (fun b' e => by rw [show b' = g from e]; exact D.al) (by omega) (by omega) hb fun a' c' h' B' hk => hK a' c' h' ⟨?_, B'.ne rfl, fun _ => ⟨B', by simp⟩⟩ (D.keep ((hk g o ho (B.ne rfl)).trans ho.symm) B'.le0)
    · intro u hu
      have : u = vi k ∨ u = vsl a2 l.length c2 := by simpa [aggRw] using hu
      rcases this with rfl | rfl <;> rfl
    · have := B'.own
      simpa using this
  · obtain ⟨xs, O⟩ := A.own
    have l2 : h1.le (h1.set b (cellsO [vi k, vsl a2 m2 c2] 67)) := Hp.le_set (Hp.le_refl h1) hb _
    refine OwnV.append elAgg (O.mono l2) (HasRow.new _ _ [vi k, vsl a2 m2 c2] _) (m := 1) rfl (by simp [Value.oneCell']) (by omega) (by omega) fun a' c' h' O' k1 k2 => hK a' c' h' ⟨⟨_, O'⟩, fun e => ?_, fun q => absurd q hf⟩ (D.keep ((k1 g o (l2 g o ho) A.ne).trans ho.symm) O'.le)
    rcases k2 g e with q | q
    · exact A.ne (q.trans e)
    · rw [l2 g o ho] at q; cases q
end Go.Proofs.YtejefijpcggkfaaGreatDoor
namespace Go.Proofs.YtejefijpcggkfaaGreatDoor
open Go Go.Vc Go.Txt
set_option linter.unusedVariables false
set_option maxRecDepth 100000
theorem opt_split {h0 h h2 : Hp} {g : Nat} {W : List Wd} {s : RS} {w : Wd} (hw : w ≠ []) {d : Int} {J : Int → Hp → Prop} (hJ : ∀ h', RrAt h0 h' g W (optN w d s).2 → Mut (At g) h (At g) h' → J (optN w d s).1 h') (D : RrAt h0 h2 g W (s.is [w]).2) (M : Mut (At g) h (At g) h2) :
    (decide ((s.is [w]).1 ≠ []) = true → CallOK Tryz.prog 52 [vhp g 0, vi 1000] h2 fun v1 h3 => ∃ (x : Int), v1 = vi x ∧ J x h3) ∧ (decide ((s.is [w]).1 ≠ []) = false → J d h2) := by
  unfold optN at hJ
  refine ⟨fun e => ?_, fun e => ?_⟩
  · have e : (s.is [w]).1 ≠ [] := of_decide_eq_true e
    rw [if_neg e] at hJ
    exact rd_number_ok D (by decide) (by decide) fun h3 D3 M3 => ⟨_, rfl, hJ h3 D3 (M.trans M3)⟩
  · have e : (s.is [w]).1 = [] := by simpa using e
    rw [if_pos e] at hJ
    rw [is_oneR hw e] at D
    exact hJ h2 D M
theorem RrAt.c01 {h0 h : Hp} {g : Nat} {W : List Wd} {s : RS} (D : RrAt h0 h g W s) : ∃ (a : Option Addr) (c i : Nat), h.cell g 0 = some (vsl a W.length c) ∧ h.cell g (0 + 1) = some (vi i) ∧ (s.f = 0 → (i < W.length ↔ s.ws ≠ [])) := by
  obtain ⟨a, c, i, hb, hS, hi, hw⟩ := D.b
  refine ⟨a, c, i, cell_cells hb rfl, cell_cells hb rfl, fun hf => ?_⟩
  rw [hw, if_pos hf, ne_eq, nil_len, List.length_drop]
  omega
theorem RrAt.put3 {h0 h : Hp} {g : Nat} {W : List Wd} {s : RS} (D : RrAt h0 h g W s) {f : Int} (hf : 0 ≤ f) {K : Hp → Prop} (hK : ∀ h' t, t.f = f → RrAt h0 h' g W t → Mut (At g) h (At g) h' → K h') : h.store g (0 + 3) [vi f] K := by
  obtain ⟨a, c, i, hb, hS, hi, hw⟩ := D.b
  exact store_cells hb (by simp) (hK _ ⟨if f = 0 then W.drop i else [], s.deep, f⟩ rfl ⟨⟨a, c, i, Hp.set_same _ _ _, hS, hi, rfl⟩, le_put D.l D.z _, D.z, hf, D.n, D.w⟩ (mut_set _ _ _))
theorem firstF_2 : ∀ (l : List Int), (∀ x ∈ l, 0 ≤ x) → 0 ≤ firstF l
  | [], _ => Int.le_refl _
  | x :: l, h => by
    rw [firstF]
    split
    · exact h x (List.mem_cons_self ..)
    · exact firstF_2 l fun y hy => h y (List.mem_cons_of_mem _ hy)
theorem qryF_2 (q : Qy) : 0 ≤ qryF q := by
  unfold qryF
  split
  · decide
  · have h1 := firstF_2 (q.aggs.map aggF) (fun x hx => by
      obtain ⟨y, _, rfl⟩ := List.mem_map.1 hx
      unfold aggF
      split
      · decide
      · split
        · decide
        · exact typedF_2 _ _)
    split
    · exact h1
    · refine firstF_2 _ fun x hx => ?_
      have h2 : x = (if q.wh = [] then 0 else typedF q.wh 2) ∨ x = (if q.by_ = [] then 0 else typedF q.by_ 0) ∨ x = numsF q := by simpa using hx
      rcases h2 with rfl | rfl | rfl
      · split
        · decide
        · exact typedF_2 _ _
      · split
        · decide
        · exact typedF_2 _ _
      · unfold numsF
        split
        · decide
        · split <;> decide
theorem noQ_big : QBig noQ := ⟨Nat.zero_le _, Nat.zero_le _, (fun a ha => by cases ha), Nat.zero_le _⟩
def vbool (l : List Value) (i : Nat) : Bool := match l[i]? with | some (.bool x) => x | _ => false
set_option maxHeartbeats 1000000 in
theorem R_QueryOf_ok {l : List UInt8} {h : Hp} {R : Value → Hp → Prop} (hK : ∀ a1 n1 c1 a2 n2 c2 a3 n3 c3 h', h.le h' → 0 ≤ (parseQ l).2 → QBig (parseQ l).1 → QAt h' (parseQ l).1 a1 n1 a2 n2 a3 n3 → R (vtup [qV a1 n1 c1 a2 n2 c2 a3 n3 c3 (parseQ l).1, vi (parseQ l).2]) h') : CallOK Tryz.prog 17 [vs (bs l)] h R := by
  refine ok_R_QueryOf ?_
  unfold VC_R_QueryOf
  refine R_WordsOf_ok fun wa wn wc h2 O => ⟨_, _, _, _, rfl, ?_⟩
  have lw := wordsL_words l
  have lf := wordsL_f l
  have l02 := O.le
  unfold parseQ at hK
  generalize wordsL l = WW at *
  obtain ⟨W, fw⟩ := WW
  simp only at hK lw O lf
  refine ⟨fun e => ?_, fun e => ?_⟩
  · have e2 : fw ≠ 0 := by have := of_decide_eq_true e; omega
    rw [if_pos e2] at hK
    exact hK none 0 0 none 0 0 none 0 0 h2 l02 (by show 0 ≤ fw; omega) noQ_big (noQ_at h2)
  have e2 : ¬ fw ≠ 0 := by have : ¬ fw > 0 := of_decide_eq_false e; omega
  rw [if_neg e2] at hK
  clear e e2
  have hS := O.slp encB_len (by decide)
  obtain rfl := hS.1
  intro b6 hb6 h7
  have l7 : h2.le h7 := Hp.le_set (Hp.le_refl h2) hb6 _
  have D7 : RrAt h2 h7 b6 W ⟨W, 0, 0⟩ := ⟨⟨wa, wc, 0, Hp.set_same _ _ _, hS, Nat.zero_le _, rfl⟩, l7, hb6, Int.le_refl _, by omega, fun x hx => Nat.le_trans (lw.2 x hx) (by decide)⟩
  have F : RReads 0 (allP (W.length + 1)).o (W.length + 1) := (rreads_all (W.length + 1)).1
  have kp := (keeps_all (W.length + 1)).1
  have g0 : (⟨W, 0, 0⟩ : RS).good := fun h => absurd rfl h
  have S7 : SOk (W.length + 1) ⟨W, 0, 0⟩ := ⟨g0, Nat.lt_succ_self _, by show W.length ≤ 1000; omega, Int.le_refl _, by show (0 : Int) + (W.length : Int) ≤ 1000000; omega⟩
  have hAll := allA_ok W
  unfold parseW at hK
  rw [readQ_eq] at hK
  unfold allA firstA at hK hAll
  generalize (allP (W.length + 1)).o = o at *
  have G1 := goes_must g0 wSelect
  refine rd_must_ok (w := wSelect) D7 (by decide) fun h9 D9 M9 => ⟨rfl, ?_⟩
  generalize (⟨W, 0, 0⟩ : RS).must wSelect = s1 at *
  have S9 := S7.goes G1
  have hs1 : s1.ws.length ≤ 80 := Nat.le_trans G1.len lw.1
  intro J145
  -- the rest, behind what is gathered
  have hRest : ∀ (L : List Ag) (t : RS) (a : Option Addr) (m c : Nat) (hE : Hp), AgW h2 hE b6 a m c t L → RrAt h2 hE b6 W t → SOk (W.length + 1) t → aggsP o ((aggP o s1).2.ws.length + 1) [(aggP o s1).1] (aggP o s1).2 = (L, t) → L.length ≤ 1000 → J145 a m c none 0 0 none 0 0 0 0 hE := by
    intro L t a m c hE AE DE SE hL hLn
    rw [hL] at hK hAll
    simp only at hK hAll
    have hgE := DE.al
    have G3 := goes_must SE.good wFrom
    refine rd_must_ok (w := wFrom) DE (by decide) fun h867 D867 M867 => ⟨rfl, ?_⟩
    have S867 := SE.goes G3
    have G4 := G3.trans (goes_must G3.ok wEvents)
    refine rd_must_ok (w := wEvents) D867 (by decide) fun h869 D869 M869 => ⟨rfl, ?_⟩
    have ME := M867.trans M869
    have S869 := SE.goes G4
    unfold restQ at hK
    generalize (t.must wFrom).must wEvents = t2 at *
    have gi := goes_is S869.good [wWhere]
    have io := @is_oneR t2 wWhere (by decide)
    refine rd_take_ok (w := wWhere) D869 (by decide) fun h871 D871 M871 => ⟨_, rfl, ?_⟩
    have M871' := ME.trans M871
    intro J878
    have h878 : ∀ (wh : List Nd) (aw : Option Addr) (mw cw : Nat) (u : RS) (hX : Hp), optP wWhere o t2 = (wh, u) → RrAt h2 hX b6 W u → SOk (W.length + 1) u → Goes u t → (u.f = 0 → NdAt hE hX aw mw wh) → NdsOK wh → Mut (At b6) hE (At b6) hX → J878 aw mw cw hX := by
      intro wh aw mw cw u hX hw DX SX GX NX Kw MX
      rw [hw] at hK
      simp only at hK
      unfold byQ at hK
      have gi := goes_is SX.good [wGroup]
      have io := @is_oneR u wGroup (by decide)
      refine rd_take_ok (w := wGroup) DX (by decide) fun h939 D939 M939 => ⟨_, rfl, ?_⟩
      have M939' := MX.trans M939
      intro J948
      have h948 : ∀ (by_ : List Nd) (ab : Option Addr) (mb cb : Nat) (v : RS) (hY : Hp), optP wGroup (fun s => o (s.must wBy)) u = (by_, v) → RrAt h2 hY b6 W v → SOk (W.length + 1) v → Goes v t → (v.f = 0 → NdAt hE hY aw mw wh) → (v.f = 0 → NdAt hE hY ab mb by_) → NdsOK by_ → Mut (At b6) hE (At b6) hY → J948 ab mb cb hY := by
        intro by_ ab mb cb v hY hv DY SY GY Nw Nb Kb MY
        rw [hv] at hK
        simp only at hK
        unfold endQ at hK
        simp only at hK
        have Ga := goes_must SY.good wWindow
        refine rd_must_ok (w := wWindow) DY (by decide) fun h997 D997 M997 => ⟨rfl, ?_⟩
        have Sa := SY.goes Ga
        generalize v.must wWindow = v1 at *
        have Gb := goes_number Sa.good 1000
        refine rd_number_ok D997 (by decide) (by decide) fun h999 D999 M999 => ⟨_, rfl, ?_⟩
        have Sb := Sa.goes Gb
        generalize v1.number 1000 = Z at *
        obtain ⟨z, v2⟩ := Z
        simp -zeta only at hK D999 Sb Gb ⊢
        have M2 := (M997.trans M999)
        refine rd_take_ok (w := wSlide) D999 (by decide) fun h1002 D1002 M1002 => ⟨_, rfl, ?_⟩
        intro J1009
        have Gc := goes_optN Sb.good wSlide z
        refine opt_split (h := hY) (d := z) (by decide) (fun hA DA MA => ?_) D1002 (M2.trans M1002)
        have Sc := Sb.goes Gc
        generalize optN wSlide z v2 = Z at *
        obtain ⟨sl, v3⟩ := Z
        simp -zeta only at hK DA Sc Gc ⊢
        unfold J1009
        refine rd_take_ok (w := wDelay) DA (by decide) fun h1043 D1043 M1043 => ⟨_, rfl, ?_⟩
        intro J1050
        have Gd := goes_optN Sc.good wDelay 0
        refine opt_split (h := hY) (d := 0) (by decide) (fun hB DB MB => ?_) D1043 (MA.trans M1043)
        have Sd := Sc.goes Gd
        generalize optN wDelay 0 v3 = Z at *
        obtain ⟨d, v4⟩ := Z
        simp -zeta only at hK DB Sd Gd ⊢
        unfold J1050
        refine rd_take_ok (w := wLate) DB (by decide) fun h1074 D1074 M1074 => ⟨_, rfl, ?_⟩
        intro J1081
        have Ge := goes_optN Sd.good wLate 0
        refine opt_split (h := hY) (d := 0) (by decide) (fun hC DC MC => ?_) D1074 (MB.trans M1074)
        have Se := Sd.goes Ge
        generalize optN wLate 0 v4 = Z at *
        obtain ⟨lt, v5⟩ := Z
        simp -zeta only at hK DC Se Ge ⊢
        unfold J1081
        have GZ : Goes v5 v := ((((Ga.trans Gb).trans Gc).trans Gd).trans Ge)
        have GT : Goes v5 t := GY.trans GZ
        have MC' := MY.trans MC
        obtain ⟨qa, qc, qi, hq0, hq1, hqw⟩ := DC.c01
        refine ⟨_, DC.c3, _, fun _ => hq1, _, _, _, fun _ => hq0, ?_⟩
        intro J1100
        have h1100 : ∀ (hD : Hp) (y : RS), y.f = (if v5.f = 0 ∧ v5.ws ≠ [] then v5.fail 4 else v5).f → (y.f = 0 → v5.f = 0) → RrAt h2 hD b6 W y → Mut (At b6) hC (At b6) hD → J1100 hD := by
          intro hD y hy hy0 DD MD
          rw [← hy] at hK
          have MD' := MC'.trans MD
          refine ⟨_, DD.c3, ?_⟩
          intro J1109
          have h1109 : ∀ (hF : Hp) (f : Int), 0 ≤ f → hF.cell b6 (0 + 3) = some (vi f) → h.le hF → (f ≠ 0 → ∀ h', h.le h' → R (vtup [qV none 0 0 none 0 0 none 0 0 noQ, vi f]) h') → (f = 0 → R (vtup [qV a m c aw mw cw ab mb cb ⟨L, wh, by_, z, sl, d, lt⟩, vi 0]) hF) → J1109 hF := by
            intro hF f hf hc lh hb hg
            refine ⟨_, hc, fun e => ⟨_, hc, hc, ?_⟩, fun e => ?_⟩
            · have e := of_decide_eq_true e
              exact hb (by omega) hF lh
            · have e := of_decide_eq_false e
              exact hg (by omega)
          clear_value J1109
          refine ⟨fun e => ?_, fun e => ?_⟩
          · have e : y.f = 0 := of_decide_eq_true e
            have hv5 := hy0 e
            rw [e, if_neg (fun h => h rfl)] at hK
            have hvf : v.f = 0 := Decidable.byContradiction fun q => q ((GZ.fst q).symm.trans hv5)
            have htf : t.f = 0 := Decidable.byContradiction fun q => q ((GT.fst q).symm.trans hv5)
            have AD := AE.mut hb6 MD'
            obtain ⟨BE, hm⟩ := AD.ok htf
            have Nw2 := (Nw hvf).mut hgE (MC.trans MD)
            have Nb2 := (Nb hvf).mut hgE (MC.trans MD)
            subst hm
            have QE : QAt hD ⟨L, wh, by_, z, sl, d, lt⟩ a L.length aw mw ab mb := ⟨BE.tab, Nw2.s, Nb2.s⟩
            have hbig : QBig ⟨L, wh, by_, z, sl, d, lt⟩ := ⟨Nat.le_trans Kw.1 (by decide), Nat.le_trans Kb.1 (by decide), fun x hx => Nat.le_trans (hAll x hx).1 (by decide), by show L.length ≤ 1000000; omega⟩
            refine R_QueryFault_ok (q := ⟨L, wh, by_, z, sl, d, lt⟩) (c1 := c) (c2 := cw) (c3 := cb) QE hbig fun hG lG => ⟨qryF ⟨L, wh, by_, z, sl, d, lt⟩, rfl, ?_⟩
            refine (DD.le lG).put3 (qryF_2 _) fun hH y2 hy2 DH MH => ?_
            have lh : h.le hH := Hp.le_trans l02 DH.l
            have hc3 := DH.c3
            rw [hy2] at hc3
            refine h1109 hH _ (qryF_2 _) hc3 lh (fun hf h' l' => ?_) fun hf => ?_
            · rw [if_pos hf] at hK
              exact hK none 0 0 none 0 0 none 0 0 h' l' (qryF_2 _) noQ_big (noQ_at h')
            · rw [if_neg (fun h => h hf)] at hK
              have M2 := (Mut.of_le lG).trans MH
              have AD2 := (AD.mut hb6 M2).ok htf
              exact hK _ _ c _ _ cw _ _ cb hH lh (Int.le_refl _) hbig ⟨AD2.1.tab, (Nw2.mut hgE M2).s, (Nb2.mut hgE M2).s⟩
          · have e : y.f ≠ 0 := of_decide_eq_false e
            rw [if_pos e] at hK
            refine h1109 hD y.f DD.f0 DD.c3 (Hp.le_trans l02 DD.l) (fun hf h' l' => ?_) fun hf => absurd hf e
            exact hK none 0 0 none 0 0 none 0 0 h' l' DD.f0 noQ_big (noQ_at h')
        clear_value J1100
        rw [cand]
        refine ⟨fun e => ?_, fun e => ?_⟩
        · have e := of_decide_eq_true e
          have e2 : v5.f = 0 ∧ v5.ws ≠ [] := ⟨e.1, (hqw e.1).1 (by omega)⟩
          refine DC.put3 (f := 4) (by decide) fun hD y hy DD MD => h1100 hD y ?_ (fun q => by rw [hy] at q; cases q) DD MD
          rw [if_pos e2, hy]
          unfold RS.fail
          rw [if_pos e2.1]
        · have e := of_decide_eq_false e
          refine h1100 hC v5 ?_ id DC (Mut.of_le (Hp.le_refl _))
          rw [if_neg]
          rintro ⟨q1, q2⟩
          exact e ⟨q1, by have := (hqw q1).2 q2; omega⟩
      clear_value J948
      refine ⟨fun e => ?_, fun e => ?_⟩
      · have e : (u.is [wGroup]).1 ≠ [] := of_decide_eq_true e
        have hop : optP wGroup (fun s => o (s.must wBy)) u = o ((u.is [wGroup]).2.must wBy) := by unfold optP; rw [if_neg e]
        rw [hop] at h948
        have Su := SX.goes gi
        have Gy := goes_must Su.good wBy
        refine rd_must_ok (w := wBy) D939 (by decide) fun h942 D942 M942 => ⟨rfl, ?_⟩
        have S942 := Su.goes Gy
        have k2 := kp _ S942.good (Nat.le_of_lt S942.len)
        have M942' := M939'.trans M942
        refine F D942 S942 fun a m c hY DY NY MY => ⟨_, _, _, rfl, ?_⟩
        have Gall := (gi.trans Gy).trans k2.goes
        refine h948 _ _ _ _ _ hY rfl DY (S942.goes k2.goes) (GX.trans Gall) (fun q => ?_) (fun q => (NY q).base (M942'.up D942.al)) k2.nds (M942'.trans MY)
        have huf : u.f = 0 := Decidable.byContradiction fun q2 => q2 ((Gall.fst q2).symm.trans q)
        exact (((NX huf).mut hgE M939).mut hgE M942).mut hgE MY
      · have e : (u.is [wGroup]).1 = [] := by simpa using e
        have hop : optP wGroup (fun s => o (s.must wBy)) u = ([], u) := by unfold optP; rw [if_pos e]
        rw [io e] at D939
        exact h948 [] none 0 0 u h939 hop D939 SX GX (fun q => (NX q).mut hgE M939) (fun _ => nd_nil _ _) nds_nil M939'
    clear_value J878
    refine ⟨fun e => ?_, fun e => ?_⟩
    · have e : (t2.is [wWhere]).1 ≠ [] := of_decide_eq_true e
      have hop : optP wWhere o t2 = o (t2.is [wWhere]).2 := by unfold optP; rw [if_neg e]
      rw [hop] at h878
      have Su := S869.goes gi
      have k2 := kp _ Su.good (Nat.le_of_lt Su.len)
      refine F D871 Su fun a m c hX DX NX MX => ⟨_, _, _, rfl, ?_⟩
      exact h878 _ _ _ _ _ hX rfl DX (Su.goes k2.goes) ((G4.trans gi).trans k2.goes) (fun q => (NX q).base (M871'.up D871.al)) k2.nds (M871'.trans MX)
    · have e : (t2.is [wWhere]).1 = [] := by simpa using e
      have hop : optP wWhere o t2 = ([], t2) := by unfold optP; rw [if_pos e]
      rw [io e] at D871
      exact h878 [] none 0 0 t2 h871 hop D871 S869 G4 (fun _ => nd_nil _ _) nds_nil M871'
  clear_value J145
  -- what is gathered, one behind the other
  refine ⟨fun vs' hh => ∃ (p : Bool) (k : Nat) (L : List Ag) (t : RS) (a : Option Addr) (m c : Nat), vs' = [vb p, vsl a m c, vsl none 0 0, vsl none 0 0, vi 0, vi 0, vi 0, vi 0] ∧ AgW h2 hh b6 a m c t L ∧ RrAt h2 hh b6 W t ∧ SOk (W.length + 1) t ∧ aggsP o ((aggP o s1).2.ws.length + 1) [(aggP o s1).1] (aggP o s1).2 = (if p = true then aggsP o k (L ++ [(aggP o t).1]) (aggP o t).2 else (L, t)) ∧ (p = true → (aggP o t).2.ws.length < k) ∧ L.length + t.ws.length ≤ 100 + (if p = true then 0 else 1) ∧ m + t.ws.length ≤ 100 + (if p = true then 0 else 1), fun vs' hh => (if vbool vs' 0 = true then 1 else 0) + rrN hh b6, ⟨true, _, [], s1, none, 0, 0, rfl, ⟨⟨[], OwnV.nil D9.l _ _⟩, (fun e => by cases e), fun _ => ⟨GTabB.nil D9.l, rfl⟩⟩, D9, S9, rfl, fun _ => Nat.lt_succ_self _, by show 0 + s1.ws.length ≤ 100; omega, by show 0 + s1.ws.length ≤ 100; omega⟩, ?_⟩
  rintro vs' h14 ⟨p, k, L, t, a, m, c, rfl, A, D, S, hrow, hk, hL, hm⟩
  refine ⟨_, _, _, _, _, _, _, _, _, _, _, _, _, _, rfl, fun e => ?_, fun e => ?_⟩
  · rw [e] at hrow hk hm
    rw [e] at hL
    rw [if_pos rfl] at hrow hm hL
    have hk := hk rfl
    have hrn := D.rn
    have Ga := goes_agg kp S.good (Nat.le_of_lt S.len)
    intro b25 hb25 h26 b27 hb27 h28
    have l26 : h14.le h26 := Hp.le_set (Hp.le_refl h14) hb25 _
    have l28 : h26.le h28 := Hp.le_set (Hp.le_refl h26) hb27 _
    have l14 := Hp.le_trans l26 l28
    have hg := D.al
    have W25 : ElAt encB h28 b6 (some ⟨b25, 0, none⟩) 4 aggL := ⟨SlP.le l28 (slb_lit h14 b25 aggL (by decide)), fun b o q => by cases q; exact fun q2 => hg (by rw [← q2]; exact hb25)⟩
    have I27 : ∀ {i : Nat}, i < 4 → ∀ hh, Mut (At b6) h28 (At b6) hh → hh.cell b27 (0 + (i : Int).toNat * 1) = some (vi ((i : Int) + 2)) := by
      intro i hi hh M
      have hne : b27 ≠ b6 := fun q => hg (by rw [← q]; exact Hp.none_of_le l26 hb27)
      have := ints_at h26 b27 hi
      unfold Hp.cell at this ⊢
      rw [Hp.set_same] at this
      rw [M.keep b27 _ (fun q => hne q) (Hp.set_same _ _ _)]
      exact this
    have D28 := D.le l14
    intro J56
    -- one that is gathered
    have h56 : ∀ (x95 : Int) (hh : Hp), x95 = (if (t.is aggL).1 = [] then 0 else refKind (t.is aggL).1) → RrAt h2 hh b6 W (t.is aggL).2 → Mut (At b6) h14 (At b6) hh → J56 x95 none 0 0 hh := by
      intro x95 hh hx DD MM
      have hcw : [wCount, wSum, wMin, wMax] = aggL := rfl
      have hagg : aggP o t = (if (t.is aggL).1 = wCount ∧ ((((if (t.is aggL).1 = [] then (t.is aggL).2.fail 4 else (t.is aggL).2).must wOpen).is [wStar]).1 ≠ []) then ((1, []), ((((if (t.is aggL).1 = [] then (t.is aggL).2.fail 4 else (t.is aggL).2).must wOpen).is [wStar]).2.must wClose)) else ((if (t.is aggL).1 = wCount then 2 else aggKind (t.is aggL).1, (o ((if (t.is aggL).1 = [] then (t.is aggL).2.fail 4 else (t.is aggL).2).must wOpen)).1), (o ((if (t.is aggL).1 = [] then (t.is aggL).2.fail 4 else (t.is aggL).2).must wOpen)).2.must wClose)) := rfl
      have gi := goes_is S.good aggL
      have hwm : (t.is aggL).1 ∈ [[], wCount, wSum, wMin, wMax] := by
        by_cases q : (t.is aggL).1 = []
        · rw [q]; simp
        · exact List.mem_cons_of_mem _ (is_mem q)
      generalize t.is aggL = B at *
      obtain ⟨w, u⟩ := B
      simp -zeta only at hx DD hagg gi hwm
      have hkind : x95 = 0 ↔ w = [] := by
        have h5 : w = [] ∨ w = wCount ∨ w = wSum ∨ w = wMin ∨ w = wMax := by simpa using hwm
        rw [hx]
        rcases h5 with rfl | rfl | rfl | rfl | rfl <;> decide
      have hkind2 : x95 = 2 ↔ w = wCount := by
        have h5 : w = [] ∨ w = wCount ∨ w = wSum ∨ w = wMin ∨ w = wMax := by simpa using hwm
        rw [hx]
        rcases h5 with rfl | rfl | rfl | rfl | rfl <;> decide
      have hkind3 : x95 = (if w = wCount then 2 else aggKind w) := by
        have h5 : w = [] ∨ w = wCount ∨ w = wSum ∨ w = wMin ∨ w = wMax := by simpa using hwm
        rw [hx]
        rcases h5 with rfl | rfl | rfl | rfl | rfl <;> decide
      clear hx hwm
      unfold J56
      intro J102
      have h102 : ∀ (hA : Hp) (u2 : RS), u2 = (if w = [] then u.fail 4 else u) → RrAt h2 hA b6 W u2 → Goes u2 t → Mut (At b6) h14 (At b6) hA → J102 hA := by
        intro hA u2 hu DA GA MA
        rw [← hu] at hagg
        clear hu
        have Sa := S.goes GA
        refine rd_must_ok (w := wOpen) DA (by decide) fun h105 D105 M105 => ⟨rfl, ?_⟩
        have G5 := GA.trans (goes_must GA.ok wOpen)
        have M105' := MA.trans M105
        generalize u2.must wOpen = s2 at *
        have S2 := S.goes G5
        intro J111
        -- behind what it is gathered of
        have fin : ∀ (x132 : Int) (a133 : Option Addr) (m133 c133 : Nat) (nl : List Nd) (v : RS) (hB : Hp), aggP o t = ((x132, nl), v.must wClose) → RrAt h2 hB b6 W v → Goes v t → (v.f = 0 → NdAt h14 hB a133 m133 nl) → Mut (At b6) h14 (At b6) hB →
            CallOK Tryz.prog 48 [vhp b6 0, vs ⟨#[41]⟩] hB fun v135 h136 => v135 = (vtup []) ∧ (∀ (b137 : Nat), h136 b137 = none → let h138 : Hp := Hp.set h136 b137 (cellsO [(vi x132), (vsl a133 m133 c133)] 67); (SemOK Tryz.prog (Builtin.append_ #[24, 24] 24 #[(vsl a m c), (vsl (some (⟨b137, 0, none⟩ : Addr)) 1 1)]) h138 fun v139 h140 => ∃ (a141 : Option Addr) (n141 c141 : Nat), v139 = (vsl a141 n141 c141) ∧ (CallOK Tryz.prog 49 [(vhp b6 0), (vs ⟨#[44]⟩)] h140 fun v142 h143 => ∃ (p144 : Bool), v142 = (vb p144) ∧ ((∃ (p : Bool) (k : Nat) (L : List Ag) (t : RS) (a : Option Addr) (m c : Nat), [(vb p144), (vsl a141 n141 c141), (vsl none 0 0), (vsl none 0 0), (vi 0), (vi 0), (vi 0), (vi 0)] = [vb p, vsl a m c, vsl none 0 0, vsl none 0 0, vi 0, vi 0, vi 0, vi 0] ∧ AgW h2 h143 b6 a m c t L ∧ RrAt h2 h143 b6 W t ∧ SOk (W.length + 1) t ∧ aggsP o ((aggP o s1).2.ws.length + 1) [(aggP o s1).1] (aggP o s1).2 = (if p = true then aggsP o k (L ++ [(aggP o t).1]) (aggP o t).2 else (L, t)) ∧ (p = true → (aggP o t).2.ws.length < k) ∧ L.length + t.ws.length ≤ 100 + (if p = true then 0 else 1) ∧ m + t.ws.length ≤ 100 + (if p = true then 0 else 1)) ∧ (if vbool [(vb p144), (vsl a141 n141 c141), (vsl none 0 0), (vsl none 0 0), (vi 0), (vi 0), (vi 0), (vi 0)] 0 = true then 1 else 0) + rrN h143 b6 < (if vbool [vb p, vsl a m c, vsl none 0 0, vsl none 0 0, vi 0, vi 0, vi 0, vi 0] 0 = true then 1 else 0) + rrN h14 b6)))) := by
          intro x132 a133 m133 c133 nl v hB hag DB GB NB MB
          have Gv := goes_must GB.ok wClose
          have GV := GB.trans Gv
          refine rd_must_ok (w := wClose) DB (by decide) fun h136 D136 M136 => ⟨rfl, ?_⟩
          have M136' := MB.trans M136
          rw [hag] at hrow hk
          simp only at hrow hk
          intro b137 hb137 h138
          have A136 : AgW h2 h136 b6 a m c (v.must wClose) L := (A.mut hb6 M136').state fun q => Decidable.byContradiction fun q2 => q2 ((GV.fst q2).symm.trans q)
          refine agw_app (hB := h14) (k := x132) A136 D136 hg (fun b q => A.al q) (fun q => (NB (Decidable.byContradiction fun q2 => q2 ((Gv.fst q2).symm.trans q))).mut hg M136) (by omega) hb137 fun a141 c141 h140 A140 D140 => ⟨_, _, _, rfl, ?_⟩
          have S140 := S.goes GV
          have hlen := GV.len
          have hfm : v.must wClose = v.must wClose := rfl
          have hmono : (v.must wClose).f = 0 → t.f = 0 := fun q => Decidable.byContradiction fun q2 => q2 ((GV.fst q2).symm.trans q)
          generalize v.must wClose = t2 at *
          obtain ⟨k, rfl⟩ : ∃ j, k = j + 1 := ⟨k - 1, by omega⟩
          have hst : aggsP o (k + 1) (L ++ [(x132, nl)]) t2 = if (t2.is [wComma]).1 = [] then (L ++ [(x132, nl)], t2) else aggsP o k (L ++ [(x132, nl)] ++ [(aggP o (t2.is [wComma]).2).1]) (aggP o (t2.is [wComma]).2).2 := rfl
          rw [hst] at hrow
          clear hst
          have gi2 := goes_is S140.good [wComma]
          have io2 := @is_oneR t2 wComma (by decide)
          have tk2 := @taken t2 [wComma]
          obtain ⟨nx1, nx2, nx3⟩ := next_one (s := t2) (w := wComma) (by decide)
          refine rd_take_ok (w := wComma) D140 (by decide) fun h143 D143 M143 => ⟨_, rfl, ?_⟩
          have A143 := A140.mut hb6 M143
          have hrn3 := D143.rn
          have hv1 : vbool [vb p, vsl a m c, vsl none 0 0, vsl none 0 0, vi 0, vi 0, vi 0, vi 0] 0 = true := e
          rw [if_pos hv1, hrn]
          by_cases q : (t2.is [wComma]).1 = []
          · rw [if_pos q] at hrow
            rw [io2 q] at D143 hrn3
            rw [decide_eq_false (fun h => h q)]
            refine ⟨⟨false, 0, _, t2, a141, m + 1, c141, rfl, A143, D143, S140, by rw [hrow]; rfl, (fun q => by cases q), by rw [List.length_append, if_neg (by decide)]; show L.length + 1 + _ ≤ 100 + 1; omega, by rw [if_neg (by decide)]; omega⟩, ?_⟩
            show 0 + rrN h143 b6 < _
            rw [hrn3]
            split
            · rename_i q3
              rw [if_pos (hmono q3)]
              omega
            · split <;> omega
          · rw [if_neg q] at hrow
            have tk2 := tk2 q
            have hf2 : t2.f = 0 := Decidable.byContradiction fun q2 => by
              have := S140.good q2
              rw [this] at tk2
              simp at tk2
            rw [decide_eq_true q]
            have St := S140.goes gi2
            have Gn := goes_agg kp St.good (Nat.le_of_lt St.len)
            have hgn := Gn.1.len
            refine ⟨⟨true, k, L ++ [(x132, nl)], (t2.is [wComma]).2, a141, m + 1, c141, rfl, A143.state (fun _ => hf2), D143, St, by rw [hrow]; rfl, fun _ => by omega, by rw [List.length_append, if_pos rfl]; show L.length + 1 + _ ≤ 100; omega, by rw [if_pos rfl]; omega⟩, ?_⟩
            show 1 + rrN h143 b6 < _
            rw [hrn3, if_pos (hmono hf2)]
            split <;> omega
        have h111 : ∀ (p113 : Bool) (hB : Hp) (v : RS), aggP o t = (if p113 = true then ((1, []), v.must wClose) else ((x95, (o v).1), (o v).2.must wClose)) → RrAt h2 hB b6 W v → Goes v t → Mut (At b6) h14 (At b6) hB → J111 p113 hB := by
          intro p113 hB v hag DB GB MB
          have Sv := S.goes GB
          unfold J111
          intro J120
          refine ⟨fun q => ?_, fun q => ?_⟩
          · rw [if_pos q] at hag
            exact fin 1 none 0 0 [] v hB hag DB GB (fun _ => nd_nil _ _) MB
          · rw [if_neg (by rw [q]; decide)] at hag
            have k2 := kp v Sv.good (Nat.le_of_lt Sv.len)
            refine F DB Sv fun a118 m118 c118 h117 D117 N117 M117 => ⟨_, _, _, rfl, ?_⟩
            exact fin x95 a118 m118 c118 _ _ h117 hag D117 (GB.trans k2.goes) (fun q => (N117 q).base (MB.up DB.al)) (MB.trans M117)
        clear_value J111
        have gs := goes_is S2.good [wStar]
        have ios := @is_oneR s2 wStar (by decide)
        refine ⟨fun q => ?_, fun q => ?_⟩
        · have hw : w = wCount := hkind2.1 (of_decide_eq_true q)
          refine rd_take_ok (w := wStar) D105 (by decide) fun h107 D107 M107 => ⟨_, rfl, ?_⟩
          by_cases q2 : (s2.is [wStar]).1 = []
          · rw [if_neg (fun h => h.2 q2)] at hagg
            rw [ios q2] at D107
            rw [decide_eq_false (fun h => h q2)]
            refine h111 false h107 s2 ?_ D107 G5 (M105'.trans M107)
            rw [if_neg (by decide), hagg, ← hkind3]
          · rw [if_pos ⟨hw, q2⟩] at hagg
            rw [decide_eq_true q2]
            refine h111 true h107 _ ?_ D107 (G5.trans gs) (M105'.trans M107)
            rw [if_pos rfl, hagg]
        · have hw : ¬ w = wCount := fun h => of_decide_eq_false q (hkind2.2 h)
          rw [if_neg (fun h => hw h.1)] at hagg
          refine h111 false h105 s2 ?_ D105 G5 M105'
          rw [if_neg (by decide), hagg, ← hkind3]
      clear_value J102
      refine ⟨fun q => ?_, fun q => ?_⟩
      · have q := hkind.1 (of_decide_eq_true q)
        exact rd_fail_ok DD (by decide) fun hA DA MA => ⟨rfl, h102 hA _ (by rw [if_pos q]) DA (gi.trans (goes_fail _ _)) (MM.trans MA)⟩
      · have q : ¬ w = [] := fun h => of_decide_eq_false q (hkind.2 h)
        exact h102 hh u (by rw [if_neg q]) DD gi MM
    clear_value J56
    -- which it is
    have hnil : ([] : Wd) ∉ aggL := by decide
    obtain ⟨ny, nn⟩ := next_any (s := t) hnil
    refine ⟨fun vs' hh => ∃ (i : Nat) (x : Int), vs' = [vi i, vi x, vsl none 0 0] ∧ i ≤ 4 ∧ Mut (At b6) h28 (At b6) hh ∧ ((x = 0 ∧ (∀ j, j < i → nextW t ≠ aggL.getD j []) ∧ RrAt h2 hh b6 W t) ∨ (nextW t ∈ aggL ∧ x = refKind (nextW t) ∧ x ≠ 0 ∧ RrAt h2 hh b6 W (t.is aggL).2)), fun vs' hh => 4 - (vint vs' 0).toNat, ⟨0, 0, rfl, by omega, Mut.of_le (Hp.le_refl _), .inl ⟨rfl, (fun j hj => by omega), D28⟩⟩, ?_⟩
    rintro vs' hh ⟨i, x, rfl, hi, Mi, hst⟩
    refine ⟨_, _, _, _, _, rfl, fun q => ?_, fun q => ?_⟩
    · rw [cand] at q
      obtain ⟨q1, q2⟩ := of_decide_eq_true q
      have hlt : i < 4 := by omega
      rcases hst with ⟨hx0, hno, Di⟩ | ⟨_, _, hx, _⟩
      · intro J50
        obtain ⟨b, o', ha, hc⟩ := SlP.get1 (W25.mut Mi).s hlt
        refine ⟨b, o', ⟨ha, by omega, by omega⟩, _, hc, ?_⟩
        obtain ⟨ha1, ha2, ha3⟩ := aggL_at hlt
        obtain ⟨o1, o2, o3⟩ := next_one (s := t) ha2
        refine rd_take_ok Di ha2 fun h43 D43 M43 => ⟨_, rfl, fun q3 => ?_, fun q3 => ?_⟩
        · have q3 := o1.1 (of_decide_eq_true q3)
          obtain ⟨r', hr1, hr2⟩ := o2 q3
          rw [← q3] at ha1 ha3
          obtain ⟨r, hr3, hr4⟩ := ny ha1
          have er : r' = r := by rw [hr3, q3] at hr1; exact ((List.cons.inj hr1).2).symm
          refine ⟨b27, 0, ⟨rfl, by omega, by omega⟩, _, I27 hlt h43 (Mi.trans M43), _, isW (by unfold InR; omega), ⟨i + 1, (i : Int) + 2, rfl, by omega, Mi.trans M43, .inr ⟨ha1, ha3.symm, by omega, ?_⟩⟩, by simp [vint]; omega⟩
          rw [hr4]
          rw [hr2, er] at D43
          exact D43
        · have q3 : nextW t ≠ aggL.getD i [] := fun h => of_decide_eq_false q3 (o1.2 h)
          rw [o3 q3] at D43
          refine ⟨_, isW (by unfold InR; omega), ⟨i + 1, x, rfl, by omega, Mi.trans M43, .inl ⟨hx0, fun j hj => ?_, D43⟩⟩, by simp [vint]; omega⟩
          rcases Nat.lt_or_ge j i with h1 | h1
          · exact hno j h1
          · have : j = i := by omega
            rw [this]; exact q3
      · exact absurd q2 hx
    · rw [cand] at q
      have q := of_decide_eq_false q
      have ML := (Mut.of_le l14 : Mut (At b6) h14 (At b6) h28).trans Mi
      rcases hst with ⟨hx0, hno, Di⟩ | ⟨hmm, hx, hx0, Di⟩
      · have hge : i = 4 := by omega
        subst hge
        have hmm : nextW t ∉ aggL := by
          intro hm
          have h1 : nextW t = wCount ∨ nextW t = wSum ∨ nextW t = wMin ∨ nextW t = wMax := by simpa [aggL] using hm
          rcases h1 with h1 | h1 | h1 | h1
          · exact hno 0 (by omega) h1
          · exact hno 1 (by omega) h1
          · exact hno 2 (by omega) h1
          · exact hno 3 (by omega) h1
        refine h56 x hh ?_ (by rw [nn hmm]; exact Di) ML
        rw [nn hmm, if_pos rfl, hx0]
      · obtain ⟨r, hr3, hr4⟩ := ny hmm
        refine h56 x hh ?_ Di ML
        rw [hr4]
        simp only
        rw [if_neg (fun h => hnil (by rw [← h]; exact hmm)), hx]
  · rw [e] at hrow hL
    rw [if_neg (by decide)] at hrow hL
    exact hRest L t a m c h14 A D S hrow (by omega)
end Go.Proofs.YtejefijpcggkfaaGreatDoor
namespace Go.Proofs.YtejefijpcggkfaaGreatDoor
open Go Go.Vc
set_option maxRecDepth 100000
set_option linter.unusedVariables false
def VC_R_EventFault (u_eTime : Int) (u_eKKind : Int) (u_eKN : Int) (u_eAKind : Int) (u_eAN : Int) (u_eBKind : Int) (u_eBN : Int) (h : Hp) (R : Value → Hp → Prop) : Prop :=
  (((bif (decide ((u_eTime : Int) < 0)) then true else (decide ((u_eTime : Int) > 9999))) = true → R (vi 1) h) ∧ ((bif (decide ((u_eTime : Int) < 0)) then true else (decide ((u_eTime : Int) > 9999))) = false → (∀ (b2 : Nat), h b2 = none → let h3 : Hp := Hp.set h b2 (cellsO [(vi u_eKKind), (vi u_eKN), (vi u_eAKind), (vi u_eAN), (vi u_eBKind), (vi u_eBN)] 33); (∃ (I5 : List Value → Hp → Prop) (m6 : List Value → Hp → Nat), I5 [(vi 0)] h3 ∧ ∀ (vs7 : List Value) (h8 : Hp), I5 vs7 h8 → ∃ (x9 : Int), vs7 = [(vi x9)] ∧ (((decide ((x9 : Int) < 3)) = true → (∃ (b12 o13 : Nat), ((some (⟨b2, 0, none⟩ : Addr)) = some ⟨b12, o13, none⟩ ∧ (0 : Int) ≤ x9 ∧ x9 < ((3 : Nat) : Int)) ∧ (∃ (x14 : Int) (x15 : Int), (Hp.row h8 b12 (o13 + x9.toNat * 2) 2 = some [(vi x14), (vi x15)]) ∧ (CallOK Tryz.prog 18 [(vag [(vi x14), (vi x15)])] h8 fun v16 h17 => ∃ (x18 : Int), v16 = (vi x18) ∧ (∃ (b19 o20 : Nat), ((decide ((x18 : Int) > 0)) = false → ((some (⟨b2, 0, none⟩ : Addr)) = some ⟨b19, o20, none⟩ ∧ (0 : Int) ≤ x9 ∧ x9 < ((3 : Nat) : Int))) ∧ (∃ (x21 : Int), ((decide ((x18 : Int) > 0)) = false → Hp.cell h17 b19 (o20 + x9.toNat * 2) = some (vi x21)) ∧ (((bif (decide ((x18 : Int) > 0)) then true else (decide ((x21 : Int) = 2))) = true → R (vi 3) h17) ∧ ((bif (decide ((x18 : Int) > 0)) then true else (decide ((x21 : Int) = 2))) = false → (∃ (b23 o24 : Nat), ((some (⟨b2, 0, none⟩ : Addr)) = some ⟨b23, o24, none⟩ ∧ (0 : Int) ≤ x9 ∧ x9 < ((3 : Nat) : Int)) ∧ (∃ (x25 : Int), (Hp.cell h17 b23 ((o24 + x9.toNat * 2) + 1) = some (vi x25)) ∧ (∃ (b26 o27 : Nat), ((decide ((x25 : Int) < (-1000))) = false → ((some (⟨b2, 0, none⟩ : Addr)) = some ⟨b26, o27, none⟩ ∧ (0 : Int) ≤ x9 ∧ x9 < ((3 : Nat) : Int))) ∧ (∃ (x28 : Int), ((decide ((x25 : Int) < (-1000))) = false → Hp.cell h17 b26 ((o27 + x9.toNat * 2) + 1) = some (vi x28)) ∧ (((bif (decide ((x25 : Int) < (-1000))) then true else (decide ((x28 : Int) > 1000))) = true → R (vi 1) h17) ∧ ((bif (decide ((x25 : Int) < (-1000))) then true else (decide ((x28 : Int) > 1000))) = false → (∃ (x30 : Int), (IsW x30 (x9 + 1)) ∧ (I5 [(vi x30)] h17 ∧ m6 [(vi x30)] h17 < m6 vs7 h8)))))))))))))))) ∧ ((decide ((x9 : Int) < 3)) = false → R (vi 0) h8))))))
theorem ok_R_EventFault {u_eTime : Int} {u_eKKind : Int} {u_eKN : Int} {u_eAKind : Int} {u_eAN : Int} {u_eBKind : Int} {u_eBN : Int} {h : Hp} {R : Value → Hp → Prop} (H : VC_R_EventFault u_eTime u_eKKind u_eKN u_eAKind u_eAN u_eBKind u_eBN h R) : CallOK Tryz.prog 8 [(vag [(vi u_eTime), (vi u_eKKind), (vi u_eKN), (vi u_eAKind), (vi u_eAN), (vi u_eBKind), (vi u_eBN)])] h R :=
  call_of (cfg := ⟨[], [(5, ([4], [.one (.int .i64)], []))], []⟩) noNG mixed Tryz.func8 [.ag [.v (vi u_eTime), .v (vi u_eKKind), .v (vi u_eKN), .v (vi u_eAKind), .v (vi u_eAN), .v (vi u_eBKind), .v (vi u_eBN)]] (by kernel_rfl) rfl (by kernel_rfl) H
end Go.Proofs.YtejefijpcggkfaaGreatDoor
namespace Go.Proofs.YtejefijpcggkfaaGreatDoor
open Go Go.Vc
set_option linter.unusedVariables false
set_option maxRecDepth 100000
theorem R_EventFault_ok {e : EvL} {h : Hp} {R : Value → Hp → Prop} (hK : ∀ h', h.le h' → R (vi (chkE e)) h') : CallOK Tryz.prog 8 [vag (encE e)] h R := by
  refine ok_R_EventFault ?_
  unfold VC_R_EventFault
  refine ⟨fun q => ?_, fun q => ?_⟩
  · have : chkE e = 1 := by unfold chkE; rw [if_pos (by simp [Bool.cond_eq_ite] at q; omega)]
    rw [this] at hK; exact hK h (Hp.le_refl h)
  have e1 : chkE e = chkL [e.2.1, e.2.2.1, e.2.2.2] := by unfold chkE; rw [if_neg (by simp [Bool.cond_eq_ite] at q; omega)]
  rw [e1] at hK
  clear e1 q
  intro b2 hb2 h3
  have l3 : h.le h3 := Hp.le_set (Hp.le_refl h) hb2 _
  have S : SlP encV h3 (some ⟨b2, 0, none⟩) 3 [e.2.1, e.2.2.1, e.2.2.2] := ⟨rfl, HasRow.new _ _ [vi e.2.1.1, vi e.2.1.2, vi e.2.2.1.1, vi e.2.2.1.2, vi e.2.2.2.1, vi e.2.2.2.2] _⟩
  clear_value h3
  have hl : [e.2.1, e.2.2.1, e.2.2.2].length = 3 := rfl
  generalize [e.2.1, e.2.2.1, e.2.2.2] = l at *
  refine ⟨fun vs hh => hh = h3 ∧ ∃ i : Nat, vs = [vi i] ∧ i ≤ 3 ∧ chkL l = chkL (l.drop i), fun vs hh => 3 - (vint vs 0).toNat, ⟨rfl, 0, rfl, by decide, rfl⟩, ?_⟩
  rintro vs hh ⟨rfl, i, rfl, hi, hc⟩
  refine ⟨i, rfl, fun q => ?_, fun q => ?_⟩
  · have hlt : i < 3 := by have := of_decide_eq_true q; omega
    have hx : l[i]? = some (l[i]'(by omega)) := List.getElem?_eq_getElem (by omega)
    rw [drop_get (by omega : i < l.length), chkL] at hc
    obtain ⟨b, o, ha, hr⟩ := S.get encV_len (by decide) hx
    generalize l[i]'(by omega) = v at *
    have A : (some ⟨b2, 0, none⟩ : Option Addr) = some ⟨b, o, none⟩ ∧ (0 : Int) ≤ i ∧ (i : Int) < (3 : Nat) := ⟨ha, by omega, by omega⟩
    refine ⟨b, o, A, _, _, hr, R_ValueFault_ok (v := v) ⟨_, rfl, b, o, fun _ => A, _, fun _ => Hp.row_cell hr (i := 0) rfl, fun q2 => ?_, fun q2 => ⟨b, o, A, _, Hp.row_cell hr (i := 1) rfl, b, o, fun _ => A, _, fun _ => Hp.row_cell hr (i := 1) rfl, fun q3 => ?_, fun q3 => ?_⟩⟩⟩
    · have : chkV v = 3 := by
        unfold chkV; rw [if_pos]
        by_cases hg : goodV v
        · right; simp [hg] at q2; exact q2
        · exact .inl hg
      rw [this, if_neg (by decide)] at hc
      rw [hc] at hK; exact hK hh l3
    · have : chkV v = 1 := by
        unfold chkV; rw [if_neg, if_pos]
        · simp [Bool.cond_eq_ite] at q3; omega
        · by_cases hg : goodV v
          · simp [hg] at q2 ⊢; exact q2
          · simp [hg] at q2
      rw [this, if_neg (by decide)] at hc
      rw [hc] at hK; exact hK hh l3
    · have : chkV v = 0 := by
        unfold chkV; rw [if_neg, if_neg]
        · simp [Bool.cond_eq_ite] at q3; omega
        · by_cases hg : goodV v
          · simp [hg] at q2 ⊢; exact q2
          · simp [hg] at q2
      rw [this, if_pos rfl] at hc
      exact ⟨_, isW (by unfold InR; omega), ⟨rfl, i + 1, rfl, by omega, hc⟩, by simp [vint]; omega⟩
  · have hge : i = 3 := by have := of_decide_eq_false q; omega
    subst hge
    rw [List.drop_eq_nil_of_le (by omega)] at hc
    rw [hc] at hK; exact hK hh l3
end Go.Proofs.YtejefijpcggkfaaGreatDoor
namespace Go.Proofs.YtejefijpcggkfaaGreatDoor
open Go Go.Vc
set_option linter.unusedVariables false
inductive Lx : List UInt8 → List (List UInt8) → Prop
  | nil : Lx [] []
  | blank {l : List UInt8} {ws : List (List UInt8)} : Lx l ws → Lx (32 :: l) ws
  | word {w l : List UInt8} {ws : List (List UInt8)} : w ≠ [] → kindB (w.getD 0 0) ≠ 32 → endW (w ++ l) 0 = w.length → Lx l ws → Lx (w ++ l) (w :: ws)
def Start (b : List UInt8) : Prop := b = [] ∨ ∃ c r, b = c :: r ∧ (c = 32 ∨ c = 41 ∨ c = 40 ∨ c = 44)
end Go.Proofs.YtejefijpcggkfaaGreatDoor
namespace Go.Proofs.YtejefijpcggkfaaGreatDoor
open Go Go.Vc
set_option linter.unusedVariables false
def tkF (n : Nd) (a b : List Wd) : List Wd :=
  if n.op = 1 then [textV n.v]
  else if n.op = 2 then [fieldW.getD n.n.toNat []]
  else if n.op = 3 then wOpen :: wMinus :: (a ++ [wClose])
  else if n.op = 4 then wOpen :: wNot :: (a ++ [wClose])
  else if n.op = 5 then wOpen :: (a ++ [wIs, wNull, wClose])
  else wOpen :: (a ++ signW n.op :: (b ++ [wClose]))
abbrev tkAt (l : List Nd) (i : Nat) : List Wd := fAt [] tkF l i
def tkE (l : List Nd) : List Wd := tkAt l (l.length - 1)
def RdS (P : Ps) (T : List Wd) (x : List Nd) (stop : Wd → Prop) : Prop := ∀ (rest : List Wd) (d : Int), (∀ w r, rest = w :: r → ¬ stop w) → (P ⟨T ++ rest, d, 0⟩).2.f = 2 ∨ P ⟨T ++ rest, d, 0⟩ = (x, ⟨rest, d, 0⟩)
def cmpW2 : List Wd := [wLt, wGt, wLe, wGe, wEq, wNe, wIs]
end Go.Proofs.YtejefijpcggkfaaGreatDoor
namespace Go.Proofs.YtejefijpcggkfaaGreatDoor
open Go Go.Vc
set_option linter.unusedVariables false
def KA (P : Ps) : Prop := ∀ m, KP P m
theorem KA.good {P : Ps} (h : KA P) : ∀ s : RS, s.good → (P s).2.good := fun s hs => (h s.ws.length s hs (Nat.le_refl _)).ok
def L1 : List Wd := [wStar]
def L2 : List Wd := L1 ++ [wPlus, wMinus]
def L3 : List Wd := L2 ++ cmpW2
def L4 : List Wd := L3 ++ [wAnd]
def L5 : List Wd := L4 ++ [wOr]
def Non : Wd → Prop := fun _ => False
section
variable {t : Three} {T T2 : List Wd} {x y : List Nd}
structure Lev (t : Three) (T : List Wd) (x : List Nd) : Prop where
  u : RdS (unS t) T x Non
  p : RdS (prodS t) T x (· ∈ L1)
  s : RdS (sumS t) T x (· ∈ L2)
  c : RdS (cmpS t) T x (· ∈ L3)
  n : RdS (notS t) T x (· ∈ L3)
  a : RdS (andS t) T x (· ∈ L4)
  o : RdS (orS t) T x (· ∈ L5)
end
section
variable {t : Three} {T : List Wd} {x : List Nd} {s : Wd → Prop}
end
end Go.Proofs.YtejefijpcggkfaaGreatDoor
namespace Go.Proofs.YtejefijpcggkfaaGreatDoor
open Go Go.Vc Go.Txt
set_option linter.unusedVariables false
def PosL (l : List Nd) : Prop := ∀ n ∈ l, 0 ≤ n.v.2
def PP (P : Ps) : Prop := ∀ s, PosL (P s).1
theorem pos_one {n : Nd} (h : 0 ≤ n.v.2) : PosL [n] := fun m hm => by rw [List.mem_singleton.1 hm]; exact h
theorem pos_join {op : Int} {x y : List Nd} (hx : PosL x) (hy : PosL y) : PosL (joinL op x y) := by
  intro n hn
  unfold joinL at hn
  rcases List.mem_append.1 hn with h | h
  · rcases List.mem_append.1 h with h | h
    · exact hx n h
    · obtain ⟨m, hm, rfl⟩ := List.mem_map.1 h
      exact hy m hm
  · rw [List.mem_singleton.1 h]
    exact Int.le_refl _
theorem pos_joinP {op : Int} {x y : List Nd} {s : RS} (hx : PosL x) (hy : PosL y) : PosL (joinP op x y s).1 := by
  unfold joinP
  split
  · exact pos_one (by decide)
  · exact pos_join hx hy
theorem pos_nil : PosL [] := fun n h => by cases h
theorem number_pos (s : RS) (m : Int) : 0 ≤ (s.number m).1 := by
  unfold RS.number
  split
  · exact Int.le_refl _
  · split
    · exact Int.le_refl _
    · rename_i h; simp only; omega
theorem pp_down {P : Ps} (h : PP P) : PP (downP P) := by
  intro s
  unfold downP
  exact h _
theorem pp_atom {o : Ps} (h : PP o) : PP (atomP o) := by
  intro s
  unfold atomP
  simp only
  split
  · exact pp_down h _
  · split
    · refine pos_one ?_
      simp only
      unfold constV
      split
      · decide
      · simp only
        split <;> decide
    · split
      · exact pos_one (number_pos _ _)
      · exact pos_one (Int.le_refl _)
theorem pp_unary {u a : Ps} (hu : PP u) (ha : PP a) : PP (unaryP u a) := by
  intro s
  unfold unaryP
  split
  · exact ha s
  · exact pos_joinP (pp_down hu _) pos_nil
theorem pp_not {u a : Ps} (hu : PP u) (ha : PP a) : PP (notP u a) := by
  intro s
  unfold notP
  split
  · exact ha s
  · exact pos_joinP (pp_down hu _) pos_nil
theorem pp_rowL {P : Ps} (h : PP P) {ops : List (Wd × Int)} : ∀ (k : Nat) (x : List Nd) (s : RS), PosL x → PosL (rowL P ops k x s).1
  | 0, x, s, hx => hx
  | k + 1, x, s, hx => by
    rw [rowL]
    split
    · exact hx
    · simp only
      split
      · exact hx
      · exact pp_rowL h k _ _ (pos_joinP hx (h _))
theorem pp_row {P : Ps} (h : PP P) {ops : List (Wd × Int)} : PP (rowP P ops) := fun s => pp_rowL h _ _ _ (h s)
theorem pp_cmp {P : Ps} (h : PP P) : PP (cmpP P) := by
  intro s
  unfold cmpP
  simp only
  split
  · exact pos_joinP (h _) (h _)
  · split
    · exact pos_joinP (h _) (h _)
    · split
      · exact pos_joinP (pos_joinP (h _) (h _)) pos_nil
      · split
        · exact pos_joinP (pos_joinP (h _) (h _)) pos_nil
        · split
          · exact pos_joinP (h _) (h _)
          · split
            · exact pos_joinP (pos_joinP (h _) (h _)) pos_nil
            · split
              · split
                · exact pos_joinP (pos_joinP (h _) pos_nil) pos_nil
                · exact pos_joinP (h _) pos_nil
              · exact h _
theorem pp_S {t : Three} (ho : PP t.o) (hn : PP t.n) (hu : PP t.u) : PP (orS t) ∧ PP (notS t) ∧ PP (unS t) := by
  have h1 : PP (unS t) := pp_unary hu (pp_atom ho)
  have h3 : PP (sumS t) := pp_row (pp_row h1)
  have h5 : PP (notS t) := pp_not hn (pp_cmp h3)
  exact ⟨pp_row (pp_row h5), h5, h1⟩
theorem pp_noP : PP noP := fun s => pos_one (by decide)
theorem pp_all (n : Nat) : PP (allP n).o ∧ PP (allP n).n ∧ PP (allP n).u := by
  induction n with
  | zero => exact ⟨pp_noP, pp_noP, pp_noP⟩
  | succ n ih =>
    rw [allP_succ]
    exact pp_S ih.1 ih.2.1 ih.2.2
structure PosQ (q : Qy) : Prop where
  g : ∀ a ∈ q.aggs, PosL a.2
  w : PosL q.wh
  b : PosL q.by_
theorem pos_ite {c : Prop} [Decidable c] {x y : Ag × RS} (hx : PosL x.1.2) (hy : PosL y.1.2) : PosL (if c then x else y).1.2 := by
  split
  · exact hx
  · exact hy
theorem pp_agg {o : Ps} (h : PP o) (s : RS) : PosL (aggP o s).1.2 := by
  unfold aggP
  exact pos_ite pos_nil (h _)
theorem pp_aggs {o : Ps} (h : PP o) : ∀ (k : Nat) (l : List Ag) (s : RS), (∀ a ∈ l, PosL a.2) → ∀ a ∈ (aggsP o k l s).1, PosL a.2
  | 0, l, s, hl => hl
  | k + 1, l, s, hl => by
    rw [aggsP]
    split
    · exact hl
    · refine pp_aggs h k _ _ fun a ha => ?_
      rcases List.mem_append.1 ha with h1 | h1
      · exact hl a h1
      · rw [List.mem_singleton.1 h1]; exact pp_agg h _
theorem pp_opt {P : Ps} (h : PP P) {w : Wd} {s : RS} : PosL (optP w P s).1 := by
  unfold optP
  split
  · exact pos_nil
  · exact h _
theorem posQ_read (ws : List Wd) : PosQ (readQ ws).1 := by
  have ho := (pp_all (ws.length + 1)).1
  rw [readQ_eq]
  generalize (allP (ws.length + 1)).o = o at ho ⊢
  refine ⟨pp_aggs ho _ _ _ fun a ha => ?_, pp_opt ho, pp_opt (fun s => ho _)⟩
  rw [List.mem_singleton.1 ha]; exact pp_agg ho _
theorem posQ_parse {s : List UInt8} (h : (parseQ s).2 = 0) : QOk (parseQ s).1 ∧ PosQ (parseQ s).1 := by
  unfold parseQ at h ⊢
  split at h
  · rename_i h1; exact absurd h h1
  · rename_i h1
    rw [if_neg h1]
    unfold parseW at h ⊢
    split at h
    · rename_i h2; exact absurd h h2
    · rename_i h2
      rw [if_neg h2]
      split at h
      · rename_i h3; exact absurd h h3
      · rename_i h3
        rw [if_neg h3]
        exact ⟨qok_of (Decidable.not_not.1 h3), posQ_read _⟩
def tkA (a : Ag) : List Wd := aggsW.getD a.1.toNat [] :: wOpen :: ((if a.1 = 1 then [wStar] else tkE a.2) ++ [wClose])
def tkAs : List Ag → List Wd
  | [] => []
  | [a] => tkA a
  | a :: b :: r => tkA a ++ wComma :: tkAs (b :: r)
def tkW (l : List Nd) : List Wd := if l = [] then [] else wWhere :: tkE l
def tkB (l : List Nd) : List Wd := if l = [] then [] else wGroup :: wBy :: tkE l
def tkN (q : Qy) : List Wd := [wWindow, Lib.itoa q.size, wSlide, Lib.itoa q.slide, wDelay, Lib.itoa q.delay, wLate, Lib.itoa q.late]
def tkQ (q : Qy) : List Wd := wSelect :: (tkAs q.aggs ++ wFrom :: wEvents :: (tkW q.wh ++ (tkB q.by_ ++ tkN q)))
structure AgOk (a : Ag) : Prop where
  k : 1 ≤ a.1 ∧ a.1 ≤ 5
  e : a.1 ≠ 1 → exprF a.2 = 0
  n : a.1 = 1 → a.2 = []
  p : PosL a.2
def Bad (s : RS) : Prop := s.f = 2 ∧ s.ws = []
end Go.Proofs.YtejefijpcggkfaaGreatDoor
namespace Go.Proofs.YtejefijpcggkfaaGreatDoor
open Go Go.Vc
set_option maxRecDepth 100000
set_option linter.unusedVariables false
def VC_law_Asked (u_s : ByteArray) (h : Hp) (R : Value → Hp → Prop) : Prop :=
  (((decide ((((ByteArray.size u_s : Nat) : Int) : Int) > 400)) = true → R (vtup [(vag [(vsl none 0 0), (vsl none 0 0), (vsl none 0 0), (vi 0), (vi 0), (vi 0), (vi 0)]), (vb false)]) h) ∧ ((decide ((((ByteArray.size u_s : Nat) : Int) : Int) > 400)) = false → (CallOK Tryz.prog 17 [(vs u_s)] h fun v2 h3 => ∃ (a4 : Option Addr) (n4 c4 : Nat) (a5 : Option Addr) (n5 c5 : Nat) (a6 : Option Addr) (n6 c6 : Nat) (x7 : Int) (x8 : Int) (x9 : Int) (x10 : Int) (x11 : Int), v2 = (vtup [(vag [(vsl a4 n4 c4), (vsl a5 n5 c5), (vsl a6 n6 c6), (vi x7), (vi x8), (vi x9), (vi x10)]), (vi x11)]) ∧ R (vtup [(vag [(vsl a4 n4 c4), (vsl a5 n5 c5), (vsl a6 n6 c6), (vi x7), (vi x8), (vi x9), (vi x10)]), (vb (decide ((x11 : Int) = 0)))]) h3)))
theorem ok_law_Asked {u_s : ByteArray} {h : Hp} {R : Value → Hp → Prop} (H : VC_law_Asked u_s h R) : CallOK Tryz.prog 7 [(vs u_s)] h R :=
  call_of (cfg := ⟨[], [], []⟩) noNG mixed Tryz.func7 [.one (.v (vs u_s))] (by kernel_rfl) rfl (by kernel_rfl) H
def VC_law_batches  (h : Hp) (R : Value → Hp → Prop) : Prop :=
  (CallOK Tryz.prog 12 [(vs ⟨#[115, 101, 108, 101, 99, 116, 32, 99, 111, 117, 110, 116, 40, 42, 41, 32, 102, 114, 111, 109, 32, 101, 118, 101, 110, 116, 115, 32, 119, 105, 110, 100, 111, 119, 32, 49, 48]⟩)] h fun v1 h2 => ∃ (a3 : Option Addr) (n3 c3 : Nat) (a4 : Option Addr) (n4 c4 : Nat) (a5 : Option Addr) (n5 c5 : Nat) (x6 : Int) (x7 : Int) (x8 : Int) (x9 : Int) (e10 : Option (TypeId × Value)), v1 = (vtup [(vag [(vsl a3 n3 c3), (vsl a4 n4 c4), (vsl a5 n5 c5), (vi x6), (vi x7), (vi x8), (vi x9)]), (ifv e10)]) ∧ (((Option.isSome e10) = true → R (vb false) h2) ∧ ((Option.isSome e10) = false → (∀ (b12 : Nat), h2 b12 = none → let h13 : Hp := Hp.set h2 b12 (cellsO [(vi 3), (vi 0), (vi 0), (vi 0), (vi 0), (vi 0), (vi 0), (vi 4), (vi 0), (vi 0), (vi 0), (vi 0), (vi 0), (vi 0)] 35); (∀ (b14 : Nat), h13 b14 = none → let h15 : Hp := Hp.set h13 b14 (cellsO [(vsl (some (⟨b12, 0, none⟩ : Addr)) 2 2)] 30); (CallOK Tryz.prog 9 [(vag [(vsl a3 n3 c3), (vsl a4 n4 c4), (vsl a5 n5 c5), (vi x6), (vi x7), (vi x8), (vi x9)]), (vsl (some (⟨b14, 0, none⟩ : Addr)) 1 1)] h15 fun v16 h17 => ∃ (a18 : Option Addr) (n18 c18 : Nat) (x19 : Int), v16 = (vtup [(vsl a18 n18 c18), (vi x19)]) ∧ (∃ (b20 o21 : Nat), ((bif (decide ((x19 : Int) = 0)) then (decide ((((n18 : Nat) : Int) : Int) = 1)) else false) = true → (a18 = some ⟨b20, o21, none⟩ ∧ (0 : Int) ≤ 0 ∧ 0 < ((n18 : Nat) : Int))) ∧ (∃ (a22 : Option Addr) (n22 c22 : Nat), ((bif (decide ((x19 : Int) = 0)) then (decide ((((n18 : Nat) : Int) : Int) = 1)) else false) = true → Hp.cell h17 b20 ((o21 + (0 : Int).toNat * 4) + 3) = some (vsl a22 n22 c22)) ∧ (∃ (b23 o24 : Nat), ((bif (decide ((x19 : Int) = 0)) then (decide ((((n18 : Nat) : Int) : Int) = 1)) else false) = true → (a22 = some ⟨b23, o24, none⟩ ∧ (0 : Int) ≤ 0 ∧ 0 < ((n22 : Nat) : Int))) ∧ (∃ (x25 : Int), ((bif (decide ((x19 : Int) = 0)) then (decide ((((n18 : Nat) : Int) : Int) = 1)) else false) = true → Hp.cell h17 b23 ((o24 + (0 : Int).toNat * 2) + 1) = some (vi x25)) ∧ R (vb (bif (bif (decide ((x19 : Int) = 0)) then (decide ((((n18 : Nat) : Int) : Int) = 1)) else false) then (decide ((x25 : Int) = 2)) else false)) h17))))))))))
theorem ok_law_batches  {h : Hp} {R : Value → Hp → Prop} (H : VC_law_batches  h R) : CallOK Tryz.prog 6 [] h R :=
  call_of (cfg := ⟨[], [], []⟩) noNG mixed Tryz.func6 [] (by kernel_rfl) rfl (by kernel_rfl) H
def VC_law_BatchSays (u_s : ByteArray) (u_partsa : Option Addr) (u_partsn u_partsc : Nat) (h : Hp) (R : Value → Hp → Prop) : Prop :=
  (CallOK Tryz.prog 6 [] h fun v1 h2 => ∃ (p3 : Bool), v1 = (vb p3) ∧ (((bif (!p3) then true else (decide ((((u_partsn : Nat) : Int) : Int) > 4))) = true → R (vb p3) h2) ∧ ((bif (!p3) then true else (decide ((((u_partsn : Nat) : Int) : Int) > 4))) = false → (CallOK Tryz.prog 7 [(vs u_s)] h2 fun v5 h6 => ∃ (a7 : Option Addr) (n7 c7 : Nat) (a8 : Option Addr) (n8 c8 : Nat) (a9 : Option Addr) (n9 c9 : Nat) (x10 : Int) (x11 : Int) (x12 : Int) (x13 : Int) (p14 : Bool), v5 = (vtup [(vag [(vsl a7 n7 c7), (vsl a8 n8 c8), (vsl a9 n9 c9), (vi x10), (vi x11), (vi x12), (vi x13)]), (vb p14)]) ∧ (∃ (I16 : List Value → Hp → Prop) (m17 : List Value → Hp → Nat), I16 [(vb p14), (vi 0)] h6 ∧ ∀ (vs18 : List Value) (h19 : Hp), I16 vs18 h19 → ∃ (p20 : Bool) (x21 : Int), vs18 = [(vb p20), (vi x21)] ∧ (((decide ((x21 : Int) < ((u_partsn : Nat) : Int))) = true → (∃ (b24 o25 : Nat), (u_partsa = some ⟨b24, o25, none⟩ ∧ (0 : Int) ≤ x21 ∧ x21 < ((u_partsn : Nat) : Int)) ∧ (∃ (a26 : Option Addr) (n26 c26 : Nat), (Hp.cell h19 b24 (o25 + x21.toNat * 1) = some (vsl a26 n26 c26)) ∧ (((decide ((((n26 : Nat) : Int) : Int) > 40)) = true → R (vb true) h19) ∧ ((decide ((((n26 : Nat) : Int) : Int) > 40)) = false → (∃ (I29 : List Value → Hp → Prop) (m30 : List Value → Hp → Nat), I29 [(vb p20), (vi 0)] h19 ∧ ∀ (vs31 : List Value) (h32 : Hp), I29 vs31 h32 → ∃ (p33 : Bool) (x34 : Int), vs31 = [(vb p33), (vi x34)] ∧ (∃ (b35 o36 : Nat), (u_partsa = some ⟨b35, o36, none⟩ ∧ (0 : Int) ≤ x21 ∧ x21 < ((u_partsn : Nat) : Int)) ∧ (∃ (a37 : Option Addr) (n37 c37 : Nat), (Hp.cell h32 b35 (o36 + x21.toNat * 1) = some (vsl a37 n37 c37)) ∧ (((decide ((x34 : Int) < ((n37 : Nat) : Int))) = true → (∃ (b40 o41 : Nat), (p33 = true → (u_partsa = some ⟨b40, o41, none⟩ ∧ (0 : Int) ≤ x21 ∧ x21 < ((u_partsn : Nat) : Int))) ∧ (∃ (a42 : Option Addr) (n42 c42 : Nat), (p33 = true → Hp.cell h32 b40 (o41 + x21.toNat * 1) = some (vsl a42 n42 c42)) ∧ (∃ (b43 o44 : Nat), (p33 = true → (a42 = some ⟨b43, o44, none⟩ ∧ (0 : Int) ≤ x34 ∧ x34 < ((n42 : Nat) : Int))) ∧ (∃ (x45 : Int) (x46 : Int) (x47 : Int) (x48 : Int) (x49 : Int) (x50 : Int) (x51 : Int), (p33 = true → Hp.row h32 b43 (o44 + x34.toNat * 7) 7 = some [(vi x45), (vi x46), (vi x47), (vi x48), (vi x49), (vi x50), (vi x51)]) ∧ (∃ (J52 : SV → Hp → Prop), (p33 = true → (CallOK Tryz.prog 8 [(vag [(vi x45), (vi x46), (vi x47), (vi x48), (vi x49), (vi x50), (vi x51)])] h32 fun v53 h54 => ∃ (x55 : Int), v53 = (vi x55) ∧ J52 (.t (.one (.v (vi x55)))) h54)) ∧ (¬ (p33 = true) → J52 (.t (.one (.v (vi 0)))) h32) ∧ ∀ (h56 : Hp) (x57 : Int), J52 (.t (.one (.v (vi x57)))) h56 → (∃ (x59 : Int), (IsW x59 (x34 + 1)) ∧ (I29 [(vb (bif p33 then (decide ((x57 : Int) = 0)) else false)), (vi x59)] h56 ∧ m30 [(vb (bif p33 then (decide ((x57 : Int) = 0)) else false)), (vi x59)] h56 < m30 vs31 h32)))))))) ∧ ((decide ((x34 : Int) < ((n37 : Nat) : Int))) = false → (∃ (x60 : Int), (IsW x60 (x21 + 1)) ∧ (I16 [(vb p33), (vi x60)] h32 ∧ m17 [(vb p33), (vi x60)] h32 < m17 vs18 h19)))))))))))) ∧ ((decide ((x21 : Int) < ((u_partsn : Nat) : Int))) = false → (((!p20) = true → R (vb true) h19) ∧ ((!p20) = false → (CallOK Tryz.prog 9 [(vag [(vsl a7 n7 c7), (vsl a8 n8 c8), (vsl a9 n9 c9), (vi x10), (vi x11), (vi x12), (vi x13)]), (vsl u_partsa u_partsn u_partsc)] h19 fun v62 h63 => ∃ (a64 : Option Addr) (n64 c64 : Nat) (x65 : Int), v62 = (vtup [(vsl a64 n64 c64), (vi x65)]) ∧ (CallOK Tryz.prog 10 [(vag [(vsl a7 n7 c7), (vsl a8 n8 c8), (vsl a9 n9 c9), (vi x10), (vi x11), (vi x12), (vi x13)]), (vsl u_partsa u_partsn u_partsc)] h63 fun v66 h67 => ∃ (a68 : Option Addr) (n68 c68 : Nat) (x69 : Int), v66 = (vtup [(vsl a68 n68 c68), (vi x69)]) ∧ (∃ (J70 : SV → Hp → Prop), ((decide ((x65 : Int) = x69)) = true → (CallOK Tryz.prog 11 [(vsl a64 n64 c64), (vsl a68 n68 c68)] h67 fun v71 h72 => ∃ (p73 : Bool), v71 = (vb p73) ∧ J70 (.t (.one (.v (vb p73)))) h72)) ∧ (¬ ((decide ((x65 : Int) = x69)) = true) → J70 (.t (.one (.v (vb false)))) h67) ∧ ∀ (h74 : Hp) (p75 : Bool), J70 (.t (.one (.v (vb p75)))) h74 → R (vb (bif (decide ((x65 : Int) = x69)) then p75 else false)) h74))))))))))))
theorem ok_law_BatchSays {u_s : ByteArray} {u_partsa : Option Addr} {u_partsn u_partsc : Nat} {h : Hp} {R : Value → Hp → Prop} (H : VC_law_BatchSays u_s u_partsa u_partsn u_partsc h R) : CallOK Tryz.prog 3 [(vs u_s), (vsl u_partsa u_partsn u_partsc)] h R :=
  call_of (cfg := ⟨[], [(11, ([7, 9], [.one (.bool), .one (.int .i64)], [])), (6, ([7, 8], [.one (.bool), .one (.int .i64)], []))], []⟩) noNG mixed Tryz.func3 [.one (.v (vs u_s)), .one (.v (vsl u_partsa u_partsn u_partsc))] (by kernel_rfl) rfl (by kernel_rfl) H
end Go.Proofs.YtejefijpcggkfaaGreatDoor
namespace Go.Proofs.YtejefijpcggkfaaGreatDoor
open Go Go.Vc Go.Txt Go.RowKit
set_option linter.unusedVariables false
set_option maxRecDepth 100000
def tBat : Wd := [115, 101, 108, 101, 99, 116, 32, 99, 111, 117, 110, 116, 40, 42, 41, 32, 102, 114, 111, 109, 32, 101, 118, 101, 110, 116, 115, 32, 119, 105, 110, 100, 111, 119, 32, 49, 48]
def evB (t : Int) : EvL := (t, (0, 0), (0, 0), (0, 0))
theorem tBat_read : (parseQ tBat).2 = 0 ∧ ansQ (parseQ tBat).1 [[evB 3, evB 4]] = [((0, (0, 0)), [(1, 2)])] ∧ lateA (parseQ tBat).1 [[evB 3, evB 4]] = 0 := by decide +kernel
theorem law_batches_ok {h : Hp} (T : TabQ h) {R : Value → Hp → Prop} (hK : ∀ h', h.le h' → R (vb true) h') : CallOK Tryz.prog 6 [] h R := by
  refine ok_law_batches ?_
  unfold VC_law_batches
  obtain ⟨e0, e1, e2⟩ := tBat_read
  have Qk := (posQ_parse e0).1
  refine query_Parse_ok (l := tBat) T fun a1 n1 c1 a2 n2 c2 a3 n3 c3 h2 l2 Q => ⟨_, _, _, _, _, _, _, _, _, _, _, _, _, _, rfl, ?_⟩
  rw [errV_some, decide_eq_true e0]
  refine ⟨fun e => (by cases e), fun _ => ?_⟩
  intro b12 hb12 h13
  intro b14 hb14 h15
  have l13 : h2.le h13 := Hp.le_set (Hp.le_refl h2) hb12 _
  have l15 : h13.le h15 := Hp.le_set (Hp.le_refl h13) hb14 _
  have k12 : h13 b12 = some (cellsO [vi 3, vi 0, vi 0, vi 0, vi 0, vi 0, vi 0, vi 4, vi 0, vi 0, vi 0, vi 0, vi 0, vi 0] 35) := Hp.set_same _ _ _
  have k14 : h15 b14 = some (cellsO [vsl (some ⟨b12, 0, none⟩) 2 2] 30) := Hp.set_same _ _ _
  clear_value h15
  clear_value h13
  have k12 := l15 _ _ k12
  have TC : TabC encE h15 (some ⟨b14, 0, none⟩) 1 [[evB 3, evB 4]] := by
    refine ⟨[((some ⟨b12, 0, none⟩, 2), [evB 3, evB 4])], rfl, rfl, .inr ⟨b14, 0, rfl, ?_⟩, fun j r hr => ?_⟩
    · exact row_cells' k14 (by simp)
    · match j, hr with
      | 0, hr =>
        cases hr
        exact ⟨.inr ⟨b12, 0, rfl, row_cells' k12 (by simp [encE, evB])⟩, Nat.le_refl _⟩
  have hE : ∀ p ∈ [[evB 3, evB 4]], ∀ e ∈ p, EvOK e := by
    intro p hp e he
    rw [List.mem_singleton.1 hp] at he
    rcases List.mem_cons.1 he with rfl | he
    · exact chkE_ok (by decide)
    · rw [List.mem_singleton.1 he]; exact chkE_ok (by decide)
  have Q15 := Q.le (Hp.le_trans l13 l15)
  refine batch_Answer_ok Q15 Qk TC (by decide) (by decide) hE fun a c h17 l17 G => ⟨_, _, _, _, rfl, ?_⟩
  rw [e1] at G ⊢
  rw [e2]
  obtain ⟨b, o, a', c', ea, hr, hS⟩ := G.row pkRw_len (by decide) (j := 0) (x := (0, (0, 0))) (l := [(1, 2)]) rfl
  obtain ⟨b2, o2, ea2, hr2⟩ := hS.get (sz := 2) (fun _ => rfl) (by decide) (i := 0) (x := (1, 2)) rfl
  refine ⟨b, o, fun _ => ⟨ea, by decide, by decide⟩, a', _, c', fun _ => Hp.row_cell hr (i := 3) rfl, b2, o2, fun _ => ⟨ea2, by decide, by decide⟩, 2, fun _ => Hp.row_cell hr2 (i := 1) rfl, ?_⟩
  exact hK h17 (Hp.le_trans l2 (Hp.le_trans (Hp.le_trans l13 l15) l17))
theorem law_Asked_ok {s : Wd} {h : Hp} {R : Value → Hp → Prop} (hK : ∀ a1 n1 c1 a2 n2 c2 a3 n3 c3 x4 x5 x6 x7 (p : Bool) h', h.le h' → (p = true → ∃ q, QOk q ∧ QAt h' q a1 n1 a2 n2 a3 n3 ∧ x4 = q.size ∧ x5 = q.slide ∧ x6 = q.delay ∧ x7 = q.late) → R (vtup [vag [vsl a1 n1 c1, vsl a2 n2 c2, vsl a3 n3 c3, vi x4, vi x5, vi x6, vi x7], vb p]) h') : CallOK Tryz.prog 7 [vs (bs s)] h R := by
  refine ok_law_Asked ?_
  unfold VC_law_Asked
  refine ⟨fun e => hK none 0 0 none 0 0 none 0 0 0 0 0 0 false h (Hp.le_refl h) (fun q => by cases q), fun _ => ?_⟩
  refine R_QueryOf_ok fun b1 m1 d1 b2 m2 d2 b3 m3 d3 h' l' hpf hpb Q => ⟨_, _, _, _, _, _, _, _, _, _, _, _, _, _, rfl, ?_⟩
  refine hK b1 m1 d1 b2 m2 d2 b3 m3 d3 _ _ _ _ _ h' l' fun q => ⟨(parseQ s).1, (posQ_parse (of_decide_eq_true q)).1, Q, rfl, rfl, rfl, rfl⟩
theorem tabc_of {α : Type} {enc : α → List Value} {h : Hp} {a : Option Addr} {n : Nat} {R : List (TRow α)} (S : SlP (fun r => [rowV r]) h a n R) (hr : ∀ r ∈ R, HasRow h r.1.1 (r.2.flatMap enc) ∧ r.2.length ≤ r.1.2) : TabC enc h a n (R.map Prod.snd) := by
  have e : (R.flatMap fun r => [rowV r]) = R.map rowV := by
    clear S hr
    induction R with
    | nil => rfl
    | cons r R ih => rw [List.flatMap_cons, ih]; rfl
  refine ⟨R, rfl, by rw [S.1]; simp, ?_, fun j r hj => hr r (List.mem_of_getElem? hj)⟩
  have := S.2
  rw [e] at this
  exact this
theorem law_BatchSays_ok {s : Wd} {ps : List (List EvL)} {pa : Option Addr} {pn pc : Nat} {h : Hp} (TP : TabC encE h pa pn ps) (T : TabQ h) : CallOK Tryz.prog 3 [vs (bs s), vsl pa pn pc] h fun v h' => v = vb true ∧ h.le h' := by
  refine ok_law_BatchSays ?_
  unfold VC_law_BatchSays
  have hpn : pn = ps.length := TP.r.choose_spec.2.1
  refine law_batches_ok T fun h2 l2 => ⟨_, rfl, fun e => ⟨rfl, l2⟩, fun e => ?_⟩
  have hp4 : ps.length ≤ 4 := by
    have e : decide ((((pn : Nat) : Int) : Int) > 4) = false := e
    have := of_decide_eq_false e
    omega
  refine law_Asked_ok fun a1 n1 c1 a2 n2 c2 a3 n3 c3 x4 x5 x6 x7 p0 h6 l6 hq => ⟨_, _, _, _, _, _, _, _, _, _, _, _, _, _, rfl, ?_⟩
  have l06 := Hp.le_trans l2 l6
  refine ⟨fun vs hh => ∃ (i : Nat) (p : Bool), vs = [vb p, vi i] ∧ i ≤ ps.length ∧ h6.le hh ∧ (∀ x ∈ ps.take i, x.length ≤ 40) ∧ (p = true → p0 = true ∧ ∀ x ∈ ps.take i, ∀ e ∈ x, chkE e = 0), fun vs hh => ps.length - (vint vs 1).toNat, ⟨0, p0, rfl, Nat.zero_le _, Hp.le_refl _, by simp, fun q => ⟨q, by simp⟩⟩, ?_⟩
  rintro vs hh ⟨i, p, rfl, hi, lh, hz, hc⟩
  have lhh := Hp.le_trans l06 lh
  refine ⟨p, _, rfl, fun e1 => ?_, fun e1 => ?_⟩
  · have hlt : i < ps.length := by have := of_decide_eq_true e1; omega
    have hx : ps[i]? = some ps[i] := List.getElem?_eq_getElem hlt
    have tk : ps.take (i + 1) = ps.take i ++ [ps[i]] := List.take_succ_eq_append_getElem hlt
    generalize ps[i] = part at *
    obtain ⟨b, o, a', c', ea, hcl, SP, _⟩ := TP.cell hx
    have hb1 : pa = some ⟨b, o, none⟩ ∧ (0 : Int) ≤ i ∧ (i : Int) < ((pn : Nat) : Int) := ⟨ea, by omega, by omega⟩
    refine ⟨b, o, hb1, a', part.length, c', by rw [Int.toNat_natCast]; exact cell_le lhh hcl, fun _ => ⟨rfl, lhh⟩, fun e2 => ?_⟩
    have h40 : part.length ≤ 40 := by have := of_decide_eq_false e2; omega
    refine ⟨fun vs hh' => ∃ (j : Nat) (p' : Bool), vs = [vb p', vi j] ∧ j ≤ part.length ∧ hh.le hh' ∧ (p' = true → p = true ∧ ∀ e ∈ part.take j, chkE e = 0), fun vs hh => part.length - (vint vs 1).toNat, ⟨0, p, rfl, Nat.zero_le _, Hp.le_refl _, fun q => ⟨q, by simp⟩⟩, ?_⟩
    rintro vs hh3 ⟨j, p', rfl, hj, lh3, hc3⟩
    have lh3' := Hp.le_trans lhh lh3
    have hc1 := cell_le lh3' hcl
    refine ⟨p', _, rfl, b, o, hb1, a', part.length, c', by rw [Int.toNat_natCast]; exact hc1, fun e3 => ?_, fun e3 => ?_⟩
    · have hltj : j < part.length := by have := of_decide_eq_true e3; omega
      have hxj : part[j]? = some part[j] := List.getElem?_eq_getElem hltj
      have tkj : part.take (j + 1) = part.take j ++ [part[j]] := List.take_succ_eq_append_getElem hltj
      obtain ⟨b2, o2, ea2, hr2⟩ := (SP.le lh3').get (sz := 7) (fun _ => rfl) (by decide) hxj
      generalize part[j] = ev at *
      refine ⟨b, o, fun _ => hb1, a', part.length, c', fun _ => by rw [Int.toNat_natCast]; exact hc1, b2, o2, fun _ => ⟨ea2, by omega, by omega⟩, _, _, _, _, _, _, _, fun _ => by rw [Int.toNat_natCast]; exact hr2, ?_⟩
      refine ⟨fun x hh' => hh3.le hh' ∧ (p' = true → x = .t (.one (.v (vi (chkE ev))))), fun e4 => R_EventFault_ok (e := ev) fun h54 l54 => ⟨_, rfl, l54, fun _ => rfl⟩, fun e4 => ⟨Hp.le_refl _, fun q => absurd q e4⟩, ?_⟩
      rintro h56 x57 ⟨l56, e57⟩
      refine ⟨_, isW (by unfold InR; omega), ⟨j + 1, _, rfl, by omega, Hp.le_trans lh3 l56, fun q => ?_⟩, by simp [vint]; omega⟩
      cases hp' : p' with
      | false => rw [hp'] at q; cases q
      | true =>
        rw [hp'] at q
        have q : decide (x57 = 0) = true := q
        have e57 := e57 hp'
        cases e57
        obtain ⟨q1, q2⟩ := hc3 hp'
        refine ⟨q1, fun e he => ?_⟩
        rw [tkj] at he
        rcases List.mem_append.1 he with h1 | h1
        · exact q2 e h1
        · rw [List.mem_singleton.1 h1]; exact of_decide_eq_true q
    · have hge : j = part.length := by have := of_decide_eq_false e3; omega
      rw [hge, List.take_length] at hc3
      refine ⟨_, isW (by unfold InR; omega), ⟨i + 1, p', rfl, by omega, Hp.le_trans lh lh3, fun x hx => ?_, fun q => ?_⟩, by simp [vint]; omega⟩
      · rw [tk] at hx
        rcases List.mem_append.1 hx with h1 | h1
        · exact hz x h1
        · rw [List.mem_singleton.1 h1]; exact h40
      · obtain ⟨q1, q2⟩ := hc3 q
        obtain ⟨q3, q4⟩ := hc q1
        refine ⟨q3, fun x hx => ?_⟩
        rw [tk] at hx
        rcases List.mem_append.1 hx with h1 | h1
        · exact q4 x h1
        · rw [List.mem_singleton.1 h1]; exact q2
  · have hge : i = ps.length := by have := of_decide_eq_false e1; omega
    rw [hge, List.take_length] at hz hc
    refine ⟨fun _ => ⟨rfl, lhh⟩, fun e2 => ?_⟩
    have hpt : p = true := by simpa using e2
    obtain ⟨q1, q2⟩ := hc hpt
    obtain ⟨q, B, Q, rfl, rfl, rfl, rfl⟩ := hq q1
    have hE : ∀ p ∈ ps, ∀ e ∈ p, EvOK e := fun p hp e he => chkE_ok (q2 p hp e he)
    have hl : ∀ p ∈ ps, p.length ≤ 100 := fun p hp => by have := hz p hp; omega
    obtain ⟨hm1, hm2⟩ := ansQ_many B (by omega) hl hE
    refine batch_Answer_ok (Q.le lh) B (TP.le lhh) (by omega) hl hE fun a64 c64 h63 l63 G => ⟨_, _, _, _, rfl, ?_⟩
    have l63' := Hp.le_trans lhh l63
    refine R_Answer_ok (Q.le (Hp.le_trans lh l63)) B (TP.le l63').r (by omega) hl hE fun a68 c68 h67 l67 G2 => ⟨_, _, _, _, rfl, ?_⟩
    refine ⟨fun x hh' => hh' = h67 ∧ x = .t (.one (.v (vb true))), fun _ => R_SamePanes_ok (G.le l67) G2 (by omega) hm2 ⟨_, rfl, rfl, rfl⟩, fun e3 => absurd (decide_eq_true rfl) e3, ?_⟩
    rintro h74 p75 ⟨rfl, e⟩
    cases e
    rw [decide_eq_true rfl]
    exact ⟨rfl, Hp.le_trans l63' l67⟩
end Go.Proofs.YtejefijpcggkfaaGreatDoor
namespace Go.Proofs.YtejefijpcggkfaaGreatDoor.batchSays
open Go.ChangeShapes Go.WideShapes Go.ChangeAt Go.RowKit Go.Vc
set_option linter.unusedVariables false
set_option maxRecDepth 100000
theorem own : ownKnob Tryz.prog.godebug = none := by kernel_rfl
theorem open0 {H : Type} {enc : TypeId × Value → H} {W : World} {cs : List Value} (L : LeafL Tryz.prog enc W (fun _ => True) (flatIds Tryz.prog 4 35) cs) : ∃ (x0 : Int) (x1 : Int) (x2 : Int) (x3 : Int) (x4 : Int) (x5 : Int) (x6 : Int), cs = encE (x0, (x1, x2), (x3, x4), (x5, x6)) ∧ InR x0 ∧ InR x1 ∧ InR x2 ∧ InR x3 ∧ InR x4 ∧ InR x5 ∧ InR x6 := by
  have e : flatIds Tryz.prog 4 35 = [3, 3, 3, 3, 3, 3, 3] := by kernel_rfl
  rw [e] at L
  match cs, L with
  | [v0, v1, v2, v3, v4, v5, v6], L =>
    obtain ⟨x0, h0, g0⟩ := leaf_i64 Tryz.underlying3 (L.1)
    cases h0
    obtain ⟨x1, h1, g1⟩ := leaf_i64 Tryz.underlying3 (L.2.1)
    cases h1
    obtain ⟨x2, h2, g2⟩ := leaf_i64 Tryz.underlying3 (L.2.2.1)
    cases h2
    obtain ⟨x3, h3, g3⟩ := leaf_i64 Tryz.underlying3 (L.2.2.2.1)
    cases h3
    obtain ⟨x4, h4, g4⟩ := leaf_i64 Tryz.underlying3 (L.2.2.2.2.1)
    cases h4
    obtain ⟨x5, h5, g5⟩ := leaf_i64 Tryz.underlying3 (L.2.2.2.2.2.1)
    cases h5
    obtain ⟨x6, h6, g6⟩ := leaf_i64 Tryz.underlying3 (L.2.2.2.2.2.2.1)
    cases h6
    exact ⟨x0, x1, x2, x3, x4, x5, x6, rfl, g0, g1, g2, g3, g4, g5, g6⟩
abbrev lay := Rows.batchSaysRow.laid
theorem tabs {W : World} (hL : laidMetH Tryz.prog lay W) : TabP (hpOf W) := by
  rw [MakeChecks.laidMetH_plain _ _ _ (by kernel_rfl)] at hL
  have h3 : laidMet Tryz.prog (("internal/strconv.uint64pow10", Lib.tabData .u64 Lib.pow10Tab) :: lay.drop 3) W := hL.tail.tail
  have hT := Lib.tabIs_of_head (g := 5) (n := 20) (by kernel_rfl) (t := 208) (by kernel_rfl) (e := 152) (by kernel_rfl) (by kernel_rfl) (by kernel_rfl) (by kernel_rfl) h3
  intro w hs
  exact var_sub hT hs
theorem star : "*" ++ "errors.errorString" = "*errors.errorString" := by decide
theorem rowE (u : TypeId) (h : Tryz.prog.typeName? 3 u = some "*errors.errorString") : u = 197 :=
  typeName_ptr_named (nm := "errors.errorString") (by rw [star]; kernel_rfl) (by kernel_rfl) (by decide) u (by rw [star]; exact h)
theorem errs {W : World} (hL : laidMetH Tryz.prog lay W) : TabE (hpOf W) := by
  rw [MakeChecks.laidMetH_plain _ _ _ (by kernel_rfl)] at hL
  have h4 : laidMet Tryz.prog (("strconv.ErrRange", _) :: ("strconv.ErrSyntax", _) :: lay.drop 5) W := hL.tail.tail.tail
  obtain ⟨a0, s0, hv0, _⟩ := laid_sentinel (g := 2) (ti := 42) h4 (by kernel_rfl) (by kernel_rfl) Tryz.underlying42 rowE Tryz.underlying197 Tryz.underlying199 rfl rfl Tryz.underlying9 (by kernel_rfl) (by kernel_rfl)
  obtain ⟨a1, s1, hv1, _⟩ := laid_sentinel (g := 1) (ti := 42) h4.tail (by kernel_rfl) (by kernel_rfl) Tryz.underlying42 rowE Tryz.underlying197 Tryz.underlying199 rfl rfl Tryz.underlying9 (by kernel_rfl) (by kernel_rfl)
  exact ⟨⟨_, _, fun w hs => vars_sub hv1 hs⟩, ⟨_, _, fun w hs => vars_sub hv0 hs⟩⟩
theorem names {W : World} (hL : laidMetH Tryz.prog lay W) : TabQ (hpOf W) := by
  have T := tabs hL
  have E := errs hL
  rw [MakeChecks.laidMetH_plain _ _ _ (by kernel_rfl)] at hL
  have h6 : laidMet Tryz.prog (("penstock/query.fields", _) :: ("penstock/query.aggs", _) :: lay.drop 7) W := hL.tail.tail.tail.tail.tail
  exact ⟨T, E, laid_texts (texts := fieldW) (g := 4) (t := 83) (e := 9) h6 (by kernel_rfl) (by kernel_rfl) (by kernel_rfl) (by kernel_rfl) (by kernel_rfl) (by decide), laid_texts (texts := aggsW) (g := 0) (t := 83) (e := 9) h6.tail (by kernel_rfl) (by kernel_rfl) (by kernel_rfl) (by kernel_rfl) (by kernel_rfl) (by decide)⟩
theorem door_met (os : Os) (args : Array Value) : laidMetH Tryz.prog lay ((World.doorLaid Tryz.prog 400 os).forCall (fun _ _ => 0) ⟨#[], args, []⟩).memory :=
  laidMetH_of_parts3 (fuel := 8) (laidMet_of_run' 8 (by kernel_rfl) (by kernel_rfl)) (by kernel_rfl) (by kernel_rfl)
set_option maxRecDepth 100000 in
theorem lifted (os : Os) (started : os.Started) (H : Type) (enc : TypeId × Value → H) :
    ReturnsInHanded {} Tryz.checked os 3 .any (fun w args => (Rows.batchSaysSpec.pre enc Tryz.prog Tryz.f3 Rows.batchSaysRow.domain false w args ∧ laidMetH Tryz.prog lay w) ∧ sizedMet enc Tryz.prog Tryz.f3 (OpenSpec.ofChange Rows.batchSaysSpec) false w args) (Rows.batchSaysSpec.post enc Tryz.prog Tryz.f3 false true false false) := by
  refine returnsInHanded_of_change_and (C := Tryz.checked) (X := fun w _ => laidMetH Tryz.prog lay w) (fun _ _ _ hh h => h.of_heap hh) own started (by kernel_rfl) Tryz.func3
    (ChangeSpec.witness_shaped (enc := enc) (C := Tryz.checked) (os := os) (X := fun w _ => laidMetH Tryz.prog lay w) false (World.doorLaid Tryz.prog 400 os) #[.string ⟨#[]⟩, .slice none 0 0] 8 rfl (World.shaped_of_RefB (by kernel_rfl) (by kernel_rfl)) (by kernel_rfl) (by kernel_rfl) (by kernel_rfl) (door_met os _)) ?_
  intro W base args ds gs before hval0 hW hcnd _ hL _
  have T := tabs hL
  have E := errs hL
  have TQ := names hL
  have hval : ∀ (j : Nat) t v, Tryz.f3.params[j]? = some t → args[j]? = some v → Value.okWide Tryz.prog W .any base t v := hval0
  have hW' := hW
  obtain ⟨p, q, hA0, hV, rfl, hfz, hnd⟩ := hW
  have hA : DataW.TrodAll enc Tryz.prog W 0 (fun _ => true) true Tryz.f3.params.toList args.toList ds p := hA0
  rw [Tryz.params3] at hA hval
  obtain ⟨v0, vs0, d0, ds0, p0, q0, hargs, rfl, rfl, h0, r0⟩ := trodAll_cons hA
  obtain ⟨v1, vs1, d1, ds1, p1, q1, rfl, rfl, rfl, h1, r1⟩ := trodAll_cons r0
  obtain ⟨rfl, rfl, rfl⟩ := trodAll_nil r1
  obtain rfl : args = #[v0, v1] := by cases args; simp_all
  obtain ⟨rfl, rfl⟩ := trodVars_none hV
  obtain ⟨s0, rfl⟩ := okWide_string Tryz.underlying9 (hval 0 9 v0 rfl rfl)
  obtain ⟨b0, e0, _, z0⟩ := leaf_string smTrue Tryz.underlying9 (leafC_of (Sm := fun _ => True) h0 trivial)
  cases e0
  obtain ⟨w1, w2, w3, rfl⟩ := okWide_slice (e := 30) (by kernel_rfl) (hval 1 22 v1 rfl rfl)
  obtain ⟨p1, n1, c1, R1, e1, S1, hc1, hm1, _, g1⟩ := leaf_slice (enc := fun r => [rowV r]) (sz := 1) (good := fun r : TRow _ => HasRow (hpOf W) r.1.1 (r.2.flatMap encE) ∧ r.2.length ≤ r.1.2 ∧ r.1.2 ≤ maxLen ∧ ∀ y ∈ r.2, True) smTrue (e := 30) (by kernel_rfl) (by kernel_rfl) (by decide) (fun _ => rfl)
    (fun cs L => by
      obtain ⟨a, n, c, l, e, S, hc, hm, _, hg⟩ := leaf_slice (enc := encE) (sz := 7) (good := fun y => True) smTrue (e := 35) (by kernel_rfl) (by kernel_rfl) (by decide) (fun _ => rfl) (fun cs L => by
        have hf := leaf_flat smTrue 4 (by kernel_rfl) L
        obtain ⟨x0, x1, x2, x3, x4, x5, x6, hy, hg⟩ := open0 hf
        exact ⟨(x0, (x1, x2), (x3, x4), (x5, x6)), hy, trivial⟩) L
      cases e
      obtain rfl := S.1
      exact ⟨((a, c), l), rfl, S.2, hc, hm, hg⟩) (leafC_of (Sm := fun _ => True) h1 trivial)
  cases e1
  refine (calls_law (law_BatchSays_ok (s := s0.data.toList) (tabc_of S1 (fun r hr => ⟨(g1 r hr).1, (g1 r hr).2.1⟩)) TQ)).mono fun e W' ⟨he, hg⟩ => ?_
  subst he
  exact ⟨_, rfl, law_post big hW' hg (by kernel_rfl) (tb := 4) (by kernel_rfl) (by kernel_rfl) rfl⟩
theorem over : Rows.batchSaysRow.holds Tryz.pinned (OpenSpec.ofChange Rows.batchSaysSpec) :=
  OpenClaim.holds_of_wide 3 Tryz.f3 rfl rfl rfl rfl rfl rfl rfl ⟨rfl, rfl, rfl, rfl, rfl⟩ rfl rfl rfl rfl rfl (by kernel_rfl) Tryz.func3 (by kernel_rfl)
    (of_decide_eq_true (by kernel_rfl)) (by unfold Func.isWrapper; first | (rw [if_pos (by decide +kernel)]; kernel_rfl) | (rw [if_neg (by decide +kernel)]; exact ⟨rfl, rfl⟩))
    (fun os started H enc _ => lifted os started H enc)
theorem proved : Rows.BatchSaysCardSaid :=
  Claim7.holds_tied_plain_at .later [] _ true _ true
    over (fun _ h => by cases h) (by kernel_rfl) (fun _ h => by cases h) batchSays_row_tie rfl ⟨rfl, rfl⟩ (by kernel_rfl) rfl
    (fun f fn hf hfn => by
      obtain rfl : f = 3 := Option.some.inj ((show Tryz.prog.funcNamed "penstock/penstocklaw.BatchSays" = some 3 by kernel_rfl).symm.trans hf) |>.symm
      obtain rfl : fn = Tryz.f3 := (Option.some.inj (Tryz.func3.symm.trans hfn)).symm
      exact ⟨by kernel_rfl, fun j t ht => by
        rw [Tryz.params3] at ht
        have hm : t ∈ [9, 22] := by simpa using Array.mem_of_getElem? ht
        have hall : ([9, 22].all fun u => !Tryz.prog.wantsStandIn u) = true := by kernel_rfl
        exact (show Tryz.prog.wantsStandIn t = false by simpa using List.all_eq_true.1 hall t hm)⟩)
    (by kernel_rfl)
end Go.Proofs.YtejefijpcggkfaaGreatDoor.batchSays
