/-
  The statement that the last part names, proved; and all that it stands on that is not in the parts ahead. Conditions: those stated at each.
-/
import Derived.Test.YtonlacplogbodaaGreatDoorRows
import Derived.Test.YtonlacplogbodaaGreatDoorCards
import Derived.Test.YtonlacplogbodaaGreatDoorTie
import Derived.WalkKit
import Derived.ProofKit
import Derived.OpenShut
import Derived.LaidMore
import Derived.Stop.Joined
import Derived.Stop.LaidErr
import Derived.SevenTiedAt
import Derived.Test.YtonlacplogbodaaGreatDoorQb5
/-
  Contracts: package query: Text. Conditions: that the question may be; that the library's tables and the names of fields lie as laid.
-/
namespace Go.Proofs.YtonlacplogbodaaGreatDoor
open Go Go.Vc Go.Txt Go.RowKit
set_option linter.unusedVariables false
set_option maxRecDepth 100000

theorem strings_Join_ok {a : Option Addr} {n c : Nat} {l : List Wd} {sep : Wd} {h : Hp} {R : Value → Hp → Prop} (S : SlB h a n l) (hn : 0 < n) (hc : n ≤ c) (hn2 : n ≤ 1000000) (hlen : (Lib.join l sep).length ≤ 1000000) (hK : R (vs (bs (Lib.join l sep))) h) : CallOK Tryz.prog 19 [vsl a n c, vs (bs sep)] h R := by
  obtain rfl := S.1
  obtain ⟨b, o, ha, hcell⟩ := SlP.get1 S hn
  subst ha
  have hmap : ((l.map bs).map fun x => x.data.toList) = l := by
    rw [List.map_map]
    have : ((fun x : ByteArray => x.data.toList) ∘ bs) = id := by funext x; simp [bs]
    rw [this, List.map_id]
  have hs : (bs sep).data.toList = sep := by simp [bs]
  have hl : (l.map bs).length = l.length := by simp
  refine callOK_below fun w hw => ?_
  have hcs : ∀ (j : Nat) x, (l.map bs)[j]? = some x → w.cell? ⟨b, o + j, none⟩ = some (.string x) := by
    intro j x hx
    rw [List.getElem?_map, Option.map_eq_some_iff] at hx
    obtain ⟨y, hy, rfl⟩ := hx
    have hj := (List.getElem?_eq_some_iff.1 hy).1
    obtain ⟨b', o', e, hc'⟩ := SlP.get1 S hj
    cases e
    rw [List.getD_eq_getElem?_getD, hy, Nat.mul_one] at hc'
    exact cell_cell hc' hw
  have hbk : b < w.heap.size := by
    have h1 := cell_cell hcell hw
    unfold World.cell? at h1
    cases hb : w.heap[b]? with
    | none => rw [hb] at h1; cases h1
    | some ob => exact (Array.getElem?_eq_some_iff.1 hb).1
  have := Tryz.strings_Join b o c (l.map bs) (bs sep) w hcs hbk (by rw [hl]; omega) (by rw [hl]; exact hc) (by rw [hmap, hs]; omega)
  rw [hl, hmap, hs] at this
  refine this.mono fun e w' ⟨he, hB⟩ => ⟨_, he, hB, hK⟩
theorem rd_mapI {h : Hp} {b : Nat} {es : Array MapEntry} {clock : Nat} (hb : h b = some (.map es clock)) {x : Int} {w : Wd} {i : Nat} (hf : Instr.findNow (.int .i64) (vi x) es.toList 0 = some (some (i, vs (bs w)))) : Rd Tryz.prog (Instr.lookup 84 (.map (some b)) (vi x) false) h (vs (bs w)) :=
  rd_lookup (k := 3) (e := 9) (d := .int .i64) (by kernel_rfl) (by kernel_rfl) hb rfl hf
theorem sem_mapI {h : Hp} {b : Nat} {es : Array MapEntry} {clock : Nat} (hb : h b = some (.map es clock)) {x : Int} {v : Value} (hf : Instr.findNow (.int .i64) (vi x) es.toList 0 = some none) {K : Hp → Prop} (hK : K (h.set b (.map (es.push { key := vi x, val := v, born := clock }) (clock + 1)))) : SemOKu Tryz.prog (Instr.mapUpdate 84 (.map (some b)) (vi x) v) h K :=
  sem_mapNew (k := 3) (e := 9) (d := .int .i64) (key := vi x) (by kernel_rfl) (by kernel_rfl) hb rfl hf hK
theorem query_signs_ok {h : Hp} {R : Value → Hp → Prop} (hK : ∀ y h', h.le h' → (∀ op, 6 ≤ op → op ≤ 12 → Rd Tryz.prog (Instr.lookup 84 y (vi op) false) h' (vs (bs (signW op)))) → R y h') : CallOK Tryz.prog 42 [] h R := by
  refine ok_query_signs ?_
  unfold VC_query_signs
  refine sem_makeMap fun b hb => ⟨_, rfl, ?_⟩
  refine sem_mapI (Hp.set_same _ _ _) rfl (sem_mapI (Hp.set_same _ _ _) rfl (sem_mapI (Hp.set_same _ _ _) rfl (sem_mapI (Hp.set_same _ _ _) rfl (sem_mapI (Hp.set_same _ _ _) rfl (sem_mapI (Hp.set_same _ _ _) rfl (sem_mapI (Hp.set_same _ _ _) rfl ?_))))))
  simp only [Hp.set_set]
  refine hK _ _ (Hp.le_set (Hp.le_refl h) hb _) fun op h1 h2 => ?_
  have hop : op = 6 ∨ op = 7 ∨ op = 8 ∨ op = 9 ∨ op = 10 ∨ op = 11 ∨ op = 12 := by omega
  rcases hop with rfl | rfl | rfl | rfl | rfl | rfl | rfl
  · exact rd_mapI (Hp.set_same _ _ _) (i := 0) rfl
  · exact rd_mapI (Hp.set_same _ _ _) (i := 1) rfl
  · exact rd_mapI (Hp.set_same _ _ _) (i := 2) rfl
  · exact rd_mapI (Hp.set_same _ _ _) (i := 3) rfl
  · exact rd_mapI (Hp.set_same _ _ _) (i := 4) rfl
  · exact rd_mapI (Hp.set_same _ _ _) (i := 5) rfl
  · exact rd_mapI (Hp.set_same _ _ _) (i := 6) rfl
theorem cat_le {l m : Wd} (h1 : l.length ≤ 1000000000) (h2 : m.length ≤ 1000000000) : l.length + m.length ≤ maxLen := by unfold maxLen; omega
theorem query_exprText_ok {a : Option Addr} {m c : Nat} {l : List Nd} {h : Hp} (S : SlP encN h a m l) (hx0 : exprF l = 0) (T : TabQ h) {R : Value → Hp → Prop} (hK : ∀ h', h.le h' → R (vs (bs (txE l))) h') : CallOK Tryz.prog 18 [vsl a m c] h R := by
  refine ok_query_exprText ?_
  unfold VC_query_exprText
  obtain rfl := S.1
  obtain ⟨O, hl40⟩ := exprF_ok hx0
  have W := O.wf
  have hpos := O.pos
  refine Vec.make (enc := encB) (x := []) elStr (z := [vs ⟨#[]⟩]) (by kernel_rfl) rfl rfl (by omega) (by omega) fun a3 h2 V2 => ⟨_, _, _, rfl, ?_⟩
  refine ⟨fun vs' hh => ∃ (i : Nat) (outs : List Wd), vs' = [vi i] ∧ i ≤ l.length ∧ outs.length = l.length ∧ outs.take i = fwd [] txF (l.take i) ∧ Vec encB 1 9 h hh a3 l.length outs, fun vs' hh => l.length - (vint vs' 0).toNat,
    ⟨0, _, rfl, Nat.zero_le _, by simp, rfl, V2⟩, ?_⟩
  rintro vs' hh ⟨i, outs, rfl, hi, hlo, ho, V⟩
  refine ⟨i, rfl, fun q => ?_, fun q => ?_⟩
  · have hlt : i < l.length := by have := of_decide_eq_true q; omega
    have hx : l[i]? = some l[i] := List.getElem?_eq_getElem hlt
    have Wn := W _ _ hx
    have hgv := nodeF_v (O.n _ (List.mem_of_getElem? hx))
    have hv : txAt l i = _ := fAt_wf own_txF hx Wn
    have hset := outs_set ho hx hlo
    have hTL := fun (k : Nat) (hk : k < l.length) => tx_len O hl40 hk
    obtain ⟨b, o, ha, hr⟩ := (S.le V.le0).get encN_len (by decide) hx
    generalize l[i] = n at *
    have hout : outs[i]? = some (outs[i]'(by omega)) := List.getElem?_eq_getElem (by omega)
    intro J92
    have hJ : ∀ h', Vec encB 1 9 h h' a3 l.length (outs.set i (txAt l i)) → J92 h' := by
      intro h' V'
      exact ⟨_, isW (by unfold InR; omega), ⟨i + 1, _, rfl, by omega, by rw [List.length_set]; exact hlo, hset, V'⟩, by simp [vint]; omega⟩
    clear_value J92
    obtain ⟨b3, o3, ha3, _⟩ := V.put encB_len (x' := txAt l i) (k := 0) (vs := encB (txAt l i)) hout (by rw [encB_len]; decide) (by rw [encB_len]; decide) rfl
    have A3 : ∀ {x : Int}, 0 ≤ x → x < l.length → a3 = some ⟨b3, o3, none⟩ ∧ (0 : Int) ≤ x ∧ x < (l.length : Nat) := fun h0 h1 => ⟨ha3, h0, h1⟩
    have Ai : a3 = some ⟨b3, o3, none⟩ ∧ (0 : Int) ≤ i ∧ (i : Int) < (l.length : Nat) := A3 (by omega) (by omega)
    have rdo : ∀ {h' : Hp} {x : Int}, hh.le h' → 0 ≤ x → x < i → h'.cell b3 (o3 + x.toNat * 1) = some (vs (bs (txAt l x.toNat))) := by
      intro h' x hl h0 h1
      obtain ⟨b', o', ha', hr'⟩ := (V.slp encB_len (by decide)).get encB_len (by decide) (outs_get ho hi (k := x.toNat) (by omega))
      rw [ha3] at ha'
      cases ha'
      exact Hp.cell_le hl (Hp.row_cell hr' (i := 0) rfl)
    have fin : ∀ {h' : Hp} {v : Wd}, hh.le h' → v = txAt l i → h'.store b3 (o3 + i * 1) [vs (bs v)] J92 := by
      rintro h' v hl rfl
      have V' : Vec encB 1 9 h h' a3 l.length outs := V.keep0 hl
      obtain ⟨b', o', ha', hput⟩ := V'.put encB_len (x' := txAt l i) (k := 0) (vs := encB (txAt l i)) hout (by rw [encB_len]; decide) (by rw [encB_len]; decide) rfl
      rw [ha3] at ha'
      cases ha'
      exact hput _ hJ
    have ar := ar0 Wn.a
    have hfold : txAt l = fAt [] txF l := rfl
    rw [← hfold] at hv
    have T2 := T.le V.le0
    have hL : ∀ {x : Int}, 0 ≤ x → x < i → (txAt l x.toNat).length ≤ 800 := fun h0 h1 => hTL _ (by omega)
    unfold txF at hv
    refine ⟨b, o, ⟨ha, by omega, by omega⟩, _, _, _, _, _, _, hr, fun q => ?_, fun q1 => ⟨fun q => ?_, fun q2 => ⟨fun q => ?_, fun q3 => ⟨fun q => ?_, fun q4 => ⟨fun q => ?_, fun q5 => ?_⟩⟩⟩⟩⟩
    · rw [if_pos (of_decide_eq_true q)] at hv
      have hin : InR n.v.2 := by unfold goodV at hgv; unfold InR; omega
      refine value_Text_ok (v := n.v) hin T2.p ⟨_, rfl, b3, o3, Ai, ?_⟩
      have V' := V
      obtain ⟨b', o', ha', hput⟩ := V.put encB_len (x' := textV n.v) (k := 0) (vs := encB (textV n.v)) hout (by rw [encB_len]; decide) (by rw [encB_len]; decide) rfl
      rw [ha3] at ha'
      cases ha'
      refine hput _ fun h25 V25 => ⟨fun g => ?_, fun g => ?_⟩
      · rw [if_pos (of_decide_eq_true g)] at hv
        have hneg : InR (-n.v.2) := by unfold InR at *; unfold goodV at hgv; omega
        have hil := itoa_len (n := -n.v.2) (by unfold goodV at hgv; omega) (by unfold goodV at hgv; omega)
        refine ⟨_, isW hneg, strconv_Itoa_ok hneg (T.le V25.le0).p ⟨_, rfl, _, rd_cat (l := [40, 48, 32, 45, 32]) (cat_le (by decide) (by omega)), _, rd_cat (m := [41]) (cat_le (by rw [List.length_append]; simp; omega) (by decide)), b3, o3, Ai, ?_⟩⟩
        have hout2 : (outs.set i (textV n.v))[i]? = some (textV n.v) := by rw [List.getElem?_set_self (by omega)]
        obtain ⟨b', o', ha', hput2⟩ := V25.put encB_len (x' := txAt l i) (k := 0) (vs := encB (txAt l i)) hout2 (by rw [encB_len]; decide) (by rw [encB_len]; decide) rfl
        rw [ha3] at ha'
        cases ha'
        rw [List.set_set] at hput2
        have e : [vs (bs ([40, 48, 32, 45, 32] ++ Lib.itoa (-n.v.2) ++ [41]))] = encB (txAt l i) := by rw [hv]; rfl
        rw [e]
        exact hput2 _ hJ
      · rw [if_neg (of_decide_eq_false g)] at hv
        rw [← hv] at V25
        exact hJ h25 V25
    · rw [if_neg (of_decide_eq_false q1), if_pos (of_decide_eq_true q)] at hv
      obtain ⟨fa, fc, hf, hfs⟩ := T2.f
      have hfn := Wn.f (of_decide_eq_true q)
      obtain ⟨b', o', ha', hc'⟩ := SlP.get1 hfs (i := n.n.toNat) (by omega)
      exact ⟨_, _, _, hf, b', o', ⟨ha', by omega, by omega⟩, _, hc', b3, o3, Ai, fin (Hp.le_refl _) hv.symm⟩
    · rw [if_neg (of_decide_eq_false q1), if_neg (of_decide_eq_false q2), if_pos (of_decide_eq_true q)] at hv
      have := of_decide_eq_true q
      have hX := Wn.x (by omega)
      have hl1 := hL hX.1 hX.2
      exact ⟨b3, o3, A3 (by omega) (by omega), _, rdo (Hp.le_refl _) hX.1 hX.2, _, rd_cat (l := [40, 45, 32]) (cat_le (by decide) (by omega)), _, rd_cat (m := [41]) (cat_le (by rw [List.length_append]; simp; omega) (by decide)), b3, o3, Ai, fin (Hp.le_refl _) hv.symm⟩
    · rw [if_neg (of_decide_eq_false q1), if_neg (of_decide_eq_false q2), if_neg (of_decide_eq_false q3), if_pos (of_decide_eq_true q)] at hv
      have := of_decide_eq_true q
      have hX := Wn.x (by omega)
      have hl1 := hL hX.1 hX.2
      exact ⟨b3, o3, A3 (by omega) (by omega), _, rdo (Hp.le_refl _) hX.1 hX.2, _, rd_cat (l := [40, 110, 111, 116, 32]) (cat_le (by decide) (by omega)), _, rd_cat (m := [41]) (cat_le (by rw [List.length_append]; simp; omega) (by decide)), b3, o3, Ai, fin (Hp.le_refl _) hv.symm⟩
    · rw [if_neg (of_decide_eq_false q1), if_neg (of_decide_eq_false q2), if_neg (of_decide_eq_false q3), if_neg (of_decide_eq_false q4), if_pos (of_decide_eq_true q)] at hv
      have := of_decide_eq_true q
      have hX := Wn.x (by omega)
      have hl1 := hL hX.1 hX.2
      exact ⟨b3, o3, A3 (by omega) (by omega), _, rdo (Hp.le_refl _) hX.1 hX.2, _, rd_cat (l := [40]) (cat_le (by decide) (by omega)), _, rd_cat (m := [32, 105, 115, 32, 110, 117, 108, 108, 41]) (cat_le (by rw [List.length_append]; simp; omega) (by decide)), b3, o3, Ai, fin (Hp.le_refl _) hv.symm⟩
    · have p1 := of_decide_eq_false q1
      have p2 := of_decide_eq_false q2
      have p3 := of_decide_eq_false q3
      have p4 := of_decide_eq_false q4
      have p5 := of_decide_eq_false q5
      rw [if_neg p1, if_neg p2, if_neg p3, if_neg p4, if_neg p5] at hv
      have h2 : arI n.op = 2 := by rcases arI_range Wn.a with h | h | h <;> omega
      have hX := Wn.x (by omega)
      have hY := Wn.y (by omega)
      have hl1 := hL hX.1 hX.2
      have hl2 := hL hY.1 hY.2
      have hl3 := signW_len n.op
      have c1 : ∀ {h' : Hp}, hh.le h' → h'.cell b3 (o3 + n.x.toNat * 1) = some (vs (bs (txAt l n.x.toNat))) := fun hl => rdo hl hX.1 hX.2
      have c2 : ∀ {h' : Hp}, hh.le h' → h'.cell b3 (o3 + n.y.toNat * 1) = some (vs (bs (txAt l n.y.toNat))) := fun hl => rdo hl hY.1 hY.2
      have k1 : ([40] : Wd).length + (txAt l n.x.toNat).length ≤ maxLen := cat_le (by decide) (by omega)
      have k2 : (([40] : Wd) ++ txAt l n.x.toNat).length + ([32] : Wd).length ≤ maxLen := cat_le (by rw [List.length_append]; simp; omega) (by decide)
      have k3 : (([40] : Wd) ++ txAt l n.x.toNat ++ [32]).length + (signW n.op).length ≤ maxLen := cat_le (by simp only [List.length_append, List.length_cons, List.length_nil]; omega) (by omega)
      have k4 : (([40] : Wd) ++ txAt l n.x.toNat ++ [32] ++ signW n.op).length + ([32] : Wd).length ≤ maxLen := cat_le (by simp only [List.length_append, List.length_cons, List.length_nil]; omega) (by decide)
      have k5 : (([40] : Wd) ++ txAt l n.x.toNat ++ [32] ++ signW n.op ++ [32]).length + (txAt l n.y.toNat).length ≤ maxLen := cat_le (by simp only [List.length_append, List.length_cons, List.length_nil]; omega) (by omega)
      have k6 : (([40] : Wd) ++ txAt l n.x.toNat ++ [32] ++ signW n.op ++ [32] ++ txAt l n.y.toNat).length + ([41] : Wd).length ≤ maxLen := cat_le (by simp only [List.length_append, List.length_cons, List.length_nil]; omega) (by decide)
      refine ⟨b3, o3, A3 (by omega) (by omega), _, c1 (Hp.le_refl _), _, rd_cat (l := [40]) k1, _, rd_cat (m := [32]) k2, b3, o3, A3 (by omega) (by omega), _, c2 (Hp.le_refl _), ?_⟩
      refine query_signs_ok fun y h81 l81 hlk => ⟨_, rfl, c2 l81, rd_cat (m := [32]) k2, rd_cat (l := [40]) k1, c1 l81, _, hlk n.op (by omega) (by omega), _, rd_cat k3, _, rd_cat (m := [32]) k4, _, rd_cat k5, _, rd_cat (m := [41]) k6, b3, o3, Ai, fin l81 hv.symm⟩
  · have hge : i = l.length := by have := of_decide_eq_false q; omega
    subst hge
    obtain ⟨b', o', ha', hr'⟩ := (V.slp encB_len (by decide)).get encB_len (by decide) (outs_get ho (Nat.le_refl _) (k := l.length - 1) (by omega))
    refine ⟨_, isW (by unfold InR; omega), b', o', ⟨ha', by omega, by omega⟩, _, ?_, hK hh V.le0⟩
    have e1 : (((l.length : Nat) : Int) - 1).toNat = l.length - 1 := by omega
    rw [e1]
    exact Hp.row_cell hr' (i := 0) rfl
end Go.Proofs.YtonlacplogbodaaGreatDoor
/-
  Contracts: package query: Text, the whole. Conditions: that the question may be; that the library's tables and the names lie as laid.
-/
namespace Go.Proofs.YtonlacplogbodaaGreatDoor
open Go Go.Vc Go.Txt Go.RowKit
set_option linter.unusedVariables false
set_option maxRecDepth 100000

theorem aggsW_len (i : Nat) : (aggsW.getD i []).length ≤ 5 := by
  match i with
  | 0 => decide
  | 1 => decide
  | 2 => decide
  | 3 => decide
  | 4 => decide
  | 5 => decide
  | n + 6 => exact Nat.zero_le _
theorem one_encB1 (x : Wd) : ∀ u ∈ encB x, u.oneCell' = true := by
  intro u hu
  have : u = vs (bs x) := by simpa [encB] using hu
  rw [this]; rfl
theorem inv_Itoa {n : Int} (hn : InR n) {h : Hp} (T : TabP h) {K : Value → Hp → Prop} (hK : K (vs (bs (Lib.itoa n))) h) : InvOK Tryz.prog (.func (.func 20) #[] #[]) [vi n] h K :=
  ⟨_, _, _, rfl, ⟨_, Tryz.func20, by kernel_rfl, by kernel_rfl⟩, strconv_Itoa_ok hn T hK⟩
set_option maxHeartbeats 1000000 in
theorem query_Text_ok {q : Qy} {a1 : Option Addr} {n1 c1 : Nat} {a2 : Option Addr} {n2 c2 : Nat} {a3 : Option Addr} {n3 c3 : Nat} {h : Hp} {R : Value → Hp → Prop} (Q : QAt h q a1 n1 a2 n2 a3 n3) (B : QOk q) (T : TabQ h) (hK : ∀ h', h.le h' → R (vs (bs (queryT q))) h') : CallOK Tryz.prog 9 [qV a1 n1 c1 a2 n2 c2 a3 n3 c3 q] h R := by
  refine ok_query_Text ?_
  unfold VC_query_Text
  have hn1 := Q.g.len
  have hn2 := Q.w.1
  have hn3 := Q.b.1
  have b1 := B.n1
  have b2 := B.n2
  refine ⟨fun vs' hh => ∃ (i : Nat) (a : Option Addr) (c : Nat), vs' = [vsl a i c, vi i] ∧ i ≤ n1 ∧ Vec encB 1 9 h hh a c ((q.aggs.take i).map aggT), fun vs' hh => n1 - (vint vs' 1).toNat, ⟨0, none, 0, rfl, Nat.zero_le _, OwnV.nil (Hp.le_refl h) _ _⟩, ?_⟩
  rintro vs' hh ⟨i, a, c, rfl, hi, V⟩
  refine ⟨_, _, _, _, rfl, fun g => ?_, fun g => ?_⟩
  · have hlt : i < n1 := by have := of_decide_eq_true g; omega
    have hx : q.aggs[i]? = some q.aggs[i] := List.getElem?_eq_getElem (by omega)
    have hmem := List.mem_of_getElem? hx
    have hgd := B.g _ hmem
    have hal := aggT_len B hmem
    have htk : (q.aggs.take (i + 1)).map aggT = (q.aggs.take i).map aggT ++ [aggT q.aggs[i]] := by
      rw [List.take_succ_eq_append_getElem (by omega), List.map_append]; rfl
    have hlen : ((q.aggs.take i).map aggT).length = i := by rw [List.length_map, List.length_take]; omega
    generalize q.aggs[i] = y at *
    obtain ⟨k, l⟩ := y
    obtain ⟨b, o, a', c', ha, hrow, hS⟩ := (Q.g.le V.le0).row aggRw_len (by decide) hx
    simp only at hgd
    refine ⟨b, o, ⟨ha, by omega, by omega⟩, k, a', l.length, c', by rw [Int.toNat_natCast]; exact hrow, ?_⟩
    intro J19
    have hJ : ∀ (h27 : Hp) (t : Wd), t = (if k = 1 then [42] else txE l) → t.length ≤ 800 → hh.le h27 → J19 (bs t) h27 := by
      intro h27 t ht htl l27
      have V27 : Vec encB 1 9 h h27 a c ((q.aggs.take i).map aggT) := V.keep0 l27
      obtain ⟨qa, qc, hq, hqs⟩ := (T.le V27.le0).a
      obtain ⟨b', o', ha', hc'⟩ := SlP.get1 hqs (i := k.toNat) (by omega)
      have w1 := aggsW_len k.toNat
      refine ⟨_, _, _, hq, b', o', ⟨ha', by omega, by omega⟩, _, hc', _, rd_cat (m := [40]) (cat_le (by omega) (by decide)), _, rd_cat (cat_le (by simp only [List.length_append, List.length_cons, List.length_nil]; omega) (by omega)), _, rd_cat (m := [41]) (cat_le (by simp only [List.length_append, List.length_cons, List.length_nil]; omega) (by decide)), ?_⟩
      intro b35 hb35 h36
      have e : aggsW.getD k.toNat [] ++ [40] ++ t ++ [41] = aggT (k, l) := by rw [ht]; rfl
      have e2 : h36 = h27.set b35 (cellsO (encB (aggT (k, l))) 9) := by rw [← e]; rfl
      rw [e2]
      have key := V27.app (x := aggT (k, l)) (ty := 47) elStr encB_len one_encB1 (by omega) (by omega) hb35 (K := fun v h' => ∃ (a' : Option Addr) (c' : Nat), v = vsl a' (i + 1) c' ∧ Vec encB 1 9 h h' a' c' ((q.aggs.take (i + 1)).map aggT)) fun a' c' h' V' => by
        rw [← htk] at V'
        refine ⟨a', c', ?_, V'⟩
        rw [List.length_append, hlen]
        rfl
      rw [hlen] at key
      refine key.mono fun v h' hv => ?_
      obtain ⟨a', c', rfl, V'⟩ := hv
      exact ⟨_, _, _, rfl, _, isW (by unfold InR; omega), ⟨i + 1, a', c', rfl, by omega, V'⟩, by simp [vint]; omega⟩
    clear_value J19
    refine ⟨fun g2 => ?_, fun g2 => ?_⟩
    · have g2 : k ≠ 1 := of_decide_eq_true g2
      have hxl := hgd.2.2.1 g2
      exact query_exprText_ok hS hxl (T.le V.le0) fun h15 l15 => ⟨_, rfl, hJ h15 _ (by rw [if_neg g2]) (txE_len hxl) l15⟩
    · have g2 : k = 1 := by simpa using g2
      exact hJ hh _ (by rw [if_pos g2]) (by decide) (Hp.le_refl _)
  · have hge : i = n1 := by have := of_decide_eq_false g; omega
    rw [List.take_of_length_le (by omega)] at V
    have hjl : (Lib.join (q.aggs.map aggT) wSep).length ≤ 4000 := by
      have := join_len (q.aggs.map aggT) wSep 810 (fun x hx => by
        obtain ⟨y, hy, rfl⟩ := List.mem_map.1 hx
        exact aggT_len B hy)
      rw [List.length_map] at this
      have hw : wSep.length = 2 := rfl
      rw [hw] at this
      omega
    have hcap := (OwnV.own V).cap
    have hvl : (q.aggs.map aggT).length = i := by rw [List.length_map]; omega
    have hS : SlB hh a i (q.aggs.map aggT) := by
      have := V.slp encB_len (by decide)
      rw [hvl] at this
      exact this
    refine strings_Join_ok (sep := wSep) hS (by omega) (by omega) (by omega) (by omega) ⟨_, rfl, _, rd_cat (l := wSel) (cat_le (by decide) (by omega)), _, rd_cat (m := wFrE) (cat_le (by rw [List.length_append]; have : wSel.length = 7 := rfl; omega) (by decide)), ?_⟩
    have Q2 := Q.le V.le0
    have l0 := V.le0
    have hs0 : (wSel ++ Lib.join (q.aggs.map aggT) wSep ++ wFrE).length ≤ 5000 := by
      simp only [List.length_append]
      have : wSel.length = 7 := rfl
      have : wFrE.length = 12 := rfl
      omega
    have hfin : queryT q = numsT (byT (whT (wSel ++ Lib.join (q.aggs.map aggT) wSep ++ wFrE) q) q) q := rfl
    generalize wSel ++ Lib.join (q.aggs.map aggT) wSep ++ wFrE = s0 at *
    rw [hfin] at hK
    clear hfin
    intro J54
    have h54 : ∀ h61, hh.le h61 → (whT s0 q).length ≤ 6000 → J54 (bs (whT s0 q)) h61 := by
      intro h61 l61 hl61
      generalize whT s0 q = s1 at *
      unfold J54
      intro J69
      have h69 : ∀ h72, hh.le h72 → (byT s1 q).length ≤ 7000 → J69 (bs (byT s1 q)) h72 := by
        intro h72 l72 hl72
        generalize byT s1 q = s2 at *
        have Tp := (T.le (Hp.le_trans l0 l72)).p
        have i1 := itoa_len (n := q.size) (by have := B.s; omega) (by have := B.s; omega)
        have i2 := itoa_len (n := q.slide) (by have := B.l; omega) (by have := B.l; omega)
        have i3 := itoa_len (n := q.delay) (by have := B.d; omega) (by have := B.d; omega)
        have i4 := itoa_len (n := q.late) (by have := B.t; omega) (by have := B.t; omega)
        have hw1 : wWin.length = 8 := rfl
        have hw2 : wSli.length = 7 := rfl
        have hw3 : wDel.length = 7 := rfl
        have hw4 : wLat.length = 6 := rfl
        unfold numsT at hK
        have k1 : s2.length + wWin.length ≤ maxLen := cat_le (by omega) (by omega)
        have k2 : (s2 ++ wWin).length + (Lib.itoa q.size).length ≤ maxLen := cat_le (by simp only [List.length_append]; omega) (by omega)
        have k3 : (s2 ++ wWin ++ Lib.itoa q.size).length + wSli.length ≤ maxLen := cat_le (by simp only [List.length_append]; omega) (by omega)
        have k4 : (s2 ++ wWin ++ Lib.itoa q.size ++ wSli).length + (Lib.itoa q.slide).length ≤ maxLen := cat_le (by simp only [List.length_append]; omega) (by omega)
        have k5 : (s2 ++ wWin ++ Lib.itoa q.size ++ wSli ++ Lib.itoa q.slide).length + wDel.length ≤ maxLen := cat_le (by simp only [List.length_append]; omega) (by omega)
        have k6 : (s2 ++ wWin ++ Lib.itoa q.size ++ wSli ++ Lib.itoa q.slide ++ wDel).length + (Lib.itoa q.delay).length ≤ maxLen := cat_le (by simp only [List.length_append]; omega) (by omega)
        have k7 : (s2 ++ wWin ++ Lib.itoa q.size ++ wSli ++ Lib.itoa q.slide ++ wDel ++ Lib.itoa q.delay).length + wLat.length ≤ maxLen := cat_le (by simp only [List.length_append]; omega) (by omega)
        have k8 : (s2 ++ wWin ++ Lib.itoa q.size ++ wSli ++ Lib.itoa q.slide ++ wDel ++ Lib.itoa q.delay ++ wLat).length + (Lib.itoa q.late).length ≤ maxLen := cat_le (by simp only [List.length_append]; omega) (by omega)
        have z1 : InR q.size := by have := B.s; unfold InR; omega
        have z2 : InR q.slide := by have := B.l; unfold InR; omega
        have z3 : InR q.delay := by have := B.d; unfold InR; omega
        have z4 : InR q.late := by have := B.t; unfold InR; omega
        refine ⟨_, rd_cat (m := wWin) k1, inv_Itoa z1 Tp ⟨_, rfl, rd_cat (m := wWin) k1, _, rd_cat k2, _, rd_cat (m := wSli) k3, ?_⟩⟩
        refine inv_Itoa z2 Tp ⟨_, rfl, rd_cat (m := wSli) k3, rd_cat k2, rd_cat (m := wWin) k1, _, rd_cat k4, _, rd_cat (m := wDel) k5, ?_⟩
        refine inv_Itoa z3 Tp ⟨_, rfl, rd_cat (m := wDel) k5, rd_cat k4, rd_cat (m := wSli) k3, rd_cat k2, rd_cat (m := wWin) k1, _, rd_cat k6, _, rd_cat (m := wLat) k7, ?_⟩
        exact inv_Itoa z4 Tp ⟨_, rfl, rd_cat (m := wLat) k7, rd_cat k6, rd_cat (m := wDel) k5, rd_cat k4, rd_cat (m := wSli) k3, rd_cat k2, rd_cat (m := wWin) k1, _, rd_cat k8, hK h72 (Hp.le_trans l0 l72)⟩
      clear_value J69
      unfold byT at h69
      refine ⟨fun g2 => ?_, fun g2 => ?_⟩
      · have hne : ¬ q.by_ = [] := by have := of_decide_eq_true g2; rw [nil_len]; omega
        rw [if_neg hne] at h69
        have hxl := B.b hne
        have hl := txE_len hxl
        have hw : wGrp.length = 10 := rfl
        refine query_exprText_ok (Q2.le l61).b hxl (T.le (Hp.le_trans l0 l61)) fun h63 l63 => ⟨_, rfl, _, rd_cat (l := wGrp) (cat_le (by decide) (by omega)), _, rd_cat (cat_le (by omega) (by rw [List.length_append]; omega)), h69 h63 (Hp.le_trans l61 l63) (by simp only [List.length_append]; omega)⟩
      · have hnil : q.by_ = [] := by have := of_decide_eq_false g2; rw [nil_len]; omega
        rw [if_pos hnil] at h69
        exact h69 h61 l61 (by omega)
    clear_value J54
    unfold whT at h54
    refine ⟨fun g2 => ?_, fun g2 => ?_⟩
    · have hne : ¬ q.wh = [] := by have := of_decide_eq_true g2; rw [nil_len]; omega
      rw [if_neg hne] at h54
      have hxl := B.w hne
      have hl := txE_len hxl
      have hw : wWhr.length = 7 := rfl
      refine query_exprText_ok Q2.w hxl (T.le l0) fun h48 l48 => ⟨_, rfl, _, rd_cat (l := wWhr) (cat_le (by decide) (by omega)), _, rd_cat (cat_le (by omega) (by rw [List.length_append]; omega)), h54 h48 l48 (by simp only [List.length_append]; omega)⟩
    · have hnil : q.wh = [] := by have := of_decide_eq_false g2; rw [nil_len]; omega
      rw [if_pos hnil] at h54
      exact h54 hh (Hp.le_refl _) (by omega)
end Go.Proofs.YtonlacplogbodaaGreatDoor
/-
  Contracts: the document's text of a question. Conditions: that the question may be.
-/
namespace Go.Proofs.YtonlacplogbodaaGreatDoor
open Go Go.Vc Go.Txt Go.RowKit
set_option linter.unusedVariables false
set_option maxRecDepth 100000

def signL : List Wd := [[43], [45], [42], wAnd, wOr, [60], [61]]
theorem signL_at {op : Int} (h1 : 6 ≤ op) (h2 : op ≤ 12) : signL.getD (op - 6).toNat [] = signW op := by
  have hop : op = 6 ∨ op = 7 ∨ op = 8 ∨ op = 9 ∨ op = 10 ∨ op = 11 ∨ op = 12 := by omega
  rcases hop with rfl | rfl | rfl | rfl | rfl | rfl | rfl <;> rfl
set_option maxHeartbeats 1000000 in
theorem R_nodeText_ok {a : Option Addr} {m c : Nat} {l : List Nd} {h : Hp} (S : SlP encN h a m l) (O : OkE l) (hl40 : l.length ≤ 40) : ∀ (k : Nat) (i : Int), i.toNat = k → 0 ≤ i → i < l.length → ∀ (hh : Hp) (R : Value → Hp → Prop), h.le hh → (∀ h', hh.le h' → R (vs (bs (txAt l i.toNat))) h') → CallOK Tryz.prog 21 [vsl a m c, vi i] hh R := by
  intro k
  induction k using Nat.strongRecOn with
  | _ k ih =>
    intro i hik h0 h1 hh R lh hK
    refine ok_R_nodeText ?_
    unfold VC_R_nodeText
    have hm := S.1
    have W := O.wf
    have hx : l[i.toNat]? = some (l[i.toNat]'(by omega)) := List.getElem?_eq_getElem (by omega)
    have Wn := W _ _ hx
    have hgv := nodeF_v (O.n _ (List.mem_of_getElem? hx))
    have hv : txAt l i.toNat = _ := fAt_wf own_txF hx Wn
    rw [hv] at hK
    clear hv
    obtain ⟨b, o, ha, hr⟩ := (S.le lh).get encN_len (by decide) hx
    generalize l[i.toNat]'(by omega) = n at *
    have hTL := fun (k : Nat) (hk : k < l.length) => tx_len O hl40 hk
    have hX : 1 ≤ arI n.op → ∀ (hh : Hp) (R : Value → Hp → Prop), h.le hh → (∀ h', hh.le h' → R (vs (bs (txAt l n.x.toNat))) h') → CallOK Tryz.prog 21 [vsl a m c, vi n.x] hh R := fun h2 hh R l2 hR => by
      have := Wn.x h2
      exact ih n.x.toNat (by omega) n.x rfl (by omega) (by omega) hh R l2 hR
    have hY : 2 ≤ arI n.op → ∀ (hh : Hp) (R : Value → Hp → Prop), h.le hh → (∀ h', hh.le h' → R (vs (bs (txAt l n.y.toNat))) h') → CallOK Tryz.prog 21 [vsl a m c, vi n.y] hh R := fun h2 hh R l2 hR => by
      have := Wn.y h2
      exact ih n.y.toNat (by omega) n.y rfl (by omega) (by omega) hh R l2 hR
    have hLX : 1 ≤ arI n.op → (txAt l n.x.toNat).length ≤ 800 := fun h2 => hTL _ (by have := Wn.x h2; omega)
    have hLY : 2 ≤ arI n.op → (txAt l n.y.toNat).length ≤ 800 := fun h2 => hTL _ (by have := Wn.y h2; omega)
    have ar := ar0 Wn.a
    have hfold : txAt l = fAt [] txF l := rfl
    rw [← hfold] at hK
    generalize txAt l n.x.toNat = tx at *
    generalize txAt l n.y.toNat = ty at *
    unfold txF at hK
    refine ⟨b, o, ⟨ha, h0, by omega⟩, _, _, _, _, _, _, hr, ?_⟩
    intro b9 hb9 h10 b11 hb11 h12
    have l10 : hh.le h10 := Hp.le_set (Hp.le_refl hh) hb9 _
    have l12' : h10.le h12 := Hp.le_set (Hp.le_refl h10) hb11 _
    have l12 : hh.le h12 := Hp.le_trans l10 l12'
    have lit9 : SlB h12 (some ⟨b9, 0, none⟩) 4 fieldW := SlP.le l12' (slb_lit hh b9 fieldW (by decide))
    have lit11 : SlB h12 (some ⟨b11, 0, none⟩) 7 signL := slb_lit h10 b11 signL (by decide)
    refine ⟨fun q => ?_, fun q1 => ⟨fun q => ?_, fun q2 => ⟨fun q => ?_, fun q3 => ⟨fun q => ?_, fun q4 => ⟨fun q => ?_, fun q5 => ?_⟩⟩⟩⟩⟩
    · rw [if_pos (of_decide_eq_true q)] at hK
      refine ⟨fun g => ?_, fun g => ?_⟩
      · rw [if_pos (of_decide_eq_true g)] at hK
        have hneg : InR (-n.v.2) := by unfold goodV at hgv; unfold InR; omega
        have hil := itoa_len (n := -n.v.2) (by unfold goodV at hgv; omega) (by unfold goodV at hgv; omega)
        exact ⟨_, isW hneg, R_Decimal_ok (by unfold goodV at hgv; omega) (by unfold goodV at hgv; omega) ⟨_, rfl, _, rd_cat (l := [40, 48, 32, 45, 32]) (cat_le (by decide) (by omega)), _, rd_cat (m := [41]) (cat_le (by rw [List.length_append]; simp; omega) (by decide)), hK h12 l12⟩⟩
      · rw [if_neg (of_decide_eq_false g)] at hK
        exact R_ValueText_ok (v := n.v) hgv ⟨_, rfl, hK h12 l12⟩
    · rw [if_neg (of_decide_eq_false q1), if_pos (of_decide_eq_true q)] at hK
      have hfn := Wn.f (of_decide_eq_true q)
      obtain ⟨b', o', ha', hc'⟩ := SlP.get1 lit9 (i := n.n.toNat) (by omega)
      exact ⟨b', o', ⟨ha', by omega, by omega⟩, _, hc', hK h12 l12⟩
    · rw [if_neg (of_decide_eq_false q1), if_neg (of_decide_eq_false q2), if_pos (of_decide_eq_true q)] at hK
      have := of_decide_eq_true q
      have hl1 := hLX (by omega)
      exact hX (by omega) h12 _ (Hp.le_trans lh l12) fun h27 l27 => ⟨_, rfl, _, rd_cat (l := [40, 45, 32]) (cat_le (by decide) (by omega)), _, rd_cat (m := [41]) (cat_le (by rw [List.length_append]; simp; omega) (by decide)), hK h27 (Hp.le_trans l12 l27)⟩
    · rw [if_neg (of_decide_eq_false q1), if_neg (of_decide_eq_false q2), if_neg (of_decide_eq_false q3), if_pos (of_decide_eq_true q)] at hK
      have := of_decide_eq_true q
      have hl1 := hLX (by omega)
      exact hX (by omega) h12 _ (Hp.le_trans lh l12) fun h27 l27 => ⟨_, rfl, _, rd_cat (l := [40, 110, 111, 116, 32]) (cat_le (by decide) (by omega)), _, rd_cat (m := [41]) (cat_le (by rw [List.length_append]; simp; omega) (by decide)), hK h27 (Hp.le_trans l12 l27)⟩
    · rw [if_neg (of_decide_eq_false q1), if_neg (of_decide_eq_false q2), if_neg (of_decide_eq_false q3), if_neg (of_decide_eq_false q4), if_pos (of_decide_eq_true q)] at hK
      have := of_decide_eq_true q
      have hl1 := hLX (by omega)
      exact hX (by omega) h12 _ (Hp.le_trans lh l12) fun h27 l27 => ⟨_, rfl, _, rd_cat (l := [40]) (cat_le (by decide) (by omega)), _, rd_cat (m := [32, 105, 115, 32, 110, 117, 108, 108, 41]) (cat_le (by rw [List.length_append]; simp; omega) (by decide)), hK h27 (Hp.le_trans l12 l27)⟩
    · have p1 := of_decide_eq_false q1
      have p2 := of_decide_eq_false q2
      have p3 := of_decide_eq_false q3
      have p4 := of_decide_eq_false q4
      have p5 := of_decide_eq_false q5
      rw [if_neg p1, if_neg p2, if_neg p3, if_neg p4, if_neg p5] at hK
      have h2 : arI n.op = 2 := by rcases arI_range Wn.a with h | h | h <;> omega
      have hop := (ar.2.2.1 h2)
      have hl1 := hLX (by omega)
      have hl2 := hLY (by omega)
      have hl3 := signW_len n.op
      have k1 : ([40] : Wd).length + tx.length ≤ maxLen := cat_le (by decide) (by omega)
      have k2 : (([40] : Wd) ++ tx).length + ([32] : Wd).length ≤ maxLen := cat_le (by rw [List.length_append]; simp; omega) (by decide)
      have k3 : (([40] : Wd) ++ tx ++ [32]).length + (signW n.op).length ≤ maxLen := cat_le (by simp only [List.length_append, List.length_cons, List.length_nil]; omega) (by omega)
      have k4 : (([40] : Wd) ++ tx ++ [32] ++ signW n.op).length + ([32] : Wd).length ≤ maxLen := cat_le (by simp only [List.length_append, List.length_cons, List.length_nil]; omega) (by decide)
      have k5 : (([40] : Wd) ++ tx ++ [32] ++ signW n.op ++ [32]).length + ty.length ≤ maxLen := cat_le (by simp only [List.length_append, List.length_cons, List.length_nil]; omega) (by omega)
      have k6 : (([40] : Wd) ++ tx ++ [32] ++ signW n.op ++ [32] ++ ty).length + ([41] : Wd).length ≤ maxLen := cat_le (by simp only [List.length_append, List.length_cons, List.length_nil]; omega) (by decide)
      obtain ⟨b', o', ha', hc'⟩ := SlP.get1 lit11 (i := (n.op - 6).toNat) (by omega)
      rw [signL_at hop.1 hop.2] at hc'
      refine ⟨_, isW (by unfold InR; omega), b', o', ⟨ha', by omega, by omega⟩, _, hc', ?_⟩
      refine hX (by omega) h12 _ (Hp.le_trans lh l12) fun h47 l47 => ⟨_, rfl, Hp.cell_le l47 hc', _, rd_cat (l := [40]) k1, _, rd_cat (m := [32]) k2, _, rd_cat k3, _, rd_cat (m := [32]) k4, ?_⟩
      refine hY (by omega) h47 _ (Hp.le_trans lh (Hp.le_trans l12 l47)) fun h54 l54 => ⟨_, rfl, rd_cat (m := [32]) k4, rd_cat k3, rd_cat (m := [32]) k2, rd_cat (l := [40]) k1, Hp.cell_le l54 (Hp.cell_le l47 hc'), _, rd_cat k5, _, rd_cat (m := [41]) k6, hK h54 (Hp.le_trans l12 (Hp.le_trans l47 l54))⟩
theorem R_txE_ok {a : Option Addr} {m c : Nat} {l : List Nd} {h : Hp} (S : SlP encN h a m l) (hx0 : exprF l = 0) {i : Int} (hi : i = (m : Int) - 1) {R : Value → Hp → Prop} (hK : ∀ h', h.le h' → R (vs (bs (txE l))) h') : CallOK Tryz.prog 21 [vsl a m c, vi i] h R := by
  obtain ⟨O, hl⟩ := exprF_ok hx0
  have hp := O.pos
  have hm := S.1
  refine R_nodeText_ok S O hl _ i rfl (by omega) (by omega) h R (Hp.le_refl h) fun h' l' => ?_
  have : i.toNat = l.length - 1 := by omega
  rw [this]
  exact hK h' l'
def joinT (l : List Ag) : Wd := wSel ++ Lib.join (l.map aggT) wSep
set_option maxHeartbeats 1000000 in
theorem R_QueryText_ok {q : Qy} {a1 : Option Addr} {n1 c1 : Nat} {a2 : Option Addr} {n2 c2 : Nat} {a3 : Option Addr} {n3 c3 : Nat} {h : Hp} {R : Value → Hp → Prop} (Q : QAt h q a1 n1 a2 n2 a3 n3) (B : QOk q) (hK : ∀ h', h.le h' → R (vs (bs (queryT q))) h') : CallOK Tryz.prog 10 [qV a1 n1 c1 a2 n2 c2 a3 n3 c3 q] h R := by
  refine ok_R_QueryText ?_
  unfold VC_R_QueryText
  have hn1 := Q.g.len
  have hn2 := Q.w.1
  have hn3 := Q.b.1
  have b1 := B.n1
  have b2 := B.n2
  intro bl hbl h2
  have l2 : h.le h2 := Hp.le_set (Hp.le_refl h) hbl _
  have lit : SlB h2 (some ⟨bl, 0, none⟩) 6 aggsW := slb_lit h bl aggsW (by decide)
  have hjl : ∀ i, (Lib.join ((q.aggs.take i).map aggT) wSep).length ≤ 4000 := by
    intro i
    have := join_len ((q.aggs.take i).map aggT) wSep 810 (fun x hx => by
      obtain ⟨y, hy, rfl⟩ := List.mem_map.1 hx
      exact aggT_len B (List.mem_of_mem_take hy))
    rw [List.length_map, List.length_take] at this
    have hw : wSep.length = 2 := rfl
    rw [hw] at this
    omega
  have hw0 : wSel.length = 7 := rfl
  refine ⟨fun vs' hh => ∃ (i : Nat), vs' = [vs (bs (joinT (q.aggs.take i))), vi i] ∧ i ≤ n1 ∧ h2.le hh, fun vs' hh => n1 - (vint vs' 1).toNat, ⟨0, by simp [joinT, Lib.join, List.intercalate]; rfl, Nat.zero_le _, Hp.le_refl h2⟩, ?_⟩
  rintro vs' hh ⟨i, rfl, hi, lh⟩
  refine ⟨_, _, rfl, fun g => ?_, fun g => ?_⟩
  · have hlt : i < n1 := by have := of_decide_eq_true g; omega
    have hx : q.aggs[i]? = some q.aggs[i] := List.getElem?_eq_getElem (by omega)
    have hmem := List.mem_of_getElem? hx
    have hgd := B.g _ hmem
    have hal := aggT_len B hmem
    have htk : q.aggs.take (i + 1) = q.aggs.take i ++ [q.aggs[i]] := List.take_succ_eq_append_getElem (by omega)
    generalize q.aggs[i] = y at *
    obtain ⟨k, l⟩ := y
    obtain ⟨b, o, a', c', ha, hrow, hS⟩ := (Q.g.le (Hp.le_trans l2 lh)).row aggRw_len (by decide) hx
    simp only at hgd
    have r0 := Hp.row_cell hrow (i := 0) (x := vi k) rfl
    have r1 := Hp.row_cell hrow (i := 1) (x := vsl a' l.length c') rfl
    have hji := hjl i
    have hnext : joinT (q.aggs.take (i + 1)) = (if (i : Int) > 0 then joinT (q.aggs.take i) ++ wSep else joinT (q.aggs.take i)) ++ aggsW.getD k.toNat [] ++ [40] ++ (if k = 1 then [42] else txE l) ++ [41] := by
      rw [htk]
      unfold joinT
      rw [List.map_append, List.map_cons, List.map_nil]
      have e3 := join_snoc ((q.aggs.take i).map aggT) (aggT (k, l)) wSep
      have hag : aggT (k, l) = aggsW.getD k.toNat [] ++ [40] ++ (if k = 1 then [42] else txE l) ++ [41] := rfl
      by_cases h0 : i = 0
      · subst h0
        rw [List.take_zero, List.map_nil, if_pos rfl] at e3
        rw [List.take_zero, List.map_nil, e3, hag]
        have e4 : (if ((0 : Nat) : Int) > 0 then wSel ++ Lib.join [] wSep ++ wSep else wSel ++ Lib.join [] wSep) = wSel := by
          rw [if_neg (by decide)]
          rfl
        rw [e4]
        simp only [List.append_assoc]
      · have hne : (q.aggs.take i).map aggT ≠ [] := by
          intro e
          have h5 := congrArg List.length e
          rw [List.length_map, List.length_take, List.length_nil] at h5
          omega
        rw [if_neg hne] at e3
        rw [e3, hag]
        have e4 : (if (i : Int) > 0 then wSel ++ Lib.join ((q.aggs.take i).map aggT) wSep ++ wSep else wSel ++ Lib.join ((q.aggs.take i).map aggT) wSep) = wSel ++ Lib.join ((q.aggs.take i).map aggT) wSep ++ wSep := if_pos (by omega)
        rw [e4]
        simp only [List.append_assoc]
    intro J15
    have hJ15 : J15 (bs (if (i : Int) > 0 then joinT (q.aggs.take i) ++ wSep else joinT (q.aggs.take i))) := by
      have hsl : (if (i : Int) > 0 then joinT (q.aggs.take i) ++ wSep else joinT (q.aggs.take i)).length ≤ 4020 := by
        have hw : wSep.length = 2 := rfl
        unfold joinT
        split <;> simp only [List.length_append] <;> omega
      generalize (if (i : Int) > 0 then joinT (q.aggs.take i) ++ wSep else joinT (q.aggs.take i)) = s0 at *
      refine ⟨b, o, ⟨ha, by omega, by omega⟩, k, by rw [Int.toNat_natCast]; exact r0, ?_⟩
      intro J55
      have hJ55 : ∀ (h66 : Hp) (t : Wd), t = (if k = 1 then [42] else txE l) → t.length ≤ 800 → hh.le h66 → J55 (bs t) h66 := by
        intro h66 t ht htl l66
        rw [← ht] at hnext
        obtain ⟨b', o', ha', hc'⟩ := SlP.get1 (SlP.le (Hp.le_trans lh l66) lit) (i := k.toNat) (by omega)
        have w1 := aggsW_len k.toNat
        refine ⟨b, o, ⟨ha, by omega, by omega⟩, k, by rw [Int.toNat_natCast]; exact Hp.cell_le l66 r0, b', o', ⟨ha', by omega, by omega⟩, _, hc', _, rd_cat (cat_le (by omega) (by omega)), _, rd_cat (m := [40]) (cat_le (by simp only [List.length_append]; omega) (by decide)), _, rd_cat (cat_le (by simp only [List.length_append, List.length_cons, List.length_nil]; omega) (by omega)), _, rd_cat (m := [41]) (cat_le (by simp only [List.length_append, List.length_cons, List.length_nil]; omega) (by decide)), _, isW (by unfold InR; omega), ⟨i + 1, ?_, by omega, Hp.le_trans lh l66⟩, by simp [vint]; omega⟩
        rw [hnext]
        rfl
      clear_value J55
      refine ⟨fun g2 => ?_, fun g2 => ?_⟩
      · have g2 : k > 1 := of_decide_eq_true g2
        have hxl := hgd.2.2.1 (by omega)
        have hp := (exprF_ok hxl).1.pos
        have hbig := (exprF_ok hxl).2
        refine ⟨b, o, ⟨ha, by omega, by omega⟩, a', l.length, c', by rw [Int.toNat_natCast]; exact r1, b, o, ⟨ha, by omega, by omega⟩, a', l.length, c', by rw [Int.toNat_natCast]; exact r1, _, isW (by unfold InR; omega), ?_⟩
        exact R_txE_ok hS hxl rfl fun h51 l51 => ⟨_, rfl, hJ55 h51 _ (by rw [if_neg (by omega)]) (txE_len hxl) l51⟩
      · have g2 : ¬ k > 1 := of_decide_eq_false g2
        exact hJ55 hh _ (by rw [if_pos (by omega)]) (by decide) (Hp.le_refl _)
    clear_value J15
    refine ⟨fun g2 => ?_, fun g2 => ?_⟩
    · have g2 := of_decide_eq_true g2
      rw [if_pos g2] at hJ15
      have hw : wSep.length = 2 := rfl
      exact ⟨_, rd_cat (m := wSep) (cat_le (by unfold joinT; rw [List.length_append]; omega) (by decide)), hJ15⟩
    · have g2 := of_decide_eq_false g2
      rw [if_neg g2] at hJ15
      exact hJ15
  · have hge : i = n1 := by have := of_decide_eq_false g; omega
    rw [List.take_of_length_le (by omega)]
    have hjl0 := hjl i
    rw [List.take_of_length_le (by omega)] at hjl0
    have hw1 : wFrE.length = 12 := rfl
    refine ⟨_, rd_cat (m := wFrE) (cat_le (by unfold joinT; rw [List.length_append]; omega) (by decide)), ?_⟩
    have lh0 := Hp.le_trans l2 lh
    have Q2 := Q.le lh0
    have hs0 : (joinT q.aggs ++ wFrE).length ≤ 5000 := by
      unfold joinT
      simp only [List.length_append]
      omega
    have hfin : queryT q = numsT (byT (whT (joinT q.aggs ++ wFrE) q) q) q := rfl
    generalize joinT q.aggs ++ wFrE = s0 at *
    rw [hfin] at hK
    clear hfin
    intro J54
    have h54 : ∀ h61, hh.le h61 → (whT s0 q).length ≤ 6000 → J54 (bs (whT s0 q)) h61 := by
      intro h61 l61 hl61
      generalize whT s0 q = s1 at *
      unfold J54
      intro J69
      have h69 : ∀ h72, hh.le h72 → (byT s1 q).length ≤ 7000 → J69 (bs (byT s1 q)) h72 := by
        intro h72 l72 hl72
        generalize byT s1 q = s2 at *
        have i1 := itoa_len (n := q.size) (by have := B.s; omega) (by have := B.s; omega)
        have i2 := itoa_len (n := q.slide) (by have := B.l; omega) (by have := B.l; omega)
        have i3 := itoa_len (n := q.delay) (by have := B.d; omega) (by have := B.d; omega)
        have i4 := itoa_len (n := q.late) (by have := B.t; omega) (by have := B.t; omega)
        have hw1 : wWin.length = 8 := rfl
        have hw2 : wSli.length = 7 := rfl
        have hw3 : wDel.length = 7 := rfl
        have hw4 : wLat.length = 6 := rfl
        unfold numsT at hK
        have k1 : s2.length + wWin.length ≤ maxLen := cat_le (by omega) (by omega)
        have k2 : (s2 ++ wWin).length + (Lib.itoa q.size).length ≤ maxLen := cat_le (by simp only [List.length_append]; omega) (by omega)
        have k3 : (s2 ++ wWin ++ Lib.itoa q.size).length + wSli.length ≤ maxLen := cat_le (by simp only [List.length_append]; omega) (by omega)
        have k4 : (s2 ++ wWin ++ Lib.itoa q.size ++ wSli).length + (Lib.itoa q.slide).length ≤ maxLen := cat_le (by simp only [List.length_append]; omega) (by omega)
        have k5 : (s2 ++ wWin ++ Lib.itoa q.size ++ wSli ++ Lib.itoa q.slide).length + wDel.length ≤ maxLen := cat_le (by simp only [List.length_append]; omega) (by omega)
        have k6 : (s2 ++ wWin ++ Lib.itoa q.size ++ wSli ++ Lib.itoa q.slide ++ wDel).length + (Lib.itoa q.delay).length ≤ maxLen := cat_le (by simp only [List.length_append]; omega) (by omega)
        have k7 : (s2 ++ wWin ++ Lib.itoa q.size ++ wSli ++ Lib.itoa q.slide ++ wDel ++ Lib.itoa q.delay).length + wLat.length ≤ maxLen := cat_le (by simp only [List.length_append]; omega) (by omega)
        have k8 : (s2 ++ wWin ++ Lib.itoa q.size ++ wSli ++ Lib.itoa q.slide ++ wDel ++ Lib.itoa q.delay ++ wLat).length + (Lib.itoa q.late).length ≤ maxLen := cat_le (by simp only [List.length_append]; omega) (by omega)
        have z1 := B.s
        have z2 := B.l
        have z3 := B.d
        have z4 := B.t
        refine ⟨_, rd_cat (m := wWin) k1, R_Decimal_ok (by omega) (by omega) ⟨_, rfl, rd_cat (m := wWin) k1, _, rd_cat k2, _, rd_cat (m := wSli) k3, ?_⟩⟩
        refine R_Decimal_ok (by omega) (by omega) ⟨_, rfl, rd_cat (m := wSli) k3, rd_cat k2, rd_cat (m := wWin) k1, _, rd_cat k4, _, rd_cat (m := wDel) k5, ?_⟩
        refine R_Decimal_ok (by omega) (by omega) ⟨_, rfl, rd_cat (m := wDel) k5, rd_cat k4, rd_cat (m := wSli) k3, rd_cat k2, rd_cat (m := wWin) k1, _, rd_cat k6, _, rd_cat (m := wLat) k7, ?_⟩
        exact R_Decimal_ok (by omega) (by omega) ⟨_, rfl, rd_cat (m := wLat) k7, rd_cat k6, rd_cat (m := wDel) k5, rd_cat k4, rd_cat (m := wSli) k3, rd_cat k2, rd_cat (m := wWin) k1, _, rd_cat k8, hK h72 (Hp.le_trans lh0 l72)⟩
      clear_value J69
      unfold byT at h69
      refine ⟨fun g2 => ?_, fun g2 => ?_⟩
      · have hne : ¬ q.by_ = [] := by have := of_decide_eq_true g2; rw [nil_len]; omega
        rw [if_neg hne] at h69
        have hxl := B.b hne
        have hl := txE_len hxl
        have hbig := (exprF_ok hxl).2
        have hw : wGrp.length = 10 := rfl
        refine ⟨_, rd_cat (m := wGrp) (cat_le (by omega) (by decide)), _, isW (by unfold InR; omega), ?_⟩
        refine R_txE_ok (Q2.le l61).b hxl rfl fun h63 l63 => ⟨_, rfl, _, rd_cat (cat_le (by rw [List.length_append]; omega) (by omega)), ?_⟩
        have := h69 h63 (Hp.le_trans l61 l63) (by simp only [List.length_append]; omega)
        rw [← List.append_assoc] at this
        exact this
      · have hnil : q.by_ = [] := by have := of_decide_eq_false g2; rw [nil_len]; omega
        rw [if_pos hnil] at h69
        exact h69 h61 l61 (by omega)
    clear_value J54
    unfold whT at h54
    refine ⟨fun g2 => ?_, fun g2 => ?_⟩
    · have hne : ¬ q.wh = [] := by have := of_decide_eq_true g2; rw [nil_len]; omega
      rw [if_neg hne] at h54
      have hxl := B.w hne
      have hl := txE_len hxl
      have hbig := (exprF_ok hxl).2
      have hw : wWhr.length = 7 := rfl
      refine ⟨_, rd_cat (m := wWhr) (cat_le (by omega) (by decide)), _, isW (by unfold InR; omega), ?_⟩
      refine R_txE_ok Q2.w hxl rfl fun h48 l48 => ⟨_, rfl, _, rd_cat (cat_le (by rw [List.length_append]; omega) (by omega)), ?_⟩
      have := h54 h48 l48 (by simp only [List.length_append]; omega)
      rw [← List.append_assoc] at this
      exact this
    · have hnil : q.wh = [] := by have := of_decide_eq_false g2; rw [nil_len]; omega
      rw [if_pos hnil] at h54
      exact h54 hh (Hp.le_refl _) (by omega)
end Go.Proofs.YtonlacplogbodaaGreatDoor
/-
  What functions of the program ask, in words: each is what the framework reckons from the loaded code (the kernel holds the two together), and gives the function's call. Conditions: none.
-/
namespace Go.Proofs.YtonlacplogbodaaGreatDoor
open Go Go.Vc
set_option maxRecDepth 100000
set_option linter.unusedVariables false
/-- What 'penstock/penstocklaw.same' asks. -/
def VC_law_same (u_err : Option (TypeId × Value)) (u_f : Int) (h : Hp) (R : Value → Hp → Prop) : Prop :=
  (((Option.isNone u_err) = true → R (vb (decide ((u_f : Int) = 0))) h) ∧ ((Option.isNone u_err) = false → (∃ (x2 : Int) (p3 : Bool), (Rd Tryz.prog (Instr.typeAssert (ifv u_err) 31 44 true) h (vtup [(vi x2), (vb p3)])) ∧ R (vb (bif (bif p3 then (decide ((u_f : Int) > 0)) else false) then (decide ((x2 : Int) = u_f)) else false)) h)))
theorem ok_law_same {u_err : Option (TypeId × Value)} {u_f : Int} {h : Hp} {R : Value → Hp → Prop} (H : VC_law_same u_err u_f h R) : CallOK Tryz.prog 7 [(ifv u_err), (vi u_f)] h R :=
  call_of (cfg := ⟨[], [], []⟩) noNG mixed Tryz.func7 [.one (.ifc u_err), .one (.v (vi u_f))] (by kernel_rfl) rfl (by kernel_rfl) H

end Go.Proofs.YtonlacplogbodaaGreatDoor
/-
  A contract: an error, told by its number. Conditions: that the number is not below nought.
-/
namespace Go.Proofs.YtonlacplogbodaaGreatDoor
open Go Go.Vc
set_option linter.unusedVariables false

theorem assertErrno (v : Value) (w : World) : (Instr.typeAssert (.iface 44 v) 31 44 true).run Tryz.prog w = .ok (.tuple #[v, .bool true]) w := by kernel_rfl
theorem law_same_ok {f g : Int} (hf : 0 ≤ f) {h : Hp} {R : Value → Hp → Prop} (hK : R (vb (decide (f = g))) h) : CallOK Tryz.prog 7 [ifv (errV f), vi g] h R := by
  refine ok_law_same ?_
  unfold VC_law_same
  by_cases h0 : f = 0
  · have e : errV f = none := by simp [errV, h0]
    rw [e]
    refine ⟨fun _ => ?_, fun e => by simp at e⟩
    have : decide (g = 0) = decide (f = g) := by rw [h0]; exact decide_eq_decide.2 eq_comm
    rw [this]; exact hK
  · have e : errV f = some (44, vi f) := by simp [errV, h0]
    rw [e]
    refine ⟨fun e => by simp at e, fun _ => ⟨f, true, fun w _ => assertErrno _ w, ?_⟩⟩
    have : (bif (bif true then (decide (g > 0)) else false) then (decide (f = g)) else false) = decide (f = g) := by
      by_cases hg : f = g
      · simp [hg]; omega
      · simp [hg]
    rw [this]; exact hK
end Go.Proofs.YtonlacplogbodaaGreatDoor
/-
  What functions of the program ask, in words: each is what the framework reckons from the loaded code (the kernel holds the two together), and gives the function's call. Conditions: none.
-/
namespace Go.Proofs.YtonlacplogbodaaGreatDoor
open Go Go.Vc
set_option maxRecDepth 100000
set_option linter.unusedVariables false
/-- What 'penstock/penstocklaw.queries' asks. -/
def VC_law_queries  (h : Hp) (R : Value → Hp → Prop) : Prop :=
  (CallOK Tryz.prog 11 [(vs ⟨#[115, 101, 108, 101, 99, 116, 32, 99, 111, 117, 110, 116, 40, 42, 41, 44, 32, 115, 117, 109, 40, 97, 41, 32, 102, 114, 111, 109, 32, 101, 118, 101, 110, 116, 115, 32, 119, 104, 101, 114, 101, 32, 97, 32, 62, 32, 51, 32, 119, 105, 110, 100, 111, 119, 32, 49, 48, 32, 115, 108, 105, 100, 101, 32, 53]⟩)] h fun v1 h2 => ∃ (a3 : Option Addr) (n3 c3 : Nat) (a4 : Option Addr) (n4 c4 : Nat) (a5 : Option Addr) (n5 c5 : Nat) (x6 : Int) (x7 : Int) (x8 : Int) (x9 : Int) (e10 : Option (TypeId × Value)), v1 = (vtup [(vag [(vsl a3 n3 c3), (vsl a4 n4 c4), (vsl a5 n5 c5), (vi x6), (vi x7), (vi x8), (vi x9)]), (ifv e10)]) ∧ (CallOK Tryz.prog 7 [(ifv e10), (vi 0)] h2 fun v11 h12 => ∃ (p13 : Bool), v11 = (vb p13) ∧ R (vb (bif (bif (bif (bif (bif p13 then (decide ((((n3 : Nat) : Int) : Int) = 2)) else false) then (decide ((x6 : Int) = 10)) else false) then (decide ((x7 : Int) = 5)) else false) then (decide ((((n4 : Nat) : Int) : Int) = 3)) else false) then (decide ((((n5 : Nat) : Int) : Int) = 0)) else false)) h12))
theorem ok_law_queries  {h : Hp} {R : Value → Hp → Prop} (H : VC_law_queries  h R) : CallOK Tryz.prog 4 [] h R :=
  call_of (cfg := ⟨[], [], []⟩) noNG mixed Tryz.func4 [] (by kernel_rfl) rfl (by kernel_rfl) H

/-- What 'penstock/penstocklaw.LightQuery' asks. -/
def VC_law_LightQuery (u_qAggsa : Option Addr) (u_qAggsn u_qAggsc : Nat) (u_qWherea : Option Addr) (u_qWheren u_qWherec : Nat) (u_qBya : Option Addr) (u_qByn u_qByc : Nat) (u_qSize : Int) (u_qSlide : Int) (u_qDelay : Int) (u_qLate : Int) (h : Hp) (R : Value → Hp → Prop) : Prop :=
  (∃ (J1 : SV → Hp → Prop), ((decide ((((u_qAggsn : Nat) : Int) : Int) > 6)) = false → (CallOK Tryz.prog 14 [(vsl u_qWherea u_qWheren u_qWherec)] h fun v2 h3 => ∃ (p4 : Bool), v2 = (vb p4) ∧ J1 (.t (.one (.v (vb p4)))) h3)) ∧ (¬ ((decide ((((u_qAggsn : Nat) : Int) : Int) > 6)) = false) → J1 (.t (.one (.v (vb false)))) h) ∧ ∀ (h5 : Hp) (p6 : Bool), J1 (.t (.one (.v (vb p6)))) h5 → (∃ (J7 : SV → Hp → Prop), ((bif (decide ((((u_qAggsn : Nat) : Int) : Int) > 6)) then true else (!p6)) = false → (CallOK Tryz.prog 14 [(vsl u_qBya u_qByn u_qByc)] h5 fun v8 h9 => ∃ (p10 : Bool), v8 = (vb p10) ∧ J7 (.t (.one (.v (vb p10)))) h9)) ∧ (¬ ((bif (decide ((((u_qAggsn : Nat) : Int) : Int) > 6)) then true else (!p6)) = false) → J7 (.t (.one (.v (vb false)))) h5) ∧ ∀ (h11 : Hp) (p12 : Bool), J7 (.t (.one (.v (vb p12)))) h11 → (((bif (bif (decide ((((u_qAggsn : Nat) : Int) : Int) > 6)) then true else (!p6)) then true else (!p12)) = true → R (vb false) h11) ∧ ((bif (bif (decide ((((u_qAggsn : Nat) : Int) : Int) > 6)) then true else (!p6)) then true else (!p12)) = false → (∃ (I15 : List Value → Hp → Prop) (m16 : List Value → Hp → Nat), I15 [(vi 0)] h11 ∧ ∀ (vs17 : List Value) (h18 : Hp), I15 vs17 h18 → ∃ (x19 : Int), vs17 = [(vi x19)] ∧ (((decide ((x19 : Int) < ((u_qAggsn : Nat) : Int))) = true → (∃ (b22 o23 : Nat), (u_qAggsa = some ⟨b22, o23, none⟩ ∧ (0 : Int) ≤ x19 ∧ x19 < ((u_qAggsn : Nat) : Int)) ∧ (∃ (a24 : Option Addr) (n24 c24 : Nat), (Hp.cell h18 b22 ((o23 + x19.toNat * 2) + 1) = some (vsl a24 n24 c24)) ∧ (CallOK Tryz.prog 14 [(vsl a24 n24 c24)] h18 fun v25 h26 => ∃ (p27 : Bool), v25 = (vb p27) ∧ (((!p27) = true → R (vb false) h26) ∧ ((!p27) = false → (∃ (x29 : Int), (IsW x29 (x19 + 1)) ∧ (I15 [(vi x29)] h26 ∧ m16 [(vi x29)] h26 < m16 vs17 h18)))))))) ∧ ((decide ((x19 : Int) < ((u_qAggsn : Nat) : Int))) = false → R (vb true) h18)))))))
theorem ok_law_LightQuery {u_qAggsa : Option Addr} {u_qAggsn u_qAggsc : Nat} {u_qWherea : Option Addr} {u_qWheren u_qWherec : Nat} {u_qBya : Option Addr} {u_qByn u_qByc : Nat} {u_qSize : Int} {u_qSlide : Int} {u_qDelay : Int} {u_qLate : Int} {h : Hp} {R : Value → Hp → Prop} (H : VC_law_LightQuery u_qAggsa u_qAggsn u_qAggsc u_qWherea u_qWheren u_qWherec u_qBya u_qByn u_qByc u_qSize u_qSlide u_qDelay u_qLate h R) : CallOK Tryz.prog 5 [(vag [(vsl u_qAggsa u_qAggsn u_qAggsc), (vsl u_qWherea u_qWheren u_qWherec), (vsl u_qBya u_qByn u_qByc), (vi u_qSize), (vi u_qSlide), (vi u_qDelay), (vi u_qLate)])] h R :=
  call_of (cfg := ⟨[], [(4, ([3], [.one (.int .i64)], []))], []⟩) noNG mixed Tryz.func5 [.ag [.v (vsl u_qAggsa u_qAggsn u_qAggsc), .v (vsl u_qWherea u_qWheren u_qWherec), .v (vsl u_qBya u_qByn u_qByc), .v (vi u_qSize), .v (vi u_qSlide), .v (vi u_qDelay), .v (vi u_qLate)]] (by kernel_rfl) rfl (by kernel_rfl) H

/-- What 'penstock/penstocklaw.QuerySays' asks. -/
def VC_law_QuerySays (u_qAggsa : Option Addr) (u_qAggsn u_qAggsc : Nat) (u_qWherea : Option Addr) (u_qWheren u_qWherec : Nat) (u_qBya : Option Addr) (u_qByn u_qByc : Nat) (u_qSize : Int) (u_qSlide : Int) (u_qDelay : Int) (u_qLate : Int) (u_s : ByteArray) (h : Hp) (R : Value → Hp → Prop) : Prop :=
  (CallOK Tryz.prog 4 [] h fun v1 h2 => ∃ (p3 : Bool), v1 = (vb p3) ∧ (∃ (J4 : SV → Hp → Prop), ((!p3) = false → (CallOK Tryz.prog 5 [(vag [(vsl u_qAggsa u_qAggsn u_qAggsc), (vsl u_qWherea u_qWheren u_qWherec), (vsl u_qBya u_qByn u_qByc), (vi u_qSize), (vi u_qSlide), (vi u_qDelay), (vi u_qLate)])] h2 fun v5 h6 => ∃ (p7 : Bool), v5 = (vb p7) ∧ J4 (.t (.one (.v (vb p7)))) h6)) ∧ (¬ ((!p3) = false) → J4 (.t (.one (.v (vb false)))) h2) ∧ ∀ (h8 : Hp) (p9 : Bool), J4 (.t (.one (.v (vb p9)))) h8 → (((bif (bif (!p3) then true else (!p9)) then true else (decide ((((ByteArray.size u_s : Nat) : Int) : Int) > 400))) = true → R (vb p3) h8) ∧ ((bif (bif (!p3) then true else (!p9)) then true else (decide ((((ByteArray.size u_s : Nat) : Int) : Int) > 400))) = false → (CallOK Tryz.prog 6 [(vag [(vsl u_qAggsa u_qAggsn u_qAggsc), (vsl u_qWherea u_qWheren u_qWherec), (vsl u_qBya u_qByn u_qByc), (vi u_qSize), (vi u_qSlide), (vi u_qDelay), (vi u_qLate)])] h8 fun v11 h12 => ∃ (x13 : Int), v11 = (vi x13) ∧ (CallOK Tryz.prog 8 [(vag [(vsl u_qAggsa u_qAggsn u_qAggsc), (vsl u_qWherea u_qWheren u_qWherec), (vsl u_qBya u_qByn u_qByc), (vi u_qSize), (vi u_qSlide), (vi u_qDelay), (vi u_qLate)])] h12 fun v14 h15 => ∃ (e16 : Option (TypeId × Value)), v14 = (ifv e16) ∧ (CallOK Tryz.prog 7 [(ifv e16), (vi x13)] h15 fun v17 h18 => ∃ (p19 : Bool), v17 = (vb p19) ∧ (∃ (J20 : SV → Hp → Prop), (((!p19) = false ∧ (decide ((x13 : Int) = 0)) = true) → (CallOK Tryz.prog 9 [(vag [(vsl u_qAggsa u_qAggsn u_qAggsc), (vsl u_qWherea u_qWheren u_qWherec), (vsl u_qBya u_qByn u_qByc), (vi u_qSize), (vi u_qSlide), (vi u_qDelay), (vi u_qLate)])] h18 fun v21 h22 => ∃ (s23 : ByteArray), v21 = (vs s23) ∧ J20 (.t (.one (.v (vs s23)))) h22)) ∧ (¬ ((!p19) = false ∧ (decide ((x13 : Int) = 0)) = true) → J20 (.t (.one (.v (vs ⟨#[]⟩)))) h18) ∧ ∀ (h24 : Hp) (s25 : ByteArray), J20 (.t (.one (.v (vs s25)))) h24 → (∃ (J26 : SV → Hp → Prop), (((!p19) = false ∧ (decide ((x13 : Int) = 0)) = true) → (CallOK Tryz.prog 10 [(vag [(vsl u_qAggsa u_qAggsn u_qAggsc), (vsl u_qWherea u_qWheren u_qWherec), (vsl u_qBya u_qByn u_qByc), (vi u_qSize), (vi u_qSlide), (vi u_qDelay), (vi u_qLate)])] h24 fun v27 h28 => ∃ (s29 : ByteArray), v27 = (vs s29) ∧ J26 (.t (.one (.v (vs s29)))) h28)) ∧ (¬ ((!p19) = false ∧ (decide ((x13 : Int) = 0)) = true) → J26 (.t (.one (.v (vs ⟨#[]⟩)))) h24) ∧ ∀ (h30 : Hp) (s31 : ByteArray), J26 (.t (.one (.v (vs s31)))) h30 → (∃ (p32 : Bool), (((!p19) = false ∧ (decide ((x13 : Int) = 0)) = true) → Rd Tryz.prog ((eqGuard .neq 9 (.tmp 37) (.tmp 39) (vs s25) (vs s31) >>= fun _ => binOp .neq 9 (vs s25) (vs s31))) h30 (vb p32)) ∧ (((bif (!p19) then true else (bif (decide ((x13 : Int) = 0)) then p32 else false)) = true → R (vb false) h30) ∧ ((bif (!p19) then true else (bif (decide ((x13 : Int) = 0)) then p32 else false)) = false → (CallOK Tryz.prog 11 [(vs u_s)] h30 fun v34 h35 => ∃ (a36 : Option Addr) (n36 c36 : Nat) (a37 : Option Addr) (n37 c37 : Nat) (a38 : Option Addr) (n38 c38 : Nat) (x39 : Int) (x40 : Int) (x41 : Int) (x42 : Int) (e43 : Option (TypeId × Value)), v34 = (vtup [(vag [(vsl a36 n36 c36), (vsl a37 n37 c37), (vsl a38 n38 c38), (vi x39), (vi x40), (vi x41), (vi x42)]), (ifv e43)]) ∧ (CallOK Tryz.prog 12 [(vs u_s)] h35 fun v44 h45 => ∃ (a46 : Option Addr) (n46 c46 : Nat) (a47 : Option Addr) (n47 c47 : Nat) (a48 : Option Addr) (n48 c48 : Nat) (x49 : Int) (x50 : Int) (x51 : Int) (x52 : Int) (x53 : Int), v44 = (vtup [(vag [(vsl a46 n46 c46), (vsl a47 n47 c47), (vsl a48 n48 c48), (vi x49), (vi x50), (vi x51), (vi x52)]), (vi x53)]) ∧ (CallOK Tryz.prog 7 [(ifv e43), (vi x53)] h45 fun v54 h55 => ∃ (p56 : Bool), v54 = (vb p56) ∧ (∃ (J57 : SV → Hp → Prop), (p56 = true → (CallOK Tryz.prog 13 [(vag [(vsl a36 n36 c36), (vsl a37 n37 c37), (vsl a38 n38 c38), (vi x39), (vi x40), (vi x41), (vi x42)]), (vag [(vsl a46 n46 c46), (vsl a47 n47 c47), (vsl a48 n48 c48), (vi x49), (vi x50), (vi x51), (vi x52)])] h55 fun v58 h59 => ∃ (p60 : Bool), v58 = (vb p60) ∧ J57 (.t (.one (.v (vb p60)))) h59)) ∧ (¬ (p56 = true) → J57 (.t (.one (.v (vb false)))) h55) ∧ ∀ (h61 : Hp) (p62 : Bool), J57 (.t (.one (.v (vb p62)))) h61 → R (vb (bif p56 then p62 else false)) h61))))))))))))))))
theorem ok_law_QuerySays {u_qAggsa : Option Addr} {u_qAggsn u_qAggsc : Nat} {u_qWherea : Option Addr} {u_qWheren u_qWherec : Nat} {u_qBya : Option Addr} {u_qByn u_qByc : Nat} {u_qSize : Int} {u_qSlide : Int} {u_qDelay : Int} {u_qLate : Int} {u_s : ByteArray} {h : Hp} {R : Value → Hp → Prop} (H : VC_law_QuerySays u_qAggsa u_qAggsn u_qAggsc u_qWherea u_qWheren u_qWherec u_qBya u_qByn u_qByc u_qSize u_qSlide u_qDelay u_qLate u_s h R) : CallOK Tryz.prog 3 [(vag [(vsl u_qAggsa u_qAggsn u_qAggsc), (vsl u_qWherea u_qWheren u_qWherec), (vsl u_qBya u_qByn u_qByc), (vi u_qSize), (vi u_qSlide), (vi u_qDelay), (vi u_qLate)]), (vs u_s)] h R :=
  call_of (cfg := ⟨[], [], [(5, [0, 2, 1, 3, 4, 5, 6, 7, 8, 9, 11, 10, 12, 13, 14, 15])]⟩) noNG mixed Tryz.func3 [.ag [.v (vsl u_qAggsa u_qAggsn u_qAggsc), .v (vsl u_qWherea u_qWheren u_qWherec), .v (vsl u_qBya u_qByn u_qByc), .v (vi u_qSize), .v (vi u_qSlide), .v (vi u_qDelay), .v (vi u_qLate)], .one (.v (vs u_s))] (by kernel_rfl) rfl (by kernel_rfl) H

end Go.Proofs.YtonlacplogbodaaGreatDoor
/-
  What the law QuerySays gives, for every argument: true; nothing of what was there has turned. Conditions: that the library's tables and errors and the names lie as laid.
-/
namespace Go.Proofs.YtonlacplogbodaaGreatDoor
open Go Go.Vc Go.Txt Go.RowKit
set_option linter.unusedVariables false
set_option maxRecDepth 100000

def tQuery : Wd := [115, 101, 108, 101, 99, 116, 32, 99, 111, 117, 110, 116, 40, 42, 41, 44, 32, 115, 117, 109, 40, 97, 41, 32, 102, 114, 111, 109, 32, 101, 118, 101, 110, 116, 115, 32, 119, 104, 101, 114, 101, 32, 97, 32, 62, 32, 51, 32, 119, 105, 110, 100, 111, 119, 32, 49, 48, 32, 115, 108, 105, 100, 101, 32, 53]
theorem tQuery_read : (parseQ tQuery).2 = 0 ∧ (parseQ tQuery).1.aggs.length = 2 ∧ (parseQ tQuery).1.size = 10 ∧ (parseQ tQuery).1.slide = 5 ∧ (parseQ tQuery).1.wh.length = 3 ∧ (parseQ tQuery).1.by_.length = 0 := by decide +kernel
theorem law_queries_ok {h : Hp} (T : TabQ h) {R : Value → Hp → Prop} (hK : ∀ h', h.le h' → R (vb true) h') : CallOK Tryz.prog 4 [] h R := by
  refine ok_law_queries ?_
  unfold VC_law_queries
  obtain ⟨e0, e1, e2, e3, e4, e5⟩ := tQuery_read
  refine query_Parse_ok (l := tQuery) T fun a1 n1 c1 a2 n2 c2 a3 n3 c3 h' l' Q => ⟨_, _, _, _, _, _, _, _, _, _, _, _, _, _, rfl, ?_⟩
  have hn1 := Q.g.len
  have hn2 := Q.w.1
  have hn3 := Q.b.1
  rw [e0]
  refine law_same_ok (f := 0) (g := 0) (by decide) ⟨_, rfl, ?_⟩
  rw [e2, e3]
  rw [e1] at hn1
  rw [e4] at hn2
  rw [e5] at hn3
  subst hn1 hn2 hn3
  exact hK h' l'
def lightQ (q : Qy) : Prop := ((q.aggs.length ≤ 6 ∧ q.wh.length ≤ 50) ∧ q.by_.length ≤ 50) ∧ ∀ a ∈ q.aggs, a.2.length ≤ 50
instance (q : Qy) : Decidable (lightQ q) := by unfold lightQ; infer_instance
theorem law_LightQuery_ok {q : Qy} {a1 : Option Addr} {n1 c1 : Nat} {a2 : Option Addr} {n2 c2 : Nat} {a3 : Option Addr} {n3 c3 : Nat} {h : Hp} {R : Value → Hp → Prop} (Q : QAt h q a1 n1 a2 n2 a3 n3) (hK : R (vb (decide (lightQ q))) h) : CallOK Tryz.prog 5 [qV a1 n1 c1 a2 n2 c2 a3 n3 c3 q] h R := by
  refine ok_law_LightQuery ?_
  unfold VC_law_LightQuery
  have hn1 := Q.g.len
  have hn2 := Q.w.1
  have hn3 := Q.b.1
  have bad : ¬ lightQ q → R (vb false) h := fun hb => by rw [decide_eq_false hb] at hK; exact hK
  refine ⟨fun x hh => hh = h ∧ x = .t (.one (.v (vb (decide (n1 ≤ 6) && decide (n2 ≤ 50))))), fun e => law_LightNodes_ok ⟨_, rfl, rfl, ?_⟩, fun e => ⟨rfl, ?_⟩, ?_⟩
  · have e := of_decide_eq_false e
    rw [decide_eq_true (show n1 ≤ 6 by omega), Bool.true_and, show decide (((n2 : Nat) : Int) ≤ 50) = decide (n2 ≤ 50) from decide_eq_decide.2 (by omega)]
  · have e : ((n1 : Nat) : Int) > 6 := Decidable.byContradiction fun q => e (decide_eq_false q)
    rw [decide_eq_false (show ¬ n1 ≤ 6 by omega), Bool.false_and]
  rintro h5 p6 ⟨rfl, e⟩
  have ep : p6 = (decide (n1 ≤ 6) && decide (n2 ≤ 50)) := by cases e; rfl
  have e6 : (bif (decide ((((n1 : Nat) : Int) : Int) > 6)) then true else (!p6)) = !(decide (n1 ≤ 6) && decide (n2 ≤ 50)) := by
    rw [ep]
    by_cases h6 : n1 ≤ 6
    · rw [decide_eq_false (show ¬ ((n1 : Nat) : Int) > 6 by omega)]; rfl
    · rw [decide_eq_true (show ((n1 : Nat) : Int) > 6 by omega), decide_eq_false h6]; rfl
  rw [e6]
  refine ⟨fun x hh => hh = h5 ∧ x = .t (.one (.v (vb ((decide (n1 ≤ 6) && decide (n2 ≤ 50)) && decide (n3 ≤ 50))))), fun e => law_LightNodes_ok ⟨_, rfl, rfl, ?_⟩, fun e => ⟨rfl, ?_⟩, ?_⟩
  · have e : (decide (n1 ≤ 6) && decide (n2 ≤ 50)) = true := by simpa using e
    rw [e, Bool.true_and, show decide (((n3 : Nat) : Int) ≤ 50) = decide (n3 ≤ 50) from decide_eq_decide.2 (by omega)]
  · have e : (decide (n1 ≤ 6) && decide (n2 ≤ 50)) = false := by
      cases hh : (decide (n1 ≤ 6) && decide (n2 ≤ 50)) with
      | false => rfl
      | true => rw [hh] at e; exact absurd rfl e
    rw [e]; rfl
  rintro h11 p12 ⟨rfl, e⟩
  have ep2 : p12 = ((decide (n1 ≤ 6) && decide (n2 ≤ 50)) && decide (n3 ≤ 50)) := by cases e; rfl
  have e7 : (bif !(decide (n1 ≤ 6) && decide (n2 ≤ 50)) then true else (!p12)) = !((decide (n1 ≤ 6) && decide (n2 ≤ 50)) && decide (n3 ≤ 50)) := by
    rw [ep2]
    cases (decide (n1 ≤ 6) && decide (n2 ≤ 50)) <;> cases decide (n3 ≤ 50) <;> rfl
  rw [e7]
  refine ⟨fun e => ?_, fun e => ?_⟩
  · refine bad fun L => ?_
    have : ((decide (n1 ≤ 6) && decide (n2 ≤ 50)) && decide (n3 ≤ 50)) = true := by
      rw [decide_eq_true (show n1 ≤ 6 by have := L.1.1.1; omega), decide_eq_true (show n2 ≤ 50 by have := L.1.1.2; omega), decide_eq_true (show n3 ≤ 50 by have := L.1.2; omega)]
      rfl
    rw [this] at e
    cases e
  have e8 : ((decide (n1 ≤ 6) && decide (n2 ≤ 50)) && decide (n3 ≤ 50)) = true := by simpa using e
  simp only [Bool.and_eq_true, decide_eq_true_eq] at e8
  refine ⟨fun vs' hh => hh = h11 ∧ ∃ i : Nat, vs' = [vi i] ∧ i ≤ n1 ∧ ∀ y ∈ q.aggs.take i, y.2.length ≤ 50, fun vs' hh => n1 - (vint vs' 0).toNat, ⟨rfl, 0, rfl, Nat.zero_le _, by simp⟩, ?_⟩
  rintro vs' hh ⟨rfl, i, rfl, hi, hz⟩
  refine ⟨i, rfl, fun g => ?_, fun g => ?_⟩
  · have hlt : i < n1 := by have := of_decide_eq_true g; omega
    have hx : q.aggs[i]? = some q.aggs[i] := List.getElem?_eq_getElem (by omega)
    have hmem := List.mem_of_getElem? hx
    have htk : q.aggs.take (i + 1) = q.aggs.take i ++ [q.aggs[i]] := List.take_succ_eq_append_getElem (by omega)
    generalize q.aggs[i] = y at *
    obtain ⟨k, l⟩ := y
    obtain ⟨b, o, a', c', ha, hrow, hS⟩ := Q.g.row aggRw_len (by decide) hx
    have r1 := Hp.row_cell hrow (i := 1) (x := vsl a' l.length c') rfl
    refine ⟨b, o, ⟨ha, by omega, by omega⟩, a', l.length, c', by rw [Int.toNat_natCast]; exact r1, law_LightNodes_ok ⟨_, rfl, fun e => ?_, fun e => ?_⟩⟩
    · refine bad fun L => ?_
      have := L.2 _ hmem
      rw [cnot] at e
      have e := of_decide_eq_true e
      have : l.length ≤ 50 := this
      omega
    · rw [cnot] at e
      have e : ((l.length : Nat) : Int) ≤ 50 := Decidable.not_not.1 (of_decide_eq_false e)
      refine ⟨_, isW (by unfold InR; omega), ⟨rfl, i + 1, rfl, by omega, fun y hy => ?_⟩, by simp [vint]; omega⟩
      rw [htk] at hy
      rcases List.mem_append.1 hy with h3 | h3
      · exact hz y h3
      · rw [List.mem_singleton.1 h3]; show l.length ≤ 50; omega
  · have hge : i = n1 := by have := of_decide_eq_false g; omega
    rw [List.take_of_length_le (by omega)] at hz
    have : lightQ q := ⟨⟨⟨by omega, by omega⟩, by omega⟩, hz⟩
    rw [decide_eq_true this] at hK
    exact hK
theorem law_QuerySays_ok {q : Qy} {s : Wd} {a1 : Option Addr} {n1 c1 : Nat} {a2 : Option Addr} {n2 c2 : Nat} {a3 : Option Addr} {n3 c3 : Nat} {h : Hp} (Q : QAt h q a1 n1 a2 n2 a3 n3) (T : TabQ h) : CallOK Tryz.prog 3 [qV a1 n1 c1 a2 n2 c2 a3 n3 c3 q, vs (bs s)] h fun v h' => v = vb true ∧ h.le h' := by
  refine ok_law_QuerySays ?_
  unfold VC_law_QuerySays
  rw [bs_size]
  refine law_queries_ok T fun h2 l2 => ⟨_, rfl, ?_⟩
  refine ⟨fun x hh => hh = h2 ∧ x = .t (.one (.v (vb (decide (lightQ q))))), fun _ => law_LightQuery_ok (Q.le l2) ⟨_, rfl, rfl, rfl⟩, fun e => absurd rfl e, ?_⟩
  rintro h8 p9 ⟨rfl, e⟩
  cases e
  have ec : (bif (bif (!true) then true else (!decide (lightQ q))) then true else (decide (((s.length : Nat) : Int) > 400))) = decide (¬ (lightQ q) ∨ ((s.length : Nat) : Int) > 400) := by
    show (bif (!decide (lightQ q)) then true else (decide (((s.length : Nat) : Int) > 400))) = _
    rw [cnot, cor]
  rw [ec]
  refine ⟨fun e => ⟨rfl, l2⟩, fun e => ?_⟩
  have e := of_decide_eq_false e
  have hL : lightQ q := Decidable.byContradiction fun h => e (.inl h)
  have hs : s.length ≤ 400 := by omega
  clear e ec
  have B : QBig q := ⟨by have := hL.1.1.2; omega, by have := hL.1.2; omega, fun a ha => by have := hL.2 a ha; omega, by have := hL.1.1.1; omega⟩
  have hf0 := qryF_2 q
  have Q2 := Q.le l2
  refine R_QueryFault_ok Q2 B fun h12 l12 => ⟨_, rfl, query_Check_ok (Q2.le l12) B fun h15 l15 => ⟨_, rfl, law_same_ok hf0 ⟨_, rfl, ?_⟩⟩⟩
  have l0 := Hp.le_trans l2 (Hp.le_trans l12 l15)
  have Q5 := Q.le l0
  have T5 := T.le l0
  rw [decide_eq_true (rfl : qryF q = qryF q)]
  -- the text, if it may be
  refine ⟨fun x hh => h15.le hh ∧ (qryF q = 0 → x = .t (.one (.v (vs (bs (queryT q)))))), fun e => query_Text_ok Q5 (qok_of (of_decide_eq_true e.2)) T5 fun h22 l22 => ⟨_, rfl, l22, fun _ => rfl⟩, fun e => ⟨Hp.le_refl _, fun hf => absurd ⟨rfl, decide_eq_true hf⟩ e⟩, ?_⟩
  rintro h24 s25 ⟨l24, hs25⟩
  refine ⟨fun x hh => h15.le hh ∧ (qryF q = 0 → x = .t (.one (.v (vs (bs (queryT q)))))), fun e => R_QueryText_ok (Q5.le l24) (qok_of (of_decide_eq_true e.2)) fun h28 l28 => ⟨_, rfl, Hp.le_trans l24 l28, fun _ => rfl⟩, fun e => ⟨l24, fun hf => absurd ⟨rfl, decide_eq_true hf⟩ e⟩, ?_⟩
  rintro h30 s31 ⟨l30, hs31⟩
  have hne : ∃ (p32 : Bool), ((((!true) = false) ∧ (decide ((qryF q : Int) = 0)) = true) → Rd Tryz.prog ((eqGuard .neq 9 (.tmp 37) (.tmp 39) (vs s25) (vs s31) >>= fun _ => binOp .neq 9 (vs s25) (vs s31))) h30 (vb p32)) ∧ (qryF q = 0 → p32 = false) := by
    by_cases hf : qryF q = 0
    · have e1 := hs25 hf
      have e2 := hs31 hf
      cases e1
      cases e2
      refine ⟨_, fun _ => rd_neBs, fun _ => ?_⟩
      simp
    · exact ⟨false, fun e => absurd (of_decide_eq_true e.2) hf, fun _ => rfl⟩
  obtain ⟨p32, hr, hp⟩ := hne
  refine ⟨p32, hr, ?_⟩
  have ec : (bif (!true) then true else (bif (decide ((qryF q : Int) = 0)) then p32 else false)) = false := by
    by_cases hf : qryF q = 0
    · rw [hp hf]; simp
    · rw [decide_eq_false hf]; rfl
  rw [ec]
  refine ⟨fun e => by (cases e), fun _ => ?_⟩
  have lA := Hp.le_trans l0 l30
  refine query_Parse_ok (T.le lA) fun a1 n1 c1 a2 n2 c2 a3 n3 c3 h35 l35 Q35 => ⟨_, _, _, _, _, _, _, _, _, _, _, _, _, _, rfl, ?_⟩
  refine R_QueryOf_ok fun b1 m1 d1 b2 m2 d2 b3 m3 d3 h45 l45 hpf hpb Q45 => ⟨_, _, _, _, _, _, _, _, _, _, _, _, _, _, rfl, ?_⟩
  refine law_same_ok hpf ⟨_, rfl, ?_⟩
  rw [decide_eq_true (rfl : (parseQ s).2 = (parseQ s).2)]
  have l45' := Hp.le_trans lA (Hp.le_trans l35 l45)
  refine ⟨fun x hh => hh = h45 ∧ x = .t (.one (.v (vb true))), fun _ => R_SameQuery_ok (Q35.le l45) Q45 hpb ⟨_, rfl, rfl, rfl⟩, fun e => absurd rfl e, ?_⟩
  rintro h61 p62 ⟨rfl, e⟩
  cases e
  exact ⟨rfl, l45'⟩
end Go.Proofs.YtonlacplogbodaaGreatDoor
/-
  THE STATEMENT Rows.QuerySaysCardSaid, proved: for every input the law returns true, and the input reads as it did. Conditions: none.
-/
namespace Go.Proofs.YtonlacplogbodaaGreatDoor.querySays
open Go.ChangeShapes Go.WideShapes Go.ChangeAt Go.RowKit Go.Vc
set_option linter.unusedVariables false
set_option maxRecDepth 100000

theorem own : ownKnob Tryz.prog.godebug = none := by kernel_rfl
/-- A question that came in. -/
theorem openN {H : Type} {enc : TypeId × Value → H} {W : World} {v : Value} (L : LeafC Tryz.prog enc W (fun _ => True) 23 [v]) : ∃ a n c l, v = vsl a n c ∧ SlP encN (hpOf W) a n l := by
  obtain ⟨a, n, c, l, e, S, _⟩ := leaf_slice (enc := encN) (sz := 6) (good := fun _ => True) smTrue (e := 82) (by kernel_rfl) (by kernel_rfl) (by decide) (fun _ => rfl) (fun cs L => by
    have hf := leaf_flat smTrue 4 (by kernel_rfl) L
    have e : flatIds Tryz.prog 4 82 = [3, 3, 3, 3, 3, 3] := by kernel_rfl
    rw [e] at hf
    match cs, hf with
    | [v0, v1, v2, v3, v4, v5], hf =>
      obtain ⟨x0, h0, _⟩ := leaf_i64 Tryz.underlying3 (hf.1)
      cases h0
      obtain ⟨x1, h1, _⟩ := leaf_i64 Tryz.underlying3 (hf.2.1)
      cases h1
      obtain ⟨x2, h2, _⟩ := leaf_i64 Tryz.underlying3 (hf.2.2.1)
      cases h2
      obtain ⟨x3, h3, _⟩ := leaf_i64 Tryz.underlying3 (hf.2.2.2.1)
      cases h3
      obtain ⟨x4, h4, _⟩ := leaf_i64 Tryz.underlying3 (hf.2.2.2.2.1)
      cases h4
      obtain ⟨x5, h5, _⟩ := leaf_i64 Tryz.underlying3 (hf.2.2.2.2.2.1)
      cases h5
      exact ⟨⟨x0, x1, x2, x3, (x4, x5)⟩, rfl, trivial⟩) L
  cases e
  exact ⟨a, n, c, l, rfl, S⟩
theorem openQ {H : Type} {enc : TypeId × Value → H} {W : World} {cs : List Value} (L : LeafL Tryz.prog enc W (fun _ => True) (flatIds Tryz.prog 4 25) cs) : ∃ (q : Qy) (a1 : Option Addr) (n1 c1 : Nat) (a2 : Option Addr) (n2 c2 : Nat) (a3 : Option Addr) (n3 c3 : Nat), cs = [vsl a1 n1 c1, vsl a2 n2 c2, vsl a3 n3 c3, vi q.size, vi q.slide, vi q.delay, vi q.late] ∧ QAt (hpOf W) q a1 n1 a2 n2 a3 n3 ∧ n1 ≤ maxLen := by
  have e : flatIds Tryz.prog 4 25 = [22, 23, 23, 3, 3, 3, 3] := by kernel_rfl
  rw [e] at L
  match cs, L with
  | [v0, v1, v2, v3, v4, v5, v6], L =>
    obtain ⟨a1, n1, c1, R, h0, S0, hc0, hm0, _, g0⟩ := leaf_slice (enc := growV aggRw) (sz := 2) (good := fun r : GRow Nd Int => HasRow (hpOf W) r.2.1.1 (r.2.2.flatMap encN)) smTrue (e := 42) (by kernel_rfl) (by kernel_rfl) (by decide) (fun _ => rfl) (fun cs L => by
      have hf := leaf_flat smTrue 4 (by kernel_rfl) L
      have e : flatIds Tryz.prog 4 42 = [3, 23] := by kernel_rfl
      rw [e] at hf
      match cs, hf with
      | [u0, u1], hf =>
        obtain ⟨x0, h0, _⟩ := leaf_i64 Tryz.underlying3 (hf.1)
        cases h0
        obtain ⟨a, n, c, l, rfl, S⟩ := openN hf.2.1
        obtain rfl := S.1
        exact ⟨(x0, (a, c), l), rfl, S.2⟩) L.1
    cases h0
    obtain ⟨a2, n2, c2, l2, rfl, S2⟩ := openN L.2.1
    obtain ⟨a3, n3, c3, l3, rfl, S3⟩ := openN L.2.2.1
    obtain ⟨x3, h3, _⟩ := leaf_i64 Tryz.underlying3 (L.2.2.2.1)
    cases h3
    obtain ⟨x4, h4, _⟩ := leaf_i64 Tryz.underlying3 (L.2.2.2.2.1)
    cases h4
    obtain ⟨x5, h5, _⟩ := leaf_i64 Tryz.underlying3 (L.2.2.2.2.2.1)
    cases h5
    obtain ⟨x6, h6, _⟩ := leaf_i64 Tryz.underlying3 (L.2.2.2.2.2.2.1)
    cases h6
    exact ⟨⟨growL R, l2, l3, x3, x4, x5, x6⟩, a1, n1, c1, a2, n2, c2, a3, n3, c3, rfl, ⟨gtab_of S0 g0, S2, S3⟩, Nat.le_trans hc0 hm0⟩

abbrev lay := Rows.querySaysRow.laid
/-- The library's tables, as they lie when the call begins. -/
theorem tabs {W : World} (hL : laidMetH Tryz.prog lay W) : TabP (hpOf W) := by
  rw [MakeChecks.laidMetH_plain _ _ _ (by kernel_rfl)] at hL
  have h3 : laidMet Tryz.prog (("internal/strconv.uint64pow10", Lib.tabData .u64 Lib.pow10Tab) :: lay.drop 3) W := hL.tail.tail
  have hT := Lib.tabIs_of_head (g := 3) (n := 20) (by kernel_rfl) (t := 132) (by kernel_rfl) (e := 117) (by kernel_rfl) (by kernel_rfl) (by kernel_rfl) (by kernel_rfl) h3
  intro w hs
  exact var_sub hT hs
theorem star : "*" ++ "errors.errorString" = "*errors.errorString" := by decide
theorem rowE (u : TypeId) (h : Tryz.prog.typeName? 3 u = some "*errors.errorString") : u = 146 :=
  typeName_ptr_named (nm := "errors.errorString") (by rw [star]; kernel_rfl) (by kernel_rfl) (by decide) u (by rw [star]; exact h)
/-- The library's two errors, as they lie when the call begins. -/
theorem errs {W : World} (hL : laidMetH Tryz.prog lay W) : TabE (hpOf W) := by
  rw [MakeChecks.laidMetH_plain _ _ _ (by kernel_rfl)] at hL
  have h4 : laidMet Tryz.prog (("strconv.ErrRange", _) :: ("strconv.ErrSyntax", _) :: lay.drop 5) W := hL.tail.tail.tail
  obtain ⟨a0, s0, hv0, _⟩ := laid_sentinel (g := 5) (ti := 31) h4 (by kernel_rfl) (by kernel_rfl) Tryz.underlying31 rowE Tryz.underlying146 Tryz.underlying148 rfl rfl Tryz.underlying9 (by kernel_rfl) (by kernel_rfl)
  obtain ⟨a1, s1, hv1, _⟩ := laid_sentinel (g := 4) (ti := 31) h4.tail (by kernel_rfl) (by kernel_rfl) Tryz.underlying31 rowE Tryz.underlying146 Tryz.underlying148 rfl rfl Tryz.underlying9 (by kernel_rfl) (by kernel_rfl)
  exact ⟨⟨_, _, fun w hs => vars_sub hv1 hs⟩, ⟨_, _, fun w hs => vars_sub hv0 hs⟩⟩
/-- All that is laid, as it lies when the call begins. -/
theorem names {W : World} (hL : laidMetH Tryz.prog lay W) : TabQ (hpOf W) := by
  have T := tabs hL
  have E := errs hL
  rw [MakeChecks.laidMetH_plain _ _ _ (by kernel_rfl)] at hL
  have h6 : laidMet Tryz.prog (("penstock/query.fields", _) :: ("penstock/query.aggs", _) :: lay.drop 7) W := hL.tail.tail.tail.tail.tail
  exact ⟨T, E, laid_texts (texts := fieldW) (g := 1) (t := 47) (e := 9) h6 (by kernel_rfl) (by kernel_rfl) (by kernel_rfl) (by kernel_rfl) (by kernel_rfl) (by decide), laid_texts (texts := aggsW) (g := 0) (t := 47) (e := 9) h6.tail (by kernel_rfl) (by kernel_rfl) (by kernel_rfl) (by kernel_rfl) (by kernel_rfl) (by decide)⟩
/-- The door's own heap meets the condition. -/
theorem door_met (os : Os) (args : Array Value) : laidMetH Tryz.prog lay ((World.doorLaid Tryz.prog 400 os).forCall (fun _ _ => 0) ⟨#[], args, []⟩).memory :=
  laidMetH_of_parts3 (fuel := 8) (laidMet_of_run' 8 (by kernel_rfl) (by kernel_rfl)) (by kernel_rfl) (by kernel_rfl)

set_option maxRecDepth 100000 in
theorem lifted (os : Os) (started : os.Started) (H : Type) (enc : TypeId × Value → H) :
    ReturnsInHanded {} Tryz.checked os 3 .any (fun w args => (Rows.querySaysSpec.pre enc Tryz.prog Tryz.f3 Rows.querySaysRow.domain false w args ∧ laidMetH Tryz.prog lay w) ∧ sizedMet enc Tryz.prog Tryz.f3 (OpenSpec.ofChange Rows.querySaysSpec) false w args) (Rows.querySaysSpec.post enc Tryz.prog Tryz.f3 false true false false) := by
  refine returnsInHanded_of_change_and (C := Tryz.checked) (X := fun w _ => laidMetH Tryz.prog lay w) (fun _ _ _ hh h => h.of_heap hh) own started (by kernel_rfl) Tryz.func3
    (ChangeSpec.witness_shaped (enc := enc) (C := Tryz.checked) (os := os) (X := fun w _ => laidMetH Tryz.prog lay w) false (World.doorLaid Tryz.prog 400 os) #[.agg #[.slice none 0 0, .slice none 0 0, .slice none 0 0, .int .i64 0, .int .i64 0, .int .i64 0, .int .i64 0], .string ⟨#[]⟩] 8 rfl (World.shaped_of_RefB (by kernel_rfl) (by kernel_rfl)) (by kernel_rfl) (by kernel_rfl) (by kernel_rfl) (door_met os _)) ?_
  intro W base args ds gs before hval0 hW hcnd _ hL _
  have T := tabs hL
  have E := errs hL
  have TQ := names hL
  have hval : ∀ (j : Nat) t v, Tryz.f3.params[j]? = some t → args[j]? = some v → Value.okWide Tryz.prog W .any base t v := hval0
  have hW' := hW
  obtain ⟨p, q, hA0, hV, rfl, hfz, hnd⟩ := hW
  have hA : DataW.TrodAll enc Tryz.prog W 0 (fun _ => true) true Tryz.f3.params.toList args.toList ds p := hA0
  rw [Tryz.params3] at hA hval
  obtain ⟨v0, vs0, d0, ds0, p0, q0, hargs, rfl, rfl, h0, r0⟩ := trodAll_cons hA
  obtain ⟨v1, vs1, d1, ds1, p1, q1, rfl, rfl, rfl, h1, r1⟩ := trodAll_cons r0
  obtain ⟨rfl, rfl, rfl⟩ := trodAll_nil r1
  obtain rfl : args = #[v0, v1] := by cases args; simp_all
  obtain ⟨rfl, rfl⟩ := trodVars_none hV
  obtain ⟨cs0, rfl, _⟩ := okWide_struct Tryz.underlying25 (hval 0 25 v0 rfl rfl)
  obtain ⟨q0, a10, n10, c10, a20, n20, c20, a30, n30, c30, e0, Q0, hm0⟩ := openQ (leaf_flat smTrue 4 (by kernel_rfl) (leafC_of (Sm := fun _ => True) h0 trivial))
  obtain rfl : cs0 = [vsl a10 n10 c10, vsl a20 n20 c20, vsl a30 n30 c30, vi q0.size, vi q0.slide, vi q0.delay, vi q0.late].toArray := by have q : cs0.toList = _ := e0; rw [← q]
  obtain ⟨s1, rfl⟩ := okWide_string Tryz.underlying9 (hval 1 9 v1 rfl rfl)
  obtain ⟨b1, e1, _, z1⟩ := leaf_string smTrue Tryz.underlying9 (leafC_of (Sm := fun _ => True) h1 trivial)
  cases e1
  refine (calls_law (by rw [bs_of s1]; exact law_QuerySays_ok (q := q0) (s := s1.data.toList) Q0 TQ)).mono fun e W' ⟨he, hg⟩ => ?_
  subst he
  exact ⟨_, rfl, law_post big hW' hg (by kernel_rfl) (tb := 4) (by kernel_rfl) (by kernel_rfl) rfl⟩

theorem over : Rows.querySaysRow.holds Tryz.pinned (OpenSpec.ofChange Rows.querySaysSpec) :=
  OpenClaim.holds_of_wide 3 Tryz.f3 rfl rfl rfl rfl rfl rfl rfl ⟨rfl, rfl, rfl, rfl, rfl⟩ rfl rfl rfl rfl rfl (by kernel_rfl) Tryz.func3 (by kernel_rfl)
    (of_decide_eq_true (by kernel_rfl)) (by unfold Func.isWrapper; first | (rw [if_pos (by decide +kernel)]; kernel_rfl) | (rw [if_neg (by decide +kernel)]; exact ⟨rfl, rfl⟩))
    (fun os started H enc _ => lifted os started H enc)

theorem proved : Rows.QuerySaysCardSaid :=
  Claim7.holds_tied_plain_at .later [] _ true _ true
    over (fun _ h => by cases h) (by kernel_rfl) (fun _ h => by cases h) querySays_row_tie rfl ⟨rfl, rfl⟩ (by kernel_rfl) rfl
    (fun f fn hf hfn => by
      obtain rfl : f = 3 := Option.some.inj ((show Tryz.prog.funcNamed "penstock/penstocklaw.QuerySays" = some 3 by kernel_rfl).symm.trans hf) |>.symm
      obtain rfl : fn = Tryz.f3 := (Option.some.inj (Tryz.func3.symm.trans hfn)).symm
      exact ⟨by kernel_rfl, fun j t ht => by
        rw [Tryz.params3] at ht
        have hm : t ∈ [25, 9] := by simpa using Array.mem_of_getElem? ht
        have hall : ([25, 9].all fun u => !Tryz.prog.wantsStandIn u) = true := by kernel_rfl
        exact (show Tryz.prog.wantsStandIn t = false by simpa using List.all_eq_true.1 hall t hm)⟩)
    (by kernel_rfl)
end Go.Proofs.YtonlacplogbodaaGreatDoor.querySays
