/-
  Contracts: the document's disk. Conditions: those stated at each (that the disk may be; how many wait).
-/
import Derived.Test.YtdkgmpchcahajaaFRDsk
import Derived.Test.YtdkgmpchcahajaaCDsk
namespace Go.Proofs.Ytdkgmpchcahajaa
open Go Go.Vc
set_option linter.unusedVariables false
set_option maxRecDepth 100000

theorem elRTurn : ElT Try.prog 98 172 2 24 := .of (by kernel_rfl) (by kernel_rfl) (by decide)
abbrev RD := DskAt 100 172
theorem R_noughts_ok {n : Nat} {h : Hp} {R : Value → Hp → Prop} (hn : n ≤ 256) (hK : ∀ h', h.le h' → R (vs (bs (noughtsB n))) h') : CallOK Try.prog 89 [vi n] h R := by
  refine ok_R_noughts ?_
  unfold VC_R_noughts
  refine sem_make elU8 (z := [vk .u8 0]) (by kernel_rfl) (by omega) (by omega) fun b hb => ⟨_, _, _, rfl, _, ?_, hK _ (Hp.le_set (Hp.le_refl h) hb _)⟩
  have := rd_toStr (P := Try.prog) (h := h.set b (cellsO ((List.replicate n [vk .u8 0]).flatten) 5)) (src := 198) (dst := 9) (e := 5) (by kernel_rfl) (by kernel_rfl) (by kernel_rfl) (c := n) (row_noughts h b n _)
  rw [show (noughtsB n).length = n by simp [noughtsB]] at this
  exact this
theorem R_NewDisk_ok {n : Int} {h : Hp} {R : Value → Hp → Prop} (hK1 : ¬ (1 ≤ n ∧ n ≤ 160) → R (vtup [vp none, vi 1]) h)
    (hK2 : 1 ≤ n → n ≤ 160 → ∀ g h' F', h.le h' → (∀ b, F' b → h b = none) → RD h' F' g (newDK n.toNat) → R (vtup [vhp g 0, vi 0]) h') : CallOK Try.prog 39 [vi n] h R := by
  refine ok_R_NewDisk ?_
  unfold VC_R_NewDisk
  refine ⟨fun e => hK1 (by simp [Bool.cond_eq_ite] at e; omega), fun e => ?_⟩
  have hn : 1 ≤ n ∧ n ≤ 160 := by simp [Bool.cond_eq_ite] at e; omega
  intro b2 hb2 h3
  have D3 : RD h3 (ftR b2 (dkF 172 none 0 none 0 none 0 ⟨[], [], [], -1, false⟩)) b2 ⟨[], [], [], -1, false⟩ :=
    ⟨none, 0, none, 0, none, 0, rfl, Rec_dk (T := 100) (tT := 172) (s := ⟨[], [], [], -1, false⟩) (aK := none) (cK := 0) (aN := none) (cN := 0) hb2 rfl (OwnS.nil h _ _) (OwnS.nil h _ _) (fun b hb => by cases hb)⟩
  refine ⟨fun vs hh => ∃ (i : Nat) (F' : Nat → Prop), vs = [vi i] ∧ (i : Int) ≤ n ∧ h.le hh ∧ (∀ b, F' b → h b = none) ∧ RD hh F' b2 ⟨List.replicate i (noughtsB 256), List.replicate i (noughtsB 256), [], -1, false⟩, fun vs hh => n.toNat - (vint vs 0).toNat,
    ⟨0, _, rfl, by omega, Hp.le_set (Hp.le_refl h) hb2 _, dkF_new (tT := 172) (aK := none) (cK := 0) (aN := none) (cN := 0) (s := ⟨[], [], [], -1, false⟩) hb2 (fun b hb => by cases hb) (fun b hb => by cases hb), D3⟩, ?_⟩
  rintro vs hh ⟨i, F', rfl, hi, hl, hF, D⟩
  refine ⟨i, rfl, fun e => ?_, fun e => ?_⟩
  · have hlt : (i : Int) < n := of_decide_eq_true e
    obtain ⟨aK, cK, k1, _, _⟩ := D.keptS
    refine ⟨_, _, _, k1, R_noughts_ok (n := 256) (by omega) fun h14 l14 => ⟨_, rfl, Hp.cell_le l14 k1, ?_⟩⟩
    intro b16 hb16 h17
    have D14 := D.le l14
    refine D14.keptApp elStr (x := noughtsB 256) (by simp; omega) (by simp; omega) (Hp.cell_le l14 k1) hb16 fun a' c' h19 hst => ⟨_, _, _, rfl, hst _ fun h21 F21 D21 M21 => ?_⟩
    obtain ⟨aN, cN, n1, _, _⟩ := D21.nowS
    refine ⟨_, _, _, n1, R_noughts_ok (n := 256) (by omega) fun h24 l24 => ⟨_, rfl, Hp.cell_le l24 n1, ?_⟩⟩
    intro b26 hb26 h27
    have D24 := D21.le l24
    refine D24.nowApp elStr (x := noughtsB 256) (by simp; omega) (by simp; omega) (Hp.cell_le l24 n1) hb26 fun a2 c2 h29 hst2 => ⟨_, _, _, rfl, hst2 _ fun h31 F31 D31 M31 => ?_⟩
    obtain ⟨l21, f21⟩ := M21.old (Hp.le_trans hl l14) hF
    obtain ⟨l31, f31⟩ := M31.old (Hp.le_trans l21 l24) f21
    refine ⟨_, isW (by unfold InR; omega), ⟨i + 1, F31, rfl, by omega, l31, f31, ?_⟩, by simp [vint]; omega⟩
    rw [List.replicate_succ']
    exact D31
  · have hge : i = n.toNat := by have := of_decide_eq_false e; omega
    subst hge
    exact hK2 hn.1 hn.2 b2 hh F' hl hF D
section
variable {h : Hp} {F : Nat → Prop} {g : Nat} {s : DK}
theorem R_step_ok (D : RD h F g s) (hf : -1 ≤ s.fuse ∧ s.fuse ≤ 9223372036854775807) {R : Value → Hp → Prop} (hK : ∀ h' F', RD h' F' g (dStep s).1 → Mut F h F' h' → R (vi (dStep s).2) h') : CallOK Try.prog 91 [vhp g 0] h R := by
  refine ok_R_Disk_step ?_
  unfold VC_R_Disk_step
  unfold dStep at hK
  refine ⟨_, D.c4, fun hd => ?_, fun hd => ?_⟩
  · rw [hd, if_pos rfl] at hK
    exact hK h F D ⟨fun b o _ ho => ho, fun b hb => .inl hb⟩
  · rw [if_neg (by rw [hd]; simp)] at hK
    refine ⟨_, D.c3, fun e => ?_, fun e => ?_⟩
    · have h0 : s.fuse = 0 := of_decide_eq_true e
      rw [if_pos h0] at hK
      exact D.v4 fun h3 F3 D3 M3 => D3.v3 fun h4 F4 D4 M4 => hK h4 F4 D4 (M3.trans M4)
    · have h0 : ¬ s.fuse = 0 := of_decide_eq_false e
      rw [if_neg h0] at hK
      refine ⟨_, D.c3, ?_⟩
      intro J13
      refine ⟨fun e => ?_, fun e => ?_⟩
      · have hp : s.fuse > 0 := of_decide_eq_true e
        refine ⟨_, D.c3, _, isW (by unfold InR; omega), D.v3 fun h' F' D' M' => hK h' F' ?_ M'⟩
        rw [Int.max_eq_left (by omega)]
        exact D'
      · have hp : ¬ s.fuse > 0 := of_decide_eq_false e
        have e1 : max (s.fuse - 1) (-1) = s.fuse := by rw [Int.max_eq_right (by omega)]; omega
        rw [e1] at hK
        exact hK h F D ⟨fun b o _ ho => ho, fun b hb => .inl hb⟩
theorem R_Read_ok (D : RD h F g s) {i : Int} {R : Value → Hp → Prop} (hK : R (vtup [vs (bs (dRead s i).1), vi (dRead s i).2]) h) : CallOK Try.prog 44 [vhp g 0, vi i] h R := by
  refine ok_R_Disk_Read ?_
  unfold VC_R_Disk_Read
  unfold dRead at hK
  obtain ⟨a, c, h1, h2, h3⟩ := D.nowS
  refine ⟨_, D.c4, fun e => ?_, fun e => ⟨_, _, _, fun _ => h1, fun e2 => ?_, fun e2 => ?_⟩⟩
  · rw [if_pos e] at hK; exact hK
  · have : i < 0 ∨ i ≥ s.now.length := by simp [Bool.cond_eq_ite] at e2; omega
    rw [if_neg (by rw [e]; simp), if_pos this] at hK; exact hK
  · have : ¬ (i < 0 ∨ i ≥ s.now.length) := by simp [Bool.cond_eq_ite] at e2; omega
    rw [if_neg (by rw [e]; simp), if_neg this] at hK
    obtain ⟨b, o, ha, hc⟩ := h2.get1 (i := i.toNat) (by omega)
    exact ⟨_, _, _, h1, b, o, ⟨ha, by omega, by omega⟩, _, hc, hK⟩
theorem dStep_now (s : DK) : (dStep s).1.now = s.now := by unfold dStep; split <;> (try split) <;> rfl
theorem dStep_kept (s : DK) : (dStep s).1.kept = s.kept := by unfold dStep; split <;> (try split) <;> rfl
theorem dStep_wait (s : DK) : (dStep s).1.wait = s.wait := by unfold dStep; split <;> (try split) <;> rfl
theorem dStep_code (s : DK) : (dStep s).2 = 0 ∨ (dStep s).2 = 7 := by unfold dStep; split <;> (try split) <;> simp
theorem R_Write_ok (D : RD h F g s) {n : Nat} (W : s.wf n) (hw : s.wait.length ≤ 1000000) {i : Int} {d : List UInt8} {R : Value → Hp → Prop} (hK : ∀ h' F', RD h' F' g (dWrite s i d).1 → Mut F h F' h' → R (vi (dWrite s i d).2) h') :
    CallOK Try.prog 42 [vhp g 0, vi i, vs (bs d)] h R := by
  refine ok_R_Disk_Write ?_
  unfold VC_R_Disk_Write
  rw [bs_size]
  unfold dWrite at hK
  obtain ⟨a, c, h1, h2, h3⟩ := D.nowS
  refine ⟨_, _, _, fun _ => h1, fun e => ?_, fun e => ?_⟩
  · have : i < 0 ∨ i ≥ s.now.length ∨ d.length > 256 := by simp [Bool.cond_eq_ite] at e; omega
    rw [if_pos this] at hK
    exact hK h F D ⟨fun b o _ ho => ho, fun b hb => .inl hb⟩
  have hi : ¬ (i < 0 ∨ i ≥ s.now.length ∨ d.length > 256) := by simp [Bool.cond_eq_ite] at e; omega
  rw [if_neg hi] at hK
  refine R_step_ok D ⟨W.f, W.f2⟩ fun h4 F4 D4 M4 => ⟨_, rfl, fun e => ?_, fun e => ?_⟩
  · have hs : (dStep s).2 ≠ 0 := by have := of_decide_eq_true e; omega
    rw [if_pos hs] at hK
    exact hK h4 F4 D4 M4
  · have hs : (dStep s).2 = 0 := by have := of_decide_eq_false e; rcases dStep_code s with h | h <;> omega
    rw [if_neg (by simpa using hs)] at hK
    have e2 : (256 : Int) - (d.length : Nat) = ((256 - d.length : Nat) : Int) := by omega
    refine ⟨_, isW (by unfold InR; omega), ?_⟩
    rw [e2]
    refine R_noughts_ok (by omega) fun h9 l9 => ⟨_, rfl, _, rd_cat (by simp [noughtsB, maxLen]; omega), ?_⟩
    have efull : d ++ noughtsB (256 - d.length) = fullB d := rfl
    rw [efull]
    have D9 := D4.le l9
    obtain ⟨a8, c8, q1, q2, q3⟩ := D9.nowS
    rw [dStep_now] at q1 q2 q3
    obtain ⟨b, o, ha, _⟩ := q2.get1 (i := i.toNat) (by omega)
    refine ⟨_, _, _, q1, b, o, ⟨ha, by omega, by omega⟩, q3 i.toNat (fullB d) b o _ (by omega) ha fun h12 F12 _ D12 M12 => ?_⟩
    obtain ⟨aW, cW, w1, w2⟩ := D12.waitS
    simp only at w1 w2
    refine ⟨_, _, _, w1, ?_⟩
    intro b18 hb18 h19
    refine D12.waitApp elRTurn (x := (i, fullB d)) (by simp only [dStep_wait]; omega) (by simp only [dStep_wait]; omega) w1 hb18 fun a' c' h21 hst => ⟨_, _, _, rfl, ?_⟩
    refine hst _ fun h23 F23 D23 M23 => hK h23 F23 ?_ ((M4.trans (Mut.of_le l9)).trans (M12.trans M23))
    simp only [dStep_wait] at D23
    exact D23
theorem R_Flush_ok (D : RD h F g s) {n : Nat} (W : s.wf n) {R : Value → Hp → Prop} (hK : ∀ h' F', RD h' F' g (dFlush s).1 → Mut F h F' h' → R (vi (dFlush s).2) h') :
    CallOK Try.prog 46 [vhp g 0] h R := by
  refine ok_R_Disk_Flush ?_
  unfold VC_R_Disk_Flush
  unfold dFlush at hK
  refine R_step_ok D ⟨W.f, W.f2⟩ fun h2 F2 D2 M2 => ⟨_, rfl, fun e => ?_, fun e => ?_⟩
  · have hs : (dStep s).2 ≠ 0 := by have := of_decide_eq_true e; omega
    rw [if_pos hs] at hK
    exact hK h2 F2 D2 M2
  · have hs : (dStep s).2 = 0 := by have := of_decide_eq_false e; rcases dStep_code s with h | h <;> omega
    rw [if_neg (by simpa using hs)] at hK
    obtain ⟨aK, cK, aN, cN, aW, cW, rfl, RR⟩ := D2
    have ON : OwnS h2 9 1 aN (dStep s).1.now.length cN ((dStep s).1.now.flatMap encB) := RR.own 1 _ rfl
    have hnl : (dStep s).1.now.length = n := by rw [dStep_now, W.w]
    have := W.n2
    refine ⟨_, _, _, RR.cell (j := 1) rfl, sem_clone elStr ON.row (by rw [flatMap_length encB_len]) (one_encB _) (by omega) (by omega) fun a' c' h7 O7 => ⟨_, _, _, rfl, ?_⟩⟩
    have e : (dkF 172 aK cK aN cN aW cW (dStep s).1).set 0 (.s 9 1 a' (dStep s).1.now.length c' ((dStep s).1.now.flatMap encB)) = dkF 172 a' c' aN cN aW cW { (dStep s).1 with kept := (dStep s).1.now } := by simp [dkF]
    refine RR.put (h' := h7) (j := 0) (f' := .s 9 1 a' (dStep s).1.now.length c' ((dStep s).1.now.flatMap encB)) rfl (fun b o ho _ => O7.le b o ho) O7.own (fun b hb => .inr (O7.new b hb)) (fun h9 _ R9 M9 => ?_) rfl
    rw [e] at R9 M9
    have D9 : RD h9 _ g { (dStep s).1 with kept := (dStep s).1.now } := ⟨a', c', aN, cN, aW, cW, rfl, R9⟩
    refine D9.noWait fun h10 F10 D10 M10 => hK h10 F10 ?_ ((M2.trans M9).trans M10)
    simp only [dStep_now] at D10 ⊢
    exact D10
theorem R_Restart_ok (D : RD h F g s) {n : Nat} (W : s.wf n) (hw : s.wait.length ≤ 1000000) {k : Int} (hk : 0 ≤ k ∧ k ≤ 18446744073709551615) {R : Value → Hp → Prop} (hK : ∀ h' F', RD h' F' g (dRestart s k) → Mut F h F' h' → R (vtup []) h') :
    CallOK Try.prog 49 [vhp g 0, vk .u64 k] h R := by
  refine ok_R_Disk_Restart ?_
  unfold VC_R_Disk_Restart
  refine ⟨fun vs hh => ∃ (i : Nat) (F' : Nat → Prop), vs = [vi i] ∧ i ≤ s.wait.length ∧ RD hh F' g { s with kept := dKeep k 0 (s.wait.take i) s.kept } ∧ Mut F h F' hh, fun vs hh => s.wait.length - (vint vs 0).toNat, ⟨0, F, rfl, Nat.zero_le _, D, ⟨fun b o _ ho => ho, fun b hb => .inl hb⟩⟩, ?_⟩
  rintro vs hh ⟨i, F', rfl, hi, D', M'⟩
  obtain ⟨a', c', q1, q2⟩ := D'.waitS
  simp only at q1 q2
  refine ⟨i, rfl, _, _, _, q1, fun e => ?_, fun e => ?_⟩
  · have hlt : i < s.wait.length := by have := of_decide_eq_true e; omega
    have tk : s.wait.take (i + 1) = s.wait.take i ++ [s.wait[i]] := List.take_succ_eq_append_getElem hlt
    have hx : s.wait[i]? = some s.wait[i] := List.getElem?_eq_getElem hlt
    have ht := W.t s.wait[i] (List.getElem_mem hlt)
    obtain ⟨b, o, ha, hr⟩ := q2.get encT_len (by decide) hx
    intro J27
    have ew : IntKind.wrap .u64 ((i : Nat) : Int) = (i : Nat) := by rw [IntKind.wrap_u64]; omega
    rw [ew]
    have hlenk : (dKeep k 0 (s.wait.take i) s.kept).length = n := by rw [dKeep_length, W.k]
    have hsn := dKeep_snoc k (s.wait.take i) 0 s.wait[i] s.kept
    rw [← tk, List.length_take, Nat.min_eq_left (by omega), Nat.zero_add] at hsn
    have A : a' = some ⟨b, o, none⟩ ∧ (0 : Int) ≤ i ∧ (i : Int) < (s.wait.length : Nat) := ⟨ha, by omega, by omega⟩
    refine ⟨_, rd_remU, _, rd_shrU (by omega) hk.1, _, rd_and1 (Int.ediv_nonneg hk.1 (Int.le_of_lt (Int.pow_pos (by decide)))) (by have := Int.ediv_le_self (2 ^ (i % 64)) hk.1; omega), fun e2 => ?_, fun e2 => ?_⟩
    · have hbit : bitOf k i = true := e2
      rw [hbit, if_pos rfl] at hsn
      obtain ⟨aK, cK, p1, p2, p3⟩ := D'.keptS
      simp only at p1 p2 p3
      rw [hlenk] at p1 p2 p3
      obtain ⟨bK, oK, haK, _⟩ := p2.get1 (i := s.wait[i].1.toNat) (by omega)
      refine ⟨_, _, _, p1, _, _, _, q1, b, o, A, _, Hp.row_cell hr (i := 0) rfl, _, _, _, q1, b, o, A, _, Hp.row_cell hr (i := 1) rfl, bK, oK, ⟨haK, ht.1, by omega⟩,
        p3 _ _ bK oK _ (by omega) haK fun h19 F19 _ D19 M19 => ⟨_, isW (by unfold InR; omega), ⟨i + 1, F19, rfl, by omega, ?_, M'.trans M19⟩, by simp [vint]; omega⟩⟩
      rw [hsn]; exact D19
    · have hbit : bitOf k i = false := e2
      rw [hbit, if_neg (by simp)] at hsn
      exact ⟨_, isW (by unfold InR; omega), ⟨i + 1, F', rfl, by omega, by rw [hsn]; exact D', M'⟩, by simp [vint]; omega⟩
  · have hge : i = s.wait.length := by have := of_decide_eq_false e; omega
    have ht : s.wait.take i = s.wait := List.take_of_length_le (by omega)
    rw [ht] at D'
    obtain ⟨aK, cK, aN, cN, aW, cW, rfl, RR⟩ := D'
    generalize hkk : dKeep k 0 s.wait s.kept = kk at *
    have hkl : kk.length = n := by rw [← hkk, dKeep_length, W.k]
    have := W.n2
    have OK : OwnS hh 9 1 aK kk.length cK (kk.flatMap encB) := RR.own 0 _ rfl
    refine ⟨_, _, _, RR.cell (j := 0) rfl, sem_clone elStr OK.row (by rw [flatMap_length encB_len]) (one_encB _) (by simp only; omega) (by simp only; omega) fun a' c' h7 O7 => ⟨_, _, _, rfl, ?_⟩⟩
    simp only at O7
    have e : (dkF 172 aK cK aN cN aW cW { s with kept := kk }).set 1 (.s 9 1 a' kk.length c' (kk.flatMap encB)) = dkF 172 aK cK a' c' aW cW { s with kept := kk, now := kk } := by simp [dkF]
    refine RR.put (h' := h7) (j := 1) (f' := .s 9 1 a' kk.length c' (kk.flatMap encB)) rfl (fun b o ho _ => O7.le b o ho) O7.own (fun b hb => .inr (O7.new b hb)) (fun h9 _ R9 M9 => ?_) rfl
    rw [e] at R9 M9
    have D9 : RD h9 _ g { s with kept := kk, now := kk } := ⟨aK, cK, a', c', aW, cW, rfl, R9⟩
    refine D9.noWait fun h10 F10 D10 M10 => D10.v4 fun h11 F11 D11 M11 => D11.v3 fun h12 F12 D12 M12 => hK h12 F12 ?_ (((M'.trans M9).trans M10).trans (M11.trans M12))
    unfold dRestart
    rw [hkk]
    exact D12
end
end Go.Proofs.Ytdkgmpchcahajaa
