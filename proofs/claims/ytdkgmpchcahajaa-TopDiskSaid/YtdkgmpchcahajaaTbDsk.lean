/-
  What the law TopDisk gives, for every argument: true; nothing of what was there has turned. Conditions: none.
-/
import Derived.Test.YtdkgmpchcahajaaCDsk
import Derived.Test.YtdkgmpchcahajaaCLAct
import Derived.Test.YtdkgmpchcahajaaFbDsk
namespace Go.Proofs.Ytdkgmpchcahajaa
open Go Go.Vc
set_option linter.unusedVariables false
set_option maxRecDepth 100000

/-- A disk that works and is not armed. -/
def Up (s : DK) : Prop := s.down = false ∧ s.fuse = -1
theorem dStep_up {s : DK} (u : Up s) : dStep s = (s, 0) := by
  obtain ⟨k, n, w, f, d⟩ := s
  obtain ⟨u1, u2⟩ := u
  simp only at u1 u2
  subst u1 u2
  rfl
theorem dWrite_no {s : DK} {i : Int} {d : List UInt8} (h : i < 0 ∨ i ≥ s.now.length ∨ d.length > 256) : dWrite s i d = (s, 1) := if_pos h
theorem dWrite_up {s : DK} (u : Up s) {i : Int} {d : List UInt8} (h : ¬ (i < 0 ∨ i ≥ s.now.length ∨ d.length > 256)) : dWrite s i d = ({ s with now := s.now.set i.toNat (fullB d), wait := s.wait ++ [(i, fullB d)] }, 0) := by
  unfold dWrite
  rw [if_neg h, dStep_up u, if_neg (by simp)]
theorem dFlush_up {s : DK} (u : Up s) : dFlush s = ({ s with kept := s.now, wait := [] }, 0) := by
  unfold dFlush
  rw [dStep_up u, if_neg (by simp)]
theorem dWrite_Up {s : DK} (u : Up s) (i : Int) (d : List UInt8) : Up (dWrite s i d).1 := by
  by_cases h : i < 0 ∨ i ≥ s.now.length ∨ d.length > 256
  · rw [dWrite_no h]; exact u
  · rw [dWrite_up u h]; exact u
theorem dRead_up {s : DK} (u : Up s) {i : Int} (h0 : 0 ≤ i) (h1 : i < s.now.length) : dRead s i = (s.now.getD i.toNat [], 0) := by
  unfold dRead
  rw [if_neg (by rw [u.1]; simp), if_neg (by omega)]
theorem bitOf_eq {k : Int} {j : Nat} (hj : j < 64) : bitOf k j = decide (k / 2 ^ j % 2 = 1) := by unfold bitOf; rw [Nat.mod_eq_of_lt hj]

structure OneD (h0 h : Hp) (F : Nat → Prop) (g : Nat) (s : DK) : Prop where
  le : h0.le h
  n : ∀ b, F b → h0 b = none
  p : PD h F g s
theorem OneD.step {h0 h h' : Hp} {F F' : Nat → Prop} {g : Nat} {s t : DK} (T : OneD h0 h F g s) (D : PD h' F' g t) (M : Mut F h F' h') : OneD h0 h' F' g t :=
  ⟨(M.old T.le T.n).1, (M.old T.le T.n).2, D⟩
abbrev wantC (L : List (List UInt8)) : List Value := L.map fun x => vs (bs x)
structure WantD (h0 h : Hp) (F : Nat → Prop) (g : Nat) (s : DK) (b : Nat) (L : List (List UInt8)) : Prop where
  o : OneD h0 h F g s
  nb : h0 b = none
  nf : ¬ F b
  hb : h b = some (cellsO (wantC L) 152)
  len : L.length = 4
theorem WantD.step {h0 h h' : Hp} {F F' : Nat → Prop} {g : Nat} {s t : DK} {b : Nat} {L : List (List UInt8)} (T : WantD h0 h F g s b L) (D : PD h' F' g t) (M : Mut F h F' h') : WantD h0 h' F' g t b L where
  o := T.o.step D M
  nb := T.nb
  nf := fun hf => by
    rcases M.new b hf with h1 | h1
    · exact T.nf h1
    · rw [T.hb] at h1; cases h1
  hb := M.keep b _ T.nf T.hb
  len := T.len
theorem WantD.put {h0 h : Hp} {F : Nat → Prop} {g : Nat} {s : DK} {b : Nat} {L : List (List UInt8)} (T : WantD h0 h F g s b L) {i : Nat} (hi : i < 4) {x : List UInt8} {K : Hp → Prop} (hK : ∀ h', WantD h0 h' F g s b (L.set i x) → K h') : h.store b (0 + i * 1) [vs (bs x)] K := by
  refine store_cells T.hb (by have := T.len; simp; omega) (hK _ ?_)
  have e : setL (wantC L) (0 + i * 1) [vs (bs x)] = wantC (L.set i x) := by
    unfold wantC
    rw [setL_one _ _ _ (by have := T.len; simp; omega), List.map_set, Nat.zero_add, Nat.mul_one]
  rw [e]
  refine ⟨⟨fun b' o' ho => ?_, T.o.n, T.o.p.keep fun b' hb' o' ho => ?_⟩, T.nb, T.nf, Hp.set_same _ _ _, by rw [List.length_set]; exact T.len⟩
  · have hne : b' ≠ b := fun e => by subst e; rw [T.nb] at ho; cases ho
    rw [Hp.set_other _ _ hne]
    exact T.o.le b' o' ho
  · have hne : b' ≠ b := fun e => by subst e; exact T.nf hb'
    rw [Hp.set_other _ _ hne]
    exact ho
theorem WantD.at {h0 h : Hp} {F : Nat → Prop} {g : Nat} {s : DK} {b : Nat} {L : List (List UInt8)} (T : WantD h0 h F g s b L) {i : Nat} (hi : i < 4) : h.cell b (0 + i * 1) = some (vs (bs (L.getD i []))) := by
  have := T.len
  refine cell_cells T.hb ?_
  rw [Nat.zero_add, Nat.mul_one, List.getElem?_map, List.getD_eq_getElem?_getD, List.getElem?_eq_getElem (by omega)]
  rfl

theorem top_TopDisk_ok {a a2 : Option Addr} {n n2 c c2 : Nat} {l more : List ActL} {k : Int} {h : Hp} (S : SlP encA h a n l) (S2 : SlP encA h a2 n2 more) (hk : 0 ≤ k ∧ k ≤ 18446744073709551615) :
    CallOK Try.prog 13 [vsl a n c, vsl a2 n2 c2, vk .u64 k] h fun v h' => v = vb true ∧ h.le h' := by
  refine ok_top_TopDisk ?_
  unfold VC_top_TopDisk
  have hn := S.1
  have hn2 := S2.1
  refine disk_New_ok (n := 4) (fun e => absurd (by decide) e) fun _ _ g h2 F2 l2 nF2 D2 => ⟨_, _, rfl, _, fun _ => rd_eqNilP (e := 167) (by kernel_rfl), ?_⟩
  have W0 : (newDK (4 : Int).toNat).wf 4 := newDK_wf (by decide) (by decide)
  have U0 : Up (newDK (4 : Int).toNat) := ⟨rfl, rfl⟩
  generalize newDK (4 : Int).toNat = s0 at *
  refine ⟨fun x h' => ∃ F, x = .t (.one (.ifc none)) ∧ OneD h h' F g { s0 with kept := s0.now, wait := [] }, fun _ => disk_Flush_ok D2 W0 fun h8 F8 D8 M8 => ?_, fun e => absurd rfl e, ?_⟩
  · rw [dFlush_up U0] at D8 ⊢
    exact ⟨_, rfl, F8, rfl, OneD.step ⟨l2, nF2, D2⟩ D8 M8⟩
  rintro h10 e11 ⟨F10, e, T10⟩
  cases e
  have W10 : ({ s0 with kept := s0.now, wait := [] } : DK).wf 4 := by have := dFlush_wf W0; rw [dFlush_up U0] at this; exact this
  have U10 : Up { s0 with kept := s0.now, wait := [] } := U0
  have w10 : ({ s0 with kept := s0.now, wait := [] } : DK).wait.length = 0 := rfl
  generalize ({ s0 with kept := s0.now, wait := [] } : DK) = s10 at *
  refine ⟨fun x h' => h' = h10 ∧ x = .t (.one (.v (vi 4))), fun _ => disk_Sectors_ok T10.p ⟨_, rfl, rfl, by rw [W10.w]; rfl⟩, fun e => absurd rfl e, ?_⟩
  rintro h16 x17 ⟨rfl, e⟩
  cases e
  refine ⟨fun e => (by cases e), fun _ => law_LightActs_ok (S.le T10.le) (by decide) ⟨_, rfl, fun x h' => h' = h16 ∧ x = .t (.one (.v (vb (lightA l 40 && lightA more 60)))), fun e => ?_, fun e => ?_, ?_⟩⟩
  · have e1 : lightA l 40 = true := by cases hq : lightA l 40 <;> simp_all
    refine law_LightActs_ok (S2.le T10.le) (by decide) ⟨_, rfl, rfl, by rw [e1]; rfl⟩
  · have e1 : lightA l 40 = false := by cases hq : lightA l 40 <;> simp_all
    exact ⟨rfl, by rw [e1]; rfl⟩
  rintro h26 p27 ⟨rfl, e⟩
  cases e
  refine ⟨fun _ => ⟨rfl, T10.le⟩, fun e => ?_⟩
  have q1 : lightA l 40 = true := by cases hq : lightA l 40 <;> simp_all
  have q2 : lightA more 60 = true := by cases hq : lightA more 60 <;> simp_all
  have len1 : l.length ≤ 40 := by have := of_decide_eq_true q1; omega
  have len2 : more.length ≤ 60 := by have := of_decide_eq_true q2; omega
  clear e q1 q2
  refine ⟨fun vs hh => ∃ (i : Nat) (F : Nat → Prop) (s : DK), vs = [vi i] ∧ i ≤ n ∧ s.wf 4 ∧ Up s ∧ s.wait.length ≤ i ∧ OneD h hh F g s, fun vs hh => n - (vint vs 0).toNat, ⟨0, F10, s10, rfl, Nat.zero_le _, W10, U10, by omega, T10⟩, ?_⟩
  rintro vs hh ⟨i, F, s, rfl, hi, W, U, hw, T⟩
  refine ⟨i, rfl, fun e => ?_, fun e => ?_⟩
  · have hlt : i < n := by have := of_decide_eq_true e; omega
    have hlt2 : i < l.length := by omega
    have hx : l[i]? = some l[i] := List.getElem?_eq_getElem hlt2
    obtain ⟨b, o, ha, hr⟩ := (S.le T.le).get encA_len (by decide) hx
    generalize l[i] = y at *
    refine ⟨b, o, ⟨ha, by omega, by omega⟩, _, Hp.row_cell hr (i := 1) rfl, b, o, ⟨ha, by omega, by omega⟩, _, Hp.row_cell hr (i := 2) rfl, disk_Write_ok T.p W (by omega) fun h44 F44 D44 M44 => ⟨_, rfl, _, isW (by unfold InR; omega), ⟨i + 1, F44, _, rfl, by omega, dWrite_wf W _ _, dWrite_Up U _ _, Nat.le_trans (dWrite_wait _ _ _) (by omega), T.step D44 M44⟩, by simp [vint]; omega⟩⟩
  refine disk_Flush_ok T.p W fun h49 F49 D49 M49 => ?_
  have T49 := T.step D49 M49
  have W49 := dFlush_wf W
  rw [dFlush_up U] at T49 W49 ⊢
  refine ⟨_, rfl, fun e => (by cases e), fun _ => ?_⟩
  have U49 : Up { s with kept := s.now, wait := [] } := U
  have kn : ({ s with kept := s.now, wait := [] } : DK).kept = ({ s with kept := s.now, wait := [] } : DK).now := rfl
  have wt : ({ s with kept := s.now, wait := [] } : DK).wait = [] := rfl
  clear e
  simp only [] at T49 W49
  generalize ({ s with kept := s.now, wait := [] } : DK) = s1 at *
  intro b52 hb52 h53
  have V0 : WantD h h53 F49 g s1 b52 [[], [], [], []] :=
    ⟨⟨Hp.le_set T49.le hb52 _, T49.n, T49.p.le (Hp.le_set (Hp.le_refl h49) hb52 _)⟩, Hp.none_of_le T49.le hb52, fun hf => T49.p.al b52 hf hb52, Hp.set_same _ _ _, rfl⟩
  clear_value h53
  refine ⟨fun vs hh => ∃ (i : Nat) (L : List (List UInt8)), vs = [vi i] ∧ i ≤ 4 ∧ L.take i = s1.now.take i ∧ WantD h hh F49 g s1 b52 L, fun vs hh => 4 - (vint vs 0).toNat, ⟨0, [[], [], [], []], rfl, by decide, rfl, V0⟩, ?_⟩
  rintro vs hh2 ⟨i, L, rfl, hi, hL, V⟩
  refine ⟨i, rfl, fun e => ?_, fun e => ?_⟩
  · have hlt : i < 4 := by have := of_decide_eq_true e; omega
    have r := dRead_up U49 (i := i) (by omega) (by rw [W49.w]; omega)
    refine disk_Read_ok V.o.p ?_
    rw [r]
    refine ⟨_, _, rfl, fun e => (by cases e), fun _ => ⟨⟨by omega, by omega⟩, ?_⟩⟩
    rw [Int.toNat_natCast]
    refine V.put hlt fun h67 V67 => ⟨_, isW (by unfold InR; omega), ⟨i + 1, _, rfl, by omega, ?_, V67⟩, by simp [vint]; omega⟩
    have l1 : i < s1.now.length := by rw [W49.w]; omega
    have l2 : i < L.length := by rw [V.len]; omega
    rw [List.take_succ_eq_append_getElem (by rw [List.length_set]; exact l2), List.take_succ_eq_append_getElem l1, List.take_set_of_le (Nat.le_refl _), hL, List.getElem_set_self, List.getD_eq_getElem?_getD, List.getElem?_eq_getElem l1]
    rfl
  have hge : i = 4 := by have := of_decide_eq_false e; omega
  subst hge
  have eL : L = s1.now := by
    rw [List.take_of_length_le (by rw [V.len]; omega), List.take_of_length_le (by rw [W49.w]; omega)] at hL
    exact hL
  clear hL e
  intro J116
  have hJ : ∀ (h' : Hp) (F : Nat → Prop) (t : DK), t.wf 4 → t.wait.length ≤ 64 → WantD h h' F g t b52 (dKeep k 0 t.wait t.kept) → J116 h' := by
    intro h' F' t W' w' V'
    refine disk_Restart_ok V'.o.p W' (by omega) hk fun h119 F119 D119 M119 => ⟨rfl, ?_⟩
    have V119 := V'.step D119 M119
    have U119 : Up (dRestart t k) := ⟨rfl, rfl⟩
    have W119 := dRestart_wf W' k
    have en : (dRestart t k).now = dKeep k 0 t.wait t.kept := rfl
    rw [← en] at V119
    generalize dRestart t k = s2 at *
    refine ⟨fun vs hh => hh = h119 ∧ ∃ i : Nat, vs = [vi i] ∧ i ≤ 4, fun vs hh => 4 - (vint vs 0).toNat, ⟨rfl, 0, rfl, by decide⟩, ?_⟩
    rintro vs h124 ⟨rfl, i, rfl, hi⟩
    refine ⟨i, rfl, fun e => ?_, fun e => ⟨rfl, V119.o.le⟩⟩
    have hlt : i < 4 := by have := of_decide_eq_true e; omega
    refine disk_Read_ok V119.o.p ?_
    rw [dRead_up U119 (i := i) (by omega) (by rw [W119.w]; omega)]
    refine ⟨_, _, rfl, fun _ => ⟨by omega, by omega⟩, _, fun _ => V119.at hlt, _, fun _ => rd_neBs, fun e => ?_, fun _ => ⟨_, isW (by unfold InR; omega), ⟨rfl, i + 1, rfl, by omega⟩, by simp [vint]; omega⟩⟩
    simp [errV] at e
  clear_value J116
  have V1 : WantD h hh2 F49 g s1 b52 (dKeep k 0 s1.wait s1.kept) := by rw [wt, kn, ← eL]; exact V
  have w1 : s1.wait.length = 0 := by rw [wt]; rfl
  refine ⟨fun vs hh => ∃ (i : Nat) (F : Nat → Prop) (t : DK), vs = [vi t.wait.length, vi i] ∧ i ≤ n2 ∧ t.wait.length ≤ i ∧ t.wf 4 ∧ Up t ∧ WantD h hh F g t b52 (dKeep k 0 t.wait t.kept), fun vs hh => n2 - (vint vs 1).toNat,
    ⟨0, F49, s1, by rw [w1]; rfl, Nat.zero_le _, by omega, W49, U49, V1⟩, ?_⟩
  rintro vs h74 ⟨i, F', t, rfl, hi, hwi, W', U', V'⟩
  refine ⟨t.wait.length, i, rfl, fun e => ?_, fun e => hJ _ F' t W' (by omega) V'⟩
  have hlt : i < n2 := by have := of_decide_eq_true e; omega
  have hlt2 : i < more.length := by omega
  intro J110
  have hJ2 : ∀ (h' : Hp) (F : Nat → Prop) (u : DK), u.wait.length ≤ i + 1 → u.wf 4 → Up u → WantD h h' F g u b52 (dKeep k 0 u.wait u.kept) → J110 u.wait.length h' := by
    intro h' F u w u1 u2 u3
    exact ⟨_, isW (by unfold InR; omega), ⟨i + 1, F, u, rfl, by omega, w, u1, u2, u3⟩, by simp [vint]; omega⟩
  clear_value J110
  have hx : more[i]? = some more[i] := List.getElem?_eq_getElem hlt2
  have S3 := S2.le V'.o.le
  obtain ⟨b, o, ha, hr⟩ := S3.get encA_len (by decide) hx
  generalize more[i] = y at *
  obtain ⟨yk, yi, yt, ym⟩ := y
  refine ⟨b, o, ⟨ha, by omega, by omega⟩, _, Hp.row_cell hr (i := 1) rfl, b, o, ⟨ha, by omega, by omega⟩, _, Hp.row_cell hr (i := 2) rfl, disk_Write_ok V'.o.p W' (by omega) fun h86 F86 D86 M86 => ?_⟩
  have V86 := V'.step D86 M86
  have W86 := dWrite_wf W' yi yt
  have U86 := dWrite_Up U' yi yt
  have hr86 : Hp.row h86 b (o + i * 4) 4 = some (encA (yk, yi, yt, ym)) := by
    have S4 := S2.le V86.o.le
    obtain ⟨b', o', ha', hr'⟩ := S4.get encA_len (by decide) hx
    rw [ha] at ha'
    cases ha'
    exact hr'
  by_cases hno : yi < 0 ∨ yi ≥ t.now.length ∨ yt.length > 256
  · rw [dWrite_no hno] at V86 ⊢
    exact ⟨_, rfl, fun _ => hJ2 _ _ t (by omega) W' U' V86, fun e => (by cases e)⟩
  rw [dWrite_up U' hno] at V86 W86 U86 ⊢
  simp only [] at V86 W86 U86
  refine ⟨_, rfl, fun e => (by cases e), fun _ => ⟨_, rd_shrI (j := t.wait.length) (by omega) hk.1, ?_⟩⟩
  have k0 : 0 ≤ k / 2 ^ t.wait.length := Int.ediv_nonneg hk.1 (Int.le_of_lt (Int.pow_pos (by decide)))
  have k1 : k / 2 ^ t.wait.length ≤ 18446744073709551615 := Int.le_trans (Int.ediv_le_self _ hk.1) hk.2
  refine ⟨_, rd_and1 k0 k1, ?_⟩
  intro J106
  have tw := W'.w
  have hyi : 0 ≤ yi ∧ yi < 4 := by omega
  have eD := dKeep_snoc k t.wait 0 (yi, fullB yt) t.kept
  rw [Nat.zero_add, bitOf_eq (by omega : t.wait.length < 64)] at eD
  have hJ3 : ∀ h', WantD h h' F86 g { t with now := t.now.set yi.toNat (fullB yt), wait := t.wait ++ [(yi, fullB yt)] } b52 (dKeep k 0 (t.wait ++ [(yi, fullB yt)]) t.kept) → J106 h' := by
    intro h' V2
    refine ⟨_, isW (by unfold InR; omega), ?_⟩
    have := hJ2 h' F86 { t with now := t.now.set yi.toNat (fullB yt), wait := t.wait ++ [(yi, fullB yt)] } (by simp; omega) W86 U86 V2
    simpa using this
  clear_value J106
  refine ⟨fun e2 => ?_, fun e2 => ?_⟩
  · rw [e2, if_pos rfl] at eD
    refine ⟨b, o, ⟨ha, by omega, by omega⟩, _, Hp.row_cell hr86 (i := 1) rfl, disk_Read_ok V86.o.p ?_⟩
    rw [dRead_up U86 (i := yi) hyi.1 (by simp only [List.length_set]; omega)]
    refine ⟨_, _, rfl, fun e => (by cases e), fun _ => ⟨b, o, ⟨ha, by omega, by omega⟩, _, Hp.row_cell hr86 (i := 1) rfl, hyi, ?_⟩⟩
    have eq : (t.now.set yi.toNat (fullB yt)).getD yi.toNat [] = fullB yt := by
      rw [List.getD_eq_getElem?_getD, List.getElem?_set_self (by omega)]; rfl
    simp only [eq]
    refine V86.put (by omega) fun h103 V103 => hJ3 h103 ?_
    rw [eD]
    exact V103
  · rw [e2, if_neg (by decide)] at eD
    refine hJ3 h86 ?_
    rw [eD]
    exact V86
end Go.Proofs.Ytdkgmpchcahajaa
