/-
  What the law DiskSays gives, for every argument: true; nothing of what was there has turned. Conditions: none.
-/
import Derived.Test.YtdkgmpchcahajaaCRDsk
import Derived.Test.YtdkgmpchcahajaaCLAct
import Derived.Test.YtdkgmpchcahajaaCSame
import Derived.Test.YtdkgmpchcahajaaVcU
import Derived.Test.YtdkgmpchcahajaaFaDsk
namespace Go.Proofs.Ytdkgmpchcahajaa
open Go Go.Vc
set_option linter.unusedVariables false
set_option maxRecDepth 100000

theorem law_spins_ok {h : Hp} {R : Value → Hp → Prop} (hK : ∀ h', h.le h' → R (vb true) h') : CallOK Try.prog 36 [] h R := by
  refine ok_law_spins ?_
  unfold VC_law_spins
  refine disk_New_ok (n := 3) (fun e => absurd (by decide) e) fun _ _ g h2 F l2 nF D2 => ⟨_, _, rfl, _, fun _ => rd_eqNilP (e := 167) (by kernel_rfl), fun e => (by cases e), fun _ => ?_⟩
  have W0 : (newDK (3 : Int).toNat).wf 3 := newDK_wf (by decide) (by decide)
  refine disk_Write_ok D2 W0 (by decide) (d := [120, 121]) fun h8 F8 D8 M8 => ⟨_, rfl, ?_⟩
  have W8 := dWrite_wf W0 1 [120, 121]
  refine disk_Flush_ok D8 W8 fun h11 F11 D11 M11 => ⟨_, rfl, ?_⟩
  have W11 := dFlush_wf W8
  have wl : (dFlush (dWrite (newDK (3 : Int).toNat) 1 [120, 121]).1).1.wait.length ≤ 1000000 := by
    have h1 := dFlush_wait (dWrite (newDK (3 : Int).toNat) 1 [120, 121]).1
    have h2 := dWrite_wait (newDK (3 : Int).toNat) 1 [120, 121]
    have h3 : (newDK (3 : Int).toNat).wait.length = 0 := rfl
    omega
  refine disk_Restart_ok D11 W11 wl (by decide) fun h14 F14 D14 M14 => ⟨rfl, ?_⟩
  have W14 := dRestart_wf W11 0
  refine disk_Read_ok D14 ⟨_, _, rfl, ?_⟩
  have e1 : (dWrite (newDK (3 : Int).toNat) 1 [120, 121]).2 = 0 := by decide +kernel
  have e2 : (dFlush (dWrite (newDK (3 : Int).toNat) 1 [120, 121]).1).2 = 0 := by decide +kernel
  have e3 : dRead (dRestart (dFlush (dWrite (newDK (3 : Int).toNat) 1 [120, 121]).1).1 0) 1 = (fullB [120, 121], 0) := by decide +kernel
  rw [e1, e2, e3]
  have M := M8.trans (M11.trans M14)
  obtain ⟨l14, f14⟩ := M.old l2 nF
  refine law_same_ok (f := 0) (by decide) ⟨true, rfl, fun x h' => h' = h14 ∧ x = .t (.one (.v (vb true))), fun _ => law_same_ok (f := 0) (by decide) ⟨true, rfl, rfl, rfl⟩, fun e => absurd rfl e, ?_⟩
  rintro h26 p27 ⟨rfl, e⟩
  cases e
  refine ⟨fun x h' => h' = h26 ∧ x = .t (.one (.v (vb true))), fun _ => law_same_ok (f := 0) (by decide) ⟨true, rfl, rfl, rfl⟩, fun e => absurd rfl e, ?_⟩
  rintro h32 p33 ⟨rfl, e⟩
  cases e
  refine ⟨_, fun _ => rd_cutH (l := fullB [120, 121]) (j := 2) (by kernel_rfl) (by decide) (by rw [show (fullB [120, 121]).length = 256 by decide +kernel]; decide), _, fun _ => rd_eqBs (b := [120, 121]), ?_⟩
  simp only []
  rw [bs_size, show (fullB [120, 121]).length = 256 by decide +kernel, show (fullB [120, 121]).take (2 : Int).toNat = [120, 121] by decide +kernel]
  refine ⟨fun x h' => h' = h32 ∧ x = .t (.one (.v (vi 3))), fun _ => disk_Sectors_ok D14 ⟨_, rfl, rfl, by rw [W14.w]; rfl⟩, fun e => absurd (by decide) e, ?_⟩
  rintro h40 x41 ⟨rfl, e⟩
  cases e
  exact hK _ l14

/-- Both disks, each at its own. -/
structure TwoD (h0 h : Hp) (F1 F2 : Nat → Prop) (g1 g2 : Nat) (s1 s2 : DK) : Prop where
  le : h0.le h
  n1 : ∀ b, F1 b → h0 b = none
  n2 : ∀ b, F2 b → h0 b = none
  d : ∀ b, F1 b → ¬ F2 b
  p : PD h F1 g1 s1
  r : RD h F2 g2 s2
theorem TwoD.left {h0 h h' : Hp} {F1 F2 F' : Nat → Prop} {g1 g2 : Nat} {s1 s2 t : DK} (T : TwoD h0 h F1 F2 g1 g2 s1 s2) (D : PD h' F' g1 t) (M : Mut F1 h F' h') : TwoD h0 h' F' F2 g1 g2 t s2 := by
  obtain ⟨l, nn⟩ := M.old T.le T.n1
  obtain ⟨k, d⟩ := M.apart T.r.al T.d
  exact ⟨l, nn, T.n2, d, D, T.r.keep k⟩
theorem TwoD.right {h0 h h' : Hp} {F1 F2 F' : Nat → Prop} {g1 g2 : Nat} {s1 s2 t : DK} (T : TwoD h0 h F1 F2 g1 g2 s1 s2) (D : RD h' F' g2 t) (M : Mut F2 h F' h') : TwoD h0 h' F1 F' g1 g2 s1 t := by
  obtain ⟨l, nn⟩ := M.old T.le T.n2
  obtain ⟨k, d⟩ := M.apart T.p.al (fun b hb hb' => T.d b hb' hb)
  exact ⟨l, T.n1, nn, fun b hb hb' => d b hb' hb, T.p.keep k, D⟩

theorem law_DiskSays_ok {m : Int} {a : Option Addr} {n c : Nat} {l : List ActL} {h : Hp} (S : SlP encA h a n l) (hg : ∀ y ∈ l, goodA y) : CallOK Try.prog 6 [vi m, vsl a n c] h fun v h' => v = vb true ∧ h.le h' := by
  refine ok_law_DiskSays ?_
  unfold VC_law_DiskSays
  refine law_spins_ok fun h2 l2 => ⟨true, rfl, fun x h' => h' = h2 ∧ x = .t (.one (.v (vb (lightA l 80)))), fun _ => law_LightActs_ok (S.le l2) (by decide) ⟨_, rfl, rfl, rfl⟩, fun e => absurd rfl e, ?_⟩
  rintro h8 p9 ⟨rfl, e⟩
  cases e
  refine ⟨fun _ => ⟨rfl, l2⟩, fun e => ?_⟩
  have hlight : lightA l 80 = true := by cases hq : lightA l 80 <;> simp_all
  have hlen : l.length ≤ 80 := by have := of_decide_eq_true hlight; omega
  have hn := S.1
  refine disk_New_ok (fun hm => ?_) fun hm1 hm2 g1 h12 F1 l12 nF1 D1 => ?_
  · refine ⟨_, _, rfl, R_NewDisk_ok (fun _ => ⟨_, _, rfl, fun _ => ?_, fun e => (by cases e)⟩) fun q1 q2 => absurd ⟨q1, q2⟩ hm⟩
    exact law_same_ok (f := 1) (by decide) ⟨true, rfl, _, fun _ => rd_eqNilP (e := 167) (by kernel_rfl), rfl, l2⟩
  refine ⟨_, _, rfl, R_NewDisk_ok (fun q => absurd ⟨hm1, hm2⟩ q) fun _ _ g2 h16 F2 l16 nF2 D2 => ⟨_, _, rfl, fun e => (by cases e), fun _ => ⟨_, fun _ => rd_eqNilP (e := 167) (by kernel_rfl), ?_⟩⟩⟩
  have W0 : (newDK m.toNat).wf m.toNat := newDK_wf (by omega) (by omega)
  have T0 : TwoD h8 h16 F1 F2 g1 g2 (newDK m.toNat) (newDK m.toNat) :=
    ⟨Hp.le_trans l12 l16, nF1, fun b hb => Hp.none_of_le l12 (nF2 b hb), fun b hb hb' => D1.al b hb (nF2 b hb'), D1.le l16, D2⟩
  refine ⟨fun x h' => h' = h16 ∧ x = .t (.one (.v (vi m))), fun _ => disk_Sectors_ok T0.p ⟨_, rfl, rfl, by rw [W0.w, show ((m.toNat : Nat) : Int) = m by omega]⟩, fun e => absurd rfl e, ?_⟩
  rintro h29 x30 ⟨rfl, e⟩
  cases e
  refine ⟨fun e => by simp at e, fun _ => ?_⟩
  refine ⟨fun vs hh => ∃ (i : Nat) (F1 F2 : Nat → Prop) (s : DK), vs = [vi i] ∧ i ≤ n ∧ s.wf m.toNat ∧ s.wait.length ≤ i ∧ TwoD h8 hh F1 F2 g1 g2 s s, fun vs hh => n - (vint vs 0).toNat, ⟨0, F1, F2, _, rfl, Nat.zero_le _, W0, by simp [newDK], T0⟩, ?_⟩
  rintro vs hh ⟨i, F1', F2', s, rfl, hi, W, hw, T⟩
  refine ⟨i, rfl, fun e => ?_, fun e => ?_⟩
  · have hlt : i < n := by have := of_decide_eq_true e; omega
    have hlt2 : i < l.length := by omega
    have hx : l[i]? = some l[i] := List.getElem?_eq_getElem hlt2
    have gy := hg l[i] (List.getElem_mem hlt2)
    obtain ⟨bb, o, ha, hr⟩ := ((S.le l2).le T.le).get encA_len (by decide) hx
    generalize l[i] = y at *
    obtain ⟨yk, yi, yt, ym⟩ := y
    obtain ⟨gi, gm⟩ := gy
    refine ⟨bb, o, ⟨ha, by omega, by omega⟩, _, _, _, _, hr, ?_⟩
    intro J98
    have hJ : ∀ (h' : Hp) (F1 F2 : Nat → Prop) (t : DK), t.wf m.toNat → t.wait.length ≤ i + 1 → TwoD h8 h' F1 F2 g1 g2 t t → J98 true h' := by
      intro h' G1 G2 t W2 hw2 T2
      refine ⟨g2, 0, fun _ => rfl, t.down, fun _ => T2.r.c4, fun x h'' => h'' = h' ∧ x = .t (.one (.v (vb t.down))), fun _ => disk_Down_ok T2.p ⟨_, rfl, rfl, rfl⟩, fun e => absurd rfl e, ?_⟩
      rintro h109 p110 ⟨rfl, e⟩
      cases e
      refine ⟨fun _ => T2.r.c4, _, fun _ => rd_neB (by kernel_rfl), fun e => by simp at e, fun _ => ⟨_, isW (by unfold InR; omega), ⟨i + 1, G1, G2, t, rfl, by omega, W2, hw2, T2⟩, by simp [vint]; omega⟩⟩
    clear_value J98
    refine ⟨_, rd_eqBs (b := [119, 114, 105, 116, 101]), fun _ => ?_, fun _ => ⟨_, rd_eqBs (b := [114, 101, 97, 100]), fun _ => ?_, fun _ => ⟨_, rd_eqBs (b := [102, 108, 117, 115, 104]), fun _ => ?_, fun _ => ⟨_, rd_eqBs (b := [97, 114, 109]), fun _ => ?_, fun _ => ?_⟩⟩⟩⟩
    · refine disk_Write_ok T.p W (by omega) fun h48 F48 D48 M48 => ⟨_, rfl, ?_⟩
      have T48 := T.left D48 M48
      refine R_Write_ok T48.r W (by omega) fun h51 F51 D51 M51 => ⟨_, rfl, ?_⟩
      have T51 := T48.right D51 M51
      refine law_same_ok (dWrite_2 _ _ _) ⟨_, rfl, ?_⟩
      rw [decide_eq_true rfl]
      exact hJ _ _ _ _ (dWrite_wf W _ _) (Nat.le_trans (dWrite_wait s yi yt) (by omega)) T51
    · refine disk_Read_ok T.p ⟨_, _, rfl, R_Read_ok T.r ⟨_, _, rfl, _, rd_eqBs, ?_⟩⟩
      rw [decide_eq_true rfl]
      refine ⟨fun x h' => h' = hh ∧ x = .t (.one (.v (vb true))), fun _ => law_same_ok (dRead_2 _ _) ⟨_, rfl, rfl, by rw [decide_eq_true rfl]⟩, fun e => absurd rfl e, ?_⟩
      rintro h71 p72 ⟨rfl, e⟩
      cases e
      exact hJ _ _ _ _ W (by omega) T
    · refine disk_Flush_ok T.p W fun h48 F48 D48 M48 => ⟨_, rfl, ?_⟩
      have T48 := T.left D48 M48
      refine R_Flush_ok T48.r W fun h51 F51 D51 M51 => ⟨_, rfl, ?_⟩
      have T51 := T48.right D51 M51
      refine law_same_ok (dFlush_2 _) ⟨_, rfl, ?_⟩
      rw [decide_eq_true rfl]
      exact hJ _ _ _ _ (dFlush_wf W) (Nat.le_trans (dFlush_wait s) (by omega)) T51
    · refine disk_Arm_ok T.p fun h87 F87 D87 M87 => ⟨rfl, _, rd_max, g2, 0, rfl, ?_⟩
      have T87 := T.left D87 M87
      refine T87.r.v3 fun h91 F91 D91 M91 => ?_
      exact hJ _ _ _ _ (dArm_wf W gi) (by simp only; omega) (T87.right D91 M91)
    · refine disk_Restart_ok T.p W (by omega) gm fun h94 F94 D94 M94 => ⟨rfl, ?_⟩
      have T94 := T.left D94 M94
      refine R_Restart_ok T94.r W (by omega) gm fun h96 F96 D96 M96 => ⟨rfl, ?_⟩
      exact hJ _ _ _ _ (dRestart_wf W ym) (by simp [dRestart]) (T94.right D96 M96)
  · refine ⟨fun vs h' => h' = hh ∧ ∃ i : Int, vs = [vi i] ∧ -1 ≤ i ∧ i ≤ m + 1, fun vs hh => (m + 1 - vint vs 0).toNat, ⟨rfl, -1, rfl, by omega, by omega⟩, ?_⟩
    rintro vs h118 ⟨rfl, j, rfl, hj1, hj2⟩
    refine ⟨j, rfl, fun e => ?_, fun _ => ⟨rfl, Hp.le_trans l2 T.le⟩⟩
    have hj3 : j ≤ m := of_decide_eq_true e
    refine disk_Read_ok T.p ⟨_, _, rfl, R_Read_ok T.r ⟨_, _, rfl, _, rd_neBs, ?_⟩⟩
    rw [decide_eq_true rfl]
    refine ⟨fun x h' => h' = h118 ∧ x = .t (.one (.v (vb true))), fun _ => law_same_ok (dRead_2 _ _) ⟨_, rfl, rfl, by rw [decide_eq_true rfl]⟩, fun e => absurd rfl e, ?_⟩
    rintro h135 p136 ⟨rfl, e⟩
    cases e
    refine ⟨fun e => by simp at e, fun _ => ⟨_, isW (by unfold InR; omega), ⟨rfl, j + 1, rfl, by omega, by omega⟩, by simp [vint]; omega⟩⟩
end Go.Proofs.Ytdkgmpchcahajaa
