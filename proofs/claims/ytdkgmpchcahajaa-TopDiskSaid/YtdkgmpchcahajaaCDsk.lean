/-
  Contracts: package disk. Conditions: those stated at each (that the disk may be; how many wait).
-/
import Derived.Test.YtdkgmpchcahajaaFDsk
import Derived.Test.YtdkgmpchcahajaaCDsk0
import Derived.Test.YtdkgmpchcahajaaCErr
namespace Go.Proofs.Ytdkgmpchcahajaa
open Go Go.Vc
set_option linter.unusedVariables false
set_option maxRecDepth 100000

theorem elU8 : ElT Try.prog 198 5 1 1 := .of (by kernel_rfl) (by kernel_rfl) (by decide)
theorem elStr : ElT Try.prog 51 9 1 16 := .of (by kernel_rfl) (by kernel_rfl) (by decide)
theorem elTurn : ElT Try.prog 165 170 2 24 := .of (by kernel_rfl) (by kernel_rfl) (by decide)
abbrev PD := DskAt 167 170
theorem errV_pos {f : Int} (h : f ≠ 0) : errV f = some (154, vi f) := by unfold errV; rw [if_neg h]
def noughtsB (n : Nat) : List UInt8 := List.replicate n 0
theorem row_noughts (h : Hp) (b m : Nat) (t : TypeId) : (h.set b (cellsO ((List.replicate m [vk .u8 0]).flatten) t)).row b 0 (noughtsB m).length = some ((noughtsB m).map fun x => vk .u8 (x.toNat : Nat)) := by
  rw [noughts_row]
  have := row_new h b ((List.replicate m (0 : UInt8)).map fun x => vk .u8 (x.toNat : Nat)) t
  rw [List.length_map] at this
  exact this
theorem disk_full_ok {l : List UInt8} {h : Hp} {R : Value → Hp → Prop} (hl : l.length ≤ 256) (hK : ∀ h', h.le h' → R (vs (bs (fullB l))) h') : CallOK Try.prog 87 [vs (bs l)] h R := by
  refine ok_disk_full ?_
  unfold VC_disk_full
  rw [bs_size]
  have e : (256 : Int) - (l.length : Nat) = ((256 - l.length : Nat) : Int) := by omega
  refine ⟨_, isW (by unfold InR; omega), ?_⟩
  rw [e]
  refine sem_make elU8 (z := [vk .u8 0]) (by kernel_rfl) (by omega) (by omega) fun b hb => ⟨_, _, _, rfl, _, ?_, _, rd_cat (m := noughtsB (256 - l.length)) (by simp [noughtsB, maxLen]; omega), ?_⟩
  · have := rd_toStr (P := Try.prog) (h := h.set b (cellsO ((List.replicate (256 - l.length) [vk .u8 0]).flatten) 5)) (src := 198) (dst := 9) (e := 5) (by kernel_rfl) (by kernel_rfl) (by kernel_rfl) (c := 256 - l.length) (row_noughts h b (256 - l.length) _)
    rw [show (noughtsB (256 - l.length)).length = 256 - l.length by simp [noughtsB]] at this
    exact this
  · exact hK _ (Hp.le_set (Hp.le_refl h) hb _)
theorem bits_Mul_ok {x y : Nat} (hx : x < 4294967296) (hy : y < 4294967296) (hxy : x * y < 4294967296) {h : Hp} {R : Value → Hp → Prop} (hK : R (vtup [vk .u64 0, vk .u64 (x * y : Nat)]) h) : CallOK Try.prog 116 [vk .u64 x, vk .u64 y] h R := by
  refine ok_math_bits_Mul ?_
  unfold VC_math_bits_Mul
  refine ⟨fun e => (by cases e), fun _ => ok_math_bits_Mul64 ?_⟩
  unfold VC_math_bits_Mul64
  refine ⟨_, rd_mask32 hx, _, rd_shr32 hx, _, rd_mask32 hy, _, rd_shr32 hy, _, rd_mul64 hxy, _, rd_mul64 (a := 0) (b := y) (by omega), _, rd_shr32 hxy, _, rd_add64 (a := 0 * y) (b := 0) (by omega), _, rd_mask32 (a := 0 * y + 0) (by omega), _, rd_shr32 (a := 0 * y + 0) (by omega), _, rd_mul64 (a := x) (b := 0) (by omega),
    _, rd_add64 (a := 0 * y + 0) (b := x * 0) (by omega), _, rd_mul64 (a := 0) (b := 0) (by omega), _, rd_add64 (a := 0 * 0) (b := 0) (by omega), _, rd_shr32 (a := 0 * y + 0 + x * 0) (by omega), _, rd_add64 (a := 0 * 0 + 0) (b := 0) (by omega), _, rd_mul64 hxy, _, _, rfl, ?_⟩
  simpa using hK
theorem slices_Repeat_ok {w : List UInt8} {n c : Nat} {a : Option Addr} {h : Hp} {R : Value → Hp → Prop} (hn : 1 ≤ n) (hn2 : n ≤ 1000) (S : SlB h a 1 [w])
    (hK : ∀ a' h', Own h h' 9 1 a' n n ((List.replicate n w).flatMap encB) → R (vsl a' n n) h') : CallOK Try.prog 86 [vsl a 1 c, vi n] h R := by
  refine ok_slices_Repeat_string_string ?_
  unfold VC_slices_Repeat_string_string
  have w1 : IntKind.wrap .u64 ((1 : Nat) : Int) = ((1 : Nat) : Int) := by decide
  have w2 : IntKind.wrap .u64 (n : Int) = (n : Nat) := by rw [IntKind.wrap_u64]; omega
  have w3 : IntKind.wrap .i64 ((1 * n : Nat) : Int) = (n : Nat) := by rw [IntKind.wrap_i64]; omega
  rw [w1, w2]
  refine ⟨fun e => by have := of_decide_eq_true e; omega, fun _ => bits_Mul_ok (x := 1) (y := n) (by omega) (by omega) (by omega) ⟨_, _, rfl, fun e => ?_, fun _ => ?_⟩⟩
  · simp [Bool.cond_eq_ite] at e; omega
  rw [w3]
  refine sem_make elStr (z := [vs ⟨#[]⟩]) (by kernel_rfl) (by omega) (by omega) fun b hb => ⟨_, _, _, rfl, ?_⟩
  generalize hL0 : (List.replicate n [vs ⟨#[]⟩]).flatten = L0
  have hL0l : L0.length = n := by rw [← hL0]; simp
  have oneW : ∀ m, ∀ u ∈ List.replicate m (vs (bs w)), u.oneCell' = true := by
    intro m u hu
    rw [List.mem_replicate] at hu
    rw [hu.2]; rfl
  have S1 := S.le (Hp.le_set (Hp.le_refl h) hb (cellsO L0 9))
  refine sem_copyG (e := 9) (by kernel_rfl) (by kernel_rfl) (L := L0) (ys := [vs (bs w)]) (Hp.set_same _ _ _) S1.2 (by rw [List.length_singleton]; omega) (by rw [List.length_singleton]; omega) (oneW 1) (by simp) ⟨_, rfl, ?_⟩
  rw [Hp.set_set]
  refine ⟨fun vs' hh => ∃ (m : Nat) (L : List Value), vs' = [vi m] ∧ 1 ≤ m ∧ m ≤ n ∧ hh = h.set b (cellsO L 9) ∧ L.length = n ∧ L.take m = List.replicate m (vs (bs w)), fun vs' hh => n - (vint vs' 0).toNat, ⟨1, _, rfl, by omega, hn, rfl, ?_, ?_⟩, ?_⟩
  · rw [setL_length _ _ _ (by simp; omega)]; exact hL0l
  · unfold setL; simp
  rintro vs' hh ⟨m, L, rfl, hm1, hmn, rfl, hLl, hLt⟩
  refine ⟨m, rfl, fun e => ?_, fun e => ?_⟩
  · have hlt : m < n := by have := of_decide_eq_true e; omega
    refine ⟨_, _, _, rd_slice_l (e := 9) (by kernel_rfl) (by kernel_rfl) (by omega) (by omega), _, _, _, rd_slice_h (e := 9) (by kernel_rfl) (by kernel_rfl) (by omega) (by omega), ?_⟩
    rw [Int.toNat_natCast]
    have hcut : cutA (some ⟨b, 0, none⟩) m n (szT Try.prog 9) = some ⟨b, m, none⟩ := by
      have e1 : szT Try.prog 9 = 1 := by kernel_rfl
      unfold cutA
      rw [if_neg (by omega), e1, Option.map_some, addr_add]
      simp
    rw [hcut]
    have hrow : HasRow (h.set b (cellsO L 9)) (some ⟨b, 0, none⟩) (List.replicate (min m (n - m)) (vs (bs w))) := by
      refine .inr ⟨b, 0, rfl, ?_⟩
      rw [row_cells' (Hp.set_same _ _ _) (by rw [List.length_replicate]; omega), List.drop_zero, List.length_replicate]
      have : L.take (min m (n - m)) = (L.take m).take (min m (n - m)) := by rw [List.take_take]; congr 1; omega
      rw [this, hLt, List.take_replicate]
      congr 2
      omega
    refine sem_copyG (e := 9) (by kernel_rfl) (by kernel_rfl) (L := L) (Hp.set_same _ _ _) hrow (by rw [List.length_replicate]) (by rw [List.length_replicate]; omega) (oneW _) (by rw [ne_eq, List.replicate_eq_nil_iff]; omega) ⟨_, rfl, ?_⟩
    rw [List.length_replicate, Hp.set_set]
    have hk : 1 ≤ min m (n - m) ∧ m + min m (n - m) ≤ n := by omega
    refine ⟨_, isW (by unfold InR; omega), ⟨m + min m (n - m), _, by push_cast; rfl, by omega, hk.2, rfl, ?_, ?_⟩, by simp [vint]; omega⟩
    · rw [setL_length _ _ _ (by rw [List.length_replicate]; omega)]; exact hLl
    · unfold setL
      rw [hLt]
      have e1 : (List.replicate m (vs (bs w)) ++ List.replicate (min m (n - m)) (vs (bs w))).length = m + min m (n - m) := by simp
      rw [List.take_left' e1, List.replicate_append_replicate]
  · have hge : m = n := by have := of_decide_eq_false e; omega
    subst hge
    rw [List.take_of_length_le (by omega)] at hLt
    refine hK (some ⟨b, 0, none⟩) _ ?_
    have hfl : (List.replicate m w).flatMap encB = L := by rw [hLt, flatMap_encB, List.map_replicate]
    rw [hfl]
    exact Own.mk_new (Hp.le_refl h) hb _ _ (by omega) (by simp only [maxLen]; omega)
theorem cloneS_ok {a : Option Addr} {n c : Nat} {l : List (List UInt8)} {h : Hp} {R : Value → Hp → Prop} (S : SlB h a n l) (hn : n ≤ 1000000) (hK : ∀ a' c' h', Own h h' 9 1 a' n c' (l.flatMap encB) → R (vsl a' n c') h') :
    CallOK Try.prog 88 [vsl a n c] h R := by
  refine ok_slices_Clone_string_string ?_
  unfold VC_slices_Clone_string_string
  have hl := S.1
  have hfl : (l.flatMap encB).length = n * 1 := by rw [flatMap_length encB_len, ← hl]
  refine ⟨_, rd_eqNilS (e := 9) (by kernel_rfl), fun e => ?_, fun e => ?_⟩
  · have h0 : l.flatMap encB = [] := by
      rcases S.2 with h1 | ⟨b, o, ha, _⟩
      · exact h1
      · rw [ha] at e; cases e
    rw [h0] at hfl
    have hn0 : n = 0 := by simpa using hfl.symm
    subst hn0
    have := hK none 0 h (by rw [h0]; exact Own.nil (Hp.le_refl h) _ _)
    exact this
  · intro b3 hb3 h4
    have O0 : Own h h4 9 1 (some ⟨b3, 0, none⟩) 0 0 [] := Own.mk_new (Hp.le_refl h) hb3 _ [] rfl (by simp [maxLen])
    refine Own.append elStr O0 (S.le (Hp.le_set (Hp.le_refl h) hb3 _)).2 hfl (one_encB l) (by omega) (by omega) fun a' c' h' O' _ _ => ⟨_, _, _, rfl, ?_⟩
    rw [Nat.zero_add, List.nil_append] at *
    exact hK a' c' h' O'

def newDK (n : Nat) : DK := ⟨List.replicate n (noughtsB 256), List.replicate n (noughtsB 256), [], -1, false⟩
theorem newDK_wf {n : Nat} (h1 : 1 ≤ n) (h2 : n ≤ 160) : (newDK n).wf n := ⟨by simp [newDK], by simp [newDK], by simp [newDK], by simp [newDK], by simp [newDK], h1, h2⟩
theorem Rec_dk {T tT : TypeId} {h : Hp} {g : Nat} (hg : h g = none) {s : DK} {aK : Option Addr} {cK : Nat} {aN : Option Addr} {cN : Nat} (hw : s.wait = []) (OK : OwnS h 9 1 aK s.kept.length cK (s.kept.flatMap encB)) (ON : OwnS h 9 1 aN s.now.length cN (s.now.flatMap encB)) (hd : ∀ b, aK = some ⟨b, 0, none⟩ → aN ≠ some ⟨b, 0, none⟩) :
    Rec (h.set g (cellsO ((dkF tT aK cK aN cN none 0 s).map Fld.val) T)) g T (dkF tT aK cK aN cN none 0 s) := by
  have hW : OwnS h tT 2 none s.wait.length 0 (s.wait.flatMap encT) := by rw [hw]; exact OwnS.nil h tT 2
  refine Rec.new hg ?_ ?_
  · intro j f hf
    match j, hf with
    | 0, hf => cases hf; exact OK
    | 1, hf => cases hf; exact ON
    | 2, hf => cases hf; exact hW
    | 3, hf => cases hf; trivial
    | 4, hf => cases hf; trivial
  · intro j k f f' b hj hk hb hb'
    match j, hj with
    | 0, hj =>
      cases hj
      match k, hk with
      | 0, _ => rfl
      | 1, hk => cases hk; exact (hd b hb hb').elim
      | 2, hk => cases hk; cases hb'
      | 3, hk => cases hk; exact hb'.elim
      | 4, hk => cases hk; exact hb'.elim
    | 1, hj =>
      cases hj
      match k, hk with
      | 0, hk => cases hk; exact (hd b hb' hb).elim
      | 1, _ => rfl
      | 2, hk => cases hk; cases hb'
      | 3, hk => cases hk; exact hb'.elim
      | 4, hk => cases hk; exact hb'.elim
    | 2, hj => cases hj; cases hb
    | 3, hj => cases hj; exact hb.elim
    | 4, hj => cases hj; exact hb.elim
theorem dkF_new {tT : TypeId} {aK : Option Addr} {cK : Nat} {aN : Option Addr} {cN : Nat} {s : DK} {h : Hp} {g : Nat} (hg : h g = none) (hK : ∀ b, aK = some ⟨b, 0, none⟩ → h b = none) (hN : ∀ b, aN = some ⟨b, 0, none⟩ → h b = none) : ∀ b, ftR g (dkF tT aK cK aN cN none 0 s) b → h b = none := by
  rintro b (rfl | ⟨j, f, hf, hb⟩)
  · exact hg
  · match j, hf with
    | 0, hf => cases hf; exact hK b hb
    | 1, hf => cases hf; exact hN b hb
    | 2, hf => cases hf; cases hb
    | 3, hf => cases hf; exact hb.elim
    | 4, hf => cases hf; exact hb.elim
theorem disk_New_ok {n : Int} {h : Hp} {R : Value → Hp → Prop} (hK1 : ¬ (1 ≤ n ∧ n ≤ 160) → R (vtup [vp none, ifv (errV 1)]) h)
    (hK2 : 1 ≤ n → n ≤ 160 → ∀ g h' F', h.le h' → (∀ b, F' b → h b = none) → PD h' F' g (newDK n.toNat) → R (vtup [vhp g 0, ifv none]) h') : CallOK Try.prog 38 [vi n] h R := by
  refine ok_disk_New ?_
  unfold VC_disk_New
  refine ⟨fun e => hK1 (by simp [Bool.cond_eq_ite] at e; omega), fun e => ?_⟩
  have hn : 1 ≤ n ∧ n ≤ 160 := by simp [Bool.cond_eq_ite] at e; omega
  refine disk_full_ok (l := []) (by simp) fun h3 l3 => ⟨_, rfl, ?_⟩
  intro b5 hb5 h6
  have en : n = ((n.toNat : Nat) : Int) := by omega
  rw [en]
  refine slices_Repeat_ok (w := noughtsB 256) (by omega) (by omega) ⟨rfl, HasRow.new _ _ [vs (bs (noughtsB 256))] _⟩ fun a9 h8 O9 => ⟨_, _, _, rfl, ?_⟩
  have S9 : SlB h8 a9 n.toNat (List.replicate n.toNat (noughtsB 256)) := O9.slp encB_len (by decide)
  refine cloneS_ok S9 (by omega) fun a12 c12 h11 O12 => ⟨_, _, _, rfl, ?_⟩
  intro b13 hb13 h14
  have l6 : h.le h6 := Hp.le_set l3 hb5 _
  have l11 : h6.le h11 := Hp.le_trans O9.le O12.le
  have len : (newDK n.toNat).kept.length = n.toNat := by simp [newDK]
  have len2 : (newDK n.toNat).now.length = n.toNat := by simp [newDK]
  have RR := Rec_dk (T := 167) (tT := 170) (s := newDK n.toNat) (aK := a9) (cK := n.toNat) (aN := a12) (cN := c12) hb13 rfl (by rw [len]; exact O9.own.le O12.le) (by rw [len2]; exact O12.own) fun b hb hb' => by
    have h1 := O12.new b hb'
    exact absurd h1 (by
      rcases O9.own.2 with ⟨q, _⟩ | ⟨g', cur, q, q2, _⟩
      · rw [q] at hb; cases hb
      · rw [q] at hb; cases hb; rw [q2]; simp)
  refine hK2 hn.1 hn.2 b13 h14 _ (Hp.le_set (Hp.le_trans l6 l11) hb13 _) ?_ ⟨a9, n.toNat, a12, c12, none, 0, rfl, ?_⟩
  · exact dkF_new (Hp.none_of_le (Hp.le_trans l6 l11) hb13) (fun b hb => Hp.none_of_le l6 (O9.new b hb)) fun b hb => Hp.none_of_le (Hp.le_trans l6 O9.le) (O12.new b hb)
  · have e2 : (dkF 170 a9 n.toNat a12 c12 none 0 (newDK n.toNat)).map Fld.val = [vsl a9 n.toNat n.toNat, vsl a12 n.toNat c12, vsl none 0 0, vi (-1), vb false] := by simp [dkF, Fld.val, newDK]
    rw [e2] at RR
    exact RR
section
variable {h : Hp} {F : Nat → Prop} {g : Nat} {s : DK}
theorem disk_Sectors_ok (D : PD h F g s) {R : Value → Hp → Prop} (hK : R (vi s.now.length) h) : CallOK Try.prog 40 [vhp g 0] h R := by
  refine ok_disk_Disk_Sectors ?_
  unfold VC_disk_Disk_Sectors
  obtain ⟨a, c, h1, h2, h3⟩ := D.nowS
  exact ⟨_, _, _, h1, hK⟩
theorem disk_Down_ok (D : PD h F g s) {R : Value → Hp → Prop} (hK : R (vb s.down) h) : CallOK Try.prog 50 [vhp g 0] h R := by
  refine ok_disk_Disk_Down ?_
  unfold VC_disk_Disk_Down
  exact ⟨_, D.c4, hK⟩
theorem disk_Arm_ok (D : PD h F g s) {n : Int} {R : Value → Hp → Prop} (hK : ∀ h' F', PD h' F' g { s with fuse := max n (-1) } → Mut F h F' h' → R (vtup []) h') : CallOK Try.prog 47 [vhp g 0, vi n] h R := by
  refine ok_disk_Disk_Arm ?_
  unfold VC_disk_Disk_Arm
  exact ⟨_, rd_max, D.v3 hK⟩
theorem disk_step_ok (D : PD h F g s) (hf : -1 ≤ s.fuse ∧ s.fuse ≤ 9223372036854775807) {R : Value → Hp → Prop} (hK : ∀ h' F', PD h' F' g (dStep s).1 → Mut F h F' h' → R (ifv (errV (dStep s).2)) h') : CallOK Try.prog 90 [vhp g 0] h R := by
  refine ok_disk_Disk_step ?_
  unfold VC_disk_Disk_step
  refine ⟨_, D.c4, _, fun _ => D.c3, ?_⟩
  intro J7
  unfold dStep at hK
  cases hd : s.down with
  | true =>
    rw [hd, if_pos rfl] at hK
    refine ⟨fun e => (by cases e), fun _ => ⟨_, D.c4, fun _ => hK h F D ⟨fun b o _ ho => ho, fun b hb => .inl hb⟩, fun e => by rw [hd] at e; cases e⟩⟩
  | false =>
    rw [hd, if_neg (by simp)] at hK
    refine ⟨fun e => ?_, fun e => ?_⟩
    · have h0 : s.fuse = 0 := of_decide_eq_true e
      rw [if_pos h0] at hK
      refine D.v4 fun h3 F3 D3 M3 => D3.v3 fun h4 F4 D4 M4 => ⟨_, D4.c4, fun _ => hK h4 F4 D4 (M3.trans M4), fun e => (by cases e)⟩
    · have h0 : ¬ s.fuse = 0 := of_decide_eq_false e
      rw [if_neg h0] at hK
      refine ⟨_, D.c4, fun e => by (rw [hd] at e; cases e), fun _ => ⟨_, D.c3, _, isW (by unfold InR; omega), _, rd_max, D.v3 fun h' F' D' M' => hK h' F' (by rw [hd] at D'; exact D') M'⟩⟩
theorem disk_Read_ok (D : PD h F g s) {i : Int} {R : Value → Hp → Prop} (hK : R (vtup [vs (bs (dRead s i).1), ifv (errV (dRead s i).2)]) h) : CallOK Try.prog 43 [vhp g 0, vi i] h R := by
  refine ok_disk_Disk_Read ?_
  unfold VC_disk_Disk_Read
  unfold dRead at hK
  obtain ⟨a, c, h1, h2, h3⟩ := D.nowS
  refine ⟨_, D.c4, fun e => ?_, fun e => ⟨_, _, _, fun _ => h1, fun e2 => ?_, fun e2 => ?_⟩⟩
  · rw [if_pos e] at hK; exact hK
  · have : i < 0 ∨ i ≥ s.now.length := by simp [Bool.cond_eq_ite] at e2; omega
    rw [if_neg (by rw [e]; simp), if_pos this] at hK; exact hK
  · have : ¬ (i < 0 ∨ i ≥ s.now.length) := by simp [Bool.cond_eq_ite] at e2; omega
    rw [if_neg (by rw [e]; simp), if_neg this] at hK
    obtain ⟨b, o, ha, hc⟩ := h2.get1 (i := i.toNat) (by omega)
    exact ⟨_, _, _, h1, b, o, ⟨ha, by omega, by omega⟩, _, hc, hK⟩
theorem disk_Write_ok (D : PD h F g s) {n : Nat} (W : s.wf n) (hw : s.wait.length ≤ 1000000) {i : Int} {d : List UInt8} {R : Value → Hp → Prop} (hK : ∀ h' F', PD h' F' g (dWrite s i d).1 → Mut F h F' h' → R (ifv (errV (dWrite s i d).2)) h') :
    CallOK Try.prog 41 [vhp g 0, vi i, vs (bs d)] h R := by
  refine ok_disk_Disk_Write ?_
  unfold VC_disk_Disk_Write
  rw [bs_size]
  unfold dWrite at hK
  obtain ⟨a, c, h1, h2, h3⟩ := D.nowS
  refine ⟨_, _, _, fun _ => h1, fun e => ?_, fun e => ?_⟩
  · have : i < 0 ∨ i ≥ s.now.length ∨ d.length > 256 := by simp [Bool.cond_eq_ite] at e; omega
    rw [if_pos this] at hK
    exact hK h F D ⟨fun b o _ ho => ho, fun b hb => .inl hb⟩
  have hi : ¬ (i < 0 ∨ i ≥ s.now.length ∨ d.length > 256) := by simp [Bool.cond_eq_ite] at e; omega
  rw [if_neg hi] at hK
  refine disk_step_ok D ⟨W.f, W.f2⟩ fun h4 F4 D4 M4 => ⟨_, rfl, ?_⟩
  intro J26
  by_cases hs : (dStep s).2 = 0
  · rw [if_neg (by simpa using hs)] at hK
    have en : errV (dStep s).2 = none := by rw [hs]; rfl
    have J : ∀ h' F', PD h' F' g { (dStep s).1 with now := s.now.set i.toNat (fullB d), wait := s.wait ++ [(i, fullB d)] } → Mut F h F' h' → J26 h' := by
      intro h' F' D' M'
      show R (ifv (errV (dStep s).2)) h'
      rw [hs]
      exact hK h' F' D' M'
    have hnow : (dStep s).1.now = s.now := by unfold dStep; split <;> (try split) <;> rfl
    have hwait : (dStep s).1.wait = s.wait := by unfold dStep; split <;> (try split) <;> rfl
    refine ⟨fun _ => ?_, fun e => by rw [en] at e; cases e⟩
    obtain ⟨a4, c4, k1, k2, k3⟩ := D4.nowS
    refine ⟨_, _, _, k1, disk_full_ok (by omega) fun h8 l8 => ⟨_, rfl, ?_⟩⟩
    have D8 := D4.le l8
    obtain ⟨a8, c8, q1, q2, q3⟩ := D8.nowS
    have k1' := Hp.cell_le l8 k1
    rw [k1'] at q1
    simp only [Option.some.injEq, Value.slice.injEq, true_and] at q1
    obtain ⟨rfl, rfl⟩ := q1
    rw [hnow] at k1' q2 q3
    obtain ⟨b, o, ha, _⟩ := q2.get1 (i := i.toNat) (by omega)
    rw [hnow]
    refine ⟨k1', b, o, ⟨ha, by omega, by omega⟩, q3 i.toNat (fullB d) b o _ (by omega) ha fun h12 F12 _ D12 M12 => ?_⟩
    obtain ⟨aW, cW, w1, w2⟩ := D12.waitS
    obtain ⟨aN, cN, n1, n2, n3⟩ := D12.nowS
    have hlen : (s.now.set i.toNat (fullB d)).length = s.now.length := by simp
    simp only at n1 n2 w1 w2
    obtain ⟨bN, oN, haN, hcN⟩ := n2.get1 (i := i.toNat) (by omega)
    have hget : (s.now.set i.toNat (fullB d)).getD i.toNat [] = fullB d := by
      rw [List.getD_eq_getElem?_getD, List.getElem?_set_self (by omega)]; rfl
    rw [hget] at hcN
    refine ⟨_, _, _, w1, _, _, _, n1, bN, oN, ⟨haN, by omega, by omega⟩, _, hcN, ?_⟩
    intro b18 hb18 h19
    refine D12.waitApp elTurn (x := (i, fullB d)) (by simp only [hwait]; omega) (by simp only [hwait]; omega) w1 hb18 fun a' c' h21 hst => ⟨_, _, _, rfl, ?_⟩
    refine hst _ fun h23 F23 D23 M23 => J h23 F23 ?_ ((M4.trans (Mut.of_le l8)).trans (M12.trans M23))
    simp only [hwait] at D23
    exact D23
  · rw [if_pos hs] at hK
    have en : (errV (dStep s).2).isNone = false := by rw [errV_none]; simpa using hs
    refine ⟨fun e => by (rw [en] at e; cases e), fun _ => hK h4 F4 D4 M4⟩
theorem disk_Flush_ok (D : PD h F g s) {n : Nat} (W : s.wf n) {R : Value → Hp → Prop} (hK : ∀ h' F', PD h' F' g (dFlush s).1 → Mut F h F' h' → R (ifv (errV (dFlush s).2)) h') :
    CallOK Try.prog 45 [vhp g 0] h R := by
  refine ok_disk_Disk_Flush ?_
  unfold VC_disk_Disk_Flush
  unfold dFlush at hK
  refine disk_step_ok D ⟨W.f, W.f2⟩ fun h2 F2 D2 M2 => ⟨_, rfl, ?_⟩
  intro J12
  by_cases hs : (dStep s).2 = 0
  · rw [if_neg (by simpa using hs)] at hK
    have en : errV (dStep s).2 = none := by rw [hs]; rfl
    have hnow : (dStep s).1.now = s.now := by unfold dStep; split <;> (try split) <;> rfl
    have hkept : (dStep s).1.kept = s.kept := by unfold dStep; split <;> (try split) <;> rfl
    refine ⟨fun _ => ?_, fun e => by rw [en] at e; cases e⟩
    obtain ⟨aK, cK, aN, cN, aW, cW, rfl, RR⟩ := D2
    have OK : OwnS h2 9 1 aK (dStep s).1.kept.length cK ((dStep s).1.kept.flatMap encB) := RR.own 0 _ rfl
    have ON : OwnS h2 9 1 aN (dStep s).1.now.length cN ((dStep s).1.now.flatMap encB) := RR.own 1 _ rfl
    have hkn : (dStep s).1.kept.length = (dStep s).1.now.length := by rw [hkept, hnow, W.k, W.w]
    refine ⟨_, _, _, RR.cell (j := 0) rfl, _, _, _, RR.cell (j := 1) rfl, ?_⟩
    rw [← hkn]
    refine sem_copy_own (e := 9) (by kernel_rfl) (by kernel_rfl) OK ON.row (by rw [flatMap_length encB_len, ← hkn, Nat.mul_one]) (one_encB _) (fun b ob ha O' => ⟨_, rfl, ?_⟩) (fun h0 => by rw [hkept, W.k] at h0; have := W.n1; omega)
    obtain ⟨R', M'⟩ := RR.inner (j := 0) rfl ha O'
    have e : (dkF 170 aK cK aN cN aW cW (dStep s).1).set 0 (.s 9 1 aK (dStep s).1.kept.length cK ((dStep s).1.now.flatMap encB)) = dkF 170 aK cK aN cN aW cW { (dStep s).1 with kept := (dStep s).1.now } := by
      simp [dkF, hkn]
    rw [e] at R' M'
    have D7 : PD (h2.set b ob) _ g { (dStep s).1 with kept := (dStep s).1.now } := ⟨aK, cK, aN, cN, aW, cW, rfl, R'⟩
    refine D7.noWait fun h9 F9 D9 M9 => ?_
    show R (ifv (errV (dStep s).2)) h9
    rw [hs]
    refine hK h9 F9 ?_ (M2.trans (M'.trans M9))
    simp only [hnow] at D9 ⊢
    exact D9
  · rw [if_pos hs] at hK
    have en : (errV (dStep s).2).isNone = false := by rw [errV_none]; simpa using hs
    refine ⟨fun e => by (rw [en] at e; cases e), fun _ => hK h2 F2 D2 M2⟩
theorem dRestart_eq (s : DK) (k : Int) : (⟨dKeep k 0 s.wait s.kept, dKeep k 0 s.wait s.kept, [], -1, false⟩ : DK) = dRestart s k := rfl
theorem disk_Restart_ok (D : PD h F g s) {n : Nat} (W : s.wf n) (hw : s.wait.length ≤ 1000000) {k : Int} (hk : 0 ≤ k ∧ k ≤ 18446744073709551615) {R : Value → Hp → Prop} (hK : ∀ h' F', PD h' F' g (dRestart s k) → Mut F h F' h' → R (vtup []) h') :
    CallOK Try.prog 48 [vhp g 0, vk .u64 k] h R := by
  refine ok_disk_Disk_Restart ?_
  unfold VC_disk_Disk_Restart
  obtain ⟨a1, c1, w1, w2⟩ := D.waitS
  refine ⟨_, _, _, w1, fun vs hh => ∃ (i : Nat) (F' : Nat → Prop), vs = [vi i] ∧ i ≤ s.wait.length ∧ PD hh F' g { s with kept := dKeep k 0 (s.wait.take i) s.kept } ∧ Mut F h F' hh ∧ hh.cell g (0 + 2) = some (vsl a1 s.wait.length c1), fun vs hh => s.wait.length - (vint vs 0).toNat, ⟨0, F, rfl, Nat.zero_le _, D, ⟨fun b o _ ho => ho, fun b hb => .inl hb⟩, w1⟩, ?_⟩
  rintro vs hh ⟨i, F', rfl, hi, D', M', hc⟩
  refine ⟨i, rfl, fun e => ?_, fun e => ?_⟩
  · have hlt : i < s.wait.length := by have := of_decide_eq_true e; omega
    have tk : s.wait.take (i + 1) = s.wait.take i ++ [s.wait[i]] := List.take_succ_eq_append_getElem hlt
    have hx : s.wait[i]? = some s.wait[i] := List.getElem?_eq_getElem hlt
    have ht := W.t s.wait[i] (List.getElem_mem hlt)
    obtain ⟨a', c', q1, q2⟩ := D'.waitS
    rw [hc] at q1
    simp only [Option.some.injEq, Value.slice.injEq, true_and] at q1
    obtain ⟨rfl, _⟩ := q1
    obtain ⟨b, o, ha, hr⟩ := q2.get encT_len (by decide) hx
    intro J22
    have e64 : Int.tmod ((i : Nat) : Int) 64 = ((i % 64 : Nat) : Int) := by rw [Int.tmod_eq_emod_of_nonneg (by omega)]; omega
    rw [e64]
    have hlenk : (dKeep k 0 (s.wait.take i) s.kept).length = n := by rw [dKeep_length, W.k]
    have hsn := dKeep_snoc k (s.wait.take i) 0 s.wait[i] s.kept
    rw [← tk, List.length_take, Nat.min_eq_left (by omega), Nat.zero_add] at hsn
    refine ⟨b, o, ⟨ha, by omega, by omega⟩, _, _, hr, by decide, _, rd_shrI (by omega) hk.1, _, rd_and1 (Int.ediv_nonneg hk.1 (Int.le_of_lt (Int.pow_pos (by decide)))) (by have := Int.ediv_le_self (2 ^ (i % 64)) hk.1; omega), fun e2 => ?_, fun e2 => ?_⟩
    · have hbit : bitOf k i = true := e2
      rw [hbit, if_pos rfl] at hsn
      obtain ⟨aK, cK, p1, p2, p3⟩ := D'.keptS
      simp only at p1 p2 p3
      rw [hlenk] at p1 p2 p3
      obtain ⟨bK, oK, haK, _⟩ := p2.get1 (i := s.wait[i].1.toNat) (by omega)
      refine ⟨_, _, _, p1, bK, oK, ⟨haK, ht.1, by omega⟩, p3 _ _ bK oK _ (by omega) haK fun h19 F19 hg19 D19 M19 => ⟨_, isW (by unfold InR; omega), ⟨i + 1, F19, rfl, by omega, ?_, M'.trans M19, ?_⟩, by simp [vint]; omega⟩⟩
      · rw [hsn]; exact D19
      · unfold Hp.cell at hc ⊢
        rw [hg19]; exact hc
    · have hbit : bitOf k i = false := e2
      rw [hbit, if_neg (by simp)] at hsn
      exact ⟨_, isW (by unfold InR; omega), ⟨i + 1, F', rfl, by omega, by rw [hsn]; exact D', M', hc⟩, by simp [vint]; omega⟩
  · have hge : i = s.wait.length := by have := of_decide_eq_false e; omega
    have ht : s.wait.take i = s.wait := List.take_of_length_le (by omega)
    rw [ht] at D'
    obtain ⟨aK, cK, aN, cN, aW, cW, rfl, RR⟩ := D'
    generalize hkk : dKeep k 0 s.wait s.kept = kk at *
    have hkl : kk.length = n := by rw [← hkk, dKeep_length, W.k]
    have OK : OwnS hh 9 1 aK kk.length cK (kk.flatMap encB) := RR.own 0 _ rfl
    have ON : OwnS hh 9 1 aN s.now.length cN (s.now.flatMap encB) := RR.own 1 _ rfl
    have hkn : kk.length = s.now.length := by rw [hkl, W.w]
    refine ⟨_, _, _, RR.cell (j := 1) rfl, _, _, _, RR.cell (j := 0) rfl, ?_⟩
    simp only [hkn]
    refine sem_copy_own (e := 9) (by kernel_rfl) (by kernel_rfl) ON OK.row (by rw [flatMap_length encB_len, hkn, Nat.mul_one]) (one_encB _) (fun b ob ha O' => ⟨_, rfl, ?_⟩) (fun h0 => by rw [W.w] at h0; have := W.n1; omega)
    obtain ⟨R', M2⟩ := RR.inner (j := 1) rfl ha O'
    have e : (dkF 170 aK cK aN cN aW cW { s with kept := kk }).set 1 (.s 9 1 aN s.now.length cN (kk.flatMap encB)) = dkF 170 aK cK aN cN aW cW { s with kept := kk, now := kk } := by
      simp [dkF, hkn]
    rw [e] at R' M2
    have D7 : PD (hh.set b ob) _ g { s with kept := kk, now := kk } := ⟨aK, cK, aN, cN, aW, cW, rfl, R'⟩
    refine D7.noWait fun h9 F9 D9 M9 => D9.v4 fun h10 F10 D10 M10 => D10.v3 fun h11 F11 D11 M11 => hK h11 F11 ?_ (((M'.trans M2).trans M9).trans (M10.trans M11))
    unfold dRestart
    rw [hkk]
    exact D11
end
end Go.Proofs.Ytdkgmpchcahajaa
