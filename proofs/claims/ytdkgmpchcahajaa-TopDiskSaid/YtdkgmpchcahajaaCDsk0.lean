/-
  A disk as a block of fields: what it has, what becomes of it. No function in sight. Conditions: none.
-/
import Derived.Test.YtdkgmpchcahajaaVcS
import Derived.Test.YtdkgmpchcahajaaVcT
namespace Go.Proofs.Ytdkgmpchcahajaa
open Go Go.Vc
set_option linter.unusedVariables false

structure DK where
  kept : List (List UInt8)
  now : List (List UInt8)
  wait : List (Int × List UInt8)
  fuse : Int
  down : Bool
def encT (x : Int × List UInt8) : List Value := [vi x.1, vs (bs x.2)]
theorem encT_len (x : Int × List UInt8) : (encT x).length = 2 := rfl
theorem flatMap_encB (l : List (List UInt8)) : l.flatMap encB = l.map fun x => vs (bs x) := by
  induction l with
  | nil => rfl
  | cons x l ih => rw [List.flatMap_cons, ih]; rfl
theorem setL_encB (l : List (List UInt8)) (i : Nat) (d : List UInt8) (h : i < l.length) : setL (l.flatMap encB) i [vs (bs d)] = (l.set i d).flatMap encB := by
  rw [flatMap_encB, flatMap_encB, setL_one _ _ _ (by simpa using h), List.map_set]
def fullB (l : List UInt8) : List UInt8 := l ++ List.replicate (256 - l.length) 0
def dStep (s : DK) : DK × Int := if s.down then (s, 7) else if s.fuse = 0 then ({ s with down := true, fuse := -1 }, 7) else ({ s with fuse := max (s.fuse - 1) (-1) }, 0)
def dRead (s : DK) (i : Int) : List UInt8 × Int := if s.down then ([], 7) else if i < 0 ∨ i ≥ s.now.length then ([], 1) else (s.now.getD i.toNat [], 0)
def dWrite (s : DK) (i : Int) (d : List UInt8) : DK × Int :=
  if i < 0 ∨ i ≥ s.now.length ∨ d.length > 256 then (s, 1) else if (dStep s).2 ≠ 0 then dStep s else
    ({ (dStep s).1 with now := s.now.set i.toNat (fullB d), wait := s.wait ++ [(i, fullB d)] }, 0)
def dFlush (s : DK) : DK × Int := if (dStep s).2 ≠ 0 then dStep s else ({ (dStep s).1 with kept := s.now, wait := [] }, 0)
/-- Is a bit set? -/
def bitOf (k : Int) (i : Nat) : Bool := decide (k / 2 ^ (i % 64) % 2 = 1)
def dKeep (k : Int) : Nat → List (Int × List UInt8) → List (List UInt8) → List (List UInt8)
  | _, [], l => l
  | i, t :: ts, l => dKeep k (i + 1) ts (if bitOf k i then l.set t.1.toNat t.2 else l)
def dRestart (s : DK) (k : Int) : DK := ⟨dKeep k 0 s.wait s.kept, dKeep k 0 s.wait s.kept, [], -1, false⟩
theorem dKeep_length (k : Int) : ∀ (i : Nat) (ts : List (Int × List UInt8)) (l : List (List UInt8)), (dKeep k i ts l).length = l.length
  | _, [], l => rfl
  | i, t :: ts, l => by rw [dKeep, dKeep_length k]; split <;> simp
theorem dKeep_snoc (k : Int) : ∀ (ts : List (Int × List UInt8)) (i : Nat) (t : Int × List UInt8) (l : List (List UInt8)), dKeep k i (ts ++ [t]) l = if bitOf k (i + ts.length) then (dKeep k i ts l).set t.1.toNat t.2 else dKeep k i ts l
  | [], i, t, l => by simp [dKeep]
  | u :: ts, i, t, l => by
    rw [List.cons_append, dKeep, dKeep_snoc k ts, dKeep, List.length_cons, show i + 1 + ts.length = i + (ts.length + 1) by omega]
/-- A disk that may be: as many sectors, places of them. -/
structure DK.wf (s : DK) (n : Nat) : Prop where
  k : s.kept.length = n
  w : s.now.length = n
  t : ∀ x ∈ s.wait, 0 ≤ x.1 ∧ x.1 < n
  f : -1 ≤ s.fuse
  f2 : s.fuse ≤ 9223372036854775807
  n1 : 1 ≤ n
  n2 : n ≤ 160

def dkF (tT : TypeId) (aK : Option Addr) (cK : Nat) (aN : Option Addr) (cN : Nat) (aW : Option Addr) (cW : Nat) (s : DK) : List Fld :=
  [.s 9 1 aK s.kept.length cK (s.kept.flatMap encB), .s 9 1 aN s.now.length cN (s.now.flatMap encB), .s tT 2 aW s.wait.length cW (s.wait.flatMap encT), .v (vi s.fuse), .v (vb s.down)]
def DskAt (T tT : TypeId) (h : Hp) (F : Nat → Prop) (g : Nat) (s : DK) : Prop := ∃ aK cK aN cN aW cW, F = ftR g (dkF tT aK cK aN cN aW cW s) ∧ Rec h g T (dkF tT aK cK aN cN aW cW s)
section
variable {T tT : TypeId} {h : Hp} {F : Nat → Prop} {g : Nat} {s : DK}
theorem DskAt.al (D : DskAt T tT h F g s) : ∀ b, F b → h b ≠ none := by
  obtain ⟨aK, cK, aN, cN, aW, cW, rfl, R⟩ := D
  exact R.al
theorem DskAt.keep {h' : Hp} (D : DskAt T tT h F g s) (hk : ∀ b, F b → ∀ o, h b = some o → h' b = some o) : DskAt T tT h' F g s := by
  obtain ⟨aK, cK, aN, cN, aW, cW, rfl, R⟩ := D
  exact ⟨aK, cK, aN, cN, aW, cW, rfl, R.keep hk⟩
theorem DskAt.le {h' : Hp} (D : DskAt T tT h F g s) (hl : h.le h') : DskAt T tT h' F g s := D.keep fun b _ o ho => hl b o ho
theorem DskAt.c3 (D : DskAt T tT h F g s) : h.cell g (0 + 3) = some (vi s.fuse) := by
  obtain ⟨aK, cK, aN, cN, aW, cW, rfl, R⟩ := D
  exact R.cell (j := 3) rfl
theorem DskAt.c4 (D : DskAt T tT h F g s) : h.cell g (0 + 4) = some (vb s.down) := by
  obtain ⟨aK, cK, aN, cN, aW, cW, rfl, R⟩ := D
  exact R.cell (j := 4) rfl
theorem DskAt.v3 (D : DskAt T tT h F g s) {x : Int} {K : Hp → Prop} (hK : ∀ h' F', DskAt T tT h' F' g { s with fuse := x } → Mut F h F' h' → K h') : h.store g (0 + 3) [vi x] K := by
  obtain ⟨aK, cK, aN, cN, aW, cW, rfl, R⟩ := D
  exact R.put (j := 3) (f' := .v (vi x)) rfl (fun b o ho _ => ho) trivial (fun b hb => hb.elim) (fun h'' _ R' M => hK h'' _ ⟨aK, cK, aN, cN, aW, cW, rfl, R'⟩ M) rfl
theorem DskAt.v4 (D : DskAt T tT h F g s) {x : Bool} {K : Hp → Prop} (hK : ∀ h' F', DskAt T tT h' F' g { s with down := x } → Mut F h F' h' → K h') : h.store g (0 + 4) [vb x] K := by
  obtain ⟨aK, cK, aN, cN, aW, cW, rfl, R⟩ := D
  exact R.put (j := 4) (f' := .v (vb x)) rfl (fun b o ho _ => ho) trivial (fun b hb => hb.elim) (fun h'' _ R' M => hK h'' _ ⟨aK, cK, aN, cN, aW, cW, rfl, R'⟩ M) rfl
theorem DskAt.noWait (D : DskAt T tT h F g s) {K : Hp → Prop} (hK : ∀ h' F', DskAt T tT h' F' g { s with wait := [] } → Mut F h F' h' → K h') : h.store g (0 + 2) [vsl none 0 0] K := by
  obtain ⟨aK, cK, aN, cN, aW, cW, rfl, R⟩ := D
  exact R.put (j := 2) (f' := .s tT 2 none 0 0 []) rfl (fun b o ho _ => ho) (OwnS.nil h tT 2) (fun b hb => by cases hb) (fun h'' _ R' M => hK h'' _ ⟨aK, cK, aN, cN, none, 0, rfl, R'⟩ M) rfl
/-- The sectors as they are now. -/
theorem DskAt.nowS (D : DskAt T tT h F g s) : ∃ a c, h.cell g (0 + 1) = some (vsl a s.now.length c) ∧ SlB h a s.now.length s.now ∧
    ∀ (i : Nat) (d : List UInt8) (b o : Nat) (K : Hp → Prop), i < s.now.length → a = some ⟨b, o, none⟩ → (∀ h' F', h' g = h g → DskAt T tT h' F' g { s with now := s.now.set i d } → Mut F h F' h' → K h') → h.store b (o + i * 1) [vs (bs d)] K := by
  obtain ⟨aK, cK, aN, cN, aW, cW, rfl, R⟩ := D
  have O : OwnS h 9 1 aN s.now.length cN (s.now.flatMap encB) := R.own 1 _ rfl
  refine ⟨aN, cN, R.cell (j := 1) rfl, ⟨rfl, O.row⟩, fun i d b o K hi ha hK => ?_⟩
  rw [Nat.mul_one]
  refine R.elem (j := 1) rfl (by simp) (by simp; omega) ha fun h' hg' R' M => ?_
  rw [setL_encB _ _ _ hi] at R' M
  have e : (dkF tT aK cK aN cN aW cW s).set 1 (.s 9 1 aN s.now.length cN ((s.now.set i d).flatMap encB)) = dkF tT aK cK aN cN aW cW { s with now := s.now.set i d } := by simp [dkF]
  rw [e] at R' M
  exact hK h' _ hg' ⟨aK, cK, aN, cN, aW, cW, rfl, R'⟩ M
theorem DskAt.keptS (D : DskAt T tT h F g s) : ∃ a c, h.cell g 0 = some (vsl a s.kept.length c) ∧ SlB h a s.kept.length s.kept ∧
    ∀ (i : Nat) (d : List UInt8) (b o : Nat) (K : Hp → Prop), i < s.kept.length → a = some ⟨b, o, none⟩ → (∀ h' F', h' g = h g → DskAt T tT h' F' g { s with kept := s.kept.set i d } → Mut F h F' h' → K h') → h.store b (o + i * 1) [vs (bs d)] K := by
  obtain ⟨aK, cK, aN, cN, aW, cW, rfl, R⟩ := D
  have O : OwnS h 9 1 aK s.kept.length cK (s.kept.flatMap encB) := R.own 0 _ rfl
  refine ⟨aK, cK, R.cell (j := 0) rfl, ⟨rfl, O.row⟩, fun i d b o K hi ha hK => ?_⟩
  rw [Nat.mul_one]
  refine R.elem (j := 0) rfl (by simp) (by simp; omega) ha fun h' hg' R' M => ?_
  rw [setL_encB _ _ _ hi] at R' M
  have e : (dkF tT aK cK aN cN aW cW s).set 0 (.s 9 1 aK s.kept.length cK ((s.kept.set i d).flatMap encB)) = dkF tT aK cK aN cN aW cW { s with kept := s.kept.set i d } := by simp [dkF]
  rw [e] at R' M
  exact hK h' _ hg' ⟨aK, cK, aN, cN, aW, cW, rfl, R'⟩ M
/-- What waits. -/
theorem DskAt.waitS (D : DskAt T tT h F g s) : ∃ a c, h.cell g (0 + 2) = some (vsl a s.wait.length c) ∧ SlP encT h a s.wait.length s.wait := by
  obtain ⟨aK, cK, aN, cN, aW, cW, rfl, R⟩ := D
  have O : OwnS h tT 2 aW s.wait.length cW (s.wait.flatMap encT) := R.own 2 _ rfl
  exact ⟨aW, cW, R.cell (j := 2) rfl, ⟨rfl, O.row⟩⟩
end
section
variable {T tT : TypeId} {h : Hp} {F : Nat → Prop} {g : Nat} {s : DK}
/-- One more waits: append, and the field. -/
theorem DskAt.waitApp {tS : TypeId} {bytes : Nat} (E : ElT Try.prog tS tT 2 bytes) (D : DskAt T tT h F g s) (hb : (s.wait.length + 1) * bytes ≤ 140737488355328) (hb2 : s.wait.length + 1 ≤ 140737488355328) {x : Int × List UInt8} {a : Option Addr} {c : Nat} (hc : h.cell g (0 + 2) = some (vsl a s.wait.length c)) {b : Nat} (hbn : h b = none) {ty : TypeId} {K : Value → Hp → Prop}
    (hK : ∀ a' c' h', (∀ K2 : Hp → Prop, (∀ h'' F', DskAt T tT h'' F' g { s with wait := s.wait ++ [x] } → Mut F h F' h'' → K2 h'') → h'.store g (0 + 2) [vsl a' (s.wait.length + 1) c'] K2) → K (vsl a' (s.wait.length + 1) c') h') :
    SemOK Try.prog (Builtin.append_ #[tS, tS] ty #[vsl a s.wait.length c, vsl (some ⟨b, 0, none⟩) 1 1]) (h.set b (cellsO (encT x) tT)) K := by
  obtain ⟨aK, cK, aN, cN, aW, cW, rfl, R⟩ := D
  have hca := R.cell (j := 2) rfl
  rw [show (0 + 2 : Nat) = 2 from rfl, hca] at hc
  simp only [Fld.val, Option.some.injEq, Value.slice.injEq] at hc
  obtain ⟨rfl, _, rfl⟩ := hc
  have hl : h.le (h.set b (cellsO (encT x) tT)) := Hp.le_set (Hp.le_refl h) hbn _
  have O : OwnS (h.set b (cellsO (encT x) tT)) tT 2 aW s.wait.length cW (s.wait.flatMap encT) := (R.own 2 _ rfl : OwnS h tT 2 aW s.wait.length cW (s.wait.flatMap encT)).le hl
  refine sem_append E O (HasRow.new _ _ (encT x) _) (m := 1) rfl (by simp [encT, Value.oneCell']) hb hb2 fun a' c' h' O' k1 k2 _ _ => hK a' c' h' fun K2 hK2 => ?_
  have e : (dkF tT aK cK aN cN aW cW s).set 2 (.s tT 2 a' (s.wait.length + 1) c' (s.wait.flatMap encT ++ encT x)) = dkF tT aK cK aN cN a' c' { s with wait := s.wait ++ [x] } := by simp [dkF]
  refine R.put (h' := h') (j := 2) (f' := .s tT 2 a' (s.wait.length + 1) c' (s.wait.flatMap encT ++ encT x)) rfl (fun b' o ho hat => k1 b' o (hl b' o ho) hat) O' (fun b' hb' => ?_) (fun h'' _ R' M => by rw [e] at R' M; exact hK2 h'' _ ⟨aK, cK, aN, cN, a', c', rfl, R'⟩ M) rfl
  rcases k2 b' hb' with e | e
  · exact .inl (e.trans hb')
  · exact .inr (Hp.none_of_le hl e)
/-- One more sector is kept: append, and the field. -/
theorem DskAt.keptApp (E : ElT Try.prog 51 9 1 16) (D : DskAt T tT h F g s) (hb : (s.kept.length + 1) * 16 ≤ 140737488355328) (hb2 : s.kept.length + 1 ≤ 140737488355328) {x : List UInt8} {a : Option Addr} {c : Nat} (hc : h.cell g 0 = some (vsl a s.kept.length c)) {b : Nat} (hbn : h b = none) {ty : TypeId} {K : Value → Hp → Prop}
    (hK : ∀ a' c' h', (∀ K2 : Hp → Prop, (∀ h'' F', DskAt T tT h'' F' g { s with kept := s.kept ++ [x] } → Mut F h F' h'' → K2 h'') → h'.store g 0 [vsl a' (s.kept.length + 1) c'] K2) → K (vsl a' (s.kept.length + 1) c') h') :
    SemOK Try.prog (Builtin.append_ #[51, 51] ty #[vsl a s.kept.length c, vsl (some ⟨b, 0, none⟩) 1 1]) (h.set b (cellsO (encB x) 9)) K := by
  obtain ⟨aK, cK, aN, cN, aW, cW, rfl, R⟩ := D
  have hca := R.cell (j := 0) rfl
  rw [hca] at hc
  simp only [Fld.val, Option.some.injEq, Value.slice.injEq] at hc
  obtain ⟨rfl, _, rfl⟩ := hc
  have hl : h.le (h.set b (cellsO (encB x) 9)) := Hp.le_set (Hp.le_refl h) hbn _
  have O : OwnS (h.set b (cellsO (encB x) 9)) 9 1 aK s.kept.length cK (s.kept.flatMap encB) := (R.own 0 _ rfl : OwnS h 9 1 aK s.kept.length cK (s.kept.flatMap encB)).le hl
  refine sem_append E O (HasRow.new _ _ (encB x) _) (m := 1) rfl (by simp [encB, Value.oneCell']) hb hb2 fun a' c' h' O' k1 k2 _ _ => hK a' c' h' fun K2 hK2 => ?_
  have e : (dkF tT aK cK aN cN aW cW s).set 0 (.s 9 1 a' (s.kept.length + 1) c' (s.kept.flatMap encB ++ encB x)) = dkF tT a' c' aN cN aW cW { s with kept := s.kept ++ [x] } := by simp [dkF]
  refine R.put (h' := h') (j := 0) (f' := .s 9 1 a' (s.kept.length + 1) c' (s.kept.flatMap encB ++ encB x)) rfl (fun b' o ho hat => k1 b' o (hl b' o ho) hat) O' (fun b' hb' => ?_) (fun h'' _ R' M => by rw [e] at R' M; exact hK2 h'' _ ⟨a', c', aN, cN, aW, cW, rfl, R'⟩ M) rfl
  rcases k2 b' hb' with e | e
  · exact .inl (e.trans hb')
  · exact .inr (Hp.none_of_le hl e)
/-- One more sector: append, and the field. -/
theorem DskAt.nowApp (E : ElT Try.prog 51 9 1 16) (D : DskAt T tT h F g s) (hb : (s.now.length + 1) * 16 ≤ 140737488355328) (hb2 : s.now.length + 1 ≤ 140737488355328) {x : List UInt8} {a : Option Addr} {c : Nat} (hc : h.cell g (0 + 1) = some (vsl a s.now.length c)) {b : Nat} (hbn : h b = none) {ty : TypeId} {K : Value → Hp → Prop}
    (hK : ∀ a' c' h', (∀ K2 : Hp → Prop, (∀ h'' F', DskAt T tT h'' F' g { s with now := s.now ++ [x] } → Mut F h F' h'' → K2 h'') → h'.store g (0 + 1) [vsl a' (s.now.length + 1) c'] K2) → K (vsl a' (s.now.length + 1) c') h') :
    SemOK Try.prog (Builtin.append_ #[51, 51] ty #[vsl a s.now.length c, vsl (some ⟨b, 0, none⟩) 1 1]) (h.set b (cellsO (encB x) 9)) K := by
  obtain ⟨aK, cK, aN, cN, aW, cW, rfl, R⟩ := D
  have hca := R.cell (j := 1) rfl
  rw [show (0 + 1 : Nat) = 1 from rfl, hca] at hc
  simp only [Fld.val, Option.some.injEq, Value.slice.injEq] at hc
  obtain ⟨rfl, _, rfl⟩ := hc
  have hl : h.le (h.set b (cellsO (encB x) 9)) := Hp.le_set (Hp.le_refl h) hbn _
  have O : OwnS (h.set b (cellsO (encB x) 9)) 9 1 aN s.now.length cN (s.now.flatMap encB) := (R.own 1 _ rfl : OwnS h 9 1 aN s.now.length cN (s.now.flatMap encB)).le hl
  refine sem_append E O (HasRow.new _ _ (encB x) _) (m := 1) rfl (by simp [encB, Value.oneCell']) hb hb2 fun a' c' h' O' k1 k2 _ _ => hK a' c' h' fun K2 hK2 => ?_
  have e : (dkF tT aK cK aN cN aW cW s).set 1 (.s 9 1 a' (s.now.length + 1) c' (s.now.flatMap encB ++ encB x)) = dkF tT aK cK a' c' aW cW { s with now := s.now ++ [x] } := by simp [dkF]
  refine R.put (h' := h') (j := 1) (f' := .s 9 1 a' (s.now.length + 1) c' (s.now.flatMap encB ++ encB x)) rfl (fun b' o ho hat => k1 b' o (hl b' o ho) hat) O' (fun b' hb' => ?_) (fun h'' _ R' M => by rw [e] at R' M; exact hK2 h'' _ ⟨aK, cK, a', c', aW, cW, rfl, R'⟩ M) rfl
  rcases k2 b' hb' with e | e
  · exact .inl (e.trans hb')
  · exact .inr (Hp.none_of_le hl e)
end
end Go.Proofs.Ytdkgmpchcahajaa
