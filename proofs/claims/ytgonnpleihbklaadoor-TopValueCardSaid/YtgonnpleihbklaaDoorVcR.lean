/-
  The framework, part R: blocks whose fields are slices of their own; what they have, and what a change of them leaves as it was. No program in sight. Conditions: none.
-/
import Derived.Test.YtgonnpleihbklaaDoorVcQ
namespace Go.Vc
open Go
set_option linter.unusedVariables false

/-- A field: a value, or a slice of its own. -/
inductive Fld where
  | v (x : Value) | s (e : TypeId) (sz : Nat) (a : Option Addr) (n c : Nat) (xs : List Value)
def Fld.val : Fld → Value
  | .v x => x
  | .s _ _ a n c _ => vsl a n c
/-- Whose block it is. -/
def Fld.at (f : Fld) (b : Nat) : Prop := match f with
  | .v _ => False
  | .s _ _ a _ _ _ => a = some ⟨b, 0, none⟩
def Fld.own (h : Hp) : Fld → Prop
  | .v _ => True
  | .s e sz a n c xs => OwnS h e sz a n c xs
theorem Fld.at_al {h : Hp} {f : Fld} {b : Nat} (O : f.own h) (hb : f.at b) : h b ≠ none := by
  cases f with
  | v x => exact hb.elim
  | s e sz a n c xs =>
    rcases O.2 with ⟨h1, _⟩ | ⟨g, cur, h1, h2, _⟩
    · rw [h1] at hb; cases hb
    · rw [h1] at hb; cases hb; rw [h2]; simp
theorem Fld.own_keep {h h' : Hp} {f : Fld} (O : f.own h) (hk : ∀ b, f.at b → ∀ o, h b = some o → h' b = some o) : f.own h' := by
  cases f with
  | v x => trivial
  | s e sz a n c xs => exact OwnS.keep O fun g o ha ho => hk g ha o ho
/-- A block of fields. -/
structure Rec (h : Hp) (g : Nat) (t : TypeId) (fs : List Fld) : Prop where
  blk : h g = some (cellsO (fs.map Fld.val) t)
  own : ∀ (j : Nat) (f : Fld), fs[j]? = some f → f.own h
  ne : ∀ (j : Nat) (f : Fld), fs[j]? = some f → ¬ f.at g
  dj : ∀ (j k : Nat) (f f' : Fld) (b : Nat), fs[j]? = some f → fs[k]? = some f' → f.at b → f'.at b → j = k
/-- What it has. -/
def ftR (g : Nat) (fs : List Fld) : Nat → Prop := fun b => b = g ∨ ∃ (j : Nat) (f : Fld), fs[j]? = some f ∧ f.at b
theorem Rec.al {h : Hp} {g : Nat} {t : TypeId} {fs : List Fld} (R : Rec h g t fs) : ∀ b, ftR g fs b → h b ≠ none := by
  rintro b (rfl | ⟨j, f, hf, hb⟩)
  · rw [R.blk]; simp
  · exact Fld.at_al (R.own j f hf) hb
/-- It is kept where what it has is kept. -/
theorem Rec.keep {h h' : Hp} {g : Nat} {t : TypeId} {fs : List Fld} (R : Rec h g t fs) (hk : ∀ b, ftR g fs b → ∀ o, h b = some o → h' b = some o) : Rec h' g t fs where
  blk := hk g (.inl rfl) _ R.blk
  own := fun j f hf => Fld.own_keep (R.own j f hf) fun b hb o ho => hk b (.inr ⟨j, f, hf, hb⟩) o ho
  ne := R.ne
  dj := R.dj
theorem Rec.le {h h' : Hp} (hl : h.le h') {g : Nat} {t : TypeId} {fs : List Fld} (R : Rec h g t fs) : Rec h' g t fs := R.keep fun b _ o ho => hl b o ho

/-- What a change of what F has leaves: all else is as it was; what is had now was had, or was not there. -/
structure Mut (F : Nat → Prop) (h : Hp) (F' : Nat → Prop) (h' : Hp) : Prop where
  keep : ∀ b o, ¬ F b → h b = some o → h' b = some o
  new : ∀ b, F' b → F b ∨ h b = none
theorem Mut.trans {F G F' : Nat → Prop} {h k h' : Hp} (x : Mut F h G k) (y : Mut G k F' h') : Mut F h F' h' where
  keep := fun b o hb ho => y.keep b o (fun hg => by
    rcases x.new b hg with h1 | h1
    · exact hb h1
    · rw [ho] at h1; cases h1) (x.keep b o hb ho)
  new := fun b hb => by
    rcases y.new b hb with h1 | h1
    · exact x.new b h1
    · by_cases hF : F b
      · exact .inl hF
      · right
        cases ho : h b with
        | none => rfl
        | some o => rw [x.keep b o hF ho] at h1; cases h1
theorem Mut.of_le {F : Nat → Prop} {h h' : Hp} (hl : h.le h') : Mut F h F h' := ⟨fun b o _ ho => hl b o ho, fun b hb => .inl hb⟩
/-- What was there ahead of all stays. -/
theorem Mut.old {F F' : Nat → Prop} {h0 h h' : Hp} (M : Mut F h F' h') (hl : h0.le h) (hd : ∀ b, F b → h0 b = none) : h0.le h' ∧ ∀ b, F' b → h0 b = none :=
  ⟨fun b o ho => M.keep b o (fun hF => by rw [hd b hF] at ho; cases ho) (hl b o ho), fun b hb => by
    rcases M.new b hb with h1 | h1
    · exact hd b h1
    · exact Hp.none_of_le hl h1⟩
/-- What is had elsewhere stays. -/
theorem Mut.apart {F F' G : Nat → Prop} {h h' : Hp} (M : Mut F h F' h') (hG : ∀ b, G b → h b ≠ none) (hd : ∀ b, F b → ¬ G b) : (∀ b, G b → ∀ o, h b = some o → h' b = some o) ∧ ∀ b, F' b → ¬ G b :=
  ⟨fun b hb o ho => M.keep b o (fun hF => hd b hF hb) ho, fun b hb hg => by
    rcases M.new b hb with h1 | h1
    · exact hd b h1 hg
    · exact hG b hg h1⟩

theorem map_set {α β : Type} (f : α → β) (l : List α) (i : Nat) (x : α) : (l.set i x).map f = (l.map f).set i (f x) := by rw [List.map_set]
/-- A field is put in the place of another one: a value, or a slice of its own that is new or was that field's. -/
theorem Rec.put {h h' : Hp} {g : Nat} {t : TypeId} {fs : List Fld} (R : Rec h g t fs) {j : Nat} {f f' : Fld} (hf : fs[j]? = some f) (hk : ∀ b o, h b = some o → ¬ f.at b → h' b = some o) (O : f'.own h') (hn : ∀ b, f'.at b → f.at b ∨ h b = none) {K : Hp → Prop}
    (hK : ∀ h'', h'' = h'.set g (cellsO ((fs.set j f').map Fld.val) t) → Rec h'' g t (fs.set j f') → Mut (ftR g fs) h (ftR g (fs.set j f')) h'' → K h'') {o : Nat} (ho : o = j) : h'.store g o [f'.val] K := by
  subst ho
  have hj : o < fs.length := (List.getElem?_eq_some_iff.1 hf).1
  have hg' : h' g = some (cellsO (fs.map Fld.val) t) := hk g _ R.blk (R.ne o f hf)
  refine store_cells hg' (by rw [List.length_map]; simp; omega) ?_
  rw [setL_one _ _ _ (by simpa using hj), ← map_set]
  have hng : ¬ f'.at g := fun e => by
    rcases hn g e with h1 | h1
    · exact R.ne o f hf h1
    · rw [R.blk] at h1; cases h1
  have key : ∀ k fk, (fs.set o f')[k]? = some fk → (k = o ∧ fk = f') ∨ (k ≠ o ∧ fs[k]? = some fk) := by
    intro k fk h1
    by_cases hko : k = o
    · subst hko
      rw [List.getElem?_set_self hj] at h1
      exact .inl ⟨rfl, (Option.some.inj h1).symm⟩
    · rw [List.getElem?_set_ne (fun e => hko e.symm)] at h1
      exact .inr ⟨hko, h1⟩
  refine hK _ rfl ⟨Hp.set_same _ _ _, ?_, ?_, ?_⟩ ⟨?_, ?_⟩
  · intro k fk h1
    rcases key k fk h1 with ⟨rfl, rfl⟩ | ⟨hko, h2⟩
    · exact Fld.own_keep O fun b hb p hp => (Hp.set_other h' _ (fun e => hng (by rw [← e]; exact hb))).trans hp
    · refine Fld.own_keep (R.own k fk h2) fun b hb p hp => (Hp.set_other h' _ (fun e => R.ne k fk h2 (by rw [← e]; exact hb))).trans (hk b p hp fun hb' => hko ?_)
      exact R.dj k o fk f b h2 hf hb hb'
  · intro k fk h1
    rcases key k fk h1 with ⟨rfl, rfl⟩ | ⟨hko, h2⟩
    · exact hng
    · exact R.ne k fk h2
  · intro k m fk fm b h1 h2 hb1 hb2
    have one : ∀ m fm, m ≠ o → fs[m]? = some fm → f'.at b → fm.at b → False := by
      intro m fm hmo h2 hb1 hb2
      rcases hn b hb1 with h3 | h3
      · exact hmo (R.dj m o fm f b h2 hf hb2 h3)
      · exact Fld.at_al (R.own m fm h2) hb2 h3
    rcases key k fk h1 with ⟨rfl, rfl⟩ | ⟨hko, h1'⟩
    · rcases key m fm h2 with ⟨rfl, rfl⟩ | ⟨hmo, h2'⟩
      · rfl
      · exact (one m fm hmo h2' hb1 hb2).elim
    · rcases key m fm h2 with ⟨rfl, rfl⟩ | ⟨hmo, h2'⟩
      · exact (one k fk hko h1' hb2 hb1).elim
      · exact R.dj k m fk fm b h1' h2' hb1 hb2
  · intro b p hb hp
    have h1 : b ≠ g := fun e => hb (.inl e)
    exact (Hp.set_other h' _ h1).trans (hk b p hp fun e => hb (.inr ⟨o, f, hf, e⟩))
  · rintro b (rfl | ⟨k, fk, h1, hb⟩)
    · exact .inl (.inl rfl)
    · rcases key k fk h1 with ⟨rfl, rfl⟩ | ⟨hko, h2⟩
      · rcases hn b hb with h3 | h3
        · exact .inl (.inr ⟨k, f, hf, h3⟩)
        · exact .inr h3
      · exact .inl (.inr ⟨k, fk, h2, hb⟩)
/-- What a slice of its own has is another thing. -/
theorem Rec.inner {h : Hp} {g : Nat} {t : TypeId} {fs : List Fld} (R : Rec h g t fs) {j : Nat} {e : TypeId} {sz n c : Nat} {a : Option Addr} {xs ys : List Value} (hf : fs[j]? = some (.s e sz a n c xs)) {b : Nat} (ha : a = some ⟨b, 0, none⟩) {ob : Obj} (O' : OwnS (h.set b ob) e sz a n c ys) :
    Rec (h.set b ob) g t (fs.set j (.s e sz a n c ys)) ∧ Mut (ftR g fs) h (ftR g (fs.set j (.s e sz a n c ys))) (h.set b ob) := by
  have O : OwnS h e sz a n c xs := R.own j _ hf
  have hj : j < fs.length := (List.getElem?_eq_some_iff.1 hf).1
  have hbg : b ≠ g := fun e => R.ne j _ hf (by rw [e] at ha; exact ha)
  have hkeep : ∀ b' p, b' ≠ b → h b' = some p → (h.set b ob) b' = some p := fun b' p hne hp => (Hp.set_other h _ hne).trans hp
  have hval : (fs.set j (.s e sz a n c ys)).map Fld.val = fs.map Fld.val := by
    rw [map_set]
    apply List.ext_getElem?
    intro k
    by_cases hk : k = j
    · subst hk
      rw [List.getElem?_set_self (by simpa using hj), List.getElem?_map, hf]
      rfl
    · rw [List.getElem?_set_ne (fun e => hk e.symm)]
  have key : ∀ k fk, (fs.set j (.s e sz a n c ys))[k]? = some fk → (k = j ∧ fk = .s e sz a n c ys) ∨ (k ≠ j ∧ fs[k]? = some fk) := by
    intro k fk h1
    by_cases hko : k = j
    · subst hko
      rw [List.getElem?_set_self hj] at h1
      exact .inl ⟨rfl, (Option.some.inj h1).symm⟩
    · rw [List.getElem?_set_ne (fun e => hko e.symm)] at h1
      exact .inr ⟨hko, h1⟩
  have same : ∀ b', (Fld.s e sz a n c ys).at b' ↔ (Fld.s e sz a n c xs).at b' := fun _ => Iff.rfl
  have old : ∀ (k : Nat) (fk : Fld), (fs.set j (.s e sz a n c ys))[k]? = some fk → ∃ f0 : Fld, fs[k]? = some f0 ∧ ∀ b', fk.at b' ↔ f0.at b' := by
    intro k fk h1
    rcases key k fk h1 with ⟨rfl, rfl⟩ | ⟨_, h2⟩
    · exact ⟨_, hf, same⟩
    · exact ⟨fk, h2, fun _ => Iff.rfl⟩
  refine ⟨⟨?_, ?_, ?_, ?_⟩, ?_, ?_⟩
  · rw [hval]; exact hkeep g _ (fun e => hbg e.symm) R.blk
  · intro k fk h1
    rcases key k fk h1 with ⟨rfl, rfl⟩ | ⟨hko, h2⟩
    · exact O'
    · exact Fld.own_keep (R.own k fk h2) fun b' hb' p hp => hkeep b' p (fun e => hko (R.dj k j fk _ b' h2 hf hb' (by subst e; exact ha))) hp
  · intro k fk h1
    obtain ⟨f0, h2, h3⟩ := old k fk h1
    rw [h3]; exact R.ne k f0 h2
  · intro k m fk fm b' h1 h2 hb1 hb2
    obtain ⟨f1, q1, q2⟩ := old k fk h1
    obtain ⟨f2, q3, q4⟩ := old m fm h2
    exact R.dj k m f1 f2 b' q1 q3 ((q2 b').1 hb1) ((q4 b').1 hb2)
  · intro b' p hb' hp
    exact hkeep b' p (fun e => hb' (.inr ⟨j, _, hf, by subst e; exact ha⟩)) hp
  · rintro b' (rfl | ⟨k, fk, h1, hb⟩)
    · exact .inl (.inl rfl)
    · obtain ⟨f0, h2, h3⟩ := old k fk h1
      exact .inl (.inr ⟨k, f0, h2, (h3 b').1 hb⟩)
/-- An element of a slice of its own is put. -/
theorem Rec.elem {h : Hp} {g : Nat} {t : TypeId} {fs : List Fld} (R : Rec h g t fs) {j : Nat} {e : TypeId} {sz n c : Nat} {a : Option Addr} {xs : List Value} (hf : fs[j]? = some (.s e sz a n c xs)) {i : Nat} {vs : List Value} (hv : 0 < vs.length) (hi : i + vs.length ≤ n * sz) {b o : Nat} (ha : a = some ⟨b, o, none⟩) {K : Hp → Prop}
    (hK : ∀ h', h' g = h g → Rec h' g t (fs.set j (.s e sz a n c (setL xs i vs))) → Mut (ftR g fs) h (ftR g (fs.set j (.s e sz a n c (setL xs i vs)))) h' → K h') : h.store b (o + i) vs K := by
  have O : OwnS h e sz a n c xs := R.own j _ hf
  obtain rfl := O.at0 b o ha
  have Ow : Own (h.del b) h e sz a n c xs := ⟨Hp.del_le h b, O, fun g' hg' => by rw [ha] at hg'; cases hg'; simp [Hp.del]⟩
  refine Ow.store hv hi ha fun ob O' => ?_
  obtain ⟨q1, q2⟩ := R.inner hf ha O'.own
  exact hK _ (Hp.set_other h _ fun e => R.ne j _ hf (by rw [e]; exact ha)) q1 q2
/-- A field is read. -/
theorem Rec.cell {h : Hp} {g : Nat} {t : TypeId} {fs : List Fld} (R : Rec h g t fs) {j : Nat} {f : Fld} (hf : fs[j]? = some f) : h.cell g j = some f.val := cell_cells R.blk (by rw [List.getElem?_map, hf]; rfl)
/-- A new block of fields. -/
theorem Rec.new {h : Hp} {g : Nat} {t : TypeId} {fs : List Fld} (hg : h g = none) (O : ∀ (j : Nat) (f : Fld), fs[j]? = some f → f.own h) (hd : ∀ (j k : Nat) (f f' : Fld) (b : Nat), fs[j]? = some f → fs[k]? = some f' → f.at b → f'.at b → j = k) : Rec (h.set g (cellsO (fs.map Fld.val) t)) g t fs where
  blk := Hp.set_same _ _ _
  own := fun j f hf => Fld.own_keep (O j f hf) fun b hb o ho => (Hp.set_other h _ (fun e => by rw [e, hg] at ho; cases ho)).trans ho
  ne := fun j f hf hb => Fld.at_al (O j f hf) hb hg
  dj := hd

section
variable {P : Program}
/-- make([]T, n). -/
theorem sem_make {h : Hp} {t e : TypeId} {sz bytes : Nat} (T : ElT P t e sz bytes) {z : List Value} (hz : (zeroL P e).map tvals = some z) {n : Nat} (hn : n ≤ 1000000) (hb : n * bytes ≤ 140737488355328) {K : Value → Hp → Prop}
    (hK : ∀ b, h b = none → K (vsl (some ⟨b, 0, none⟩) n n) (h.set b (cellsO ((List.replicate n z).flatten) e))) : SemOK P (Instr.makeSlice t (vi n) (vi n)) h K := by
  intro w hs
  obtain ⟨i, zv, hi, hiz, hsz, hby, hzs⟩ := T.el
  have hzl : z = zv.cells.toList := by
    unfold zeroL at hz
    rw [hi] at hz
    simp only [Option.bind_some, hiz, Option.map_some, Option.some.injEq] at hz
    rw [← hz, tvals_tvsOf]
  have hr := run_make (P := P) w t e i zv T.sl hi hiz .i64 .i64 n n (by omega) (by omega) (by
    rw [hby]
    have : ((bytes : Int) * (n : Int)) = ((n * bytes : Nat) : Int) := by rw [Nat.mul_comm]; exact (Int.natCast_mul _ _).symm
    omega) (by omega)
  have hm : madeCells zv.cells (n * i.size) = ((List.replicate n z).flatten).toArray := by
    rw [hzl]
    unfold madeCells
    rw [hsz, ← hzs]
    exact flat_zero zv.cells n (by rw [hzs]; exact T.pos)
  rw [Int.toNat_natCast, hm] at hr
  exact ⟨_, _, _, hr, Sub.pushSet hs _, Fr.pushSet h w _, hK _ hs.none⟩
end
end Go.Vc
