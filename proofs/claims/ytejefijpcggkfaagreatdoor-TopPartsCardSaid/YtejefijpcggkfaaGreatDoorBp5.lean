/-
  The statement that the last part names, proved; and all that it stands on that is not in the parts ahead. Conditions: those stated at each.
-/
import Derived.Test.YtejefijpcggkfaaGreatDoorRows
import Derived.Test.YtejefijpcggkfaaGreatDoorCards
import Derived.Test.YtejefijpcggkfaaGreatDoorTie
import Derived.WalkKit
import Derived.ProofKit
import Derived.OpenShut
import Derived.LaidMore
import Derived.Stop.Joined
import Derived.Stop.LaidErr
import Derived.SevenTiedAt
import Derived.Test.YtejefijpcggkfaaGreatDoorBp4
namespace Go.Proofs.YtejefijpcggkfaaGreatDoor
open Go Go.Vc Go.Txt
set_option linter.unusedVariables false
set_option maxRecDepth 100000
theorem elAgg : ElT Tryz.prog 24 67 2 32 := .of (by kernel_rfl) (by kernel_rfl) (by decide)
abbrev AggB (G : Nat → Prop) := GTabB encN aggRw 2 67 G
theorem RdAt.keep {h0 h h' : Hp} {g : Nat} {s : RS} (D : RdAt h0 h g s) (hb : h' g = h g) (l : h0.le h') : RdAt h0 h' g s := by
  obtain ⟨a, c, hb', hS, hc⟩ := D.b
  exact ⟨⟨a, c, hb.trans hb', hS, hc⟩, l, D.n, D.w⟩
theorem agg_app {h0 hB h1 : Hp} {g : Nat} {a : Option Addr} {c : Nat} {L : List Ag} {s : RS} (B : AggB (At g) h0 h1 a c L) (D : RdAt h0 h1 g s) (hBg : hB g ≠ none) (hBa : ∀ b, a = some ⟨b, 0, none⟩ → hB b ≠ none) {k : Int} {a2 : Option Addr} {c2 : Nat} {l : List Nd} (N : NdAt hB h1 a2 l.length l) (hL : L.length ≤ 1000)
    {b : Nat} (hb : h1 b = none) {K : Value → Hp → Prop} (hK : ∀ a' c' h', AggB (At g) h0 h' a' c' (L ++ [(k, l)]) → RdAt h0 h' g s → K (vsl a' (L.length + 1) c') h') :
    SemOK Tryz.prog (Builtin.append_ #[24, 24] 24 #[vsl a L.length c, vsl (some ⟨b, 0, none⟩) 1 1]) (h1.set b (cellsO [vi k, vsl a2 l.length c2] 67)) K := by
  refine B.app (x := k) (c2 := c2) elAgg (Hp.le_refl h1) (fun b' e => by rw [show b' = g from e]; exact hBg) hBa N.s.2 N.nw ?_ rfl (fun b' e => by rw [show b' = g from e]; exact D.al) (by omega) (by omega) hb fun a' c' h' B' hk => hK a' c' h' B' ?_
  · intro u hu
    have : u = vi k ∨ u = vsl a2 l.length c2 := by simpa [aggRw] using hu
    rcases this with rfl | rfl <;> rfl
  · obtain ⟨o, ho⟩ : ∃ o, h1 g = some o := by
      cases e : h1 g with
      | none => exact absurd e D.al
      | some o => exact ⟨o, rfl⟩
    exact D.keep ((hk g o ho (B.ne rfl)).trans ho.symm) B'.le0
theorem noQ_at (h : Hp) : QAt h noQ none 0 none 0 none 0 := ⟨⟨[], rfl, rfl, .inl rfl, fun r hr => by cases hr⟩, ⟨rfl, .inl rfl⟩, ⟨rfl, .inl rfl⟩⟩
set_option maxHeartbeats 1000000 in
theorem query_Parse_ok {l : List UInt8} {h : Hp} (T : TabQ h) {R : Value → Hp → Prop} (hK : ∀ a1 n1 c1 a2 n2 c2 a3 n3 c3 h', h.le h' → QAt h' (parseQ l).1 a1 n1 a2 n2 a3 n3 → R (vtup [qV a1 n1 c1 a2 n2 c2 a3 n3 c3 (parseQ l).1, ifv (errV (parseQ l).2)]) h') : CallOK Tryz.prog 12 [vs (bs l)] h R := by
  refine ok_query_Parse ?_
  unfold VC_query_Parse
  refine lexer_Words_ok fun wa wn wc h2 O => ⟨_, _, _, _, rfl, ?_⟩
  have lw := wordsL_words l
  have l02 := O.le
  unfold parseQ at hK
  generalize wordsL l = WW at *
  obtain ⟨W, fw⟩ := WW
  simp only at hK lw O
  show (Option.isSome (errV fw) = true → R (vtup [qV none 0 0 none 0 0 none 0 0 noQ, ifv (errV fw)]) h2) ∧ (Option.isSome (errV fw) = false → _)
  rw [errV_some]
  refine ⟨fun e => ?_, fun e => ?_⟩
  · have e2 : fw ≠ 0 := by simpa using e
    rw [if_pos e2] at hK
    exact hK none 0 0 none 0 0 none 0 0 h2 l02 (noQ_at h2)
  have e2 : ¬ fw ≠ 0 := by simpa using e
  rw [if_neg e2] at hK
  clear e e2
  have hS := O.slp encB_len (by decide)
  obtain rfl := hS.1
  intro b6 hb6 h7
  have l7 : h2.le h7 := Hp.le_set (Hp.le_refl h2) hb6 _
  have D7 : RdAt h2 h7 b6 ⟨W, 0, 0⟩ := ⟨⟨wa, wc, Hp.set_same _ _ _, hS, O.own.cap⟩, l7, hb6, fun x hx => Nat.le_trans (lw.2 x hx) (by decide)⟩
  have E7 : EnvQ h2 h7 b6 := ⟨T.le l02, l7, hb6⟩
  have F : Reads 42 (allP (W.length + 1)).o (W.length + 1) := (reads_all (W.length + 1)).1
  have kp := (keeps_all (W.length + 1)).1
  have g0 : (⟨W, 0, 0⟩ : RS).good := fun h => absurd rfl h
  have S7 : SOk (W.length + 1) ⟨W, 0, 0⟩ := ⟨g0, Nat.lt_succ_self _, by show W.length ≤ 1000; omega, Int.le_refl _, by show (0 : Int) + (W.length : Int) ≤ 1000000; omega⟩
  have hAll := allA_ok W
  unfold parseW at hK
  rw [readQ_eq] at hK
  unfold allA firstA at hK hAll
  generalize (allP (W.length + 1)).o = o at *
  have G1 := goes_must g0 wSelect
  refine reader_must_ok D7 (by show W.length ≤ 1000000; omega) fun h9 D9 M9 => ⟨rfl, ?_⟩
  have D9 : RdAt h2 h9 b6 ((⟨W, 0, 0⟩ : RS).must wSelect) := D9
  generalize (⟨W, 0, 0⟩ : RS).must wSelect = s1 at *
  have S9 := S7.goes G1
  have G2 := goes_agg kp S9.good (Nat.le_of_lt S9.len)
  have hs1 : s1.ws.length ≤ 80 := Nat.le_trans G1.len lw.1
  refine reader_agg_ok F kp D9 (E7.mut M9) S9 fun a13 c13 h11 D11 N11 M11 => ⟨_, _, _, _, rfl, ?_⟩
  generalize aggP o s1 = A at *
  obtain ⟨⟨k1, l1⟩, s2⟩ := A
  simp -zeta only at hK D11 N11 G2 hAll ⊢
  have S11 := S9.goes G2.1
  have l11 : h2.le h11 := D11.l
  intro b14 hb14 h15
  refine agg_app (L := []) (a := none) (c := 0) (hB := h9) (k := k1) (GTabB.nil l11) D11 D9.al (fun b e => by cases e) N11 (by decide) hb14 fun a18 c18 h17 B17 D17 => ⟨_, _, _, rfl, ?_⟩
  intro J48
  -- the rest, behind what is gathered
  have hRest : ∀ (L : List Ag) (t : RS) (a : Option Addr) (c : Nat) (hE : Hp), AggB (At b6) h2 hE a c L → RdAt h2 hE b6 t → SOk (W.length + 1) t → aggsP o (s2.ws.length + 1) [(k1, l1)] s2 = (L, t) → L.length ≤ 1000 → J48 a L.length c none 0 0 none 0 0 hE := by
    intro L t a c hE BE DE SE hL hLn
    rw [hL] at hK hAll
    simp only at hK hAll
    have EE : EnvQ h2 hE b6 := ⟨E7.t, DE.l, hb6⟩
    have hgE := DE.al
    have hG2 : ∀ b, At b6 b → h2 b = none := fun b e => by rw [show b = b6 from e]; exact hb6
    have G3 := goes_must SE.good wFrom
    refine reader_must_ok DE (by have := SE.big; omega) fun h261 D261 M261 => ⟨rfl, ?_⟩
    have D261 : RdAt h2 h261 b6 (t.must wFrom) := D261
    have S261 := SE.goes G3
    have G4 := G3.trans (goes_must G3.ok wEvents)
    refine reader_must_ok D261 (by have := S261.big; omega) fun h263 D263 M263 => ⟨rfl, ?_⟩
    have D263 : RdAt h2 h263 b6 ((t.must wFrom).must wEvents) := D263
    have ME := M261.trans M263
    have S263 := SE.goes G4
    unfold restQ at hK
    generalize (t.must wFrom).must wEvents = t2 at *
    clear G3 D261 S261
    intro b264 hb264 h265
    have l265 : h263.le h265 := Hp.le_set (Hp.le_refl h263) hb264 _
    have gi := goes_is S263.good [wWhere]
    have io := @is_one t2 wWhere (by decide)
    refine reader_is_ok (D263.le l265) (slb_one h263 b264 wWhere) (by decide) (by have := S263.big; omega) fun h267 D267 M267 => ⟨_, rfl, _, rd_neBs (b := []), ?_⟩
    have D267 : RdAt h2 h267 b6 (t2.is [wWhere]).2 := D267
    have M267' := (ME.trans (Mut.of_le l265)).trans M267
    intro J275
    have h275 : ∀ (wh : List Nd) (aw : Option Addr) (cw : Nat) (u : RS) (h315 : Hp), optP wWhere o t2 = (wh, u) → RdAt h2 h315 b6 u → SOk (W.length + 1) u → NdAt hE h315 aw wh.length wh → NdsOK wh → Mut (At b6) hE (At b6) h315 → J275 aw wh.length cw h315 := by
      intro wh aw cw u h315 hw D315 S315 N315 Kw M315
      rw [hw] at hK
      simp only at hK
      unfold byQ at hK
      intro b316 hb316 h317
      have l317 : h315.le h317 := Hp.le_set (Hp.le_refl h315) hb316 _
      have gi := goes_is S315.good [wGroup]
      have io := @is_one u wGroup (by decide)
      refine reader_is_ok (D315.le l317) (slb_one h315 b316 wGroup) (by decide) (by have := S315.big; omega) fun h319 D319 M319 => ⟨_, rfl, _, rd_neBs (b := []), ?_⟩
      have D319 : RdAt h2 h319 b6 (u.is [wGroup]).2 := D319
      have M319' := (M315.trans (Mut.of_le l317)).trans M319
      intro J329
      have h329 : ∀ (by_ : List Nd) (ab : Option Addr) (cb : Nat) (v : RS) (h354 : Hp), optP wGroup (fun s => o (s.must wBy)) u = (by_, v) → RdAt h2 h354 b6 v → SOk (W.length + 1) v → NdAt hE h354 aw wh.length wh → NdAt hE h354 ab by_.length by_ → NdsOK by_ → Mut (At b6) hE (At b6) h354 → J329 ab by_.length cb h354 := by
        intro by_ ab cb v h354 hv D354 S354 Nw N354 Kb M354
        rw [hv] at hK
        simp only at hK
        unfold endQ at hK
        simp only at hK
        have Ga := goes_must S354.good wWindow
        refine reader_must_ok D354 (by have := S354.big; omega) fun h356 D356 M356 => ⟨rfl, ?_⟩
        have D356 : RdAt h2 h356 b6 (v.must wWindow) := D356
        have Sa := S354.goes Ga
        generalize v.must wWindow = v1 at *
        have Gb := goes_number Sa.good 1000
        refine reader_number_ok D356 (EE.mut (M354.trans M356)) (by have := Sa.big; omega) (by decide) (by decide) fun h358 D358 M358 => ⟨_, rfl, ?_⟩
        have Sb := Sa.goes Gb
        generalize v1.number 1000 = Z at *
        obtain ⟨z, v2⟩ := Z
        simp -zeta only at hK D358 Sb ⊢
        have Gc := goes_optN Sb.good wSlide z
        refine reader_optional_ok (w := wSlide) D358 (EE.mut ((M354.trans M356).trans M358)) Sb (by decide) fun h361 D361 M361 => ⟨_, rfl, ?_⟩
        have Sc := Sb.goes Gc
        generalize optN wSlide z v2 = Z at *
        obtain ⟨sl, v3⟩ := Z
        simp -zeta only at hK D361 Sc ⊢
        have Gd := goes_optN Sc.good wDelay 0
        refine reader_optional_ok (w := wDelay) D361 (EE.mut (((M354.trans M356).trans M358).trans M361)) Sc (by decide) fun h364 D364 M364 => ⟨_, rfl, ?_⟩
        have Sd := Sc.goes Gd
        generalize optN wDelay 0 v3 = Z at *
        obtain ⟨d, v4⟩ := Z
        simp -zeta only at hK D364 Sd ⊢
        have Ge := goes_optN Sd.good wLate 0
        refine reader_optional_ok (w := wLate) D364 (EE.mut ((((M354.trans M356).trans M358).trans M361).trans M364)) Sd (by decide) fun h367 D367 M367 => ⟨_, rfl, ?_⟩
        have Se := Sd.goes Ge
        generalize optN wLate 0 v4 = Z at *
        obtain ⟨lt, v5⟩ := Z
        simp -zeta only at hK D367 Se ⊢
        have M367' := ((((M354.trans M356).trans M358).trans M361).trans M364).trans M367
        have M36 := ((((M356).trans M358).trans M361).trans M364).trans M367
        obtain ⟨qa, qc, hq⟩ := D367.c0
        refine ⟨_, D367.c2, _, _, _, fun _ => hq, ?_⟩
        intro J374
        have h374 : ∀ (h375 : Hp) (y : RS), y.f = (if v5.f = 0 ∧ v5.ws ≠ [] then v5.fail 4 else v5).f → RdAt h2 h375 b6 y → Mut (At b6) h367 (At b6) h375 → J374 h375 := by
          intro h375 y hy D375 M375
          rw [← hy] at hK
          have M375' := M367'.trans M375
          have BE2 : AggB (At b6) h2 h375 a c L := BE.keep hG2 M375'.keep
          have Nw2 := Nw.mut hgE (M36.trans M375)
          have N2 := N354.mut hgE (M36.trans M375)
          have QE : QAt h375 ⟨L, wh, by_, z, sl, d, lt⟩ a L.length aw wh.length ab by_.length := ⟨BE2.tab, Nw2.s, N2.s⟩
          refine ⟨_, D375.c2, ?_⟩
          intro J383
          have h383 : ∀ (h384 : Hp) (f : Int), h384.cell b6 (0 + 2) = some (ifv (errV f)) → h.le h384 → (f ≠ 0 → ∀ h', h.le h' → R (vtup [qV none 0 0 none 0 0 none 0 0 noQ, ifv (errV f)]) h') → (f = 0 → R (vtup [qV a L.length c aw wh.length cw ab by_.length cb ⟨L, wh, by_, z, sl, d, lt⟩, ifv none]) h384) → J383 h384 := by
            intro h384 f hc lh hb hg
            refine ⟨_, hc, fun e => ⟨_, hc, hc, ?_⟩, fun e => ?_⟩
            · rw [errV_some] at e
              exact hb (by simpa using e) h384 lh
            · rw [errV_some] at e
              exact hg (by simpa using e)
          clear_value J383
          refine ⟨fun e => ?_, fun e => ?_⟩
          · rw [errV_none] at e
            have e : y.f = 0 := of_decide_eq_true e
            rw [e, if_neg (fun h => h rfl)] at hK
            have hbig : QBig ⟨L, wh, by_, z, sl, d, lt⟩ := ⟨Nat.le_trans Kw.1 (by decide), Nat.le_trans Kb.1 (by decide), fun x hx => Nat.le_trans (hAll x hx).1 (by decide), by show L.length ≤ 1000000; omega⟩
            refine query_Check_ok (q := ⟨L, wh, by_, z, sl, d, lt⟩) (c1 := c) (c2 := cw) (c3 := cb) QE hbig fun h378 l378 => ⟨errV (qryF ⟨L, wh, by_, z, sl, d, lt⟩), rfl, ?_⟩
            refine (D375.le l378).put2 fun h380 D380 M380 => ?_
            have lh : h.le h380 := Hp.le_trans l02 D380.l
            refine h383 h380 _ D380.c2 lh (fun hf h' l' => ?_) fun hf => ?_
            · rw [if_pos hf] at hK
              exact hK none 0 0 none 0 0 none 0 0 h' l' (noQ_at h')
            · rw [if_neg (fun h => h hf)] at hK
              have M2 := (Mut.of_le l378).trans M380
              exact hK _ _ c _ _ cw _ _ cb h380 lh ⟨(BE2.keep hG2 M2.keep).tab, (Nw2.mut hgE M2).s, (N2.mut hgE M2).s⟩
          · rw [errV_none] at e
            have e : y.f ≠ 0 := of_decide_eq_false e
            rw [if_pos e] at hK
            refine h383 h375 y.f D375.c2 (Hp.le_trans l02 D375.l) (fun hf h' l' => ?_) fun hf => absurd hf e
            exact hK none 0 0 none 0 0 none 0 0 h' l' (noQ_at h')
        clear_value J374
        have hcond : (bif Option.isNone (errV v5.f) then decide (((v5.ws.length : Nat) : Int) > 0) else false) = decide (v5.f = 0 ∧ v5.ws ≠ []) := by
          rw [errV_none, cand]
          refine decide_eq_decide.2 ?_
          rw [ne_eq, nil_len]
          constructor
          · rintro ⟨h1, h2⟩; exact ⟨h1, by omega⟩
          · rintro ⟨h1, h2⟩; exact ⟨h1, by omega⟩
        rw [hcond]
        refine ⟨fun e => ?_, fun e => ?_⟩
        · have e := of_decide_eq_true e
          refine (D367.put2 (f := 4) fun h371 D371 M371 => h374 h371 _ ?_ D371 M371)
          rw [if_pos e]
          unfold RS.fail
          rw [if_pos e.1]
        · have e := of_decide_eq_false e
          exact h374 h367 v5 (by rw [if_neg e]) D367 (Mut.of_le (Hp.le_refl _))
      clear_value J329
      have Nw := (N315.mut hgE ((Mut.of_le l317).trans M319))
      refine ⟨fun e => ?_, fun e => ?_⟩
      · have e : (u.is [wGroup]).1 ≠ [] := by simpa using e
        have hop : optP wGroup (fun s => o (s.must wBy)) u = o ((u.is [wGroup]).2.must wBy) := by unfold optP; rw [if_neg e]
        rw [hop] at h329
        have Su := S315.goes gi
        have Gy := goes_must Su.good wBy
        refine reader_must_ok D319 (by have := Su.big; omega) fun h323 D323 M323 => ⟨rfl, ?_⟩
        have D323 : RdAt h2 h323 b6 ((u.is [wGroup]).2.must wBy) := D323
        have S323 := Su.goes Gy
        have k2 := kp _ S323.good (Nat.le_of_lt S323.len)
        have M323' := M319'.trans M323
        refine F D323 (EE.mut M323') S323 fun a c h325 D325 N325 M325 => ⟨_, _, _, rfl, ?_⟩
        exact h329 _ _ _ _ h325 rfl D325 (S323.goes k2.goes) ((Nw.mut hgE M323).mut hgE M325) (N325.base (M323'.up D323.al)) k2.nds (M323'.trans M325)
      · have e : (u.is [wGroup]).1 = [] := by simpa using e
        have hop : optP wGroup (fun s => o (s.must wBy)) u = ([], u) := by unfold optP; rw [if_pos e]
        rw [io e] at D319
        exact h329 [] none 0 u h319 hop D319 S315 Nw (nd_nil _ _) nds_nil M319'
    clear_value J275
    refine ⟨fun e => ?_, fun e => ?_⟩
    · have e : (t2.is [wWhere]).1 ≠ [] := by simpa using e
      have hop : optP wWhere o t2 = o (t2.is [wWhere]).2 := by unfold optP; rw [if_neg e]
      rw [hop] at h275
      have Su := S263.goes gi
      have k2 := kp _ Su.good (Nat.le_of_lt Su.len)
      refine F D267 (EE.mut M267') Su fun a c h271 D271 N271 M271 => ⟨_, _, _, rfl, ?_⟩
      exact h275 _ _ _ _ h271 rfl D271 (Su.goes k2.goes) (N271.base (M267'.up D267.al)) k2.nds (M267'.trans M271)
    · have e : (t2.is [wWhere]).1 = [] := by simpa using e
      have hop : optP wWhere o t2 = ([], t2) := by unfold optP; rw [if_pos e]
      rw [io e] at D267
      exact h275 [] none 0 t2 h267 hop D267 S263 (nd_nil _ _) nds_nil M267'
  clear_value J48
  -- what is gathered, one behind the other
  refine ⟨fun vs' hh => ∃ (k : Nat) (L : List Ag) (t : RS) (a : Option Addr) (c : Nat), vs' = [vsl a L.length c, vsl none 0 0, vsl none 0 0, vi 0, vi 0, vi 0, vi 0] ∧ AggB (At b6) h2 hh a c L ∧ RdAt h2 hh b6 t ∧ SOk (W.length + 1) t ∧ t.ws.length < k ∧ aggsP o (s2.ws.length + 1) [(k1, l1)] s2 = aggsP o k L t ∧ L.length + t.ws.length ≤ 100, fun _ hh => wordsN hh b6, ⟨_, [(k1, l1)], s2, a18, c18, rfl, B17, D17, S11, Nat.lt_succ_self _, rfl, ?_⟩, ?_⟩
  · have := G2.1.len
    show 1 + s2.ws.length ≤ 100
    omega
  rintro vs' hh ⟨k, L, t, a, c, rfl, B, D, S, hk, hrow, hL⟩
  obtain ⟨k, rfl⟩ : ∃ j, k = j + 1 := ⟨k - 1, by omega⟩
  have hst : aggsP o (k + 1) L t = if (t.is [wComma]).1 = [] then (L, t) else aggsP o k (L ++ [(aggP o (t.is [wComma]).2).1]) (aggP o (t.is [wComma]).2).2 := rfl
  rw [hst] at hrow
  clear hst
  refine ⟨_, _, _, _, _, _, _, _, _, _, _, _, _, rfl, ?_⟩
  intro b31 hb31 h32
  have l32 : hh.le h32 := Hp.le_set (Hp.le_refl hh) hb31 _
  have gi := goes_is S.good [wComma]
  have io := @is_one t wComma (by decide)
  have tk := @taken t [wComma]
  have hG2 : ∀ b, At b6 b → h2 b = none := fun b e => by rw [show b = b6 from e]; exact hb6
  have hwn := D.wn
  refine reader_is_ok (D.le l32) (slb_one hh b31 wComma) (by decide) (by have := S.big; omega) fun h34 D34 M34 => ⟨_, rfl, _, rd_neBs (b := []), fun e => ?_, fun e => ?_⟩
  · have e : (t.is [wComma]).1 ≠ [] := by simpa using e
    rw [if_neg e] at hrow
    have tk := tk e
    have D34 : RdAt h2 h34 b6 (t.is [wComma]).2 := D34
    have B34 := (B.grow l32).keep hG2 M34.keep
    have St := S.goes gi
    have Ga := goes_agg kp St.good (Nat.le_of_lt St.len)
    have E34 : EnvQ h2 h34 b6 := ⟨E7.t, D34.l, hb6⟩
    refine reader_agg_ok F kp D34 E34 St fun a42 c42 h40 D40 N40 M40 => ⟨_, _, _, _, rfl, ?_⟩
    generalize aggP o (t.is [wComma]).2 = A at *
    obtain ⟨⟨k2, l2⟩, t2⟩ := A
    simp -zeta only at hrow D40 N40 Ga ⊢
    have B40 := B34.keep hG2 M40.keep
    intro b43 hb43 h44
    have hlen := Ga.1.len
    refine agg_app (hB := h34) (k := k2) B40 D40 D34.al (fun b e => B34.al e) N40 (by omega) hb43 fun a47 c47 h46 B46 D46 => ⟨_, _, _, rfl, ⟨k, L ++ [(k2, l2)], t2, a47, c47, by simp, B46, D46, St.goes Ga.1, by omega, hrow, by simp; omega⟩, ?_⟩
    have h46n := D46.wn
    show wordsN h46 b6 < wordsN hh b6
    omega
  · have e : (t.is [wComma]).1 = [] := by simpa using e
    rw [if_pos e] at hrow
    rw [io e] at D34
    exact hRest L t a c h34 ((B.grow l32).keep hG2 M34.keep) D34 S hrow (by omega)
end Go.Proofs.YtejefijpcggkfaaGreatDoor
namespace Go.Proofs.YtejefijpcggkfaaGreatDoor
open Go Go.Vc
set_option linter.unusedVariables false
inductive Lx : List UInt8 → List (List UInt8) → Prop
  | nil : Lx [] []
  | blank {l : List UInt8} {ws : List (List UInt8)} : Lx l ws → Lx (32 :: l) ws
  | word {w l : List UInt8} {ws : List (List UInt8)} : w ≠ [] → kindB (w.getD 0 0) ≠ 32 → endW (w ++ l) 0 = w.length → Lx l ws → Lx (w ++ l) (w :: ws)
def Start (b : List UInt8) : Prop := b = [] ∨ ∃ c r, b = c :: r ∧ (c = 32 ∨ c = 41 ∨ c = 40 ∨ c = 44)
end Go.Proofs.YtejefijpcggkfaaGreatDoor
namespace Go.Proofs.YtejefijpcggkfaaGreatDoor
open Go Go.Vc
set_option linter.unusedVariables false
def tkF (n : Nd) (a b : List Wd) : List Wd :=
  if n.op = 1 then [textV n.v]
  else if n.op = 2 then [fieldW.getD n.n.toNat []]
  else if n.op = 3 then wOpen :: wMinus :: (a ++ [wClose])
  else if n.op = 4 then wOpen :: wNot :: (a ++ [wClose])
  else if n.op = 5 then wOpen :: (a ++ [wIs, wNull, wClose])
  else wOpen :: (a ++ signW n.op :: (b ++ [wClose]))
abbrev tkAt (l : List Nd) (i : Nat) : List Wd := fAt [] tkF l i
def tkE (l : List Nd) : List Wd := tkAt l (l.length - 1)
def RdS (P : Ps) (T : List Wd) (x : List Nd) (stop : Wd → Prop) : Prop := ∀ (rest : List Wd) (d : Int), (∀ w r, rest = w :: r → ¬ stop w) → (P ⟨T ++ rest, d, 0⟩).2.f = 2 ∨ P ⟨T ++ rest, d, 0⟩ = (x, ⟨rest, d, 0⟩)
def cmpW2 : List Wd := [wLt, wGt, wLe, wGe, wEq, wNe, wIs]
end Go.Proofs.YtejefijpcggkfaaGreatDoor
namespace Go.Proofs.YtejefijpcggkfaaGreatDoor
open Go Go.Vc
set_option linter.unusedVariables false
def KA (P : Ps) : Prop := ∀ m, KP P m
theorem KA.good {P : Ps} (h : KA P) : ∀ s : RS, s.good → (P s).2.good := fun s hs => (h s.ws.length s hs (Nat.le_refl _)).ok
def L1 : List Wd := [wStar]
def L2 : List Wd := L1 ++ [wPlus, wMinus]
def L3 : List Wd := L2 ++ cmpW2
def L4 : List Wd := L3 ++ [wAnd]
def L5 : List Wd := L4 ++ [wOr]
def Non : Wd → Prop := fun _ => False
section
variable {t : Three} {T T2 : List Wd} {x y : List Nd}
structure Lev (t : Three) (T : List Wd) (x : List Nd) : Prop where
  u : RdS (unS t) T x Non
  p : RdS (prodS t) T x (· ∈ L1)
  s : RdS (sumS t) T x (· ∈ L2)
  c : RdS (cmpS t) T x (· ∈ L3)
  n : RdS (notS t) T x (· ∈ L3)
  a : RdS (andS t) T x (· ∈ L4)
  o : RdS (orS t) T x (· ∈ L5)
end
section
variable {t : Three} {T : List Wd} {x : List Nd} {s : Wd → Prop}
end
end Go.Proofs.YtejefijpcggkfaaGreatDoor
namespace Go.Proofs.YtejefijpcggkfaaGreatDoor
open Go Go.Vc Go.Txt
set_option linter.unusedVariables false
def PosL (l : List Nd) : Prop := ∀ n ∈ l, 0 ≤ n.v.2
def PP (P : Ps) : Prop := ∀ s, PosL (P s).1
theorem pos_one {n : Nd} (h : 0 ≤ n.v.2) : PosL [n] := fun m hm => by rw [List.mem_singleton.1 hm]; exact h
theorem pos_join {op : Int} {x y : List Nd} (hx : PosL x) (hy : PosL y) : PosL (joinL op x y) := by
  intro n hn
  unfold joinL at hn
  rcases List.mem_append.1 hn with h | h
  · rcases List.mem_append.1 h with h | h
    · exact hx n h
    · obtain ⟨m, hm, rfl⟩ := List.mem_map.1 h
      exact hy m hm
  · rw [List.mem_singleton.1 h]
    exact Int.le_refl _
theorem pos_joinP {op : Int} {x y : List Nd} {s : RS} (hx : PosL x) (hy : PosL y) : PosL (joinP op x y s).1 := by
  unfold joinP
  split
  · exact pos_one (by decide)
  · exact pos_join hx hy
theorem pos_nil : PosL [] := fun n h => by cases h
theorem number_pos (s : RS) (m : Int) : 0 ≤ (s.number m).1 := by
  unfold RS.number
  split
  · exact Int.le_refl _
  · split
    · exact Int.le_refl _
    · rename_i h; simp only; omega
theorem pp_down {P : Ps} (h : PP P) : PP (downP P) := by
  intro s
  unfold downP
  exact h _
theorem pp_atom {o : Ps} (h : PP o) : PP (atomP o) := by
  intro s
  unfold atomP
  simp only
  split
  · exact pp_down h _
  · split
    · refine pos_one ?_
      simp only
      unfold constV
      split
      · decide
      · simp only
        split <;> decide
    · split
      · exact pos_one (number_pos _ _)
      · exact pos_one (Int.le_refl _)
theorem pp_unary {u a : Ps} (hu : PP u) (ha : PP a) : PP (unaryP u a) := by
  intro s
  unfold unaryP
  split
  · exact ha s
  · exact pos_joinP (pp_down hu _) pos_nil
theorem pp_not {u a : Ps} (hu : PP u) (ha : PP a) : PP (notP u a) := by
  intro s
  unfold notP
  split
  · exact ha s
  · exact pos_joinP (pp_down hu _) pos_nil
theorem pp_rowL {P : Ps} (h : PP P) {ops : List (Wd × Int)} : ∀ (k : Nat) (x : List Nd) (s : RS), PosL x → PosL (rowL P ops k x s).1
  | 0, x, s, hx => hx
  | k + 1, x, s, hx => by
    rw [rowL]
    split
    · exact hx
    · simp only
      split
      · exact hx
      · exact pp_rowL h k _ _ (pos_joinP hx (h _))
theorem pp_row {P : Ps} (h : PP P) {ops : List (Wd × Int)} : PP (rowP P ops) := fun s => pp_rowL h _ _ _ (h s)
theorem pp_cmp {P : Ps} (h : PP P) : PP (cmpP P) := by
  intro s
  unfold cmpP
  simp only
  split
  · exact pos_joinP (h _) (h _)
  · split
    · exact pos_joinP (h _) (h _)
    · split
      · exact pos_joinP (pos_joinP (h _) (h _)) pos_nil
      · split
        · exact pos_joinP (pos_joinP (h _) (h _)) pos_nil
        · split
          · exact pos_joinP (h _) (h _)
          · split
            · exact pos_joinP (pos_joinP (h _) (h _)) pos_nil
            · split
              · split
                · exact pos_joinP (pos_joinP (h _) pos_nil) pos_nil
                · exact pos_joinP (h _) pos_nil
              · exact h _
theorem pp_S {t : Three} (ho : PP t.o) (hn : PP t.n) (hu : PP t.u) : PP (orS t) ∧ PP (notS t) ∧ PP (unS t) := by
  have h1 : PP (unS t) := pp_unary hu (pp_atom ho)
  have h3 : PP (sumS t) := pp_row (pp_row h1)
  have h5 : PP (notS t) := pp_not hn (pp_cmp h3)
  exact ⟨pp_row (pp_row h5), h5, h1⟩
theorem pp_noP : PP noP := fun s => pos_one (by decide)
theorem pp_all (n : Nat) : PP (allP n).o ∧ PP (allP n).n ∧ PP (allP n).u := by
  induction n with
  | zero => exact ⟨pp_noP, pp_noP, pp_noP⟩
  | succ n ih =>
    rw [allP_succ]
    exact pp_S ih.1 ih.2.1 ih.2.2
structure PosQ (q : Qy) : Prop where
  g : ∀ a ∈ q.aggs, PosL a.2
  w : PosL q.wh
  b : PosL q.by_
theorem pos_ite {c : Prop} [Decidable c] {x y : Ag × RS} (hx : PosL x.1.2) (hy : PosL y.1.2) : PosL (if c then x else y).1.2 := by
  split
  · exact hx
  · exact hy
theorem pp_agg {o : Ps} (h : PP o) (s : RS) : PosL (aggP o s).1.2 := by
  unfold aggP
  exact pos_ite pos_nil (h _)
theorem pp_aggs {o : Ps} (h : PP o) : ∀ (k : Nat) (l : List Ag) (s : RS), (∀ a ∈ l, PosL a.2) → ∀ a ∈ (aggsP o k l s).1, PosL a.2
  | 0, l, s, hl => hl
  | k + 1, l, s, hl => by
    rw [aggsP]
    split
    · exact hl
    · refine pp_aggs h k _ _ fun a ha => ?_
      rcases List.mem_append.1 ha with h1 | h1
      · exact hl a h1
      · rw [List.mem_singleton.1 h1]; exact pp_agg h _
theorem pp_opt {P : Ps} (h : PP P) {w : Wd} {s : RS} : PosL (optP w P s).1 := by
  unfold optP
  split
  · exact pos_nil
  · exact h _
theorem posQ_read (ws : List Wd) : PosQ (readQ ws).1 := by
  have ho := (pp_all (ws.length + 1)).1
  rw [readQ_eq]
  generalize (allP (ws.length + 1)).o = o at ho ⊢
  refine ⟨pp_aggs ho _ _ _ fun a ha => ?_, pp_opt ho, pp_opt (fun s => ho _)⟩
  rw [List.mem_singleton.1 ha]; exact pp_agg ho _
theorem posQ_parse {s : List UInt8} (h : (parseQ s).2 = 0) : QOk (parseQ s).1 ∧ PosQ (parseQ s).1 := by
  unfold parseQ at h ⊢
  split at h
  · rename_i h1; exact absurd h h1
  · rename_i h1
    rw [if_neg h1]
    unfold parseW at h ⊢
    split at h
    · rename_i h2; exact absurd h h2
    · rename_i h2
      rw [if_neg h2]
      split at h
      · rename_i h3; exact absurd h h3
      · rename_i h3
        rw [if_neg h3]
        exact ⟨qok_of (Decidable.not_not.1 h3), posQ_read _⟩
def tkA (a : Ag) : List Wd := aggsW.getD a.1.toNat [] :: wOpen :: ((if a.1 = 1 then [wStar] else tkE a.2) ++ [wClose])
def tkAs : List Ag → List Wd
  | [] => []
  | [a] => tkA a
  | a :: b :: r => tkA a ++ wComma :: tkAs (b :: r)
def tkW (l : List Nd) : List Wd := if l = [] then [] else wWhere :: tkE l
def tkB (l : List Nd) : List Wd := if l = [] then [] else wGroup :: wBy :: tkE l
def tkN (q : Qy) : List Wd := [wWindow, Lib.itoa q.size, wSlide, Lib.itoa q.slide, wDelay, Lib.itoa q.delay, wLate, Lib.itoa q.late]
def tkQ (q : Qy) : List Wd := wSelect :: (tkAs q.aggs ++ wFrom :: wEvents :: (tkW q.wh ++ (tkB q.by_ ++ tkN q)))
structure AgOk (a : Ag) : Prop where
  k : 1 ≤ a.1 ∧ a.1 ≤ 5
  e : a.1 ≠ 1 → exprF a.2 = 0
  n : a.1 = 1 → a.2 = []
  p : PosL a.2
def Bad (s : RS) : Prop := s.f = 2 ∧ s.ws = []
end Go.Proofs.YtejefijpcggkfaaGreatDoor
namespace Go.Proofs.YtejefijpcggkfaaGreatDoor
open Go Go.Vc
set_option maxRecDepth 100000
set_option linter.unusedVariables false
end Go.Proofs.YtejefijpcggkfaaGreatDoor
namespace Go.Proofs.YtejefijpcggkfaaGreatDoor
open Go Go.Vc
set_option linter.unusedVariables false
end Go.Proofs.YtejefijpcggkfaaGreatDoor
namespace Go.Proofs.YtejefijpcggkfaaGreatDoor
open Go Go.Vc
set_option linter.unusedVariables false
end Go.Proofs.YtejefijpcggkfaaGreatDoor
namespace Go.Proofs.YtejefijpcggkfaaGreatDoor
open Go Go.Vc
set_option maxRecDepth 100000
set_option linter.unusedVariables false
def VC_top_asked (u_s : ByteArray) (h : Hp) (R : Value → Hp → Prop) : Prop :=
  (((decide ((((ByteArray.size u_s : Nat) : Int) : Int) > 400)) = true → R (vtup [(vag [(vsl none 0 0), (vsl none 0 0), (vsl none 0 0), (vi 0), (vi 0), (vi 0), (vi 0)]), (vb false)]) h) ∧ ((decide ((((ByteArray.size u_s : Nat) : Int) : Int) > 400)) = false → (CallOK Tryz.prog 12 [(vs u_s)] h fun v2 h3 => ∃ (a4 : Option Addr) (n4 c4 : Nat) (a5 : Option Addr) (n5 c5 : Nat) (a6 : Option Addr) (n6 c6 : Nat) (x7 : Int) (x8 : Int) (x9 : Int) (x10 : Int) (e11 : Option (TypeId × Value)), v2 = (vtup [(vag [(vsl a4 n4 c4), (vsl a5 n5 c5), (vsl a6 n6 c6), (vi x7), (vi x8), (vi x9), (vi x10)]), (ifv e11)]) ∧ R (vtup [(vag [(vsl a4 n4 c4), (vsl a5 n5 c5), (vsl a6 n6 c6), (vi x7), (vi x8), (vi x9), (vi x10)]), (vb (Option.isNone e11))]) h3)))
theorem ok_top_asked {u_s : ByteArray} {h : Hp} {R : Value → Hp → Prop} (H : VC_top_asked u_s h R) : CallOK Tryz.prog 13 [(vs u_s)] h R :=
  call_of (cfg := ⟨[], [], [(4, [0, 1, 2, 3, 4])]⟩) noNG mixed Tryz.func13 [.one (.v (vs u_s))] (by kernel_rfl) rfl (by kernel_rfl) H
end Go.Proofs.YtejefijpcggkfaaGreatDoor
namespace Go.Proofs.YtejefijpcggkfaaGreatDoor
open Go Go.Vc Go.Txt
set_option linter.unusedVariables false
theorem top_asked_ok {s : Wd} {h : Hp} (T : TabQ h) {R : Value → Hp → Prop} (bad : ∀ a1 n1 c1 a2 n2 c2 a3 n3 c3 x4 x5 x6 x7 h', h.le h' → R (vtup [vag [vsl a1 n1 c1, vsl a2 n2 c2, vsl a3 n3 c3, vi x4, vi x5, vi x6, vi x7], vb false]) h')
    (hK : (parseQ s).2 = 0 → QOk (parseQ s).1 → ∀ a1 n1 c1 a2 n2 c2 a3 n3 c3 h', h.le h' → QAt h' (parseQ s).1 a1 n1 a2 n2 a3 n3 → R (vtup [qV a1 n1 c1 a2 n2 c2 a3 n3 c3 (parseQ s).1, vb true]) h') : CallOK Tryz.prog 13 [vs (bs s)] h R := by
  refine ok_top_asked ?_
  unfold VC_top_asked
  refine ⟨fun e => bad _ _ _ _ _ _ _ _ _ _ _ _ _ h (Hp.le_refl _), fun _ => ?_⟩
  refine query_Parse_ok T fun a1 n1 c1 a2 n2 c2 a3 n3 c3 h' l' Q => ⟨_, _, _, _, _, _, _, _, _, _, _, _, _, _, rfl, ?_⟩
  rw [errV_none]
  by_cases hf : (parseQ s).2 = 0
  · rw [decide_eq_true hf]
    exact hK hf (posQ_parse hf).1 a1 n1 c1 a2 n2 c2 a3 n3 c3 h' l' Q
  · rw [decide_eq_false hf]
    exact bad _ _ _ _ _ _ _ _ _ _ _ _ _ h' l'
end Go.Proofs.YtejefijpcggkfaaGreatDoor
namespace Go.Proofs.YtejefijpcggkfaaGreatDoor
open Go Go.Vc Go.Txt
def tWin : Wd := [115, 101, 108, 101, 99, 116, 32, 99, 111, 117, 110, 116, 40, 42, 41, 32, 102, 114, 111, 109, 32, 101, 118, 101, 110, 116, 115, 32, 119, 105, 110, 100, 111, 119, 32, 55]
def ev3 : EvL := (3, (0, 0), (0, 0), (0, 0))
end Go.Proofs.YtejefijpcggkfaaGreatDoor
namespace Go.Proofs.YtejefijpcggkfaaGreatDoor
open Go Go.Vc Go.Txt Go.RowKit
set_option linter.unusedVariables false
set_option maxRecDepth 100000
theorem tWin_ans : (parseQ tWin).2 = 0 ∧ ansQ (parseQ tWin).1 [] = [] ∧ lateA (parseQ tWin).1 [] = 0 ∧ (ansQ (parseQ tWin).1 [[ev3]]).length = 1 := by decide +kernel
theorem ev3_ok : ∀ p ∈ [[ev3]], ∀ e ∈ p, EvOK e := by
  intro p hp e he
  rw [List.mem_singleton.1 hp] at he
  rw [List.mem_singleton.1 he]; exact chkE_ok (by decide)
theorem tabc_nil {α : Type} {enc : α → List Value} {h : Hp} : TabC enc h none 0 [] := ⟨[], rfl, rfl, .inl rfl, fun j r hr => by cases hr⟩
theorem tabc_one {h : Hp} {b : Nat} {t : TypeId} {a : Option Addr} {n c : Nat} {l : List EvL} (hb : h b = some (cellsO [vsl a n c] t)) (S : SlP encE h a n l) (hc : n ≤ c) : TabC encE h (some ⟨b, 0, none⟩) 1 [l] := by
  obtain ⟨rfl, S⟩ := S
  refine ⟨[((a, c), l)], rfl, rfl, .inr ⟨b, 0, rfl, row_cells' hb (by simp)⟩, fun j r hr => ?_⟩
  match j, hr with
  | 0, hr => cases hr; exact ⟨S, hc⟩
theorem law_TopParts_ok {s : Wd} {ps : List (List EvL)} {pa : Option Addr} {pn pc : Nat} {h : Hp} (TP : TabC encE h pa pn ps) (hpc : pn ≤ pc) (T : TabQ h) : CallOK Tryz.prog 4 [vs (bs s), vsl pa pn pc] h fun v h' => v = vb true ∧ h.le h' := by
  refine ok_top_TopParts ?_
  unfold VC_top_TopParts
  have hpn : pn = ps.length := TP.r.choose_spec.2.1
  obtain ⟨e0, e1, e2, e3⟩ := tWin_ans
  have Qk := (posQ_parse e0).1
  refine query_Parse_ok (l := tWin) T fun a1 n1 c1 a2 n2 c2 a3 n3 c3 h2 l2 Q => ⟨_, _, _, _, _, _, _, _, _, _, _, _, _, _, rfl, ?_⟩
  rw [errV_some, decide_eq_true e0]
  refine ⟨fun e => (by cases e), fun _ => ?_⟩
  refine batch_Answer_ok Q Qk (tabc_nil (enc := encE)) (by decide) (by simp) (by simp) fun a14 c14 h13 l13 G14 => ⟨_, _, _, _, rfl, ?_⟩
  rw [e1, e2]
  intro b16 hb16 h17 b18 hb18 h19
  have l17 : h13.le h17 := Hp.le_set (Hp.le_refl h13) hb16 _
  have l19 : h17.le h19 := Hp.le_set (Hp.le_refl h17) hb18 _
  have k16 : h17 b16 = some (cellsO [vi 3, vi 0, vi 0, vi 0, vi 0, vi 0, vi 0] 35) := Hp.set_same _ _ _
  have k18 : h19 b18 = some (cellsO [vsl (some ⟨b16, 0, none⟩) 1 1] 30) := Hp.set_same _ _ _
  clear_value h19
  clear_value h17
  have TC : TabC encE h19 (some ⟨b18, 0, none⟩) 1 [[ev3]] := tabc_one k18 ⟨rfl, .inr ⟨b16, 0, rfl, row_cells' (l19 _ _ k16) (by simp [encE, ev3])⟩⟩ (Nat.le_refl _)
  have l219 := Hp.le_trans l13 (Hp.le_trans l17 l19)
  refine batch_Answer_ok (Q.le l219) Qk TC (by decide) (by decide) ev3_ok fun a22 c22 h21 l21 G22 => ⟨_, _, _, _, rfl, ?_⟩
  rw [e3]
  refine ⟨fun e => absurd e (by simp), fun _ => ?_⟩
  have l021 := Hp.le_trans l2 (Hp.le_trans l219 l21)
  refine top_asked_ok (T.le l021) (fun a1 n1 c1 a2 n2 c2 a3 n3 c3 x4 x5 x6 x7 h' l' => ⟨_, _, _, _, _, _, _, _, _, _, _, _, _, _, rfl, fun x hh => h.le hh, fun e => (by cases e), fun _ => Hp.le_trans l021 l', ?_⟩) ?_
  · intro h39 p40 l39
    exact ⟨fun _ => ⟨rfl, l39⟩, fun e => (by cases e)⟩
  intro hf B a27 n27 c27 a28 n28 c28 a29 n29 c29 h26 l26 Q26
  have l026 := Hp.le_trans l021 l26
  refine ⟨_, _, _, _, _, _, _, _, _, _, _, _, _, _, rfl, ?_⟩
  refine ⟨fun x hh => h26.le hh ∧ ∃ p, x = .t (.one (.v (vb p))) ∧ (p = true → ps.length ≤ 3 ∧ ∀ x ∈ ps, x.length ≤ 40 ∧ ∀ e ∈ x, EvOK e), fun _ => top_light_ok (TP.le l026) fun p h' l' hp => ⟨_, rfl, l', p, rfl, hp⟩, fun e => absurd rfl e, ?_⟩
  rintro h39 p40 ⟨l39, p, e, hp⟩
  cases e
  have l039 := Hp.le_trans l026 l39
  refine ⟨fun _ => ⟨rfl, l039⟩, fun e => ?_⟩
  have hpt : p40 = true := by cases p40 with | true => rfl | false => cases e
  obtain ⟨h3, hps⟩ := hp hpt
  have hl : ∀ p ∈ ps, p.length ≤ 100 := fun p hp => by have := (hps p hp).1; omega
  have hE : ∀ p ∈ ps, ∀ e ∈ p, EvOK e := fun p hp => (hps p hp).2
  have B5 : ∀ a ∈ (parseQ s).1.aggs, 1 ≤ a.1 ∧ a.1 ≤ 5 := fun a ha => ⟨(B.g a ha).1, (B.g a ha).2.1⟩
  have Q39 := Q26.le l39
  generalize (parseQ s).1 = q at *
  obtain ⟨hm1, hm2⟩ := ansQ_many B (by omega : ps.length ≤ 5) hl hE
  have hlm : lateA q ps ≤ 500000 := by have := (addA_many B ps hl).2; omega
  refine batch_Answer_ok Q39 B (TP.le l039) (by omega) hl hE fun a44 c44 h43 l43 G44 => ⟨_, _, _, _, rfl, ?_⟩
  have l043 := Hp.le_trans l039 l43
  refine top_turned_ok (TP.le l043) (by omega) fun a48 c48 h47 l47 T48 => ⟨_, _, _, rfl, ?_⟩
  have l047 := Hp.le_trans l043 l47
  have hpr : ps.reverse.Perm ps := List.reverse_perm ps
  refine batch_Answer_ok (Q39.le (Hp.le_trans l43 l47)) B T48 (by rw [List.length_reverse]; omega) (fun p hp => hl p (List.mem_reverse.1 hp)) (fun p hp => hE p (List.mem_reverse.1 hp)) fun a51 c51 h50 l50 G51 => ⟨_, _, _, _, rfl, ?_⟩
  have l050 := Hp.le_trans l047 l50
  rw [ansQ_perm B5 hpr] at G51 ⊢
  rw [lateA_perm hpr]
  refine ⟨fun x hh => hh = h50 ∧ x = .t (.one (.v (vb true))), fun _ => R_SamePanes_ok (G44.le (Hp.le_trans l47 l50)) G51 (by omega) hm2 ⟨_, rfl, rfl, rfl⟩, fun e3 => absurd (decide_eq_false (by simp)) e3, ?_⟩
  rintro h57 p58 ⟨rfl, e⟩
  cases e
  refine ⟨fun e => absurd e (by simp), fun _ => ?_⟩
  refine ⟨fun vs hh => ∃ i : Nat, vs = [vi (lateA q (ps.drop i) : Nat), vi i] ∧ i ≤ ps.length ∧ h.le hh ∧ h57.le hh, fun vs hh => ps.length - (vint vs 1).toNat, ⟨0, rfl, Nat.zero_le _, l050, Hp.le_refl _⟩, ?_⟩
  rintro vs hh ⟨i, rfl, hi, lh, lh57⟩
  refine ⟨_, _, rfl, fun e => ?_, fun e => ?_⟩
  · have hlt : i < ps.length := by have := of_decide_eq_true e; omega
    have hx : ps[i]? = some ps[i] := List.getElem?_eq_getElem hlt
    have hmem : ps[i] ∈ ps := List.getElem_mem hlt
    have dr : ps.drop i = ps[i] :: ps.drop (i + 1) := List.drop_eq_getElem_cons hlt
    have hd : lateA q (ps.drop i) = lateP q (-1) ps[i] + lateA q (ps.drop (i + 1)) := by rw [dr]; unfold lateA; rw [List.map_cons, List.sum_cons]
    have hd1 : lateA q (ps.drop i) ≤ lateA q ps := by
      have : lateA q ps = lateA q (ps.take i) + lateA q (ps.drop i) := by
        unfold lateA
        rw [← List.sum_append, ← List.map_append, List.take_append_drop]
      omega
    generalize ps[i] = part at *
    have rd := rd_slice_lh (P := Tryz.prog) (h := hh) (t := 22) (e := 30) (by kernel_rfl) (by kernel_rfl) (a := pa) (n := pn) (c := pc) (x := (i : Int)) (y := (i : Int) + 1) (by omega) (by omega) (by omega)
    have hsz : szT Tryz.prog 30 = 1 := by kernel_rfl
    rw [hsz, Int.toNat_natCast, show ((i : Int) + 1).toNat - i = 1 by omega] at rd
    refine ⟨_, isW (by unfold InR; omega), _, _, _, rd, ?_⟩
    refine batch_Answer_ok (Q39.le (Hp.le_trans l43 (Hp.le_trans l47 (Hp.le_trans l50 lh57)))) B ((TP.le lh).sub hpc hx) (by simp : [part].length ≤ 5) (fun p hp => by rw [List.mem_singleton.1 hp]; exact hl _ hmem) (fun p hp => by rw [List.mem_singleton.1 hp]; exact hE _ hmem) fun a73 c73 h72 l72 G73 => ⟨_, _, _, _, rfl, ?_⟩
    rw [lateA_one]
    refine ⟨_, isW (by unfold InR; omega), _, isW (by unfold InR; omega), ⟨i + 1, ?_, by omega, Hp.le_trans lh l72, Hp.le_trans lh57 l72⟩, by simp [vint]; omega⟩
    have : ((lateA q (ps.drop i) : Nat) : Int) - ((lateP q (-1) part : Nat) : Int) = ((lateA q (ps.drop (i + 1)) : Nat) : Int) := by omega
    rw [this]
    rfl
  · have hge : i = ps.length := by have := of_decide_eq_false e; omega
    rw [hge, List.drop_length]
    exact ⟨rfl, lh⟩
theorem tabc_of2 {α : Type} {enc : α → List Value} {h : Hp} {a : Option Addr} {n : Nat} {R : List (TRow α)} (S : SlP (fun r => [rowV r]) h a n R) (hr : ∀ r ∈ R, HasRow h r.1.1 (r.2.flatMap enc) ∧ r.2.length ≤ r.1.2) : TabC enc h a n (R.map Prod.snd) := by
  have e : (R.flatMap fun r => [rowV r]) = R.map rowV := by
    clear S hr
    induction R with
    | nil => rfl
    | cons r R ih => rw [List.flatMap_cons, ih]; rfl
  refine ⟨R, rfl, by rw [S.1]; simp, ?_, fun j r hj => hr r (List.mem_of_getElem? hj)⟩
  have := S.2
  rw [e] at this
  exact this
end Go.Proofs.YtejefijpcggkfaaGreatDoor
namespace Go.Proofs.YtejefijpcggkfaaGreatDoor.topParts
open Go.ChangeShapes Go.WideShapes Go.ChangeAt Go.RowKit Go.Vc
set_option linter.unusedVariables false
set_option maxRecDepth 100000
theorem own : ownKnob Tryz.prog.godebug = none := by kernel_rfl
theorem open0 {H : Type} {enc : TypeId × Value → H} {W : World} {cs : List Value} (L : LeafL Tryz.prog enc W (fun _ => True) (flatIds Tryz.prog 4 35) cs) : ∃ (x0 : Int) (x1 : Int) (x2 : Int) (x3 : Int) (x4 : Int) (x5 : Int) (x6 : Int), cs = encE (x0, (x1, x2), (x3, x4), (x5, x6)) ∧ InR x0 ∧ InR x1 ∧ InR x2 ∧ InR x3 ∧ InR x4 ∧ InR x5 ∧ InR x6 := by
  have e : flatIds Tryz.prog 4 35 = [3, 3, 3, 3, 3, 3, 3] := by kernel_rfl
  rw [e] at L
  match cs, L with
  | [v0, v1, v2, v3, v4, v5, v6], L =>
    obtain ⟨x0, h0, g0⟩ := leaf_i64 Tryz.underlying3 (L.1)
    cases h0
    obtain ⟨x1, h1, g1⟩ := leaf_i64 Tryz.underlying3 (L.2.1)
    cases h1
    obtain ⟨x2, h2, g2⟩ := leaf_i64 Tryz.underlying3 (L.2.2.1)
    cases h2
    obtain ⟨x3, h3, g3⟩ := leaf_i64 Tryz.underlying3 (L.2.2.2.1)
    cases h3
    obtain ⟨x4, h4, g4⟩ := leaf_i64 Tryz.underlying3 (L.2.2.2.2.1)
    cases h4
    obtain ⟨x5, h5, g5⟩ := leaf_i64 Tryz.underlying3 (L.2.2.2.2.2.1)
    cases h5
    obtain ⟨x6, h6, g6⟩ := leaf_i64 Tryz.underlying3 (L.2.2.2.2.2.2.1)
    cases h6
    exact ⟨x0, x1, x2, x3, x4, x5, x6, rfl, g0, g1, g2, g3, g4, g5, g6⟩
abbrev lay := Rows.topPartsRow.laid
theorem tabs {W : World} (hL : laidMetH Tryz.prog lay W) : TabP (hpOf W) := by
  rw [MakeChecks.laidMetH_plain _ _ _ (by kernel_rfl)] at hL
  have h3 : laidMet Tryz.prog (("internal/strconv.uint64pow10", Lib.tabData .u64 Lib.pow10Tab) :: lay.drop 3) W := hL.tail.tail
  have hT := Lib.tabIs_of_head (g := 5) (n := 20) (by kernel_rfl) (t := 208) (by kernel_rfl) (e := 152) (by kernel_rfl) (by kernel_rfl) (by kernel_rfl) (by kernel_rfl) h3
  intro w hs
  exact var_sub hT hs
theorem star : "*" ++ "errors.errorString" = "*errors.errorString" := by decide
theorem rowE (u : TypeId) (h : Tryz.prog.typeName? 3 u = some "*errors.errorString") : u = 197 :=
  typeName_ptr_named (nm := "errors.errorString") (by rw [star]; kernel_rfl) (by kernel_rfl) (by decide) u (by rw [star]; exact h)
theorem errs {W : World} (hL : laidMetH Tryz.prog lay W) : TabE (hpOf W) := by
  rw [MakeChecks.laidMetH_plain _ _ _ (by kernel_rfl)] at hL
  have h4 : laidMet Tryz.prog (("strconv.ErrRange", _) :: ("strconv.ErrSyntax", _) :: lay.drop 5) W := hL.tail.tail.tail
  obtain ⟨a0, s0, hv0, _⟩ := laid_sentinel (g := 2) (ti := 42) h4 (by kernel_rfl) (by kernel_rfl) Tryz.underlying42 rowE Tryz.underlying197 Tryz.underlying199 rfl rfl Tryz.underlying9 (by kernel_rfl) (by kernel_rfl)
  obtain ⟨a1, s1, hv1, _⟩ := laid_sentinel (g := 1) (ti := 42) h4.tail (by kernel_rfl) (by kernel_rfl) Tryz.underlying42 rowE Tryz.underlying197 Tryz.underlying199 rfl rfl Tryz.underlying9 (by kernel_rfl) (by kernel_rfl)
  exact ⟨⟨_, _, fun w hs => vars_sub hv1 hs⟩, ⟨_, _, fun w hs => vars_sub hv0 hs⟩⟩
theorem names {W : World} (hL : laidMetH Tryz.prog lay W) : TabQ (hpOf W) := by
  have T := tabs hL
  have E := errs hL
  rw [MakeChecks.laidMetH_plain _ _ _ (by kernel_rfl)] at hL
  have h6 : laidMet Tryz.prog (("penstock/query.fields", _) :: ("penstock/query.aggs", _) :: lay.drop 7) W := hL.tail.tail.tail.tail.tail
  exact ⟨T, E, laid_texts (texts := fieldW) (g := 4) (t := 83) (e := 9) h6 (by kernel_rfl) (by kernel_rfl) (by kernel_rfl) (by kernel_rfl) (by kernel_rfl) (by decide), laid_texts (texts := aggsW) (g := 0) (t := 83) (e := 9) h6.tail (by kernel_rfl) (by kernel_rfl) (by kernel_rfl) (by kernel_rfl) (by kernel_rfl) (by decide)⟩
theorem door_met (os : Os) (args : Array Value) : laidMetH Tryz.prog lay ((World.doorLaid Tryz.prog 400 os).forCall (fun _ _ => 0) ⟨#[], args, []⟩).memory :=
  laidMetH_of_parts3 (fuel := 8) (laidMet_of_run' 8 (by kernel_rfl) (by kernel_rfl)) (by kernel_rfl) (by kernel_rfl)
set_option maxRecDepth 100000 in
theorem lifted (os : Os) (started : os.Started) (H : Type) (enc : TypeId × Value → H) :
    ReturnsInHanded {} Tryz.checked os 4 .any (fun w args => (Rows.topPartsSpec.pre enc Tryz.prog Tryz.f4 Rows.topPartsRow.domain false w args ∧ laidMetH Tryz.prog lay w) ∧ sizedMet enc Tryz.prog Tryz.f4 (OpenSpec.ofChange Rows.topPartsSpec) false w args) (Rows.topPartsSpec.post enc Tryz.prog Tryz.f4 false true false false) := by
  refine returnsInHanded_of_change_and (C := Tryz.checked) (X := fun w _ => laidMetH Tryz.prog lay w) (fun _ _ _ hh h => h.of_heap hh) own started (by kernel_rfl) Tryz.func4
    (ChangeSpec.witness_shaped (enc := enc) (C := Tryz.checked) (os := os) (X := fun w _ => laidMetH Tryz.prog lay w) false (World.doorLaid Tryz.prog 400 os) #[.string ⟨#[]⟩, .slice none 0 0] 8 rfl (World.shaped_of_RefB (by kernel_rfl) (by kernel_rfl)) (by kernel_rfl) (by kernel_rfl) (by kernel_rfl) (door_met os _)) ?_
  intro W base args ds gs before hval0 hW hcnd _ hL _
  have T := tabs hL
  have E := errs hL
  have TQ := names hL
  have hval : ∀ (j : Nat) t v, Tryz.f4.params[j]? = some t → args[j]? = some v → Value.okWide Tryz.prog W .any base t v := hval0
  have hW' := hW
  obtain ⟨p, q, hA0, hV, rfl, hfz, hnd⟩ := hW
  have hA : DataW.TrodAll enc Tryz.prog W 0 (fun _ => true) true Tryz.f4.params.toList args.toList ds p := hA0
  rw [Tryz.params4] at hA hval
  obtain ⟨v0, vs0, d0, ds0, p0, q0, hargs, rfl, rfl, h0, r0⟩ := trodAll_cons hA
  obtain ⟨v1, vs1, d1, ds1, p1, q1, rfl, rfl, rfl, h1, r1⟩ := trodAll_cons r0
  obtain ⟨rfl, rfl, rfl⟩ := trodAll_nil r1
  obtain rfl : args = #[v0, v1] := by cases args; simp_all
  obtain ⟨rfl, rfl⟩ := trodVars_none hV
  obtain ⟨s0, rfl⟩ := okWide_string Tryz.underlying9 (hval 0 9 v0 rfl rfl)
  obtain ⟨b0, e0, _, z0⟩ := leaf_string smTrue Tryz.underlying9 (leafC_of (Sm := fun _ => True) h0 trivial)
  cases e0
  obtain ⟨w1, w2, w3, rfl⟩ := okWide_slice (e := 30) (by kernel_rfl) (hval 1 22 v1 rfl rfl)
  obtain ⟨p1, n1, c1, R1, e1, S1, hc1, hm1, _, g1⟩ := leaf_slice (enc := fun r => [rowV r]) (sz := 1) (good := fun r : TRow _ => HasRow (hpOf W) r.1.1 (r.2.flatMap encE) ∧ r.2.length ≤ r.1.2 ∧ r.1.2 ≤ maxLen ∧ ∀ y ∈ r.2, True) smTrue (e := 30) (by kernel_rfl) (by kernel_rfl) (by decide) (fun _ => rfl)
    (fun cs L => by
      obtain ⟨a, n, c, l, e, S, hc, hm, _, hg⟩ := leaf_slice (enc := encE) (sz := 7) (good := fun y => True) smTrue (e := 35) (by kernel_rfl) (by kernel_rfl) (by decide) (fun _ => rfl) (fun cs L => by
        have hf := leaf_flat smTrue 4 (by kernel_rfl) L
        obtain ⟨x0, x1, x2, x3, x4, x5, x6, hy, hg⟩ := open0 hf
        exact ⟨(x0, (x1, x2), (x3, x4), (x5, x6)), hy, trivial⟩) L
      cases e
      obtain rfl := S.1
      exact ⟨((a, c), l), rfl, S.2, hc, hm, hg⟩) (leafC_of (Sm := fun _ => True) h1 trivial)
  cases e1
  refine (calls_law (law_TopParts_ok (s := s0.data.toList) (tabc_of2 S1 (fun r hr => ⟨(g1 r hr).1, (g1 r hr).2.1⟩)) hc1 TQ)).mono fun e W' ⟨he, hg⟩ => ?_
  subst he
  exact ⟨_, rfl, law_post big hW' hg (by kernel_rfl) (tb := 4) (by kernel_rfl) (by kernel_rfl) rfl⟩
theorem over : Rows.topPartsRow.holds Tryz.pinned (OpenSpec.ofChange Rows.topPartsSpec) :=
  OpenClaim.holds_of_wide 4 Tryz.f4 rfl rfl rfl rfl rfl rfl rfl ⟨rfl, rfl, rfl, rfl, rfl⟩ rfl rfl rfl rfl rfl (by kernel_rfl) Tryz.func4 (by kernel_rfl)
    (of_decide_eq_true (by kernel_rfl)) (by unfold Func.isWrapper; first | (rw [if_pos (by decide +kernel)]; kernel_rfl) | (rw [if_neg (by decide +kernel)]; exact ⟨rfl, rfl⟩))
    (fun os started H enc _ => lifted os started H enc)
theorem proved : Rows.TopPartsCardSaid :=
  Claim7.holds_tied_plain_at .later [] _ true _ true
    over (fun _ h => by cases h) (by kernel_rfl) (fun _ h => by cases h) topParts_row_tie rfl ⟨rfl, rfl⟩ (by kernel_rfl) rfl
    (fun f fn hf hfn => by
      obtain rfl : f = 4 := Option.some.inj ((show Tryz.prog.funcNamed "penstock/penstocktop.TopParts" = some 4 by kernel_rfl).symm.trans hf) |>.symm
      obtain rfl : fn = Tryz.f4 := (Option.some.inj (Tryz.func4.symm.trans hfn)).symm
      exact ⟨by kernel_rfl, fun j t ht => by
        rw [Tryz.params4] at ht
        have hm : t ∈ [9, 22] := by simpa using Array.mem_of_getElem? ht
        have hall : ([9, 22].all fun u => !Tryz.prog.wantsStandIn u) = true := by kernel_rfl
        exact (show Tryz.prog.wantsStandIn t = false by simpa using List.all_eq_true.1 hall t hm)⟩)
    (by kernel_rfl)
end Go.Proofs.YtejefijpcggkfaaGreatDoor.topParts
