/-
  The statement that the last part names, proved; and all that it stands on that is not in the parts ahead. Conditions: those stated at each.
-/
import Derived.Test.YtiflgceoamkmnaaGreatDoorRows
import Derived.Test.YtiflgceoamkmnaaGreatDoorCards
import Derived.Test.YtiflgceoamkmnaaGreatDoorTie
import Derived.WalkKit
import Derived.ProofKit
import Derived.OpenShut
import Derived.LaidMore
import Derived.Stop.Joined
import Derived.Stop.LaidErr
import Derived.SevenTiedAt
import Derived.Test.YtiflgceoamkmnaaGreatDoorTt4
set_option linter.unusedVariables false
set_option maxRecDepth 100000
namespace Go.Proofs.YtiflgceoamkmnaaGreatDoor.topTurns
open Go.ChangeShapes Go.WideShapes Go.ChangeAt Go.RowKit Go.Vc
theorem own:ownKnob Tryz.prog.godebug=none:=by kernel_rfl
theorem open0 {H:Type}{enc:TypeId × Value→H}{W:World}{cs:List Value}(L:LeafL Tryz.prog enc W (fun _=>True) (flatIds Tryz.prog 4 43) cs):∃(x0:Int) (x1:Int) (x2:Int) (x3:Int) (x4:Int) (x5:Int) (x6:Int),cs=encE (x0,(x1,x2),(x3,x4),(x5,x6))∧InR x0∧InR x1∧InR x2∧InR x3∧InR x4∧InR x5∧InR x6:=by
 have e:flatIds Tryz.prog 4 43=[3,3,3,3,3,3,3]:=by kernel_rfl
 rw [e] at L
 match cs,L with
 | [v0,v1,v2,v3,v4,v5,v6],L=>
  obtain⟨x0,h0,g0⟩:=leaf_i64 Tryz.underlying3 (L.1)
  cases h0
  obtain⟨x1,h1,g1⟩:=leaf_i64 Tryz.underlying3 (L.2.1)
  cases h1
  obtain⟨x2,h2,g2⟩:=leaf_i64 Tryz.underlying3 (L.2.2.1)
  cases h2
  obtain⟨x3,h3,g3⟩:=leaf_i64 Tryz.underlying3 (L.2.2.2.1)
  cases h3
  obtain⟨x4,h4,g4⟩:=leaf_i64 Tryz.underlying3 (L.2.2.2.2.1)
  cases h4
  obtain⟨x5,h5,g5⟩:=leaf_i64 Tryz.underlying3 (L.2.2.2.2.2.1)
  cases h5
  obtain⟨x6,h6,g6⟩:=leaf_i64 Tryz.underlying3 (L.2.2.2.2.2.2.1)
  cases h6
  exact⟨x0,x1,x2,x3,x4,x5,x6,rfl,g0,g1,g2,g3,g4,g5,g6⟩
theorem open1 {H:Type}{enc:TypeId × Value→H}{W:World}{cs:List Value}(L:LeafL Tryz.prog enc W (fun _=>True) (flatIds Tryz.prog 4 3) cs):∃(x0:Int),cs=encI1 x0∧InR x0:=by
 have e:flatIds Tryz.prog 4 3=[3]:=by kernel_rfl
 rw [e] at L
 match cs,L with
 | [v0],L=>
  obtain⟨x0,h0,g0⟩:=leaf_i64 Tryz.underlying3 (L.1)
  cases h0
  exact⟨x0,rfl,g0⟩
abbrev lay:=Rows.topTurnsRow.laid
theorem tabs {W:World}(hL:laidMetH Tryz.prog lay W):TabP (hpOf W):=by
 rw [MakeChecks.laidMetH_plain _ _ _ (by kernel_rfl)] at hL
 have h3:laidMet Tryz.prog (("internal/strconv.uint64pow10",Lib.tabData .u64 Lib.pow10Tab) :: lay.drop 3) W:=hL.tail.tail
 have hT:=Lib.tabIs_of_head (g:=5) (n:=20) (by kernel_rfl) (t:=274) (by kernel_rfl) (e:=223) (by kernel_rfl) (by kernel_rfl) (by kernel_rfl) (by kernel_rfl) h3
 intro w hs
 exact var_sub hT hs
theorem star: "*"++ "errors.errorString"= "*errors.errorString":=by decide
theorem rowE (u:TypeId)(h:Tryz.prog.typeName? 3 u=some "*errors.errorString"):u=263:=
 typeName_ptr_named (nm:= "errors.errorString") (by rw [star];kernel_rfl) (by kernel_rfl) (by decide) u (by rw [star];exact h)
theorem errs {W:World}(hL:laidMetH Tryz.prog lay W):TabE (hpOf W):=by
 rw [MakeChecks.laidMetH_plain _ _ _ (by kernel_rfl)] at hL
 have h4:laidMet Tryz.prog (("strconv.ErrRange",_) :: ("strconv.ErrSyntax",_) :: lay.drop 5) W:=hL.tail.tail.tail
 obtain⟨a0,s0,hv0,_⟩:=laid_sentinel (g:=2) (ti:=33) h4 (by kernel_rfl) (by kernel_rfl) Tryz.underlying33 rowE Tryz.underlying263 Tryz.underlying265 rfl rfl Tryz.underlying9 (by kernel_rfl) (by kernel_rfl)
 obtain⟨a1,s1,hv1,_⟩:=laid_sentinel (g:=1) (ti:=33) h4.tail (by kernel_rfl) (by kernel_rfl) Tryz.underlying33 rowE Tryz.underlying263 Tryz.underlying265 rfl rfl Tryz.underlying9 (by kernel_rfl) (by kernel_rfl)
 exact⟨⟨_,_,fun w hs=>vars_sub hv1 hs⟩,⟨_,_,fun w hs=>vars_sub hv0 hs⟩⟩
theorem names {W:World}(hL:laidMetH Tryz.prog lay W):TabQ (hpOf W):=by
 have T:=tabs hL
 have E:=errs hL
 rw [MakeChecks.laidMetH_plain _ _ _ (by kernel_rfl)] at hL
 have h6:laidMet Tryz.prog (("penstock/query.fields",_) :: ("penstock/query.aggs",_) :: lay.drop 7) W:=hL.tail.tail.tail.tail.tail
 exact⟨T,E,laid_texts (texts:=fieldW) (g:=4) (t:=145) (e:=9) h6 (by kernel_rfl) (by kernel_rfl) (by kernel_rfl) (by kernel_rfl) (by kernel_rfl) (by decide),laid_texts (texts:=aggsW) (g:=0) (t:=145) (e:=9) h6.tail (by kernel_rfl) (by kernel_rfl) (by kernel_rfl) (by kernel_rfl) (by kernel_rfl) (by decide)⟩
theorem door_met (os:Os)(args:Array Value):laidMetH Tryz.prog lay ((World.doorLaid Tryz.prog 400 os).forCall (fun _ _=>0) ⟨#[],args,[]⟩).memory:=
 laidMetH_of_parts3 (fuel:=8) (laidMet_of_run' 8 (by kernel_rfl) (by kernel_rfl)) (by kernel_rfl) (by kernel_rfl)
set_option maxRecDepth 100000 in
theorem lifted (os:Os)(started:os.Started)(H:Type)(enc:TypeId × Value→H) :
  ReturnsInHanded {} Tryz.checked os 6 .any (fun w args=>(Rows.topTurnsSpec.pre enc Tryz.prog Tryz.f6 Rows.topTurnsRow.domain false w args∧laidMetH Tryz.prog lay w)∧sizedMet enc Tryz.prog Tryz.f6 (OpenSpec.ofChange Rows.topTurnsSpec) false w args) (Rows.topTurnsSpec.post enc Tryz.prog Tryz.f6 false true false false):=by
 refine returnsInHanded_of_change_and (C:=Tryz.checked) (X:=fun w _=>laidMetH Tryz.prog lay w) (fun _ _ _ hh h=>h.of_heap hh) own started (by kernel_rfl) Tryz.func6
  (ChangeSpec.witness_shaped (enc:=enc) (C:=Tryz.checked) (os:=os) (X:=fun w _=>laidMetH Tryz.prog lay w) false (World.doorLaid Tryz.prog 400 os) #[.string ⟨#[]⟩,.slice none 0 0,.slice none 0 0] 8 rfl (World.shaped_of_RefB (by kernel_rfl) (by kernel_rfl)) (by kernel_rfl) (by kernel_rfl) (by kernel_rfl) (door_met os _)) ?_
 intro W base args ds gs before hval0 hW hcnd _ hL _
 have T:=tabs hL
 have E:=errs hL
 have TQ:=names hL
 have hval:∀(j:Nat) t v,Tryz.f6.params[j]?=some t→args[j]?=some v→Value.okWide Tryz.prog W .any base t v:=hval0
 have hW':=hW
 obtain⟨p,q,hA0,hV,rfl,hfz,hnd⟩:=hW
 have hA:DataW.TrodAll enc Tryz.prog W 0 (fun _=>true) true Tryz.f6.params.toList args.toList ds p:=hA0
 rw [Tryz.params6] at hA hval
 obtain⟨v0,vs0,d0,ds0,p0,q0,hargs,rfl,rfl,h0,r0⟩:=trodAll_cons hA
 obtain⟨v1,vs1,d1,ds1,p1,q1,rfl,rfl,rfl,h1,r1⟩:=trodAll_cons r0
 obtain⟨v2,vs2,d2,ds2,p2,q2,rfl,rfl,rfl,h2,r2⟩:=trodAll_cons r1
 obtain⟨rfl,rfl,rfl⟩:=trodAll_nil r2
 obtain rfl:args=#[v0,v1,v2]:=by cases args;simp_all
 obtain⟨rfl,rfl⟩:=trodVars_none hV
 obtain⟨s0,rfl⟩:=okWide_string Tryz.underlying9 (hval 0 9 v0 rfl rfl)
 obtain⟨b0,e0,_,z0⟩:=leaf_string smTrue Tryz.underlying9 (leafC_of (Sm:=fun _=>True) h0 trivial)
 cases e0
 obtain⟨w1,w2,w3,rfl⟩:=okWide_slice (e:=69) (by kernel_rfl) (hval 1 49 v1 rfl rfl)
 obtain⟨p1,n1,c1,R1,e1,S1,hc1,hm1,_,g1⟩:=leaf_slice (enc:=fun r=>[rowV r]) (sz:=1) (good:=fun r:TRow _=>HasRow (hpOf W) r.1.1 (r.2.flatMap encE)∧r.2.length≤r.1.2∧r.1.2≤maxLen∧∀ y ∈ r.2,True) smTrue (e:=69) (by kernel_rfl) (by kernel_rfl) (by decide) (fun _=>rfl)
  (fun cs L=>by
   obtain⟨a,n,c,l,e,S,hc,hm,_,hg⟩:=leaf_slice (enc:=encE) (sz:=7) (good:=fun y=>True) smTrue (e:=43) (by kernel_rfl) (by kernel_rfl) (by decide) (fun _=>rfl) (fun cs L=>by
    have hf:=leaf_flat smTrue 4 (by kernel_rfl) L
    obtain⟨x0,x1,x2,x3,x4,x5,x6,hy,hg⟩:=open0 hf
    exact⟨(x0,(x1,x2),(x3,x4),(x5,x6)),hy,trivial⟩) L
   cases e
   obtain rfl:=S.1
   exact⟨((a,c),l),rfl,S.2,hc,hm,hg⟩) (leafC_of (Sm:=fun _=>True) h1 trivial)
 cases e1
 obtain⟨w1,w2,w3,rfl⟩:=okWide_slice (e:=3) (by kernel_rfl) (hval 2 50 v2 rfl rfl)
 obtain⟨p2,n2,c2,l2,e2,S2,hc2,hm2,_,g2⟩:=leaf_slice (enc:=encI1) (sz:=1) (good:=fun y=>True) smTrue (e:=3) (by kernel_rfl) (by kernel_rfl) (by decide) (fun _=>rfl)
  (fun cs L=>by
   have hf:=leaf_flat smTrue 4 (by kernel_rfl) L
   obtain⟨x0,hy,hg⟩:=open1 hf
   exact⟨x0,hy,trivial⟩) (leafC_of (Sm:=fun _=>True) h2 trivial)
 cases e2
 refine(calls_law (law_TopTurns_ok (s:=s0.data.toList) (tabc_of3 S1 (fun r hr=>⟨(g1 r hr).1,(g1 r hr).2.1⟩)) (SlI.of_slp S2) TQ)).mono fun e W' ⟨he,hg⟩=>?_
 subst he
 exact⟨_,rfl,law_post big hW' hg (by kernel_rfl) (tb:=4) (by kernel_rfl) (by kernel_rfl) rfl⟩
theorem over:Rows.topTurnsRow.holds Tryz.pinned (OpenSpec.ofChange Rows.topTurnsSpec):=
 OpenClaim.holds_of_wide 6 Tryz.f6 rfl rfl rfl rfl rfl rfl rfl ⟨rfl,rfl,rfl,rfl,rfl⟩ rfl rfl rfl rfl rfl (by kernel_rfl) Tryz.func6 (by kernel_rfl)
  (of_decide_eq_true (by kernel_rfl)) (by unfold Func.isWrapper;first|(rw [if_pos (by decide +kernel)];kernel_rfl)|(rw [if_neg (by decide +kernel)];exact⟨rfl,rfl⟩))
  (fun os started H enc _=>lifted os started H enc)
theorem proved:Rows.TopTurnsCardSaid:=
 Claim7.holds_tied_plain_at .later [] _ true _ true
  over (fun _ h=>by cases h) (by kernel_rfl) (fun _ h=>by cases h) topTurns_row_tie rfl ⟨rfl,rfl⟩ (by kernel_rfl) rfl
  (fun f fn hf hfn=>by
   obtain rfl:f=6:=Option.some.inj ((show Tryz.prog.funcNamed "penstock/penstocktop.TopTurns"=some 6 by kernel_rfl).symm.trans hf) |>.symm
   obtain rfl:fn=Tryz.f6:=(Option.some.inj (Tryz.func6.symm.trans hfn)).symm
   exact⟨by kernel_rfl,fun j t ht=>by
    rw [Tryz.params6] at ht
    have hm:t ∈ [9,49,50]:=by simpa using Array.mem_of_getElem? ht
    have hall:([9,49,50].all fun u=>!Tryz.prog.wantsStandIn u)=true:=by kernel_rfl
    exact(show Tryz.prog.wantsStandIn t=false by simpa using List.all_eq_true.1 hall t hm)⟩)
  (by kernel_rfl)
end Go.Proofs.YtiflgceoamkmnaaGreatDoor.topTurns
