/-
  The statement that the last part names, proved; and all that it stands on that is not in the parts ahead. Conditions: those stated at each.
-/
import Derived.Test.YthicpjafcpfjoaaGreatDoorRows
import Derived.Test.YthicpjafcpfjoaaGreatDoorCards
import Derived.Test.YthicpjafcpfjoaaGreatDoorTie
import Derived.WalkKit
import Derived.ProofKit
import Derived.OpenShut
import Derived.LaidMore
import Derived.Stop.Joined
import Derived.Stop.LaidErr
import Derived.SevenTiedAt
import Derived.Lay
import Derived.Test.YthicpjafcpfjoaaGreatDoorCn5
set_option linter.unusedVariables false
set_option maxRecDepth 100000
namespace Go.Proofs.YthicpjafcpfjoaaGreatDoor.topCounts
open Go.ChangeShapes Go.WideShapes Go.ChangeAt Go.RowKit Go.Vc
theorem own:ownKnob Tryz.prog.godebug=none:=by kernel_rfl
theorem open0 {H:Type}{enc:TypeId × Value→H}{W:World}{cs:List Value}(L:Qdl Tryz.prog enc W (fun _=>True) (Uh Tryz.prog 4 56) cs):∃(x0:Int) (x1:Int) (x2:Int) (x3:Int) (x4:Int) (x5:Int) (x6:Int),cs=Ww (x0,(x1,x2),(x3,x4),(x5,x6))∧InR x0∧InR x1∧InR x2∧InR x3∧InR x4∧InR x5∧InR x6:=by
 have e:Uh Tryz.prog 4 56=[3,3,3,3,3,3,3]:=by kernel_rfl
 rw [e] at L
 match cs,L with
 | [v0,v1,v2,v3,v4,v5,v6],L=>
  obtain⟨x0,h0,g0⟩:=XT Tryz.underlying3 (L.1)
  cases h0
  obtain⟨x1,h1,g1⟩:=XT Tryz.underlying3 (L.2.1)
  cases h1
  obtain⟨x2,h2,g2⟩:=XT Tryz.underlying3 (L.2.2.1)
  cases h2
  obtain⟨x3,h3,g3⟩:=XT Tryz.underlying3 (L.2.2.2.1)
  cases h3
  obtain⟨x4,h4,g4⟩:=XT Tryz.underlying3 (L.2.2.2.2.1)
  cases h4
  obtain⟨x5,h5,g5⟩:=XT Tryz.underlying3 (L.2.2.2.2.2.1)
  cases h5
  obtain⟨x6,h6,g6⟩:=XT Tryz.underlying3 (L.2.2.2.2.2.2.1)
  cases h6
  exact⟨x0,x1,x2,x3,x4,x5,x6,rfl,g0,g1,g2,g3,g4,g5,g6⟩
theorem open1 {H:Type}{enc:TypeId × Value→H}{W:World}{cs:List Value}(L:Qdl Tryz.prog enc W (fun _=>True) (Uh Tryz.prog 4 45) cs):∃(x0:ByteArray) (x1:Int) (x2:ByteArray) (x3:Int),cs=Qel (x0.data.toList,x1,x2.data.toList,x3)∧x0.size≤maxLen∧InR x1∧x2.size≤maxLen∧0≤x3∧x3≤18446744073709551615:=by
 have e:Uh Tryz.prog 4 45=[9,3,9,43]:=by kernel_rfl
 rw [e] at L
 match cs,L with
 | [v0,v1,v2,v3],L=>
  obtain⟨x0,h0,_,g0⟩:=MF Ma Tryz.underlying9 (L.1)
  cases h0
  obtain⟨x1,h1,g1⟩:=XT Tryz.underlying3 (L.2.1)
  cases h1
  obtain⟨x2,h2,_,g2⟩:=MF Ma Tryz.underlying9 (L.2.2.1)
  cases h2
  obtain⟨x3,h3,g3⟩:=Qj1 Tryz.underlying43 (L.2.2.2.1)
  have g3:=Qrd g3
  cases h3
  exact⟨x0,x1,x2,x3,rfl,g0,g1,g2,g3⟩
abbrev lay:=Rows.topCountsRow.laid
theorem tabs {W:World}(hL:laidMetH Tryz.prog lay W):Uo (GK W):=by
 rw [MakeChecks.laidMetH_plain _ _ _ (by kernel_rfl)] at hL
 have h3:laidMet Tryz.prog (("internal/strconv.uint64pow10",Lib.tabData .u64 Lib.pow10Tab) :: lay.drop 3) W:=hL.tail.tail
 have hT:=Lib.tabIs_of_head (g:=3) (n:=20) (by kernel_rfl) (t:=349) (by kernel_rfl) (e:=43) (by kernel_rfl) (by kernel_rfl) (by kernel_rfl) (by kernel_rfl) h3
 intro w hs
 exact Qpq hT hs
theorem star: "*"++ "errors.errorString"= "*errors.errorString":=by decide
theorem rowE (u:TypeId)(h:Tryz.prog.typeName? 3 u=some "*errors.errorString"):u=351:=
 typeName_ptr_named (nm:= "errors.errorString") (by rw [star];kernel_rfl) (by kernel_rfl) (by decide) u (by rw [star];exact h)
theorem errs {W:World}(hL:laidMetH Tryz.prog lay W):MJ (GK W):=by
 rw [MakeChecks.laidMetH_plain _ _ _ (by kernel_rfl)] at hL
 have h4:laidMet Tryz.prog (("strconv.ErrRange",_) :: ("strconv.ErrSyntax",_) :: lay.drop 6) W:=hL.tail.tail.tail.tail
 obtain⟨a0,s0,hv0,_⟩:=laid_sentinel (g:=2) (ti:=59) h4 (by kernel_rfl) (by kernel_rfl) Tryz.underlying59 rowE Tryz.underlying351 Tryz.underlying353 rfl rfl Tryz.underlying9 (by kernel_rfl) (by kernel_rfl)
 obtain⟨a1,s1,hv1,_⟩:=laid_sentinel (g:=1) (ti:=59) h4.tail (by kernel_rfl) (by kernel_rfl) Tryz.underlying59 rowE Tryz.underlying351 Tryz.underlying353 rfl rfl Tryz.underlying9 (by kernel_rfl) (by kernel_rfl)
 exact⟨⟨_,_,fun w hs=>QfX hv1 hs⟩,⟨_,_,fun w hs=>QfX hv0 hs⟩⟩
theorem names {W:World}(hL:laidMetH Tryz.prog lay W):Qgi (GK W):=by
 have T:=tabs hL
 have E:=errs hL
 rw [MakeChecks.laidMetH_plain _ _ _ (by kernel_rfl)] at hL
 have h6:laidMet Tryz.prog (("penstock/query.fields",_) :: ("penstock/query.aggs",_) :: lay.drop 8) W:=hL.tail.tail.tail.tail.tail.tail
 exact⟨T,E,Qfa (texts:=Yw) (g:=9) (t:=162) (e:=9) h6 (by kernel_rfl) (by kernel_rfl) (by kernel_rfl) (by kernel_rfl) (by kernel_rfl) (by decide),Qfa (texts:=QlV) (g:=0) (t:=162) (e:=9) h6.tail (by kernel_rfl) (by kernel_rfl) (by kernel_rfl) (by kernel_rfl) (by kernel_rfl) (by decide)⟩
theorem lens {W:World}(hsh:W.ShapedOpen Tryz.prog):Qd1 (GK W):=by
 obtain⟨m,hm⟩:=Tryz.laysM146.s1_3 W hsh
 exact⟨m,Qqd hm⟩
theorem door_met (os:Os)(args:Array Value):laidMetH Tryz.prog lay ((World.laidAll Tryz.prog os lay).forCall (fun _ _=>0) ⟨#[],args,[]⟩).memory:=by
 rw [MakeChecks.laidMetH_plain _ _ _ (by kernel_rfl)]
 exact laidMet_laidAll _ (by kernel_rfl) (by kernel_rfl)
set_option maxRecDepth 100000 in
theorem lifted (os:Os)(started:os.Started)(H:Type)(enc:TypeId × Value→H) :
  ReturnsInHanded {} Tryz.checked os 4 .any (fun w args=>(Rows.topCountsSpec.pre enc Tryz.prog Tryz.f4 Rows.topCountsRow.domain false w args∧laidMetH Tryz.prog lay w)∧sizedMet enc Tryz.prog Tryz.f4 (OpenSpec.ofChange Rows.topCountsSpec) false w args) (Rows.topCountsSpec.post enc Tryz.prog Tryz.f4 false true false false):=by
 refine Qm4 (C:=Tryz.checked) (X:=fun w _=>laidMetH Tryz.prog lay w) (fun _ _ _ hh h=>h.of_heap hh) own started (by kernel_rfl) Tryz.func4
  (ChangeSpec.witness_shaped (enc:=enc) (C:=Tryz.checked) (os:=os) (X:=fun w _=>laidMetH Tryz.prog lay w) false (World.laidAll Tryz.prog os lay) #[.string ⟨#[]⟩,.slice none 0 0,.slice none 0 0,.int .i64 0] 8 (World.laidAll_os _ _ _) (World.shaped_of_ZipB (by kernel_rfl) (by kernel_rfl)) (by kernel_rfl) (by kernel_rfl) (by kernel_rfl) (door_met os _)) ?_
 intro W base args ds gs before hval0 hW hcnd hL hsh
 have T:=tabs hL
 have TM:=lens hsh
 have E:=errs hL
 have TQ:=names hL
 have hval:∀(j:Nat) t v,Tryz.f4.params[j]?=some t→args[j]?=some v→Value.okWide Tryz.prog W .any base t v:=hval0
 have hW':=hW
 obtain⟨p,q,hA0,hV,rfl,hfz,hnd⟩:=hW
 have hA:DataW.TrodAll enc Tryz.prog W 0 (fun _=>true) true Tryz.f4.params.toList args.toList ds p:=hA0
 rw [Tryz.params4] at hA hval
 obtain⟨v0,vs0,d0,ds0,p0,q0,hargs,rfl,rfl,h0,r0⟩:=trodAll_cons hA
 obtain⟨v1,vs1,d1,ds1,p1,q1,rfl,rfl,rfl,h1,r1⟩:=trodAll_cons r0
 obtain⟨v2,vs2,d2,ds2,p2,q2,rfl,rfl,rfl,h2,r2⟩:=trodAll_cons r1
 obtain⟨v3,vs3,d3,ds3,p3,q3,rfl,rfl,rfl,h3,r3⟩:=trodAll_cons r2
 obtain⟨rfl,rfl,rfl⟩:=trodAll_nil r3
 obtain rfl:args=#[v0,v1,v2,v3]:=by cases args;simp_all
 obtain⟨rfl,rfl⟩:=trodVars_none hV
 obtain⟨s0,rfl⟩:=okWide_string Tryz.underlying9 (hval 0 9 v0 rfl rfl)
 obtain⟨b0,e0,_,z0⟩:=MF Ma Tryz.underlying9 (Qa9 (Sm:=fun _=>True) h0 trivial)
 cases e0
 obtain⟨w1,w2,w3,rfl⟩:=okWide_slice (e:=51) (by kernel_rfl) (hval 1 38 v1 rfl rfl)
 obtain⟨p1,n1,c1,R1,e1,S1,hc1,hm1,_,g1⟩:=Qa0 (enc:=fun r=>[Qci r]) (sz:=1) (good:=fun r:JK _=>Qf (GK W) r.1.1 (r.2.flatMap Ww)∧r.2.length≤r.1.2∧r.1.2≤maxLen∧∀ y ∈ r.2,True) Ma (e:=51) (by kernel_rfl) (by kernel_rfl) (by decide) (fun _=>rfl)
  (fun cs L=>by
   obtain⟨a,n,c,l,e,S,hc,hm,_,hg⟩:=Qa0 (enc:=Ww) (sz:=7) (good:=fun y=>True) Ma (e:=56) (by kernel_rfl) (by kernel_rfl) (by decide) (fun _=>rfl) (fun cs L=>by
    have hf:=QcZ Ma 4 (by kernel_rfl) L
    obtain⟨x0,x1,x2,x3,x4,x5,x6,hy,hg⟩:=open0 hf
    exact⟨(x0,(x1,x2),(x3,x4),(x5,x6)),hy,trivial⟩) L
   cases e
   obtain rfl:=S.1
   exact⟨((a,c),l),rfl,S.2,hc,hm,hg⟩) (Qa9 (Sm:=fun _=>True) h1 trivial)
 cases e1
 obtain⟨w1,w2,w3,rfl⟩:=okWide_slice (e:=45) (by kernel_rfl) (hval 2 23 v2 rfl rfl)
 obtain⟨p2,n2,c2,l2,e2,S2,hc2,hm2,_,g2⟩:=Qa0 (enc:=Qel) (sz:=4) (good:=fun y=>(bs y.1).size≤maxLen∧InR y.2.1∧(bs y.2.2.1).size≤maxLen∧0≤y.2.2.2∧y.2.2.2≤18446744073709551615) Ma (e:=45) (by kernel_rfl) (by kernel_rfl) (by decide) (fun _=>rfl)
  (fun cs L=>by
   have hf:=QcZ Ma 4 (by kernel_rfl) L
   obtain⟨x0,x1,x2,x3,hy,hg⟩:=open1 hf
   exact⟨(x0.data.toList,x1,x2.data.toList,x3),hy,hg⟩) (Qa9 (Sm:=fun _=>True) h2 trivial)
 cases e2
 obtain⟨a3,rfl⟩:=okWide_int Tryz.underlying3 (hval 3 3 v3 rfl rfl)
 obtain⟨b3,e3,ga3⟩:=XT Tryz.underlying3 (Qa9 (Sm:=fun _=>True) h3 trivial)
 cases e3
 refine(Qni (QcC (s:=s0.data.toList) (QoN S1 (fun r hr=>⟨(g1 r hr).1,(g1 r hr).2.1⟩)) S2 (fun y hy=>⟨(g2 y hy).2.1,(g2 y hy).2.2.2⟩) TQ TM)).mono fun e W' ⟨he,hg⟩=>?_
 subst he
 exact⟨_,rfl,Qo7 big hW' hg (by kernel_rfl) (tb:=4) (by kernel_rfl) (by kernel_rfl) rfl⟩
set_option maxHeartbeats 2000000 in
theorem closed:joinedFacts Tryz.prog 4 Tryz.f4 Rows.topCountsSpec Rows.topCountsRow=true:=by
 simp only [joinedFacts,Bool.and_eq_true]
 repeat' apply And.intro
 all_goals as_aux_lemma=>kernel_rfl
theorem inst:Tryz.f4.isInstance Tryz.prog Rows.topCountsRow.origin Rows.topCountsRow.targs:=of_decide_eq_true (by kernel_rfl)
theorem wrap:Tryz.f4.isWrapper Tryz.prog Rows.topCountsRow.wrapper Rows.topCountsRow.mainSum:=by unfold Func.isWrapper;first|(rw [if_pos (by decide +kernel)];kernel_rfl)|(rw [if_neg (by decide +kernel)];exact⟨rfl,rfl⟩)
theorem over:Rows.topCountsRow.holds Tryz.pinned (OpenSpec.ofChange Rows.topCountsSpec):=
 OpenClaim.holds_of_wide 4 Tryz.f4 rfl rfl rfl rfl rfl rfl rfl ⟨rfl,rfl,rfl,rfl,rfl⟩ rfl rfl rfl rfl rfl (by kernel_rfl) Tryz.func4 closed
  inst wrap (fun os started H enc _=>lifted os started H enc)
theorem proved:Rows.TopCountsCardSaid:=
 Claim7.holds_tied_plain_at .later [] _ true _ true
  over (fun _ h=>by cases h) (by kernel_rfl) (fun _ h=>by cases h) topCounts_row_tie rfl ⟨rfl,rfl⟩ (by kernel_rfl) rfl
  (fun f fn hf hfn=>by
   obtain rfl:f=4:=Option.some.inj ((show Tryz.prog.funcNamed "penstock/penstocktop.TopCounts"=some 4 by kernel_rfl).symm.trans hf) |>.symm
   obtain rfl:fn=Tryz.f4:=(Option.some.inj (Tryz.func4.symm.trans hfn)).symm
   exact⟨by kernel_rfl,fun j t ht=>by
    rw [Tryz.params4] at ht
    have hm:t ∈ [9,38,23,3]:=by simpa using Array.mem_of_getElem? ht
    have hall:([9,38,23,3].all fun u=>!Tryz.prog.wantsStandIn u)=true:=by kernel_rfl
    exact(show Tryz.prog.wantsStandIn t=false by simpa using List.all_eq_true.1 hall t hm)⟩)
  (by kernel_rfl)
end Go.Proofs.YthicpjafcpfjoaaGreatDoor.topCounts
