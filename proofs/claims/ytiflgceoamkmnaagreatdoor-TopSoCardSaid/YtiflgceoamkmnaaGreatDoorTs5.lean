/-
  The statement that the last part names, proved; and all that it stands on that is not in the parts ahead. Conditions: those stated at each.
-/
import Derived.Test.YtiflgceoamkmnaaGreatDoorRows
import Derived.Test.YtiflgceoamkmnaaGreatDoorCards
import Derived.Test.YtiflgceoamkmnaaGreatDoorTie
import Derived.WalkKit
import Derived.ProofKit
import Derived.OpenShut
import Derived.LaidMore
import Derived.Stop.Joined
import Derived.Stop.LaidErr
import Derived.SevenTiedAt
import Derived.Test.YtiflgceoamkmnaaGreatDoorTs4
set_option linter.unusedVariables false
set_option maxRecDepth 100000
namespace Go.Proofs.YtiflgceoamkmnaaGreatDoor
open Go Go.Vc
theorem mapT_ind {ks:List Int}{C:List PR→List Pn→Prop}(h0:C [] [])(h1:∀ r R p L,prT r=pnT ks p→R.map prT=L.map (pnT ks)→C R L→C (r :: R) (p :: L)):∀{R:List PR} {L:List Pn},R.map prT=L.map (pnT ks)→C R L
 | [],[],_=>h0
 | [],_ :: _,h=>by simp at h
 | _ :: _,[],h=>by simp at h
 | r :: R,p :: L,h=>by
  simp only [List.map_cons,List.cons.injEq] at h
  exact h1 r R p L h.1 h.2 (mapT_ind h0 h1 h.2)
theorem prT_eq {ks:List Int}{r:PR}{p:Pn}(h:prT r=pnT ks p):r.k=p.k∧r.acs=accsOf ks p.rs∧r.t=p.t:=by
 simp only [prT,pnT,Prod.mk.injEq] at h
 exact h
theorem tell_map {ks:List Int}{size u:Int}{R:List PR}{L:List Pn}(h:R.map prT=L.map (pnT ks)):(R.map (tellPr size u)).map prT=(tellP size u L).map (pnT ks):=by
 refine mapT_ind (C:=fun R L=>(R.map (tellPr size u)).map prT=(tellP size u L).map (pnT ks)) rfl (fun r R p L h1 h2 ih=>?_) h
 obtain⟨e1,e2,e3⟩:=prT_eq h1
 unfold tellP at ih ⊢
 simp only [List.map_cons,ih]
 congr 1
 simp only [prT,pnT,tellPr,duePr,dueP,e1,e2,e3]
theorem drop_map {ks:List Int}{size u:Int}{R:List PR}{L:List Pn}(h:R.map prT=L.map (pnT ks)):(R.filter fun r=>!decide (r.k.1+size≤u)).map prT=(dropP size u L).map (pnT ks):=by
 refine mapT_ind (C:=fun R L=>(R.filter fun r=>!decide (r.k.1+size≤u)).map prT=(dropP size u L).map (pnT ks)) rfl (fun r R p L h1 h2 ih=>?_) h
 obtain⟨e1,e2,e3⟩:=prT_eq h1
 unfold dropP dueP at ih ⊢
 rw [List.filter_cons,List.filter_cons,e1]
 split
 ·rw [List.map_cons,List.map_cons,ih,h1]
 ·exact ih
theorem new_map {ks:List Int}{size u:Int}{R:List PR}{L:List Pn}(h:R.map prT=L.map (pnT ks)):((R.filter (newPr size u)).map toldPr).map (fun r=>(r.k,r.acs))=(newP size u L).map (fun p=>(p.k,accsOf ks p.rs)):=by
 refine mapT_ind (C:=fun R L=>((R.filter (newPr size u)).map toldPr).map (fun r=>(r.k,r.acs))=(newP size u L).map (fun p=>(p.k,accsOf ks p.rs))) rfl (fun r R p L h1 h2 ih=>?_) h
 obtain⟨e1,e2,e3⟩:=prT_eq h1
 unfold newP at ih ⊢
 have hc:newPr size u r=(!p.t&&dueP size u p):=by unfold newPr duePr dueP;rw [e1,e3]
 rw [List.filter_cons,List.filter_cons,hc]
 split
 ·rw [List.map_cons,List.map_cons,List.map_cons,ih]
  simp only [toldPr,e1,e2]
 ·exact ih
def farX (f d:Int):Int:=if f < 0 then 0 else f - d
theorem clock_Part2_ok {a:Option Addr}{n c:Nat}{l:List Int}{p d:Int}{h:Hp}{R:Value→Hp→Prop}(S:SlI h a n l)(hp:0≤p)(hp':p < n)(hr:InR (l.getD p.toNat 0 - d))
  (hK:R (vtup [vi (farX (l.getD p.toNat 0) d),vb (decide (0≤l.getD p.toNat 0))]) h):CallOK Tryz.prog 44 [vag [vsl a n c],vi p,vi d] h R:=by
 refine clock_Part_ok S hp hp' hr ?_
 unfold farX at hK
 split
 ·rename_i h1
  rw [if_pos h1,decide_eq_false (by omega)] at hK
  exact hK
 ·rename_i h1
  rw [if_neg h1,decide_eq_true (by omega)] at hK
  exact hK
set_option maxHeartbeats 4000000 in
theorem engine_Step_ok {q:Qy}{h0 h:Hp}{g parts N p:Nat}{st:En}{e:EvL}{R':Value→Hp→Prop}(X:EngX q h0 h g st)(B:QOk q)(E:EvOK e)(HB:EnB q parts N st)(hN:N≤700000)(hp:p < parts)(hparts:parts≤1000)
  (hK:∀ h',h0.le h'→EngX q h0 h' g (stepE q p e st)→R' (vtup []) h'):CallOK Tryz.prog 17 [vhp g 0,vi p,vag (encE e)] h R':=by
 refine ok_engine_Engine_Step ?_
 unfold VC_engine_Engine_Step
 have hd:=B.d
 have ht:=B.t
 have hs:=B.s
 have hsl:=B.l
 have hEt:=E.t
 have hfl:=HB.fl
 have hrl:=HB.rl
 have X0:=X
 obtain⟨qf,hi,a1,n1,c1,a2,n2,c2,a3,n3,c3,ak,nk,ck,ar,cr,ac,nc,cc,tb,tc,aw,cw,R,RW,l0,M,I⟩:=X
 have hnc:nc=st.far.length:=I.c.1
 have hfp:st.far.getD p 0 ∈ st.far:=by rw [List.getD_eq_getElem?_getD,List.getElem?_eq_getElem (by omega)];exact List.getElem_mem _
 have hfb:=HB.fb _ hfp
 have F:=I.f
 refine⟨_,_,_,row_cells' M.blk (Nat.le_of_ble_eq_true rfl),_,cell_cells M.blk rfl,?_⟩
 refine clock_Part2_ok (p:=(p:Int)) (d:=qf.delay) (I.c.le M.le0) (by omega) (by omega) (by rw [Int.toNat_natCast,F.de];unfold InR;omega) ⟨_,_,rfl,?_⟩
 rw [Int.toNat_natCast,F.de]
 have hn:(decide ((((n2:Nat):Int):Int)=0))=decide (q.wh=[]):=by
  rw [I.qa.w.1]
  refine decide_eq_decide.2 ⟨fun h=>F.wn.1 (List.length_eq_zero_iff.1 (by omega)),fun h=>by rw [F.wn.2 h];rfl⟩
 refine⟨_,_,_,cell_cells M.blk rfl,_,_,_,fun _=>cell_cells M.blk rfl,?_⟩
 rw [hn]
 refine⟨fun x hh=>h.le hh∧(q.wh≠[]→x=.t (.ag [.v (vi (valE e q.wh).1),.v (vi (valE e q.wh).2)])),fun e1=>?_,fun e1=>⟨Hp.le_refl h,fun hw=>absurd (decide_eq_false hw) e1⟩,?_⟩
 ·have hw:q.wh≠[]:=of_decide_eq_false e1
  have Rp:=F.w1 hw
  have hlq:=(exprF_ok (B.w hw)).2
  refine evalO_ok Rp.ok (by have:=Rp.len;omega) (I.qa.w.le M.le0) fun h' l'=>⟨_,_,rfl,l',fun _=>by rw [Rp.val e E]⟩
 rintro h14 x15 x16 ⟨l14,e14⟩
 refine⟨fun x hh=>h.le hh∧(q.wh≠[]→x=.t (.ag [.v (vi (truthV true).1),.v (vi (truthV true).2)])),fun e1=>value_Truth_ok ⟨_,_,rfl,l14,fun _=>rfl⟩,fun e1=>⟨l14,fun hw=>absurd (decide_eq_false hw) e1⟩,?_⟩
 rintro h22 x23 x24 ⟨l22,e22⟩
 refine⟨decide (valE e q.wh=truthV true),fun e1=>?_,?_⟩
 ·have hw:q.wh≠[]:=of_decide_eq_false e1
  have e14:=e14 hw
  have e22:=e22 hw
  cases e14
  cases e22
  exact rd_eqV
 have hask:(bif (decide (q.wh=[])) then true else decide (valE e q.wh=truthV true))=asksQ q e:=by
  unfold asksQ
  cases decide (q.wh=[])<;>rfl
 rw [hask]
 intro J58
 have X22:=X0.le l22
 have hJ:∀ h59,EngX q h0 h59 g (winsE q (st.far.getD p 0) e st)→J58 h59:=by
  intro h59 X59
  have HB2:=winsE_ok B HB E (far:=st.far.getD p 0)
  obtain⟨ws1,ws2⟩:=winsE_same (q:=q) (far:=st.far.getD p 0) (e:=e) (st:=st)
  generalize hst2:winsE q (st.far.getD p 0) e st=st2 at X59 HB2 ws1 ws2
  clear M I X0 X22 l14 e14 l22 e22 hn hask
  obtain⟨qf,hi,a1,n1,c1,a2,n2,c2,a3,n3,c3,ak,nk,ck,ar,cr,ac,nc,cc,tb,tc,aw,cw,R,RW,l0,M,I⟩:=X59
  have F:=I.f
  have hrl2:=HB2.rl
  have hfl2:=HB2.fl
  have hnc:nc=st2.far.length:=I.c.1
  have hRl:R.length=st2.pn.length:=by have:=congrArg List.length I.p;simpa using this
  have hpl:=HB2.pl
  have hwl:=HB2.wl
  have hWl:RW.length=st2.rows.length:=by have:=congrArg List.length I.w;simpa [growL] using this
  have hrm:st2.rd.getD p 0 ∈ st2.rd:=by rw [List.getD_eq_getElem?_getD,List.getElem?_eq_getElem (by omega)];exact List.getElem_mem _
  have hrb:=HB2.rb _ hrm
  have hao:=acs_ok HB2 (by omega) I.p
  obtain⟨bR,eR,hcR,HR⟩:=M.read (p:=p) (x:=st2.rd.getD p 0+1) (by omega)
  have hbd:ar=some ⟨bR,0,none⟩∧(0:Int)≤(p:Int)∧(p:Int) < ((st2.rd.length:Nat):Int):=⟨eR,by omega,by omega⟩
  refine⟨_,_,_,cell_cells M.blk rfl,bR,0,hbd,((st2.rd.getD p 0:Nat):Int),hcR,_,isW (by unfold InR;omega),bR,0,hbd,?_⟩
  have ec:((st2.rd.getD p 0:Nat):Int)+1=((st2.rd.getD p 0+1:Nat):Int):=by omega
  rw [ec]
  refine HR _ fun h67 M67=>?_
  refine⟨_,_,_,row_cells' M67.blk (Nat.le_of_ble_eq_true rfl),?_⟩
  refine clock_See_ok (p:=(p:Int)) (I.c.le M67.le0) (by omega) (by omega) (by omega) fun a71 c71 h70 O70=>⟨_,_,_,rfl,?_⟩
  rw [Int.toNat_natCast] at O70
  obtain⟨hj,lj,Mj,trj,_⟩:=M67.rebase_new O70.le
  have hclk:SlI hj a71 nc (see st2.far p e.1):=⟨by rw [see_length];exact hnc,trj _ _ O70.row fun b o hb=>O70.new b (by rw [hb,OwnS.at0 O70.own b o hb])⟩
  refine Mj.put (j:=9) (Nat.le_of_ble_eq_true rfl) fun h72 M72=>?_
  have I72:EngI q qf hj a1 n1 a2 n2 a3 n3 ak nk a71 nc tb R RW (seenE p e st2):=⟨F,I.qa.le lj,I.k.le lj,hclk,I.t.le lj,I.p,I.w,fun r hr=>(I.wi r hr).le lj⟩
  have hstep:stepE q p e st=endE q (seenE p e st2):=by unfold stepE;rw [hst2]
  rw [hstep] at hK
  have hlr:(st2.rd.set p (st2.rd.getD p 0+1)).length=st2.rd.length:=List.length_set
  refine⟨_,_,_,row_cells' M72.blk (Nat.le_of_ble_eq_true rfl),_,cell_cells M72.blk rfl,?_⟩
  rw [F.de]
  refine clock_All_ok (hclk.le M72.le0) (by omega) (seeAll _ _ _ HB2.fb hEt (by omega)) hd ⟨_,_,rfl,fun e1=>?_,fun e1=>?_⟩
  ·have e2:(farC q.delay (see st2.far p e.1)).2=false:=by simpa using e1
   have hend:endE q (seenE p e st2)=seenE p e st2:=by
    unfold endE
    rw [if_neg]
    show ¬(farC q.delay (see st2.far p e.1)).2=true
    rw [e2];decide
   rw [hend] at hK
   refine hK h72 (Hp.le_trans l0 (Hp.le_trans lj M72.le0)) ⟨qf,hj,a1,n1,c1,a2,n2,c2,a3,n3,c3,ak,nk,ck,ar,cr,a71,nc,c71,tb,tc,aw,cw,R,RW,Hp.le_trans l0 lj,?_,I72⟩
   show EngM hj h72 g (engC a1 n1 c1 a2 n2 c2 a3 n3 c3 qf ak nk ck ar (st2.rd.set p (st2.rd.getD p 0+1)).length cr a71 nc c71 tb R.length tc st2.late aw RW.length cw) ar cr (st2.rd.set p (st2.rd.getD p 0+1)) aw RW.length cw (RW.flatMap (growV rwRow))
   rw [hlr]
   exact M72
  ·have e2:(farC q.delay (see st2.far p e.1)).2=true:=by simpa using e1
   have hend:endE q (seenE p e st2)={ seenE p e st2 with pn:=dropP q.size ((farC q.delay (see st2.far p e.1)).1 - q.late) (tellP q.size (farC q.delay (see st2.far p e.1)).1 st2.pn),rows:=st2.rows++(newP q.size (farC q.delay (see st2.far p e.1)).1 st2.pn).map (rowPn (kindsQ q)) }:=by
    unfold endE
    rw [if_pos (show (farC q.delay (seenE p e st2).far).2=true from e2)]
    rfl
   rw [hend] at hK
   have hub:-1001≤(farC q.delay (see st2.far p e.1)).1∧(farC q.delay (see st2.far p e.1)).1≤9999:=by
    have hsa:=seeAll st2.far p e.1 HB2.fb hEt (by omega)
    unfold farC
    split
    ·simp only
     split
     ·omega
     ·rename_i hne
      have:=hsa _ (minL_mem hne)
      omega
    ·simp only;omega
   generalize (farC q.delay (see st2.far p e.1)).1=u at *
   refine⟨_,_,_,row_cells' M72.blk (Nat.le_of_ble_eq_true rfl),_,cell_cells M72.blk rfl,?_⟩
   rw [F.sz]
   refine EngM.frame M72 (Table_Tell_ok (size:=q.size) (upto:=u) I72.t (by omega) (fun r hr=>by have:=(hao r hr).2.2;unfold InR;omega) fun a84 c84 a85 c85 hk lk Tk TN h83 l83 M83=>⟨_,_,_,_,_,_,rfl,?_⟩)
   have Ik:=I72.le lk
   have hNm:∀ r ∈ (R.filter (newPr q.size u)).map toldPr,r.acs.length≤1000:=by
    intro r hr
    obtain⟨r0,h0',rfl⟩:=List.mem_map.1 hr
    have:=(hao r0 (List.mem_filter.1 h0').1).1
    have h4:=B.n2
    rw [kindsQ_len] at this
    show r0.acs.length≤1000
    omega
   have hNeq:((R.filter (newPr q.size u)).map toldPr).map (fun r=>((false,r.k),r.acs.map gOut))=((newP q.size u st2.pn).map (rowPn (kindsQ q))).map rowG:=by
    have:=congrArg (List.map fun x:PK × List AcS=>(((false,x.1),x.2.map gOut):(Bool × PK) × List Vl)) (new_map (size:=q.size) (u:=u) I.p)
    simp only [List.map_map] at this ⊢
    exact this
   have hNl:((R.filter (newPr q.size u)).map toldPr).length≤R.length:=by rw [List.length_map];exact List.length_filter_le _ _
   generalize (R.filter (newPr q.size u)).map toldPr=NN at *
   refine⟨fun vs hh=>∃(i:Nat) (hx:Hp) (aw':Option Addr) (cw':Nat) (RW':List (GRow Vl (Bool × PK))),vs=[vi i]∧i≤NN.length∧hk.le hx∧EngM hx hh g (engC a1 n1 c1 a2 n2 c2 a3 n3 c3 qf ak nk ck ar st2.rd.length cr a71 nc c71 tb R.length tc st2.late aw' RW'.length cw') ar cr (st2.rd.set p (st2.rd.getD p 0+1)) aw' RW'.length cw' (RW'.flatMap (growV rwRow))∧growL RW'=st2.rows.map rowG++(NN.take i).map (fun r=>((false,r.k),r.acs.map gOut))∧∀ r ∈ RW',HasRow hx r.2.1.1 (r.2.2.flatMap encV),fun vs hh=>NN.length - (vint vs 0).toNat,⟨0,hk,aw,cw,RW,rfl,Nat.zero_le _,Hp.le_refl hk,M83,by rw [I.w];simp,Ik.wi⟩,?_⟩
   rintro vs hh ⟨i,hx,aw',cw',RW',rfl,hi',lx,Mx,hw1,hw2⟩
   have hW':RW'.length=st2.rows.length+i:=by
    have:=congrArg List.length hw1
    simp [growL] at this
    omega
   refine⟨i,rfl,fun e3=>?_,fun e3=>?_⟩
   ·have hlt:i < NN.length:=by have:=of_decide_eq_true e3;omega
    have hxi:NN[i]?=some NN[i]:=List.getElem?_eq_getElem hlt
    have hmem:=List.getElem_mem hlt
    have tk:NN.take (i+1)=NN.take i++[NN[i]]:=List.take_succ_eq_append_getElem hlt
    have lhh:=Hp.le_trans lx Mx.le0
    obtain⟨b,o,ea,hr⟩:=(TN.s.le lhh).get encPr_len (by decide) hxi
    have hri:=(TN.i _ hmem).le lhh
    have hal:=hNm _ hmem
    generalize NN[i]=r at *
    refine⟨b,o,⟨ea,by omega,by omega⟩,_,_,_,_,_,_,_,by rw [Int.toNat_natCast];exact hr,_,_,_,cell_cells Mx.blk rfl,?_⟩
    refine pane_Out_ok (r:=r) ⟨rfl,hri⟩ hal fun a107 c107 h103 V103=>⟨_,_,_,_,_,_,rfl,cell_cells (Mx.le V103.le0).blk rfl,?_⟩
    intro b108 hb108 h109
    obtain⟨hy,ly,My,try_,_⟩:=Mx.rebase_new V103.le0
    have o1:=try_ _ _ (OwnV.row V103) fun b o hb=>V103.new b (by rw [hb,OwnS.at0 (OwnV.own V103) b o hb])
    refine My.rows (m:=1) (news:=[vb false,vi r.k.1,vi r.k.2.1,vi r.k.2.2,vsl a107 (r.acs.map gOut).length c107]) hb108 rfl (by
     intro u hu
     simp only [List.mem_cons,List.not_mem_nil,or_false] at hu
     rcases hu with rfl|rfl|rfl|rfl|rfl<;>rfl) (by omega) fun aw2 cw2 h111 M111=>⟨_,_,_,rfl,?_⟩
    refine M111.put (j:=12) (Nat.le_of_ble_eq_true rfl) fun h113 M113=>⟨_,isW (by unfold InR;omega),⟨i+1,hy,aw2,cw2,RW'++[((false,r.k),(a107,c107),r.acs.map gOut)],rfl,by omega,Hp.le_trans lx ly,?_,?_,?_⟩,by simp [vint];omega⟩
    ·rw [List.length_append,List.flatMap_append]
     exact M113
    ·rw [tk,List.map_append,←List.append_assoc,←hw1]
     unfold growL
     rw [List.map_append]
     rfl
    ·intro r' hr'
     rcases List.mem_append.1 hr' with q1|q1
     ·exact(hw2 r' q1).le ly
     ·rw [List.mem_singleton.1 q1];exact o1
   ·have hge:i=NN.length:=by have:=of_decide_eq_false e3;omega
    subst hge
    rw [List.take_length] at hw1
    refine⟨_,cell_cells Mx.blk rfl,_,cell_cells Mx.blk rfl,_,isW (by rw [F.la];unfold InR;omega),?_⟩
    rw [F.sz,F.la]
    have hml:(R.map (tellPr q.size u)).length=R.length:=List.length_map _
    have drp:=fun(K':Value→Hp→Prop) (hK':∀ a' c' h',hx.le h'→Tb h' a' ((R.map (tellPr q.size u)).filter fun r=>!decide (r.k.1+q.size≤u - q.late))→K' (vag [vsl a' ((R.map (tellPr q.size u)).filter fun r=>!decide (r.k.1+q.size≤u - q.late)).length c']) h')=>
     Table_Drop_ok (h:=hx) (K':=K') (c:=c84) (size:=q.size) (upto:=u - q.late) (Tk.le lx) (by rw [hml];omega) (fun r hr=>by
      obtain⟨r0,h0',rfl⟩:=List.mem_map.1 hr
      have:=(hao r0 h0').2.2
      show InR (r0.k.1+q.size)
      unfold InR;omega) hK'
    rw [hml] at drp
    refine EngM.frame Mx (drp _ fun a121 c121 hz lz Tz h120 l120 M120=>⟨_,_,_,rfl,?_⟩)
    refine M120.put (j:=10) (Nat.le_of_ble_eq_true rfl) fun h122 M122=>?_
    have lall:h0.le hz:=Hp.le_trans l0 (Hp.le_trans lj (Hp.le_trans lk (Hp.le_trans lx lz)))
    have lkz:=Hp.le_trans lx lz
    refine hK h122 (Hp.le_trans lall M122.le0) ⟨qf,hz,a1,n1,c1,a2,n2,c2,a3,n3,c3,ak,nk,ck,ar,cr,a71,nc,c71,a121,c121,aw',cw',(R.map (tellPr q.size u)).filter fun r=>!decide (r.k.1+q.size≤u - q.late),RW',lall,?_,⟨F,Ik.qa.le lkz,Ik.k.le lkz,Ik.c.le lkz,Tz,drop_map (tell_map I.p),?_,fun r hr=>(hw2 r hr).le lz⟩⟩
    ·show EngM hz h122 g (engC a1 n1 c1 a2 n2 c2 a3 n3 c3 qf ak nk ck ar (st2.rd.set p (st2.rd.getD p 0+1)).length cr a71 nc c71 a121 _ c121 st2.late aw' RW'.length cw') ar cr (st2.rd.set p (st2.rd.getD p 0+1)) aw' RW'.length cw' (RW'.flatMap (growV rwRow))
     rw [hlr]
     exact M122
    ·show growL RW'=(st2.rows++(newP q.size u st2.pn).map (rowPn (kindsQ q))).map rowG
     rw [hw1,List.map_append,hNeq]
 clear_value J58
 refine⟨fun e1=>?_,fun e1=>?_⟩
 ·have hw:winsE q (st.far.getD p 0) e st=(startsOf e.1 q.size q.slide).foldl (winE q (st.far.getD p 0) e) st:=by unfold winsE;rw [if_pos e1]
  rw [hw] at hJ
  have M22:=M.le l22
  have cS:∀{qf:Qy},FoldQ q qf→vi qf.size=vi q.size:=fun F=>by rw [F.sz]
  refine⟨_,cell_cells M22.blk rfl,_,cell_cells M22.blk rfl,?_⟩
  rw [F.sz,F.sl]
  refine window_StartsN_ok (by omega) (by omega) (by omega) (by omega) (by omega) (by omega) fun a30 n30 c30 h29 l29 SS hnew=>⟨_,_,_,rfl,?_⟩
  have hsb:=starts_ok B E
  have hsm:=starts_many B (e:=e)
  have hn30:n30=(startsOf e.1 q.size q.slide).length:=SS.1
  generalize startsOf e.1 q.size q.slide=ss at *
  -- the windows' slice is not the engine's
  refine⟨fun vs hh=>∃(k:Nat) (hb:Hp),vs=[vi k]∧k≤ss.length∧h0.le hb∧SlI hb a30 n30 ss∧EngX q hb hh g ((ss.take k).foldl (winE q (st.far.getD p 0) e) st),fun vs hh=>ss.length - (vint vs 0).toNat,?_,?_⟩
  ·obtain⟨hj,lj,Mj,trj,_⟩:=M22.rebase_new l29
   refine⟨0,hj,rfl,Nat.zero_le _,Hp.le_trans l0 lj,⟨SS.1,trj _ _ SS.2 hnew⟩,?_⟩
   rw [List.take_zero]
   exact⟨qf,hj,a1,n1,c1,a2,n2,c2,a3,n3,c3,ak,nk,ck,ar,cr,ac,nc,cc,tb,tc,aw,cw,R,RW,Hp.le_refl hj,Mj,I.le lj⟩
  rintro vs hh ⟨k,hb,rfl,hk,lb,Sb,Xb⟩
  refine⟨k,rfl,fun e2=>?_,fun e2=>?_⟩
  ·have hlt:k < ss.length:=by have:=of_decide_eq_true e2;omega
   obtain⟨b,o,ea,hc⟩:=(Sb.le Xb.le0).get (i:=k) (by omega)
   have hgd:ss.getD k 0=ss[k]:=by rw [List.getD_eq_getElem?_getD,List.getElem?_eq_getElem hlt];rfl
   have tk:ss.take (k+1)=ss.take k++[ss[k]]:=List.take_succ_eq_append_getElem hlt
   have hsk:=hsb _ (List.getElem_mem hlt)
   have HBk:=winsE_fold (far:=st.far.getD p 0) B E (ss.take k) HB (fun s hs=>hsb s (List.mem_of_mem_take hs))
   rw [List.length_take,Nat.min_eq_left hk] at HBk
   rw [hgd] at hc
   generalize ss[k]=s at *
   intro J54
   have hJ2:∀ h',EngX q hb h' g (winE q (st.far.getD p 0) e ((ss.take k).foldl (winE q (st.far.getD p 0) e) st) s)→J54 h':=by
    intro h' X'
    refine⟨_,isW (by unfold InR;omega),⟨k+1,hb,rfl,by omega,lb,Sb,?_⟩,by simp [vint];omega⟩
    rw [tk,List.foldl_append]
    exact X'
   clear_value J54
   generalize (ss.take k).foldl (winE q (st.far.getD p 0) e) st=stk at *
   have Xb0:=Xb
   obtain⟨qf,hi,a1,n1,c1,a2,n2,c2,a3,n3,c3,ak,nk,ck,ar,cr,ac,nc,cc,tb,tc,aw,cw,R,RW,l0,M,I⟩:=Xb
   have F:=I.f
   refine⟨b,o,⟨ea,by omega,by omega⟩,s,by rw [Int.toNat_natCast];exact hc,_,fun _=>cell_cells M.blk rfl,_,fun _=>isW (by rw [F.sz];unfold InR;omega),_,fun _=>cell_cells M.blk rfl,_,fun _=>isW (by rw [F.sz,F.la];unfold InR;omega),?_⟩
   have hl:(bif (decide (0≤st.far.getD p 0)) then(decide ((s+qf.size+qf.late:Int)≤farX (st.far.getD p 0) q.delay)) else false)=lateQ q (st.far.getD p 0) s:=by
    unfold lateQ farX
    rw [F.sz,F.la]
    by_cases h1:0≤st.far.getD p 0
    ·rw [decide_eq_true h1,if_neg (by omega)];rfl
    ·rw [decide_eq_false h1];rfl
   rw [hl]
   refine⟨fun e3=>?_,fun e3=>?_⟩
   ·have hll:=HBk.ll
    refine⟨_,cell_cells M.blk rfl,_,isW (by unfold InR;omega),?_⟩
    refine M.put (j:=11) (Nat.le_of_ble_eq_true rfl) fun h48 M48=>hJ2 h48 ?_
    unfold winE
    rw [if_pos e3]
    exact⟨qf,hi,a1,n1,c1,a2,n2,c2,a3,n3,c3,ak,nk,ck,ar,cr,ac,nc,cc,tb,tc,aw,cw,R,RW,l0,M48,⟨I.f,I.qa,I.k,I.c,I.t,I.p,I.w,I.wi⟩⟩
   ·refine engine_change_ok Xb0 B E HBk (by omega) fun h52 l52 X52=>⟨rfl,hJ2 h52 ?_⟩
    unfold winE
    rw [if_neg (by rw [e3];decide)]
    exact X52
  ·have hge:k=ss.length:=by have:=of_decide_eq_false e2;omega
   rw [hge,List.take_length] at Xb
   refine hJ hh ?_
   obtain⟨qf,hi,a1,n1,c1,a2,n2,c2,a3,n3,c3,ak,nk,ck,ar,cr,ac,nc,cc,tb,tc,aw,cw,R,RW,l0,M,I⟩:=Xb
   exact⟨qf,hi,a1,n1,c1,a2,n2,c2,a3,n3,c3,ak,nk,ck,ar,cr,ac,nc,cc,tb,tc,aw,cw,R,RW,Hp.le_trans lb l0,M,I⟩
 ·have hw:winsE q (st.far.getD p 0) e st=st:=by unfold winsE;rw [if_neg (by rw [e1];decide)]
  rw [hw] at hJ
  exact hJ h22 X22
theorem ints_vi (l:List Nat):(l.map fun n:Nat=>vi n)=(l.map fun n:Nat=>(n:Int)).map vi:=by rw [List.map_map];rfl
theorem EngX.seen {q:Qy}{h0 h:Hp}{g:Nat}{st:En}(X:EngX q h0 h g st):∃(a1:Option Addr) (n1 c1:Nat) (a2:Option Addr) (n2 c2:Nat) (a3:Option Addr) (n3 c3:Nat) (qf:Qy) (ak:Option Addr) (nk ck:Nat) (ar:Option Addr) (cr:Nat) (ac:Option Addr) (cc:Nat) (tb:Option Addr) (tc:Nat) (aw:Option Addr) (cw:Nat) (R:List PR),
  h g=some (cellsO (engC a1 n1 c1 a2 n2 c2 a3 n3 c3 qf ak nk ck ar st.rd.length cr ac st.far.length cc tb R.length tc st.late aw (st.rows.map rowG).length cw) 64)∧SlI h ar st.rd.length (st.rd.map fun n:Nat=>(n:Int))∧SlI h ac st.far.length st.far∧GTab encV rwRow h aw (st.rows.map rowG).length (st.rows.map rowG) ∧
   Tb h tb R∧R.map prT=st.pn.map (pnT (kindsQ q)):=by
 obtain⟨qf,hi,a1,n1,c1,a2,n2,c2,a3,n3,c3,ak,nk,ck,ar,cr,ac,nc,cc,tb,tc,aw,cw,R,RW,l0,M,I⟩:=X
 have hWl:RW.length=(st.rows.map rowG).length:=by have:=congrArg List.length I.w;simpa [growL] using this
 have hnc:nc=st.far.length:=I.c.1
 subst hnc
 refine⟨a1,n1,c1,a2,n2,c2,a3,n3,c3,qf,ak,nk,ck,ar,cr,ac,cc,tb,tc,aw,cw,R,?_,?_,I.c.le M.le0,⟨RW,I.w,rfl,M.w.row,fun r hr=>(I.wi r hr).le M.le0⟩,I.t.le M.le0,I.p⟩
 ·rw [←hWl];exact M.blk
 ·have:=M.r
  rw [ints_vi] at this
  exact this.sli
def dueU (q:Qy)(U:Int × Bool)(k:PK):Bool:=U.2&&decide (k.1+q.size≤U.1)
def goneU (q:Qy)(U:Int × Bool)(k:PK):Bool:=U.2&&decide (k.1+q.size≤U.1 - q.late)
def netS (L:List (PK × List Vl))(w:Rw):Option (List (PK × List Vl)):=
 if w.1=true then(if w.2 ∈ L then some (L.erase w.2) else none) else if ∃ x ∈ L,x.1=w.2.1 then none else some (L++[w.2])
def netR (rows:List Rw):Option (List (PK × List Vl)):=rows.foldlM netS []
theorem netR_app (a b:List Rw):netR (a++b)=(netR a).bind fun L=>b.foldlM netS L:=by
 unfold netR
 rw [List.foldlM_append]
 rfl
def outK (q:Qy)(A:List Ad)(k:PK):PK × List Vl:=(k,outV (kindsQ q) (rowsOf A k))
def outsT (q:Qy)(A:List Ad)(T:PK→Bool):List (PK × List Vl):=((keysS A).filter T).map (outK q A)
structure Mid (q:Qy)(A:List Ad)(U:Int × Bool)(T:PK→Bool)(st:En):Prop where
 pn:st.pn=((keysS A).filter fun k=>!goneU q U k).map fun k=>⟨k,rowsOf A k,T k⟩
 net:∃ L,netR st.rows=some L∧L.Perm (outsT q A T)
 tk:∀ k,T k=true→k ∈ keysS A
 td:∀ k,T k=true→dueU q U k=true
 tg:∀ k,k ∈ keysS A→goneU q U k=true→T k=true
 rk:∀ w ∈ st.rows,w.2.1 ∈ keysS A
theorem putP_map {f:PK→List (List Vl)}{T:PK→Bool}{K:PK}{v:List Vl}:∀{l:List PK},l.Pairwise aheadK→(K ∉ l→f K=[]∧T K=false) →
  putP K v (l.map fun k=>⟨k,f k,T k⟩)=(insK K l).map fun k=>⟨k,f k++(if K=k then [v] else []),T k⟩
 | [],_,h=>by
  obtain⟨h1,h2⟩:=h (by simp)
  simp [putP,insK,h1,h2]
 | x :: l,hs,h=>by
  obtain⟨s1,s2⟩:=List.pairwise_cons.1 hs
  rw [List.map_cons,putP,insK]
  simp only
  by_cases h1:aheadK x K
  ·have hne:K≠x:=fun e=>by subst e;exact aheadK_irr _ h1
   have hq:K ∉ l→K ∉ x :: l:=fun q e=>(List.mem_cons.1 e).elim hne q
   rw [if_pos h1,if_pos h1,List.map_cons,putP_map s2 (fun q=>h (hq q)),if_neg hne,List.append_nil]
  ·by_cases h2:x=K
   ·subst h2
    rw [if_neg h1,if_pos rfl,if_neg h1,if_pos rfl,List.map_cons,if_pos rfl]
    congr 1
    refine List.map_congr_left fun y hy=>?_
    have hne:x≠y:=fun e=>by subst e;exact aheadK_irr _ (s1 _ hy)
    rw [if_neg hne,List.append_nil]
   ·have hb:aheadK K x:=by
     by_cases q1:aheadK K x
     ·exact q1
     ·exact absurd (aheadK_tri h1 q1) h2
    have hni:K ∉ x :: l:=by
     rw [List.mem_cons]
     rintro(e|e)
     ·exact h2 e.symm
     ·exact aheadK_irr _ (aheadK_trans hb (s1 _ e))
    obtain⟨e1,e2⟩:=h hni
    rw [if_neg h1,if_neg h2,if_neg h1,if_neg h2,List.map_cons,List.map_cons,if_pos rfl,e1,e2,if_neg (fun e=>h2 e.symm),List.append_nil,List.nil_append]
    congr 2
    refine List.map_congr_left fun y hy=>?_
    have hne:K≠y:=fun e=>by subst e;exact hni (List.mem_cons_of_mem _ hy)
    rw [if_neg hne,List.append_nil]
theorem atP_map {f:PK→List (List Vl)}{T:PK→Bool}{K:PK}:∀{l:List PK},atP K (l.map fun k=>(⟨k,f k,T k⟩:Pn))=if K ∈ l then some ⟨K,f K,T K⟩ else none
 | []=>rfl
 | x :: l=>by
  have ih:=atP_map (f:=f) (T:=T) (K:=K) (l:=l)
  unfold atP at ih ⊢
  rw [List.map_cons,List.find?_cons]
  by_cases h:x=K
  ·subst h
   simp
  ·rw [decide_eq_false h,ih]
   simp only [List.mem_cons]
   by_cases h2:K ∈ l
   ·rw [if_pos h2,if_pos (.inr h2)]
   ·rw [if_neg h2,if_neg]
    rintro(e|e)
    ·exact h e.symm
    ·exact h2 e
theorem filter_sorted {l:List PK}(h:l.Pairwise aheadK)(P:PK→Bool):(l.filter P).Pairwise aheadK:=h.sublist List.filter_sublist
theorem insK_filter {l:List PK}(h:l.Pairwise aheadK){P:PK→Bool}{K:PK}(hP:P K=true):(insK K l).filter P=insK K (l.filter P):=
 sorted_ext (filter_sorted (insK_sorted K h) P) (insK_sorted K (filter_sorted h P)) fun k=>by
  rw [List.mem_filter,insK_mem,insK_mem,List.mem_filter]
  constructor
  ·rintro⟨h1|h1,h2⟩
   ·exact .inl h1
   ·exact .inr ⟨h1,h2⟩
  ·rintro(h1|⟨h1,h2⟩)
   ·subst h1;exact⟨.inl rfl,hP⟩
   ·exact⟨.inr h1,h2⟩
theorem insK_filterF {l:List PK}(h:l.Pairwise aheadK){P:PK→Bool}{K:PK}(hP:P K=false):(insK K l).filter P=l.filter P:=
 sorted_ext (filter_sorted (insK_sorted K h) P) (filter_sorted h P) fun k=>by
  rw [List.mem_filter,insK_mem,List.mem_filter]
  constructor
  ·rintro⟨h1|h1,h2⟩
   ·subst h1;rw [hP] at h2;cases h2
   ·exact⟨h1,h2⟩
  ·rintro⟨h1,h2⟩
   exact⟨.inr h1,h2⟩
theorem insK_in {l:List PK}(h:l.Pairwise aheadK){K:PK}(hK:K ∈ l):insK K l=l:=
 sorted_ext (insK_sorted K h) h fun k=>by
  rw [insK_mem]
  constructor
  ·rintro(h1|h1)
   ·subst h1;exact hK
   ·exact h1
  ·exact .inr
theorem erase_map {f g:PK→List Vl}{K:PK}(hne:∀ k,k≠K→f k=g k):∀{l:List PK},l.Nodup→K ∈ l→((l.map fun k=>(k,f k)).erase (K,f K)++[(K,g K)]).Perm (l.map fun k=>(k,g k))
 | [],_,h=>(by cases h)
 | x :: l,hd,h=>by
  obtain⟨d1,d2⟩:=List.nodup_cons.1 hd
  rw [List.map_cons,List.map_cons]
  by_cases e:x=K
  ·subst e
   rw [List.erase_cons_head]
   have e2:(l.map fun k=>(k,f k))=l.map fun k=>(k,g k):=List.map_congr_left fun k hk=>by rw [hne k (fun e=>d1 (by rw [←e];exact hk))]
   rw [e2]
   exact List.perm_append_singleton ..
  ·rw [List.erase_cons_tail (by simp [e]),List.cons_append,hne x e]
   refine List.Perm.cons _ (erase_map hne d2 ?_)
   rcases List.mem_cons.1 h with q|q
   ·exact absurd q.symm e
   ·exact q
theorem outsT_nodup (q:Qy)(A:List Ad)(T:PK→Bool):((outsT q A T).map (·.1)).Nodup:=by
 unfold outsT
 rw [List.map_map]
 have:((fun x:PK × List Vl=>x.1) ∘ outK q A)=id:=rfl
 rw [this,List.map_id]
 exact sorted_nodup (filter_sorted (keysS_sorted A) T)
theorem chgR_key {ks:List Int}{K:PK}{v:List Vl}{o:Option Pn}:∀ w ∈ chgR ks K v o,w.2.1=K:=by
 intro w hw
 unfold chgR at hw
 split at hw
 ·split at hw
  ·simp only [List.mem_cons,List.not_mem_nil,or_false] at hw
   rcases hw with rfl|rfl<;>rfl
  ·cases hw
 ·cases hw
theorem Mid.put {q:Qy}{A:List Ad}{U:Int × Bool}{T:PK→Bool}{st:En}(M:Mid q A U T st){K:PK}{v:List Vl}(hK:goneU q U K=false) :
  Mid q (A++[(K,v)]) U T { st with pn:=putP K v st.pn,rows:=st.rows++chgR (kindsQ q) K v (atP K st.pn) }:=by
 have hs:=keysS_sorted A
 have hfs:=filter_sorted hs fun k=>!goneU q U k
 have hks:keysS (A++[(K,v)])=insK K (keysS A):=keysS_snoc A (K,v)
 have hin:∀ k,k ∈ keysS A→k ∈ keysS (A++[(K,v)]):=fun k hk=>by rw [hks,insK_mem];exact .inr hk
 have hni:K ∉ (keysS A).filter (fun k=>!goneU q U k)→K ∉ keysS A:=fun h h2=>h (List.mem_filter.2 ⟨h2,by rw [hK];rfl⟩)
 refine⟨?_,?_,fun k hk=>hin k (M.tk k hk),M.td,fun k hk hg=>?_,fun w hw=>?_⟩
 ·show putP K v st.pn=_
  rw [M.pn,putP_map hfs (fun h=>?_),hks,insK_filter hs (by rw [hK];rfl)]
  ·refine List.map_congr_left fun k _=>?_
   rw [rowsOf_snoc]
  ·refine⟨rowsOf_new fun h2=>hni h ((keys_perm A).mem_iff.2 h2),?_⟩
   cases hT:T K with
   | false=>rfl
   | true=>exact absurd (M.tk K hT) (hni h)
 ·obtain⟨L,hL,hp⟩:=M.net
  have hro:∀ k,k≠K→rowsOf (A++[(K,v)]) k=rowsOf A k:=fun k hk=>by rw [rowsOf_snoc,if_neg (fun e=>hk e.symm),List.append_nil]
  rw [M.pn,atP_map]
  rcases Bool.eq_false_or_eq_true (T K) with hT|hT
  rotate_left
  ·refine⟨L,?_,?_⟩
   ·have:chgR (kindsQ q) K v (if K ∈ (keysS A).filter (fun k=>!goneU q U k) then some ⟨K,rowsOf A K,T K⟩ else none)=[]:=by
     split
     ·unfold chgR
      rw [hT]
      exact if_neg (by simp)
     ·rfl
    show netR (st.rows++_)=_
    rw [this,List.append_nil]
    exact hL
   ·have e:outsT q (A++[(K,v)]) T=outsT q A T:=by
     unfold outsT
     rw [hks,insK_filterF hs hT]
     refine List.map_congr_left fun k hk=>?_
     unfold outK
     rw [hro k (fun e=>by rw [e] at hk;have:=(List.mem_filter.1 hk).2;rw [hT] at this;cases this)]
    rw [e]
    exact hp
  ·have hkin:=M.tk K hT
   rw [if_pos (List.mem_filter.2 ⟨hkin,by rw [hK];rfl⟩)]
   have ek:keysS (A++[(K,v)])=keysS A:=by rw [hks,insK_in hs hkin]
   have er:rowsOf (A++[(K,v)]) K=rowsOf A K++[v]:=by rw [rowsOf_snoc,if_pos rfl]
   unfold chgR
   simp only
   by_cases hc:outV (kindsQ q) (rowsOf A K)=outV (kindsQ q) (rowsOf A K++[v])
   ·rw [if_neg (fun h=>h.2 hc),List.append_nil]
    refine⟨L,hL,?_⟩
    have e:outsT q (A++[(K,v)]) T=outsT q A T:=by
     unfold outsT
     rw [ek]
     refine List.map_congr_left fun k hk=>?_
     unfold outK
     by_cases e:k=K
     ·rw [e,er,hc]
     ·rw [hro k e]
    rw [e]
    exact hp
   ·rw [if_pos ⟨hT,hc⟩]
    have hfm:K ∈ (keysS A).filter T:=List.mem_filter.2 ⟨hkin,hT⟩
    have hmem:outK q A K ∈ outsT q A T:=List.mem_map.2 ⟨K,hfm,rfl⟩
    have hmL:outK q A K ∈ L:=hp.mem_iff.2 hmem
    have hnd:(L.map (·.1)).Nodup:=(hp.map (·.1)).nodup_iff.2 (outsT_nodup q A T)
    have hndL:L.Nodup:=List.Pairwise.of_map (fun x:PK × List Vl=>x.1) (fun a b h e=>h (by rw [e])) hnd
    have hno:¬ ∃ x ∈ L.erase (outK q A K),x.1=K:=by
     rintro⟨x,hx,ex⟩
     have hx2:=List.mem_of_mem_erase hx
     obtain⟨k,_,ek2⟩:=List.mem_map.1 (hp.mem_iff.1 hx2)
     have:k=K:=by rw [←ex,←ek2];rfl
     rw [this] at ek2
     rw [←ek2] at hx
     exact(List.Nodup.not_mem_erase hndL) hx
    refine⟨L.erase (outK q A K)++[(K,outV (kindsQ q) (rowsOf A K++[v]))],?_,?_⟩
    ·show netR (st.rows++_)=_
     rw [netR_app,hL]
     show ([(true,outK q A K),(false,K,outV (kindsQ q) (rowsOf A K++[v]))]:List Rw).foldlM netS L=_
     simp only [List.foldlM_cons,List.foldlM_nil]
     have e1:netS L (true,outK q A K)=some (L.erase (outK q A K)):=by
      unfold netS
      rw [if_pos rfl,if_pos hmL]
     have e2:netS (L.erase (outK q A K)) (false,K,outV (kindsQ q) (rowsOf A K++[v]))=some (L.erase (outK q A K)++[(K,outV (kindsQ q) (rowsOf A K++[v]))]):=by
      unfold netS
      rw [if_neg (by simp),if_neg hno]
     rw [e1]
     show (netS (L.erase (outK q A K)) _).bind _=_
     rw [e2]
     rfl
    ·refine((hp.erase _).append_right _).trans ?_
     have:=erase_map (f:=fun k=>outV (kindsQ q) (rowsOf A k)) (g:=fun k=>outV (kindsQ q) (rowsOf (A++[(K,v)]) k)) (K:=K) (fun k hk=>by rw [hro k hk]) (sorted_nodup (filter_sorted hs T)) hfm
     rw [er] at this
     unfold outsT
     rw [ek]
     exact this
 ·rw [hks,insK_mem] at hk
  rcases hk with rfl|hk
  ·rw [hK] at hg;cases hg
  ·exact M.tg k hk hg
 ·rcases List.mem_append.1 hw with h1|h1
  ·exact hin _ (M.rk w h1)
  ·rw [chgR_key w h1,hks,insK_mem]
   exact .inl rfl
theorem not_gone {q:Qy}{U:Int × Bool}{far s:Int}{v:Vl}(hU:U.2=true→0≤far∧U.1≤far - q.delay)(hl:lateQ q far s=false):goneU q U (s,v)=false:=by
 unfold goneU
 cases h:U.2 with
 | false=>rfl
 | true=>
  obtain⟨h1,h2⟩:=hU h
  unfold lateQ at hl
  rw [decide_eq_true h1,Bool.true_and] at hl
  have:=of_decide_eq_false hl
  simp only [Bool.true_and]
  exact decide_eq_false (by omega)
theorem Mid.wins {q:Qy}{A:List Ad}{U:Int × Bool}{T:PK→Bool}{st:En}(M:Mid q A U T st){far:Int}{e:EvL}(hU:U.2=true→0≤far∧U.1≤far - q.delay)(ss:List Int) :
  Mid q (A++addS q far e ss) U T (ss.foldl (winE q far e) st)∧(ss.foldl (winE q far e) st).late=st.late+lateS q far ss∧∃ more,(ss.foldl (winE q far e) st).rows=st.rows++more∧∀ w ∈ more,goneU q U w.2.1=false:=by
 induction ss using snocInd with
 | h0=>exact⟨by simpa [addS] using M,by simp [lateS],[],by simp,by simp⟩
 | h1 ss s ih=>
  obtain⟨i1,i2,more,i3,i4⟩:=ih
  rw [List.foldl_append,addS_snoc,lateS_snoc]
  simp only [List.foldl_cons,List.foldl_nil]
  generalize ss.foldl (winE q far e) st=s1 at *
  unfold winE
  rcases Bool.eq_false_or_eq_true (lateQ q far s) with hl|hl
  ·rw [if_pos hl,if_pos hl,if_pos hl,List.append_nil]
   exact⟨⟨i1.pn,i1.net,i1.tk,i1.td,i1.tg,i1.rk⟩,by simp only;omega,more,i3,i4⟩
  ·rw [if_neg (by rw [hl];decide),if_neg (by rw [hl];decide),if_neg (by rw [hl];decide),←List.append_assoc]
   have hg:goneU q U (s,keyQ q e)=false:=not_gone hU hl
   refine⟨i1.put hg,by simp only;omega,more++chgR (kindsQ q) (s,keyQ q e) (valsQ q e) (atP (s,keyQ q e) s1.pn),by simp only;rw [i3,List.append_assoc],fun w hw=>?_⟩
   rcases List.mem_append.1 hw with h|h
   ·exact i4 w h
   ·rw [chgR_key w h];exact hg
theorem fold_new {f:PK→List Vl}:∀{ks:List PK} {L:List (PK × List Vl)},ks.Nodup→(∀ k ∈ ks,∀ x ∈ L,x.1≠k)→(ks.map fun k=>((false,k,f k):Rw)).foldlM netS L=some (L++ks.map fun k=>(k,f k))
 | [],L,_,_=>by simp
 | k :: ks,L,hd,hn=>by
  obtain⟨d1,d2⟩:=List.nodup_cons.1 hd
  rw [List.map_cons,List.foldlM_cons]
  have e:netS L (false,k,f k)=some (L++[(k,f k)]):=by
   unfold netS
   rw [if_neg (by simp),if_neg]
   rintro⟨x,hx,ex⟩
   exact hn k (List.mem_cons_self ..) x hx ex
  rw [e]
  show (ks.map fun k=>((false,k,f k):Rw)).foldlM netS (L++[(k,f k)])=_
  rw [fold_new d2 (fun k' hk' x hx=>?_),List.map_cons,List.append_assoc]
  ·rfl
  ·rcases List.mem_append.1 hx with h|h
   ·exact hn k' (List.mem_cons_of_mem _ hk') x h
   ·rw [List.mem_singleton.1 h]
    intro e
    exact d1 (by rw [show k=k' from e];exact hk')
theorem filter_two {P Q R:PK→Bool}:∀{l:List PK},(∀ k ∈ l,R k=(P k||Q k))→(∀ k ∈ l,P k=true→Q k=false)→(l.filter P++l.filter Q).Perm (l.filter R)
 | [],_,_=>List.Perm.nil
 | x :: l,h,h2=>by
  have ih:=filter_two (fun k hk=>h k (List.mem_cons_of_mem _ hk)) (fun k hk=>h2 k (List.mem_cons_of_mem _ hk))
  have e:=h x (List.mem_cons_self ..)
  have e2:=h2 x (List.mem_cons_self ..)
  cases hp:P x with
  | true=>
   rw [hp] at e
   rw [List.filter_cons_of_pos hp,List.filter_cons_of_neg (by rw [e2 hp];decide),List.filter_cons_of_pos (by rw [e];rfl),List.cons_append]
   exact ih.cons _
  | false=>
   cases hq:Q x with
   | true=>
    rw [hp,hq] at e
    rw [List.filter_cons_of_neg (by rw [hp];decide),List.filter_cons_of_pos hq,List.filter_cons_of_pos (by rw [e];rfl)]
    exact List.perm_middle.trans (ih.cons _)
   | false=>
    rw [hp,hq] at e
    rw [List.filter_cons_of_neg (by rw [hp];decide),List.filter_cons_of_neg (by rw [hq];decide),List.filter_cons_of_neg (by rw [e];decide)]
    exact ih
def toldK (q:Qy)(A:List Ad)(U:Int × Bool)(k:PK):Bool:=decide (k ∈ keysS A)&&dueU q U k
theorem Mid.ends {q:Qy}{A:List Ad}{U U':Int × Bool}{T:PK→Bool}{st:En}(M:Mid q A U T st)(hl:0≤q.late)(hU:U.2=true→U'.2=true∧U.1≤U'.1)(hf:farC q.delay st.far=U') :
  Mid q A U' (toldK q A U') (endE q st)∧∃ more,(endE q st).rows=st.rows++more∧∀ w ∈ more,goneU q U w.2.1=false:=by
 unfold endE
 rw [hf]
 cases h':U'.2 with
 | false=>
  have hu:U.2=false:=by
   cases h:U.2 with
   | false=>rfl
   | true=>have:=(hU h).1;rw [h'] at this;cases this
  have hT:T=toldK q A U':=by
   funext k
   unfold toldK dueU
   rw [h',Bool.false_and,Bool.and_false]
   cases h:T k with
   | false=>rfl
   | true=>have:=M.td k h;unfold dueU at this;rw [hu] at this;cases this
  have hg:(fun k=>!goneU q U k)=fun k=>!goneU q U' k:=by
   funext k
   unfold goneU
   rw [hu,h'];rfl
  rw [if_neg (by decide),←hT]
  refine⟨⟨by rw [←hg];exact M.pn,M.net,M.tk,fun k hk=>?_,fun k hk hk2=>?_,M.rk⟩,[],by simp,by simp⟩
  ·have:=M.td k hk;unfold dueU at this;rw [hu] at this;cases this
  ·unfold goneU at hk2;rw [h'] at hk2;cases hk2
 | true=>
  rw [if_pos rfl]
  have hdm:∀ k,dueU q U k=true→dueU q U' k=true:=by
   intro k hk
   unfold dueU at *
   rw [h',Bool.true_and]
   rw [Bool.and_eq_true] at hk
   have h2:=(hU hk.1).2
   have:=of_decide_eq_true hk.2
   exact decide_eq_true (by omega)
  have hgm:∀ k,goneU q U k=true→goneU q U' k=true:=by
   intro k hk
   unfold goneU at *
   rw [h',Bool.true_and]
   rw [Bool.and_eq_true] at hk
   have h2:=(hU hk.1).2
   have:=of_decide_eq_true hk.2
   exact decide_eq_true (by omega)
  have hgd:∀ k,goneU q U' k=true→dueU q U' k=true:=by
   intro k hk
   unfold goneU at hk
   unfold dueU
   rw [Bool.and_eq_true] at hk
   have:=of_decide_eq_true hk.2
   rw [hk.1,Bool.true_and]
   exact decide_eq_true (by omega)
  have hdue:∀(k:PK) (rs:List (List Vl)) (t:Bool),dueP q.size U'.1 ⟨k,rs,t⟩=dueU q U' k:=by
   intro k rs t
   unfold dueP dueU
   rw [h'];rfl
  have hnew:newP q.size U'.1 st.pn=((keysS A).filter fun k=>!T k&&dueU q U' k).map fun k=>⟨k,rowsOf A k,T k⟩:=by
   unfold newP
   rw [M.pn,List.filter_map,List.filter_filter]
   congr 1
   refine List.filter_congr fun k hk=>?_
   show ((!T k&&dueP q.size U'.1 ⟨k,rowsOf A k,T k⟩)&&!goneU q U k)=_
   rw [hdue]
   cases hg:goneU q U k with
   | false=>simp
   | true=>rw [M.tg k hk hg];rfl
  have hrows:(newP q.size U'.1 st.pn).map (rowPn (kindsQ q))=((keysS A).filter fun k=>!T k&&dueU q U' k).map fun k=>((false,k,outV (kindsQ q) (rowsOf A k)):Rw):=by
   rw [hnew,List.map_map];rfl
  refine⟨⟨?_,?_,fun k hk=>?_,fun k hk=>?_,fun k hk hg=>?_,fun w hw=>?_⟩,_,rfl,fun w hw=>?_⟩
  ·show dropP q.size (U'.1 - q.late) (tellP q.size U'.1 st.pn)=_
   unfold dropP tellP
   rw [M.pn,List.map_map,List.filter_map,List.filter_filter]
   have e:((keysS A).filter fun k=>((fun p=>!dueP q.size (U'.1 - q.late) p) ∘ ((fun p:Pn=>(⟨p.k,p.rs,p.t||dueP q.size U'.1 p⟩:Pn)) ∘ fun k=>⟨k,rowsOf A k,T k⟩)) k&&!goneU q U k)=(keysS A).filter fun k=>!goneU q U' k:=by
    refine List.filter_congr fun k hk=>?_
    have e1:dueP q.size (U'.1 - q.late) ⟨k,rowsOf A k,T k||dueP q.size U'.1 ⟨k,rowsOf A k,T k⟩⟩=goneU q U' k:=by
     unfold dueP goneU
     rw [h'];rfl
    show (!dueP q.size (U'.1 - q.late) ⟨k,rowsOf A k,T k||dueP q.size U'.1 ⟨k,rowsOf A k,T k⟩⟩&&!goneU q U k)=_
    rw [e1]
    cases hg:goneU q U k with
    | false=>simp
    | true=>rw [hgm k hg];rfl
   rw [e]
   refine List.map_congr_left fun k hk=>?_
   have hk:=(List.mem_filter.1 hk).1
   show (⟨k,rowsOf A k,T k||dueP q.size U'.1 ⟨k,rowsOf A k,T k⟩⟩:Pn)=⟨k,rowsOf A k,toldK q A U' k⟩
   rw [hdue]
   unfold toldK
   rw [decide_eq_true hk,Bool.true_and]
   cases hT:T k with
   | false=>rfl
   | true=>rw [hdm k (M.td k hT)];rfl
  ·obtain⟨L,hL,hp⟩:=M.net
   refine⟨L++((keysS A).filter fun k=>!T k&&dueU q U' k).map (outK q A),?_,?_⟩
   ·show netR (st.rows++(newP q.size U'.1 st.pn).map (rowPn (kindsQ q)))=_
    rw [hrows,netR_app,hL]
    refine fold_new (sorted_nodup (filter_sorted (keysS_sorted A) _)) fun k hk x hx e=>?_
    obtain⟨k',hk',e2⟩:=List.mem_map.1 (hp.mem_iff.1 hx)
    have hT:=(List.mem_filter.1 hk').2
    have hk2:=(List.mem_filter.1 hk).2
    have:k'=k:=by rw [←e,←e2];rfl
    rw [this] at hT
    rw [hT] at hk2
    cases hk2
   ·refine(hp.append_right _).trans ?_
    unfold outsT
    rw [←List.map_append]
    refine(filter_two (fun k hk=>?_) fun k hk h=>?_).map _
    ·unfold toldK
     rw [decide_eq_true hk,Bool.true_and]
     cases hT:T k with
     | false=>rfl
     | true=>rw [hdm k (M.td k hT)];rfl
    ·rw [h];rfl
  ·unfold toldK at hk
   rw [Bool.and_eq_true] at hk
   exact of_decide_eq_true hk.1
  ·unfold toldK at hk
   rw [Bool.and_eq_true] at hk
   exact hk.2
  ·unfold toldK
   rw [decide_eq_true hk,Bool.true_and]
   exact hgd k hg
  ·rcases List.mem_append.1 hw with h1|h1
   ·exact M.rk w h1
   ·rw [hrows] at h1
    obtain⟨k,hk,rfl⟩:=List.mem_map.1 h1
    exact(List.mem_filter.1 hk).1
  ·rw [hrows] at hw
   obtain⟨k,hk,rfl⟩:=List.mem_map.1 hw
   obtain⟨hk1,hk2⟩:=List.mem_filter.1 hk
   cases hg:goneU q U k with
   | false=>rfl
   | true=>rw [M.tg k hk1 hg] at hk2;cases hk2
theorem farC_le {d:Int}{l:List Int}{x:Int}(h:(farC d l).2=true)(hx:x ∈ l):0≤x∧(farC d l).1≤x - d:=by
 unfold farC at *
 split at h
 ·rename_i h1
  rw [if_pos h1,if_neg (fun e=>by rw [e] at hx;cases hx)]
  have:=minL_le hx
  exact⟨h1 x hx,by simp only;omega⟩
 ·cases h
theorem farC_mono {d:Int}{l:List Int}{p:Nat}{t:Int}(hp:p < l.length)(h:(farC d l).2=true):(farC d (see l p t)).2=true∧(farC d l).1≤(farC d (see l p t)).1:=by
 have hlp:l.getD p 0 ∈ l:=by rw [List.getD_eq_getElem?_getD,List.getElem?_eq_getElem hp];exact List.getElem_mem _
 have key:∀ x ∈ see l p t,0≤x∧(farC d l).1≤x - d:=by
  intro x hx
  unfold see at hx
  rcases List.mem_or_eq_of_mem_set hx with h1|h1
  ·exact farC_le h h1
  ·have:=farC_le h hlp
   have h2:=Int.le_max_left (l.getD p 0) t
   rw [←h1] at h2
   omega
 have hne:see l p t≠[]:=fun e=>by have:=see_length l p t;rw [e] at this;simp at this;omega
 have e:farC d (see l p t)=(minL (see l p t) - d,true):=by
  rw [show farC d (see l p t)=if ∀ x ∈ see l p t,0≤x then(if see l p t=[] then 0 else minL (see l p t) - d,true) else(0,false) from rfl,if_pos fun x hx=>(key x hx).1,if_neg hne]
 rw [e]
 exact⟨rfl,(key _ (minL_mem hne)).2⟩
structure EnI (q:Qy)(ps:List (List EvL))(st:En):Prop where
 rd:st.rd=ps.map List.length
 far:st.far=ps.map farL
 late:st.late=lateA q ps
 mid:∃ A,A.Perm (addA q ps)∧Mid q A (farC q.delay st.far) (toldK q A (farC q.delay st.far)) st
theorem EnI.new (q:Qy)(k:Nat):EnI q (List.replicate k []) (newE k):=by
 have h0:addA q (List.replicate k [])=[]:=by
  unfold addA
  rw [List.flatMap_replicate]
  simp [addP]
 refine⟨by simp [newE],by simp [newE,farL],?_,[],by rw [h0],⟨rfl,⟨[],rfl,by simp [outsT,keysS]⟩,fun k hk=>?_,fun k hk=>?_,fun k hk=>(by cases hk),fun w hw=>(by cases hw)⟩⟩
 ·show 0=_
  unfold lateA
  rw [List.map_replicate]
  simp [lateP]
 ·unfold toldK at hk
  simp [keysS] at hk
 ·unfold toldK at hk
  simp [keysS] at hk
def readP (ps:List (List EvL))(p:Nat)(e:EvL):List (List EvL):=ps.set p (ps.getD p []++[e])
theorem readP_split {ps:List (List EvL)}{p:Nat}(hp:p < ps.length)(e:EvL):∃ a l b,ps=a++l :: b∧readP ps p e=a++(l++[e]) :: b∧ps.getD p []=l:=by
 refine⟨ps.take p,ps[p],ps.drop (p+1),?_,?_,?_⟩
 ·rw [←List.drop_eq_getElem_cons hp,List.take_append_drop]
 ·unfold readP
  rw [List.set_eq_take_append_cons_drop,if_pos hp,List.getD_eq_getElem?_getD,List.getElem?_eq_getElem hp];rfl
 ·rw [List.getD_eq_getElem?_getD,List.getElem?_eq_getElem hp];rfl
theorem addA_read {q:Qy}{ps:List (List EvL)}{p:Nat}(hp:p < ps.length)(e:EvL):(addA q ps++addE q (farL (ps.getD p [])) e).Perm (addA q (readP ps p e)):=by
 obtain⟨a,l,b,h1,h2,h3⟩:=readP_split hp e
 rw [h2,h3,h1]
 unfold addA
 rw [List.flatMap_append,List.flatMap_cons,List.flatMap_append,List.flatMap_cons,addP_snoc]
 rw [List.append_assoc,List.append_assoc,List.append_assoc]
 refine List.Perm.append_left _ (List.Perm.append_left _ ?_)
 exact List.perm_append_comm
theorem lateA_read {q:Qy}{ps:List (List EvL)}{p:Nat}(hp:p < ps.length)(e:EvL):lateA q (readP ps p e)=lateA q ps+lateE q (farL (ps.getD p [])) e:=by
 obtain⟨a,l,b,h1,h2,h3⟩:=readP_split hp e
 rw [h2,h3,h1]
 unfold lateA
 rw [List.map_append,List.map_cons,List.map_append,List.map_cons,lateP_snoc,List.sum_append,List.sum_append,List.sum_cons,List.sum_cons]
 show _+(_+lateE q (farL l) e+_)=_
 omega
theorem EnI.step {q:Qy}{ps:List (List EvL)}{st:En}(I:EnI q ps st)(B:QOk q){p:Nat}(hp:p < ps.length)(e:EvL) :
  EnI q (readP ps p e) (stepE q p e st)∧∃ more,(stepE q p e st).rows=st.rows++more∧∀ w ∈ more,goneU q (farC q.delay st.far) w.2.1=false:=by
 obtain⟨A,hA,M⟩:=I.mid
 have hfl:p < st.far.length:=by rw [I.far,List.length_map];exact hp
 have hfm:st.far.getD p 0 ∈ st.far:=by rw [List.getD_eq_getElem?_getD,List.getElem?_eq_getElem hfl];exact List.getElem_mem _
 have hfp:st.far.getD p 0=farL (ps.getD p []):=by
  rw [I.far,List.getD_eq_getElem?_getD,List.getD_eq_getElem?_getD,List.getElem?_map,List.getElem?_eq_getElem hp];rfl
 have hU:(farC q.delay st.far).2=true→0≤st.far.getD p 0∧(farC q.delay st.far).1≤st.far.getD p 0 - q.delay:=fun h=>farC_le h hfm
 have W:Mid q (A++addE q (st.far.getD p 0) e) (farC q.delay st.far) (toldK q A (farC q.delay st.far)) (winsE q (st.far.getD p 0) e st)∧(winsE q (st.far.getD p 0) e st).late=st.late+lateE q (st.far.getD p 0) e∧∃ more,(winsE q (st.far.getD p 0) e st).rows=st.rows++more∧∀ w ∈ more,goneU q (farC q.delay st.far) w.2.1=false:=by
  unfold winsE addE lateE
  split
  ·exact M.wins hU _
  ·exact⟨by simpa using M,by simp,[],by simp,by simp⟩
 obtain⟨W1,W2,m1,W3,W4⟩:=W
 obtain⟨s1,s2⟩:=winsE_same (q:=q) (far:=st.far.getD p 0) (e:=e) (st:=st)
 have hfar2:see st.far p e.1=(readP ps p e).map farL:=by
  unfold readP see
  rw [List.map_set,←I.far,hfp]
  congr 1
  unfold farL
  rw [List.foldl_append];rfl
 have M2:Mid q (A++addE q (st.far.getD p 0) e) (farC q.delay st.far) (toldK q A (farC q.delay st.far)) (seenE p e (winsE q (st.far.getD p 0) e st)):=⟨W1.pn,W1.net,W1.tk,W1.td,W1.tg,W1.rk⟩
 have hsf:(seenE p e (winsE q (st.far.getD p 0) e st)).far=see st.far p e.1:=by unfold seenE;rw [s2]
 have hse:∀ s:En,(endE q s).rd=s.rd∧(endE q s).far=s.far∧(endE q s).late=s.late:=fun s=>by unfold endE;split<;>exact⟨rfl,rfl,rfl⟩
 obtain⟨E1,m2,E2,E3⟩:=M2.ends B.t.1 (U':=farC q.delay (see st.far p e.1)) (farC_mono hfl) (by rw [hsf])
 obtain⟨k1,k2,k3⟩:=hse (seenE p e (winsE q (st.far.getD p 0) e st))
 refine⟨⟨?_,?_,?_,A++addE q (st.far.getD p 0) e,?_,?_⟩,m1++m2,?_,fun w hw=>?_⟩
 ·show (endE q _).rd=_
  rw [k1]
  show (winsE q (st.far.getD p 0) e st).rd.set p ((winsE q (st.far.getD p 0) e st).rd.getD p 0+1)=_
  unfold readP
  rw [s1,List.map_set,←I.rd,List.length_append]
  have:st.rd.getD p 0=(ps.getD p []).length:=by
   rw [I.rd,List.getD_eq_getElem?_getD,List.getD_eq_getElem?_getD,List.getElem?_map,List.getElem?_eq_getElem hp];rfl
  rw [this];rfl
 ·show (endE q _).far=_
  rw [k2,hsf,hfar2]
 ·show (endE q _).late=_
  rw [k3]
  show (winsE q (st.far.getD p 0) e st).late=_
  rw [W2,I.late,hfp,lateA_read hp]
 ·rw [hfp]
  exact(hA.append_right _).trans (addA_read hp e)
 ·have e9:(stepE q p e st).far=see st.far p e.1:=k2.trans hsf
  rw [e9]
  exact E1
 ·show (endE q _).rows=_
  rw [E2]
  show (winsE q (st.far.getD p 0) e st).rows++m2=_
  rw [W3,List.append_assoc]
 ·rcases List.mem_append.1 hw with h|h
  ·exact W4 w h
  ·exact E3 w h
theorem EnI.net {q:Qy}{ps:List (List EvL)}{st:En}(I:EnI q ps st)(B:QOk q):∃ L,netR st.rows=some L∧L.Perm ((ansQ q ps).filter fun x=>dueU q (farC q.delay (ps.map farL)) x.1):=by
 obtain⟨A,hA,M⟩:=I.mid
 obtain⟨L,hL,hp⟩:=M.net
 refine⟨L,hL,?_⟩
 have e:outsT q A (toldK q A (farC q.delay st.far))=(ansQ q ps).filter fun x=>dueU q (farC q.delay (ps.map farL)) x.1:=by
  rw [I.far]
  unfold ansQ
  rw [←ansA_perm (fun a ha=>⟨(B.g a ha).1,(B.g a ha).2.1⟩) hA fun a ha=>addA_len a (hA.mem_iff.1 ha)]
  unfold outsT ansA
  rw [List.filter_map]
  have:(keysS A).filter (toldK q A (farC q.delay (ps.map farL)))=(keysS A).filter ((fun x:PK × List Vl=>dueU q (farC q.delay (ps.map farL)) x.1) ∘ fun k=>(k,outV (kindsQ q) (rowsOf A k))):=by
   refine List.filter_congr fun k hk=>?_
   unfold toldK
   rw [decide_eq_true hk];rfl
  rw [this];rfl
 rw [←e]
 exact hp
open Go.Txt
theorem store_new {h:Hp}{b:Nat}{xs ys:List Value}{t:TypeId}(hl:ys.length=xs.length){K:Hp→Prop}(hK:K (h.set b (cellsO ys t))):Hp.store (h.set b (cellsO xs t)) b 0 ys K:=by
 refine⟨xs.toArray,t,Hp.set_same _ _ _,by simp [hl],?_⟩
 rw [Hp.set_set]
 have e:setL xs.toArray.toList 0 ys=ys:=by
  unfold setL
  rw [List.take_zero,List.nil_append,List.toList_toArray,Nat.zero_add,List.drop_of_length_le (by omega),List.append_nil]
 rw [e]
 exact hK
theorem cell_new {h:Hp}{b i:Nat}{xs:List Value}{t:TypeId}{v:Value}(hv:xs[i]?=some v):Hp.cell (h.set b (cellsO xs t)) b i=some v:=by
 unfold Hp.cell
 rw [Hp.set_same]
 simpa using hv
theorem cell_le {h h':Hp}(l:h.le h'){b i:Nat}{v:Value}(hc:h.cell b i=some v):h'.cell b i=some v:=by
 unfold Hp.cell at hc ⊢
 cases hb:h b with
 | none=>rw [hb] at hc;cases hc
 | some o=>rw [l b o hb];rw [hb] at hc;exact hc
def pkRw (k:PK)(v:Value):List Value:=[vi k.1,vi k.2.1,vi k.2.2,v]
theorem pkRw_len (k:PK)(v:Value):(pkRw k v).length=4:=rfl
theorem elOut:ElT Tryz.prog 54 72 4 48:=.of (by kernel_rfl) (by kernel_rfl) (by decide)
set_option maxHeartbeats 4000000 in
theorem batch_Answer_ok {q:Qy}{a1:Option Addr}{n1 c1:Nat}{a2:Option Addr}{n2 c2:Nat}{a3:Option Addr}{n3 c3:Nat}{h:Hp}{R':Value→Hp→Prop}{ps:List (List EvL)}{pa:Option Addr}{pn pc:Nat}(Q:QAt h q a1 n1 a2 n2 a3 n3)(B:QOk q)(T:TabC encE h pa pn ps)
  (hp:ps.length≤5) (hl:∀ p ∈ ps,p.length≤100) (hE:∀ p ∈ ps,∀ e ∈ p,EvOK e)
  (hK:∀ a c h',h.le h'→GTab encV pkRw h' a (ansQ q ps).length (ansQ q ps)→R' (vtup [vsl a (ansQ q ps).length c,vi (lateA q ps:Nat)]) h'):CallOK Tryz.prog 35 [qV a1 n1 c1 a2 n2 c2 a3 n3 c3 q,vsl pa pn pc] h R':=by
 refine ok_batch_Answer ?_
 unfold VC_batch_Answer
 have hpn:pn=ps.length:=T.r.choose_spec.2.1
 have s1:=B.s
 have s2:=B.l
 have s3:=B.n2
 refine⟨fun vs hh=>∃(i:Nat) (a:Option Addr) (c:Nat) (R:List PR),vs=[vsl a R.length c,vi (lateA q (ps.take i):Nat),vi i]∧i≤ps.length∧Pans h hh a c R∧StA (kindsQ q) (addA q (ps.take i)) R,fun vs hh=>ps.length - (vint vs 2).toNat,⟨0,none,0,[],rfl,Nat.zero_le _,Pans.nil (Hp.le_refl h),StA.nil⟩,?_⟩
 rintro vs hh ⟨i,a,c,R,rfl,hi,N,S⟩
 refine⟨a,R.length,c,_,_,rfl,fun e=>?_,fun e=>?_⟩
 ·have hlt:i < ps.length:=by have:=of_decide_eq_true e;omega
  have hx:ps[i]?=some ps[i]:=List.getElem?_eq_getElem hlt
  have tk:ps.take (i+1)=ps.take i++[ps[i]]:=List.take_succ_eq_append_getElem hlt
  have hmem:ps[i] ∈ ps:=List.getElem_mem hlt
  have hEp:=hE _ hmem
  have hlp:=hl _ hmem
  have hAi:=addA_ok B (ps:=ps.take i) fun p hp'=>hE p (List.mem_of_mem_take hp')
  have hmi:=addA_many B (ps.take i) fun p hp'=>hl p (List.mem_of_mem_take hp')
  have hti:(ps.take i).length=i:=by rw [List.length_take];omega
  generalize ps[i]=part at *
  obtain⟨b,o,a',c',ea,hc,SP,hcap⟩:=T.cell hx
  refine⟨b,o,⟨ea,by omega,by omega⟩,a',part.length,c',by rw [Int.toNat_natCast];exact cell_le N.le0 hc,?_⟩
  clear e
  refine⟨fun vs hh=>∃(j:Nat) (a:Option Addr) (c:Nat) (R:List PR),vs=[vsl a R.length c,vi (lateA q (ps.take i)+lateP q (-1) (part.take j):Nat),vi j]∧j≤part.length∧Pans h hh a c R∧StA (kindsQ q) (addA q (ps.take i)++addP q (-1) (part.take j)) R,fun vs hh=>part.length - (vint vs 2).toNat,⟨0,a,c,R,by simp [lateP],Nat.zero_le _,N,by simpa [addP] using S⟩,?_⟩
  rintro vs hh2 ⟨j,a,c,R,rfl,hj,N,S⟩
  refine⟨a,R.length,c,_,_,rfl,fun e=>?_,fun e=>?_⟩
  ·have hltj:j < part.length:=by have:=of_decide_eq_true e;omega
   have hxj:part[j]?=some part[j]:=List.getElem?_eq_getElem hltj
   have tkj:part.take (j+1)=part.take j++[part[j]]:=List.take_succ_eq_append_getElem hltj
   have hEv:=hEp _ (List.getElem_mem hltj)
   have hAj:=addP_ok B (part.take j) (-1) fun e he=>hEp e (List.mem_of_mem_take he)
   have hmj:=addP_many B (part.take j) (-1)
   have htj:(part.take j).length=j:=by rw [List.length_take];omega
   have hAA:∀ x ∈ addA q (ps.take i)++addP q (-1) (part.take j),AdOK q x:=by
    intro x hx
    rcases List.mem_append.1 hx with h1|h1
    ·exact hAi x h1
    ·exact hAj x h1
   have hAn:(addA q (ps.take i)++addP q (-1) (part.take j)).length≤499000∧lateA q (ps.take i)+lateP q (-1) (part.take j)≤499000:=by
    rw [List.length_append]
    omega
   generalize part[j]=ev at *
   intro J173
   have hJ:∀(a:Option Addr) (c:Nat) (R:List PR) (hh':Hp),Pans h hh' a c R→StA (kindsQ q) ((addA q (ps.take i)++addP q (-1) (part.take j))++addE q (farL (part.take j)) ev) R→J173 a R.length c ((lateA q (ps.take i)+lateP q (-1) (part.take j)+lateE q (farL (part.take j)) ev:Nat):Int) hh':=by
    intro a c R hh' N S
    refine⟨_,isW (by unfold InR;omega),⟨j+1,a,c,R,?_,by omega,N,?_⟩,by simp [vint];omega⟩
    ·rw [tkj,lateP_snoc,←Nat.add_assoc];rfl
    ·rw [tkj,addP_snoc,←List.append_assoc];exact S
   clear_value J173
   have hAi2:=hAn
   generalize addA q (ps.take i)++addP q (-1) (part.take j)=Aj at *
   generalize lateA q (ps.take i)+lateP q (-1) (part.take j)=cj at *
   obtain⟨b2,o2,ea2,hr2⟩:=(SP.le N.le0).get (sz:=7) (fun _=>rfl) (by decide) hxj
   refine⟨b2,o2,⟨ea2,by omega,by omega⟩,_,_,_,_,_,_,_,by rw [Int.toNat_natCast];exact hr2,?_⟩
   refine batch_is_ok (e:=ev) (Q.le N.le0) B fun h34 l34=>⟨_,rfl,fun e1=>?_,fun e1=>?_⟩
   ·have e1:asksQ q ev=false:=by simpa using e1
    have:=hJ a c R h34 (N.le l34) (by unfold addE;rw [e1];simpa using S)
    have e2:lateE q (farL (part.take j)) ev=0:=by unfold lateE;rw [e1];rfl
    rw [e2,Nat.add_zero] at this
    exact this
   ·have e1:asksQ q ev=true:=by simpa using e1
    have eA:addE q (farL (part.take j)) ev=addS q (farL (part.take j)) ev (startsOf ev.1 q.size q.slide):=by unfold addE;rw [if_pos e1]
    have eL:lateE q (farL (part.take j)) ev=lateS q (farL (part.take j)) (startsOf ev.1 q.size q.slide):=by unfold lateE;rw [if_pos e1]
    rw [eA,eL] at hJ
    have ht:=hEv.t
    have hsb:=starts_ok B hEv
    have hsn:=starts_many B (e:=ev)
    refine window_StartsN_ok (by omega) (by omega) (by omega) (by omega) (by omega) (by omega) fun a40 n40 c40 h39 l39 SS hnew=>⟨_,_,_,rfl,?_⟩
    generalize startsOf ev.1 q.size q.slide=ss at *
    have N34:=N.le l34
    obtain⟨hx0,lx,hrow,Nx⟩:=N34.rebase l39 (g:=a40) (fun b o eb=>hnew b o eb)
    have SSx:SlI hx0 a40 n40 ss:=⟨SS.1,hrow SS.2⟩
    have hn40:=SS.1
    refine⟨fun vs hh=>∃(k:Nat) (a:Option Addr) (c:Nat) (R:List PR),vs=[vsl a R.length c,vi (cj+lateS q (farL (part.take j)) (ss.take k):Nat),vi k]∧k≤ss.length∧Pans hx0 hh a c R∧StA (kindsQ q) (Aj++addS q (farL (part.take j)) ev (ss.take k)) R,fun vs hh=>ss.length - (vint vs 2).toNat,⟨0,a,c,R,by simp [lateS],Nat.zero_le _,Nx,by simpa [addS] using S⟩,?_⟩
    clear N34 Nx N S hrow
    rintro vs hh3 ⟨k,a,c,R,rfl,hk,N,S⟩
    refine⟨a,R.length,c,_,_,rfl,fun e=>?_,fun e=>?_⟩
    ·have hltk:k < ss.length:=by have:=of_decide_eq_true e;omega
     have hxk:ss[k]?=some ss[k]:=List.getElem?_eq_getElem hltk
     have tkk:ss.take (k+1)=ss.take k++[ss[k]]:=List.take_succ_eq_append_getElem hltk
     have hsk:=hsb _ (List.getElem_mem hltk)
     have hgd:ss.getD k 0=ss[k]:=by rw [List.getD_eq_getElem?_getD,hxk];rfl
     have hSk:=addS_ok B hEv (far:=farL (part.take j)) (ss:=ss.take k) fun s hs=>hsb s (List.mem_of_mem_take hs)
     have hSm:=addS_many (q:=q) (far:=farL (part.take j)) (e:=ev) (ss:=ss.take k)
     have hSl:=lateS_many (q:=q) (far:=farL (part.take j)) (ss:=ss.take k)
     have htk:(ss.take k).length=k:=by rw [List.length_take];omega
     obtain⟨b51,o51,e51,c51⟩:=SSx.get (i:=k) (by omega)
     rw [hgd] at c51
     generalize ss[k]=sk at *
     have hAk:∀ x ∈ Aj++addS q (farL (part.take j)) ev (ss.take k),AdOK q x:=by
      intro x hx
      rcases List.mem_append.1 hx with h1|h1
      ·exact hAA x h1
      ·exact hSk x h1
     have hAkn:(Aj++addS q (farL (part.take j)) ev (ss.take k)).length≤500000:=by rw [List.length_append];omega
     intro J163
     have hJ2:∀(a:Option Addr) (c:Nat) (R:List PR) (hh':Hp) (x:Int),Pans hx0 hh' a c R→StA (kindsQ q) ((Aj++addS q (farL (part.take j)) ev (ss.take k))++if lateQ q (farL (part.take j)) sk then [] else [((sk,keyQ q ev),valsQ q ev)]) R→x=((cj+lateS q (farL (part.take j)) (ss.take k)+if lateQ q (farL (part.take j)) sk then 1 else 0:Nat):Int)→J163 a R.length c x hh':=by
      intro a c R hh' x N S hx
      refine⟨_,isW (by unfold InR;omega),⟨k+1,a,c,R,?_,by omega,N,?_⟩,by simp [vint];omega⟩
      ·rw [tkk,lateS_snoc,hx,←Nat.add_assoc];rfl
      ·rw [tkk,addS_snoc,←List.append_assoc];exact S
     clear_value J163
     refine⟨b51,o51,⟨e51,by omega,by omega⟩,sk,by rw [Int.toNat_natCast];exact cell_le N.le0 c51,?_⟩
     intro b54 hb54 h55
     show Hp.store (Hp.set hh3 b54 (cellsO [vi 0] 3)) b54 0 [vi sk] _
     refine store_new (xs:=[vi 0]) (by rfl) ?_
     refine⟨sk,cell_new rfl,?_⟩
     have l56:hh3.le (hh3.set b54 (cellsO [vi sk] 3)):=Hp.le_set (Hp.le_refl _) hb54 _
     have c56:Hp.cell (hh3.set b54 (cellsO [vi sk] 3)) b54 0=some (vi sk):=cell_new rfl
     generalize hh3.set b54 (cellsO [vi sk] 3)=h56 at l56 c56
     have N56:=N.le l56
     have lh56:=Hp.le_trans lx N56.le0
     refine batch_late_ok (i:=j) (SP.le lh56) (by omega) hcap (by omega) (fun e he=>(hEp e he).t) (by omega) B ⟨_,rfl,fun e2=>?_,fun e2=>?_⟩
     ·refine⟨_,isW (by unfold InR;omega),hJ2 a c R h56 _ N56 (by rw [if_pos e2,List.append_nil];exact S) ?_⟩
      rw [if_pos e2]
      push_cast
      rfl
     ·have hnl:¬ lateQ q (farL (part.take j)) sk=true:=by rw [e2];decide
      simp only [if_neg hnl,Nat.add_zero] at hJ2
      refine batch_key_ok (e:=ev) (Q.le lh56) B fun h65 l65=>⟨_,_,rfl,?_⟩
      intro b68 hb68 h69
      show Hp.store (Hp.set h65 b68 (cellsO [vi 0,vi 0] 41)) b68 0 [vi (keyQ q ev).1,vi (keyQ q ev).2] _
      refine store_new (xs:=[vi 0,vi 0]) (by rfl) ?_
      have l70:h65.le (h65.set b68 (cellsO [vi (keyQ q ev).1,vi (keyQ q ev).2] 41)):=Hp.le_set (Hp.le_refl _) hb68 _
      have r70:Hp.row (h65.set b68 (cellsO [vi (keyQ q ev).1,vi (keyQ q ev).2] 41)) b68 0 2=some (encV (keyQ q ev)):=row_cells' (Hp.set_same _ _ _) (by simp)
      generalize h65.set b68 (cellsO [vi (keyQ q ev).1,vi (keyQ q ev).2] 41)=h70 at l70 r70
      have l5670:=Hp.le_trans l65 l70
      have N70:=N56.le l5670
      have c70:=cell_le l5670 c56
      have hRl:=S.len
      have hRk:=keysU_many (Aj++addS q (farL (part.take j)) ev (ss.take k))
      -- behind the pane's being there
      have hJ3:∀(J146:Option Addr→Nat→Nat→Int→Hp→Prop),(∀(a150:Option Addr) (n150 c150:Nat) (x151:Int) (h152:Hp),J146 a150 n150 c150 x151 h152=(∃(b153 o154:Nat),(a150=some ⟨b153,o154,none⟩∧(0:Int)≤x151∧x151 < ((n150:Nat):Int))∧(∃(a155:Option Addr) (n155 c155:Nat),(Hp.cell h152 b153 ((o154+x151.toNat*5)+3)=some (vsl a155 n155 c155))∧(CallOK Tryz.prog 76 [(vsl a155 n155 c155),qV a1 n1 c1 a2 n2 c2 a3 n3 c3 q,vag (encE ev)] h152 fun v156 h157=>∃(a158:Option Addr) (n158 c158:Nat),v156=(vsl a158 n158 c158)∧(∃(b159 o160:Nat),(a150=some ⟨b159,o160,none⟩∧(0:Int)≤x151∧x151 < ((n150:Nat):Int))∧(Hp.store h157 b159 ((o160+x151.toNat*5)+3) [(vsl a158 n158 c158)] fun h161=>(J163 a150 n150 c150 ((cj+lateS q (farL (part.take j)) (ss.take k):Nat):Int) h161))))))) →
        ∀(a:Option Addr) (c:Nat) (R:List PR) (m:Nat) (r:PR) (hh':Hp),Pans hx0 hh' a c R→R[m]?=some r→r.acs.map (·.1)=kindsQ q→(∀ x ∈ r.acs,AcB x)→StA (kindsQ q) ((Aj++addS q (farL (part.take j)) ev (ss.take k))++[((sk,keyQ q ev),valsQ q ev)]) (R.set m { r with acs:=accP r.acs (valsQ q ev) })→J146 a R.length c (m:Int) hh':=by
       intro J146 hdef a c R m r hh' N hr hkd hbd S'
       rw [hdef]
       obtain⟨hm,_⟩:=List.getElem?_eq_some_iff.1 hr
       obtain⟨b,o,ea,hrw⟩:=N.row hr
       obtain⟨V,H⟩:=N.inner hr
       have hcl:=Hp.row_cell hrw (i:=3) (x:=vsl r.a r.acs.length r.c) rfl
       refine⟨b,o,⟨ea,by omega,by omega⟩,r.a,r.acs.length,r.c,by rw [Int.toNat_natCast];exact hcl,?_⟩
       refine batch_add_ok (e:=ev) (Q.le lx) B hEv V hkd hbd fun h157 V' F'=>⟨_,_,_,rfl,?_⟩
       have hlen:(valsQ q ev).length=r.acs.length:=by
        have:=congrArg List.length hkd
        rw [List.length_map,kindsQ_len] at this
        unfold valsQ
        rw [List.length_map,this]
       have hpl:=accP_len hlen
       have N':=H h157 _ V'.le0 V' hpl F'
       have hr':(R.set m { r with acs:=accP r.acs (valsQ q ev) })[m]?=some { r with acs:=accP r.acs (valsQ q ev) }:=by rw [List.getElem?_set,if_pos rfl,if_pos hm]
       obtain⟨b',o',ea',HS⟩:=N'.again hr'
       refine⟨b',o',⟨ea',by omega,by omega⟩,?_⟩
       rw [Int.toNat_natCast]
       simp only [hpl] at HS
       refine HS _ fun h161 N161 l161=>?_
       have:=hJ2 a c _ h161 _ N161 S' rfl
       rw [List.length_set] at this
       exact this
      refine pane_IndexFunc_ok N70 (by omega) (K:=(sk,keyQ q ev)) c70 r70 (fun m r hr hkr=>⟨_,rfl,?_⟩) (fun hno=>⟨_,rfl,?_⟩)
      ·intro J146
       have hdef:∀(a150:Option Addr) (n150 c150:Nat) (x151:Int) (h152:Hp),J146 a150 n150 c150 x151 h152=_:=fun _ _ _ _ _=>rfl
       have hJ4:=hJ3 J146 (fun _ _ _ _ _=>rfl)
       clear hdef
       clear_value J146
       refine⟨fun e3=>absurd (of_decide_eq_true e3) (by omega),fun _=>?_⟩
       obtain⟨f1,f2,_⟩:=S.facts hAk (by omega) hr
       refine hJ4 a c R m r h70 N70 hr f1 f2 ?_
       have:=S.put hr (valsQ q ev)
       rw [←hkr]
       exact this
      ·intro J146
       have hJ4:=hJ3 J146 (fun _ _ _ _ _=>rfl)
       clear_value J146
       refine⟨fun _=>?_,fun e3=>absurd (of_decide_eq_false e3) (by omega)⟩
       refine⟨sk,c70,_,_,r70,?_⟩
       intro J107
       have hkn:(sk,keyQ q ev) ∉ keysU (Aj++addS q (farL (part.take j)) ev (ss.take k)):=by
        rw [←S.keys]
        intro hm
        obtain⟨r,hr,e4⟩:=List.mem_map.1 hm
        exact hno r hr e4
       have hJ5:∀(a86:Option Addr) (c86:Nat) (h81:Hp),VecA h70 h81 a86 c86 (acc0 (kindsQ q))→J107 sk (keyQ q ev).1 (keyQ q ev).2 a86 (acc0 (kindsQ q)).length c86 false h81:=by
        intro a86 c86 h81 V b139 hb139 h140
        refine N70.app V.le0 (r:=⟨(sk,keyQ q ev),a86,c86,acc0 (kindsQ q),false⟩) V (by omega) hb139 fun a' c' h' N'=>⟨_,_,_,rfl,?_⟩
        have hr:(R++[(⟨(sk,keyQ q ev),a86,c86,acc0 (kindsQ q),false⟩:PR)])[R.length]?=some ⟨(sk,keyQ q ev),a86,c86,acc0 (kindsQ q),false⟩:=by simp
        obtain⟨g1,g2⟩:=acc0_small q
        have:=hJ4 a' c' _ R.length _ h' N' hr g1 g2 (by
         rw [List.set_append_right _ _ (Nat.le_refl _),Nat.sub_self]
         exact S.new hkn (valsQ q ev) a86 c86)
        rw [List.length_append,List.length_singleton] at this
        exact this
       clear_value J107
       have hna:=Q.g.len
       refine⟨fun vs hh=>∃(m:Nat) (a:Option Addr) (c:Nat),vs=[vi m,vi sk,vi (keyQ q ev).1,vi (keyQ q ev).2,vsl a (acc0 ((kindsQ q).take m)).length c,vb false]∧m≤n1∧VecA h70 hh a c (acc0 ((kindsQ q).take m)),fun vs hh=>n1 - (vint vs 0).toNat,⟨0,none,0,rfl,Nat.zero_le _,OwnV.nil (Hp.le_refl _) _ _⟩,?_⟩
       rintro vs hh4 ⟨m,a86,c86,rfl,hm,V⟩
       refine⟨_,_,_,_,a86,_,c86,false,rfl,fun e5=>?_,fun e5=>?_⟩
       ·have hltm:m < n1:=by have:=of_decide_eq_true e5;omega
        have hxm:q.aggs[m]?=some q.aggs[m]:=List.getElem?_eq_getElem (by omega)
        have hkl:=kindsQ_len q
        have tkm:(kindsQ q).take (m+1)=(kindsQ q).take m++[(q.aggs[m]'(by omega)).1]:=by
         rw [List.take_succ_eq_append_getElem (by omega)]
         congr 2
         unfold kindsQ
         rw [List.getElem_map]
        have hal:(acc0 ((kindsQ q).take m)).length=m:=by unfold acc0;rw [List.length_map,List.length_take];omega
        obtain⟨b,o,a',c',ha,hrow,hS⟩:=(Q.g.le (Hp.le_trans lx (Hp.le_trans N70.le0 V.le0))).row aggRw_len (by decide) hxm
        refine⟨b,o,⟨ha,by omega,by omega⟩,(q.aggs[m]'(by omega)).1,a',(q.aggs[m]'(by omega)).2.length,c',by rw [Int.toNat_natCast];exact hrow,gather_New_ok ⟨_,_,_,_,rfl,?_⟩⟩
        intro b100 hb100 h101
        refine Vec.app elAcc encAc_len one_ac V (by rw [hal];omega) (by rw [hal];omega) (x:=((q.aggs[m]'(by omega)).1,(0,0,0))) hb100 fun a' c' h' V'=>⟨_,_,_,rfl,_,isW (by unfold InR;omega),⟨m+1,a',c',?_,by omega,?_⟩,by simp [vint];omega⟩
        ·rw [tkm];unfold acc0;rw [List.map_append];rfl
        ·rw [tkm];unfold acc0 at V' ⊢;rw [List.map_append];exact V'
       ·have hge:m=n1:=by have:=of_decide_eq_false e5;omega
        rw [List.take_of_length_le (by rw [kindsQ_len];omega)] at V ⊢
        exact hJ5 a86 c86 hh4 V
    ·have hge:k=ss.length:=by have:=of_decide_eq_false e;omega
     rw [hge,List.take_length] at S ⊢
     exact hJ a c R hh3 (N.base lx) S
  ·have hge:j=part.length:=by have:=of_decide_eq_false e;omega
   rw [hge,List.take_length] at S ⊢
   refine⟨_,isW (by unfold InR;omega),⟨i+1,a,c,R,?_,by omega,N,?_⟩,by simp [vint];omega⟩
   ·rw [tk,lateA_snoc];rfl
   ·rw [tk,addA_snoc];exact S
 ·have hge:i=ps.length:=by have:=of_decide_eq_false e;omega
  rw [hge,List.take_length] at S ⊢
  have hA:=addA_ok B hE
  have hm:=addA_many B ps hl
  have hRl:=S.len
  have hRk:=keysU_many (addA q ps)
  refine N.sort S (fun r hr=>?_) (by omega) fun R2 h185 N2 hl2 hR2=>⟨rfl,?_⟩
  ·obtain⟨m,hr⟩:=List.getElem?_of_mem hr
   have:=S.facts hA (by omega) hr
   omega
  have hans:R2.map (fun r=>(r.k,r.acs.map gOut))=ansQ q ps:=by
   have:=congrArg (List.map fun x:PK × List AcS=>(x.1,x.2.map gOut)) hR2
   rw [List.map_map,List.map_map] at this
   exact this
  refine⟨fun vs hh=>∃(m:Nat) (a:Option Addr) (c:Nat),vs=[vsl a ((ansQ q ps).take m).length c,vi m]∧m≤R.length∧GTabB encV pkRw 4 72 (fun _=>False) h185 hh a c ((ansQ q ps).take m),fun vs hh=>R.length - (vint vs 1).toNat,⟨0,none,0,rfl,Nat.zero_le _,GTabB.nil (Hp.le_refl _)⟩,?_⟩
  rintro vs hh5 ⟨m,a5,c5,rfl,hm5,G⟩
  have hal:(ansQ q ps).length=R.length:=by rw [←hans,List.length_map,hl2]
  refine⟨a5,_,c5,_,rfl,fun e=>?_,fun e=>?_⟩
  ·have hltm:m < R.length:=by have:=of_decide_eq_true e;omega
   have hxm:R2[m]?=some R2[m]:=List.getElem?_eq_getElem (by omega)
   have hxa:(ansQ q ps)[m]?=some ((R2[m]'(by omega)).k,(R2[m]'(by omega)).acs.map gOut):=by rw [←hans,List.getElem?_map,hxm];rfl
   have tkm:(ansQ q ps).take (m+1)=(ansQ q ps).take m++[((R2[m]'(by omega)).k,(R2[m]'(by omega)).acs.map gOut)]:=by
    rw [List.take_add_one,hxa];rfl
   have htm:((ansQ q ps).take m).length=m:=by rw [List.length_take];omega
   have N5:=N2.le G.le0
   obtain⟨b,o,ea,hrw⟩:=N5.row hxm
   obtain⟨V,_⟩:=N5.inner hxm
   have hacs:(R2[m]'(by omega)).acs.length≤1000:=by
    have h1:(R2.map fun r=>(r.k,r.acs))[m]?=some ((R2[m]'(by omega)).k,(R2[m]'(by omega)).acs):=by rw [List.getElem?_map,hxm];rfl
    rw [hR2,List.getElem?_map] at h1
    cases hkk:(keysS (addA q ps))[m]? with
    | none=>rw [hkk] at h1;cases h1
    | some kk=>
     rw [hkk] at h1
     simp only [Option.map_some,Option.some.injEq,Prod.mk.injEq] at h1
     have:=congrArg List.length (accsOf_kinds (rowsOf_ok hA kk).1)
     rw [List.length_map,h1.2,kindsQ_len] at this
     omega
   refine⟨b,o,⟨ea,by omega,by omega⟩,_,_,_,_,_,_,_,by rw [Int.toNat_natCast];exact hrw,?_⟩
   refine pane_Out_ok (r:=R2[m]'(by omega)) (V.slp encAc_len (by decide)) hacs fun a2' c2' h203 V2=>⟨_,_,_,_,_,_,rfl,?_⟩
   intro b208 hb208 h209
   refine GTabB.app elOut G (hB:=hh5) (h1:=h203) V2.le0 (fun _ hf=>hf.elim) (fun g hg=>G.al hg) (x:=(R2[m]'(by omega)).k) (a2:=a2') (c2:=c2') (l:=(R2[m]'(by omega)).acs.map gOut) (OwnV.row V2) (fun b o eb=>V2.new b (by rw [eb,OwnS.at0 (OwnV.own V2) b o eb])) ?_ rfl (fun _ hf=>hf.elim) (by rw [htm];omega) (by rw [htm];omega) hb208 fun a' c' h' G' _=>⟨_,_,_,rfl,_,isW (by unfold InR;omega),⟨m+1,a',c',?_,by omega,?_⟩,by simp [vint];omega⟩
   ·intro u hu
    simp only [pkRw,List.mem_cons,List.not_mem_nil,or_false] at hu
    rcases hu with rfl|rfl|rfl|rfl<;>rfl
   ·rw [tkm,List.length_append,List.length_singleton];rfl
   ·rw [tkm];exact G'
  ·have hge5:m=R.length:=by have:=of_decide_eq_false e;omega
   rw [List.take_of_length_le (by omega)] at G ⊢
   exact hK a5 c5 hh5 (Hp.le_trans N2.le0 G.le0) G.tab
end Go.Proofs.YtiflgceoamkmnaaGreatDoor
namespace Go.Proofs.YtiflgceoamkmnaaGreatDoor
open Go Go.Vc
def VC_R_SameValues (u0:Option Addr)(u1 u2:Nat)(u3:Option Addr)(u4 u5:Nat)(h:Hp)(R:Value→Hp→Prop):Prop:=
 (((decide ((u1:Int)≠(u4:Int)))=true→R (vb false) h)∧((decide ((u1:Int)≠(u4:Int)))=false→(∃(I3:List Value→Hp→Prop) (m4:List Value→Hp→Nat),I3 [vi 0] h∧∀ vs5 h6,I3 vs5 h6→∃ x7,vs5=[vi x7]∧(((decide (x7 < (u1:Int)))=true→(∃ b10 o11,(u0=some ⟨b10,o11,none⟩∧(0:Int)≤x7∧x7 < (u1:Int))∧(∃ x12 x13,(Hp.row h6 b10 (o11+x7.toNat*2) 2=some [vi x12,vi x13])∧(∃ b14 o15,(u3=some ⟨b14,o15,none⟩∧(0:Int)≤x7∧x7 < (u4:Int))∧(∃ x16 x17,(Hp.row h6 b14 (o15+x7.toNat*2) 2=some [vi x16,vi x17])∧(∃ p18,(Rd Tryz.prog ((eqGuard .neq 41 (.tmp 20) (.tmp 24) (vag [vi x12,vi x13]) (vag [vi x16,vi x17]) >>= fun _=>binOp .neq 41 (vag [vi x12,vi x13]) (vag [vi x16,vi x17]))) h6 (vb p18))∧((p18=true→R (vb false) h6)∧(p18=false→(∃ x20,(IsW x20 (x7+1))∧(I3 [vi x20] h6∧m4 [vi x20] h6 < m4 vs5 h6))))))))))∧((decide (x7 < (u1:Int)))=false→R (vb true) h6)))))
theorem ok_R_SameValues {u0 u1 u2 u3 u4 u5 h R}(H:VC_R_SameValues u0 u1 u2 u3 u4 u5 h R):CallOK Tryz.prog 58 [vsl u0 u1 u2,vsl u3 u4 u5] h R:=
 call_of (cfg:=⟨[],[(4,([5],[.one (.int .i64)],[]))],[(6,[0,1,2,3,4,5,6,7,8])]⟩) noNG mixed Tryz.func58 [.one (.v (vsl u0 u1 u2)),.one (.v (vsl u3 u4 u5))] (by kernel_rfl) rfl (by kernel_rfl) H
def VC_R_SamePane (u0:Int)(u1:Int)(u2:Int)(u3:Option Addr)(u4 u5:Nat)(u6:Int)(u7:Int)(u8:Int)(u9:Option Addr)(u10 u11:Nat)(h:Hp)(R:Value→Hp→Prop):Prop:=
 (CallOK Tryz.prog 58 [vsl u3 u4 u5,vsl u9 u10 u11] h fun v1 h2=>∃ p3,v1=(vb p3)∧(∃ p4,((decide (u0=u6))=true→Rd Tryz.prog ((eqGuard .eql 41 (.tmp 18) (.tmp 20) (vag [vi u1,vi u2]) (vag [vi u7,vi u8]) >>= fun _=>binOp .eql 41 (vag [vi u1,vi u2]) (vag [vi u7,vi u8]))) h2 (vb p4))∧R (vb (bif (bif (decide (u0=u6)) then p4 else false) then p3 else false)) h2))
theorem ok_R_SamePane {u0 u1 u2 u3 u4 u5 u6 u7 u8 u9 u10 u11 h R}(H:VC_R_SamePane u0 u1 u2 u3 u4 u5 u6 u7 u8 u9 u10 u11 h R):CallOK Tryz.prog 63 [vag [vi u0,vi u1,vi u2,vsl u3 u4 u5],vag [vi u6,vi u7,vi u8,vsl u9 u10 u11]] h R:=
 call_of (cfg:=⟨[],[],[]⟩) noNG mixed Tryz.func63 [.ag [.v (vi u0),.v (vi u1),.v (vi u2),.v (vsl u3 u4 u5)],.ag [.v (vi u6),.v (vi u7),.v (vi u8),.v (vsl u9 u10 u11)]] (by kernel_rfl) rfl (by kernel_rfl) H
section
variable {h:Hp}{R':Value→Hp→Prop}
theorem R_SameValues_ok {l:List Vl}{a b:Option Addr}{c d:Nat}(S:SlP encV h a l.length l)(S2:SlP encV h b l.length l)(hn:l.length≤1000000)(hK:R' (vb true) h):CallOK Tryz.prog 58 [vsl a l.length c,vsl b l.length d] h R':=by
 refine ok_R_SameValues ?_
 unfold VC_R_SameValues
 refine⟨fun e=>absurd rfl (of_decide_eq_true e),fun _=>?_⟩
 refine⟨fun vs hh=>hh=h∧∃ i:Nat,vs=[vi i]∧i≤l.length,fun vs hh=>l.length - (vint vs 0).toNat,⟨rfl,0,rfl,Nat.zero_le _⟩,?_⟩
 rintro vs hh ⟨rfl,i,rfl,hi⟩
 refine⟨i,rfl,fun e=>?_,fun _=>hK⟩
 have hlt:i < l.length:=by have:=of_decide_eq_true e;omega
 have hx:l[i]?=some l[i]:=List.getElem?_eq_getElem hlt
 obtain⟨b1,o1,e1,r1⟩:=S.get (sz:=2) (fun _=>rfl) (by decide) hx
 obtain⟨b2,o2,e2,r2⟩:=S2.get (sz:=2) (fun _=>rfl) (by decide) hx
 refine⟨b1,o1,⟨e1,by omega,by omega⟩,_,_,by rw [Int.toNat_natCast];exact r1,b2,o2,⟨e2,by omega,by omega⟩,_,_,by rw [Int.toNat_natCast];exact r2,!decide (l[i]=l[i]),rd_neqV,fun e3=>(by simp at e3),fun _=>⟨_,isW (by unfold InR;omega),⟨rfl,i+1,rfl,by omega⟩,by simp [vint];omega⟩⟩
theorem R_SamePane_ok {k:PK}{l:List Vl}{a b:Option Addr}{c d:Nat}(S:SlP encV h a l.length l)(S2:SlP encV h b l.length l)(hn:l.length≤1000000)(hK:R' (vb true) h):CallOK Tryz.prog 63 [vag (pkRw k (vsl a l.length c)),vag (pkRw k (vsl b l.length d))] h R':=by
 refine ok_R_SamePane ?_
 unfold VC_R_SamePane
 refine R_SameValues_ok S S2 hn ⟨_,rfl,decide (k.2=k.2),fun _=>rd_eqV,?_⟩
 rw [decide_eq_true (rfl:k.1=k.1),decide_eq_true (rfl:k.2=k.2)]
 exact hK
end
theorem outV_len {q:Qy}{A:List Ad}(hA:∀ x ∈ A,AdOK q x)(k:PK):(outV (kindsQ q) (rowsOf A k)).length=q.aggs.length:=by
 unfold outV
 rw [List.length_map,←kindsQ_len]
 have:=congrArg List.length (accsOf_kinds (rowsOf_ok hA k).1)
 rw [List.length_map] at this
 exact this
theorem ansQ_many {q:Qy}(B:QOk q){ps:List (List EvL)}(hp:ps.length≤5)(hl:∀ p ∈ ps,p.length≤100)(hE:∀ p ∈ ps,∀ e ∈ p,EvOK e):(ansQ q ps).length≤500000∧∀ x ∈ ansQ q ps,x.2.length≤1000000:=by
 have h1:=addA_many B ps hl
 have h2:=keysU_many (addA q ps)
 have h3:=(keys_perm (addA q ps)).length_eq
 have h4:=B.n2
 constructor
 ·unfold ansQ ansA
  rw [List.length_map]
  omega
 ·intro x hx
  unfold ansQ ansA at hx
  obtain⟨k,_,rfl⟩:=List.mem_map.1 hx
  simp only
  rw [outV_len (addA_ok B hE)]
  omega
def VC_source_Check (u0:Int)(u1:Int)(u2:Int)(u3:Int)(u4:Int)(u5:Int)(u6:Int)(h:Hp)(R:Value→Hp→Prop):Prop:=
 (((bif (decide (u0 < 0)) then true else(decide (u0 > 9999)))=true→R (ifv (some (99,(vi 1)))) h)∧((bif (decide (u0 < 0)) then true else(decide (u0 > 9999)))=false→(∀ b2,h b2=none→let h3:= Hp.set h b2 (cellsO [vi u1,vi u2,vi u3,vi u4,vi u5,vi u6] 41);(∃(I5:List Value→Hp→Prop) (m6:List Value→Hp→Nat),I5 [vi 0] h3∧∀ vs7 h8,I5 vs7 h8→∃ x9,vs7=[vi x9]∧(((decide (x9 < ((3:Nat):Int)))=true→(∃ b12 o13,((some (⟨b2,0,none⟩:Addr))=some ⟨b12,o13,none⟩∧(0:Int)≤x9∧x9 < ((3:Nat):Int))∧(∃ x14 x15,(Hp.row h8 b12 (o13+x9.toNat*2) 2=some [vi x14,vi x15])∧(CallOK Tryz.prog 117 [vag [vi x14,vi x15]] h8 fun v16 h17=>∃ e18,v16=(ifv e18)∧(((Option.isSome e18)=true→R (ifv e18) h17)∧((Option.isSome e18)=false→(((decide (x14=2))=true→R (ifv (some (99,(vi 3)))) h17)∧((decide (x14=2))=false→(((bif (decide (x15 < (-1000))) then true else(decide (x15 > 1000)))=true→R (ifv (some (99,(vi 1)))) h17)∧((bif (decide (x15 < (-1000))) then true else(decide (x15 > 1000)))=false→(∃ x22,(IsW x22 (x9+1))∧(I5 [vi x22] h17∧m6 [vi x22] h17 < m6 vs7 h8))))))))))))∧((decide (x9 < ((3:Nat):Int)))=false→R (ifv none) h8))))))
theorem ok_source_Check {u0 u1 u2 u3 u4 u5 u6 h R}(H:VC_source_Check u0 u1 u2 u3 u4 u5 u6 h R):CallOK Tryz.prog 67 [vag [vi u0,vi u1,vi u2,vi u3,vi u4,vi u5,vi u6]] h R:=
 call_of (cfg:=⟨[],[(4,([23],[.one (.int .i64)],[]))],[]⟩) noNG mixed Tryz.func67 [.ag [.v (vi u0),.v (vi u1),.v (vi u2),.v (vi u3),.v (vi u4),.v (vi u5),.v (vi u6)]] (by kernel_rfl) rfl (by kernel_rfl) H
theorem source_Check_ok {e:EvL}{h:Hp}{R:Value→Hp→Prop}(hK:∀ h',h.le h'→R (ifv (errV (chkE e))) h'):CallOK Tryz.prog 67 [vag (encE e)] h R:=by
 refine ok_source_Check ?_
 unfold VC_source_Check
 refine⟨fun q=>?_,fun q=>?_⟩
 ·have:chkE e=1:=by unfold chkE;rw [if_pos (by simp [Bool.cond_eq_ite] at q;omega)]
  rw [this] at hK;exact hK h (Hp.le_refl h)
 have e1:chkE e=chkL [e.2.1,e.2.2.1,e.2.2.2]:=by unfold chkE;rw [if_neg (by simp [Bool.cond_eq_ite] at q;omega)]
 rw [e1] at hK
 clear e1 q
 intro b2 hb2 h3
 have l3:h.le h3:=Hp.le_set (Hp.le_refl h) hb2 _
 have S:SlP encV h3 (some ⟨b2,0,none⟩) 3 [e.2.1,e.2.2.1,e.2.2.2]:=⟨rfl,HasRow.new _ _ [vi e.2.1.1,vi e.2.1.2,vi e.2.2.1.1,vi e.2.2.1.2,vi e.2.2.2.1,vi e.2.2.2.2] _⟩
 clear_value h3
 have hl:[e.2.1,e.2.2.1,e.2.2.2].length=3:=rfl
 generalize [e.2.1,e.2.2.1,e.2.2.2]=l at *
 refine⟨fun vs hh=>hh=h3∧∃ i:Nat,vs=[vi i]∧i≤3∧chkL l=chkL (l.drop i),fun vs hh=>3 - (vint vs 0).toNat,⟨rfl,0,rfl,by decide,rfl⟩,?_⟩
 rintro vs hh ⟨rfl,i,rfl,hi,hc⟩
 refine⟨i,rfl,fun q=>?_,fun q=>?_⟩
 ·have hlt:i < 3:=by have:=of_decide_eq_true q;omega
  have hx:l[i]?=some (l[i]'(by omega)):=List.getElem?_eq_getElem (by omega)
  rw [drop_get (by omega:i < l.length),chkL] at hc
  obtain⟨b,o,ha,hr⟩:=S.get encV_len (by decide) hx
  generalize l[i]'(by omega)=v at *
  have A:(some ⟨b2,0,none⟩:Option Addr)=some ⟨b,o,none⟩∧(0:Int)≤i∧(i:Int) < (3:Nat):=⟨ha,by omega,by omega⟩
  refine⟨b,o,A,_,_,hr,value_Check_ok (v:=v) ⟨_,rfl,fun q2=>?_,fun q2=>⟨fun q3=>?_,fun q3=>⟨fun q4=>?_,fun q4=>?_⟩⟩⟩⟩
  ·rw [errV_some] at q2
   have hg:¬ goodV v:=fun hg=>by simp [hg] at q2
   have:chkV v=3:=by unfold chkV;rw [if_pos (.inl hg)]
   rw [this,if_neg (by decide)] at hc
   rw [if_neg hg]
   rw [hc] at hK;exact hK hh l3
  ·have:chkV v=3:=by unfold chkV;rw [if_pos (.inr (of_decide_eq_true q3))]
   rw [this,if_neg (by decide)] at hc
   rw [hc] at hK;exact hK hh l3
  ·rw [errV_some] at q2
   have hg:goodV v:=by
    by_cases hg:goodV v
    ·exact hg
    ·simp [hg] at q2
   have h2:¬ v.1=2:=of_decide_eq_false q3
   have:chkV v=1:=by unfold chkV;rw [if_neg (by simp [hg,h2]),if_pos (by simp [Bool.cond_eq_ite] at q4;omega)]
   rw [this,if_neg (by decide)] at hc
   rw [hc] at hK;exact hK hh l3
  ·rw [errV_some] at q2
   have hg:goodV v:=by
    by_cases hg:goodV v
    ·exact hg
    ·simp [hg] at q2
   have h2:¬ v.1=2:=of_decide_eq_false q3
   have:chkV v=0:=by unfold chkV;rw [if_neg (by simp [hg,h2]),if_neg (by simp [Bool.cond_eq_ite] at q4;omega)]
   rw [this,if_pos rfl] at hc
   exact⟨_,isW (by unfold InR;omega),⟨rfl,i+1,rfl,by omega,hc⟩,by simp [vint];omega⟩
 ·have hge:i=3:=by have:=of_decide_eq_false q;omega
  subst hge
  rw [List.drop_eq_nil_of_le (by omega)] at hc
  rw [hc] at hK;exact hK hh l3
section
variable {h:Hp}{F:Nat→Prop}{g:Nat}{L:List (List EvL)}
end
open Go.Txt
section
variable {q:Qy}{a1:Option Addr}{n1 c1:Nat}{a2:Option Addr}{n2 c2:Nat}{a3:Option Addr}{n3 c3:Nat}{h:Hp}{R:Value→Hp→Prop}
end
structure PN where
 k:PK
 b:Nat
 t:Nat
 cs:List (List Vl)
 told:Bool
section
variable {h0 h:Hp}{a:Option Addr}{c:Nat}{R:List PN}
end
end Go.Proofs.YtiflgceoamkmnaaGreatDoor
namespace Go.Proofs.YtiflgceoamkmnaaGreatDoor
open Go Go.Vc
def VC_top_light (u0:Option Addr)(u1 u2:Nat)(h:Hp)(R:Value→Hp→Prop):Prop:=
 (((decide ((u1:Int) > 3))=true→R (vb false) h)∧((decide ((u1:Int) > 3))=false→(∃(I3:List Value→Hp→Prop) (m4:List Value→Hp→Nat),I3 [vi 0] h∧∀ vs5 h6,I3 vs5 h6→∃ x7,vs5=[vi x7]∧(((decide (x7 < (u1:Int)))=true→(∃ b10 o11,(u0=some ⟨b10,o11,none⟩∧(0:Int)≤x7∧x7 < (u1:Int))∧(∃ a12 n12 c12,(Hp.cell h6 b10 (o11+x7.toNat*1)=some (vsl a12 n12 c12))∧(((decide ((n12:Int) > 40))=true→R (vb false) h6)∧((decide ((n12:Int) > 40))=false→(∃(I15:List Value→Hp→Prop) (m16:List Value→Hp→Nat),I15 [vi 0] h6∧∀ vs17 h18,I15 vs17 h18→∃ x19,vs17=[vi x19]∧(∃ b20 o21,(u0=some ⟨b20,o21,none⟩∧(0:Int)≤x7∧x7 < (u1:Int))∧(∃ a22 n22 c22,(Hp.cell h18 b20 (o21+x7.toNat*1)=some (vsl a22 n22 c22))∧(((decide (x19 < (n22:Int)))=true→(∃ b25 o26,(u0=some ⟨b25,o26,none⟩∧(0:Int)≤x7∧x7 < (u1:Int))∧(∃ a27 n27 c27,(Hp.cell h18 b25 (o26+x7.toNat*1)=some (vsl a27 n27 c27))∧(∃ b28 o29,(a27=some ⟨b28,o29,none⟩∧(0:Int)≤x19∧x19 < (n27:Int))∧(∃ x30 x31 x32 x33 x34 x35 x36,(Hp.row h18 b28 (o29+x19.toNat*7) 7=some [vi x30,vi x31,vi x32,vi x33,vi x34,vi x35,vi x36])∧(CallOK Tryz.prog 67 [vag [vi x30,vi x31,vi x32,vi x33,vi x34,vi x35,vi x36]] h18 fun v37 h38=>∃ e39,v37=(ifv e39)∧(((Option.isSome e39)=true→R (vb false) h38)∧((Option.isSome e39)=false→(∃ x41,(IsW x41 (x19+1))∧(I15 [vi x41] h38∧m16 [vi x41] h38 < m16 vs17 h18))))))))))∧((decide (x19 < (n22:Int)))=false→(∃ x42,(IsW x42 (x7+1))∧(I3 [vi x42] h18∧m4 [vi x42] h18 < m4 vs5 h6))))))))))))∧((decide (x7 < (u1:Int)))=false→R (vb true) h6)))))
theorem ok_top_light {u0 u1 u2 h R}(H:VC_top_light u0 u1 u2 h R):CallOK Tryz.prog 33 [vsl u0 u1 u2] h R:=
 call_of (cfg:=⟨[],[(9,([4],[.one (.int .i64)],[])),(4,([3],[.one (.int .i64)],[]))],[]⟩) noNG mixed Tryz.func33 [.one (.v (vsl u0 u1 u2))] (by kernel_rfl) rfl (by kernel_rfl) H
def VC_top_upto (u0:Option Addr)(u1 u2:Nat)(u3:Int)(u4:Int)(h:Hp)(R:Value→Hp→Prop):Prop:=
 (∃(I2:List Value→Hp→Prop) (m3:List Value→Hp→Nat),I2 [vsl none 0 0,vi 0] h∧∀ vs4 h5,I2 vs4 h5→∃ a6 n6 c6 x7,vs4=[vsl a6 n6 c6,vi x7]∧(((decide (x7 < (u1:Int)))=true→(let J27:Option Addr→Nat→Nat→Hp→Prop:=fun a30 n30 c30 h31=>(∃ x32,(IsW x32 (x7+1))∧(I2 [vsl a30 n30 c30,vi x32] h31∧m3 [vsl a30 n30 c30,vi x32] h31 < m3 vs4 h5));(∃ b10 o11,(u0=some ⟨b10,o11,none⟩∧(0:Int)≤x7∧x7 < (u1:Int))∧(∃ x12,(Hp.cell h5 b10 (o11+x7.toNat*4)=some (vi x12))∧(∃ x13,(IsW x13 (x12+u3))∧(((decide (x13≤u4))=true→(∃ b14 o15,(u0=some ⟨b14,o15,none⟩∧(0:Int)≤x7∧x7 < (u1:Int))∧(∃ x16 x17 x18 a19 n19 c19,(Hp.row h5 b14 (o15+x7.toNat*4) 4=some [vi x16,vi x17,vi x18,vsl a19 n19 c19])∧(∀ b20,h5 b20=none→let h21:= Hp.set h5 b20 (cellsO [vi x16,vi x17,vi x18,vsl a19 n19 c19] 72);(SemOK Tryz.prog (Builtin.append_ #[54,54] 54 #[vsl a6 n6 c6,(vsl (some (⟨b20,0,none⟩:Addr)) 1 1)]) h21 fun v22 h23=>∃ a24 n24 c24,v22=(vsl a24 n24 c24)∧(J27 a24 n24 c24 h23))))))∧((decide (x13≤u4))=false→(J27 a6 n6 c6 h5))))))))∧((decide (x7 < (u1:Int)))=false→R (vsl a6 n6 c6) h5)))
theorem ok_top_upto {u0 u1 u2 u3 u4 h R}(H:VC_top_upto u0 u1 u2 u3 u4 h R):CallOK Tryz.prog 39 [vsl u0 u1 u2,vi u3,vi u4] h R:=
 call_of (cfg:=⟨[],[(3,([7,8],[.one (.slice),.one (.int .i64)],[]))],[]⟩) noNG mixed Tryz.func39 [.one (.v (vsl u0 u1 u2)),.one (.v (vi u3)),.one (.v (vi u4))] (by kernel_rfl) rfl (by kernel_rfl) H
section
variable {h:Hp}{R':Value→Hp→Prop}
theorem top_light_ok {ps:List (List EvL)}{pa:Option Addr}{pn pc:Nat}(TP:TabC encE h pa pn ps)(hK:∀ p h',h.le h'→(p=true→ps.length≤3∧∀ x ∈ ps,x.length≤40∧∀ e ∈ x,EvOK e)→R' (vb p) h'):CallOK Tryz.prog 33 [vsl pa pn pc] h R':=by
 refine ok_top_light ?_
 unfold VC_top_light
 have hpn:pn=ps.length:=TP.r.choose_spec.2.1
 refine⟨fun e=>hK false h (Hp.le_refl h) (fun q=>by cases q),fun e=>?_⟩
 have h3:ps.length≤3:=by have:=of_decide_eq_false e;omega
 refine⟨fun vs hh=>∃ i:Nat,vs=[vi i]∧i≤ps.length∧h.le hh∧∀ x ∈ ps.take i,x.length≤40∧∀ e ∈ x,EvOK e,fun vs hh=>ps.length - (vint vs 0).toNat,⟨0,rfl,Nat.zero_le _,Hp.le_refl h,by simp⟩,?_⟩
 rintro vs hh ⟨i,rfl,hi,lh,hz⟩
 refine⟨i,rfl,fun e1=>?_,fun e1=>?_⟩
 ·have hlt:i < ps.length:=by have:=of_decide_eq_true e1;omega
  have hx:ps[i]?=some ps[i]:=List.getElem?_eq_getElem hlt
  have tk:ps.take (i+1)=ps.take i++[ps[i]]:=List.take_succ_eq_append_getElem hlt
  generalize ps[i]=part at *
  obtain⟨b,o,a',c',ea,hcl,SP,_⟩:=TP.cell hx
  have hb1:pa=some ⟨b,o,none⟩∧(0:Int)≤i∧(i:Int) < ((pn:Nat):Int):=⟨ea,by omega,by omega⟩
  refine⟨b,o,hb1,a',part.length,c',by rw [Int.toNat_natCast];exact cell_le lh hcl,fun e2=>hK false hh lh (fun q=>by cases q),fun e2=>?_⟩
  have h40:part.length≤40:=by have:=of_decide_eq_false e2;omega
  refine⟨fun vs hh'=>∃ j:Nat,vs=[vi j]∧j≤part.length∧hh.le hh'∧∀ e ∈ part.take j,EvOK e,fun vs hh=>part.length - (vint vs 0).toNat,⟨0,rfl,Nat.zero_le _,Hp.le_refl _,by simp⟩,?_⟩
  rintro vs hh3 ⟨j,rfl,hj,lh3,hc3⟩
  have lh3':=Hp.le_trans lh lh3
  have hc1:=cell_le lh3' hcl
  refine⟨j,rfl,b,o,hb1,a',part.length,c',by rw [Int.toNat_natCast];exact hc1,fun e3=>?_,fun e3=>?_⟩
  ·have hltj:j < part.length:=by have:=of_decide_eq_true e3;omega
   have hxj:part[j]?=some part[j]:=List.getElem?_eq_getElem hltj
   have tkj:part.take (j+1)=part.take j++[part[j]]:=List.take_succ_eq_append_getElem hltj
   obtain⟨b2,o2,ea2,hr2⟩:=(SP.le lh3').get (sz:=7) (fun _=>rfl) (by decide) hxj
   generalize part[j]=ev at *
   refine⟨b,o,hb1,a',part.length,c',by rw [Int.toNat_natCast];exact hc1,b2,o2,⟨ea2,by omega,by omega⟩,_,_,_,_,_,_,_,by rw [Int.toNat_natCast];exact hr2,?_⟩
   refine source_Check_ok (e:=ev) fun h54 l54=>⟨_,rfl,fun e4=>hK false h54 (Hp.le_trans lh3' l54) (fun q=>by cases q),fun e4=>?_⟩
   rw [errV_some] at e4
   have hev:chkE ev=0:=by simpa using e4
   refine⟨_,isW (by unfold InR;omega),⟨j+1,rfl,by omega,Hp.le_trans lh3 l54,fun e he=>?_⟩,by simp [vint];omega⟩
   rw [tkj] at he
   rcases List.mem_append.1 he with h1|h1
   ·exact hc3 e h1
   ·rw [List.mem_singleton.1 h1];exact chkE_ok hev
  ·have hge:j=part.length:=by have:=of_decide_eq_false e3;omega
   rw [hge,List.take_length] at hc3
   refine⟨_,isW (by unfold InR;omega),⟨i+1,rfl,by omega,lh3',fun x hx=>?_⟩,by simp [vint];omega⟩
   rw [tk] at hx
   rcases List.mem_append.1 hx with h1|h1
   ·exact hz x h1
   ·rw [List.mem_singleton.1 h1];exact⟨h40,hc3⟩
 ·have hge:i=ps.length:=by have:=of_decide_eq_false e1;omega
  rw [hge,List.take_length] at hz
  exact hK true hh lh fun _=>⟨h3,hz⟩
theorem elParts:ElT Tryz.prog 49 69 1 24:=.of (by kernel_rfl) (by kernel_rfl) (by decide)
def uptoL (size far:Int)(L:List (PK × List Vl)):List (PK × List Vl):=L.filter fun x=>decide (x.1.1+size≤far)
theorem growL_snoc {α β:Type}(R:List (GRow α β))(r:GRow α β):growL (R++[r])=growL R++[(r.1,r.2.2)]:=by unfold growL;rw [List.map_append];rfl
theorem top_upto_ok {L:List (PK × List Vl)}{a:Option Addr}{n c:Nat}{size far:Int}(G:GTab encV pkRw h a n L)(hn:n≤1000000)(hb:∀ x ∈ L,InR (x.1.1+size))(hK:∀ a' c' h',h.le h'→GTab encV pkRw h' a' (uptoL size far L).length (uptoL size far L)→R' (vsl a' (uptoL size far L).length c') h'):CallOK Tryz.prog 39 [vsl a n c,vi size,vi far] h R':=by
 obtain⟨R,rfl,hl,H,H2⟩:=G
 have hRl:n=R.length:=by rw [hl];simp [growL]
 subst hRl
 clear hl
 refine ok_top_upto ?_
 unfold VC_top_upto
 have S:SlP (growV pkRw) h a R.length R:=⟨rfl,H⟩
 refine⟨fun vs hh=>∃(i:Nat) (a':Option Addr) (c':Nat) (Q:List (GRow Vl PK)),vs=[vsl a' Q.length c',vi i]∧i≤R.length∧Q.length≤i∧growL Q=uptoL size far (growL (R.take i))∧OwnV h hh 72 4 a' Q.length c' (Q.flatMap (growV pkRw))∧∀ r ∈ Q,HasRow h r.2.1.1 (r.2.2.flatMap encV),fun vs hh=>R.length - (vint vs 1).toNat,⟨0,none,0,[],rfl,Nat.zero_le _,Nat.le_refl _,rfl,OwnV.nil (Hp.le_refl h) _ _,fun r hr=>by cases hr⟩,?_⟩
 rintro vs hh ⟨i,a',c',Q,rfl,hi,hQi,eQ,O,HQ⟩
 refine⟨a',_,c',_,rfl,fun e=>?_,fun e=>?_⟩
 ·have hlt:i < R.length:=by have:=of_decide_eq_true e;omega
  have hx:R[i]?=some R[i]:=List.getElem?_eq_getElem hlt
  have tk:R.take (i+1)=R.take i++[R[i]]:=List.take_succ_eq_append_getElem hlt
  have hm:R[i] ∈ R:=List.getElem_mem hlt
  generalize R[i]=r at *
  have hbr:InR (r.1.1+size):=hb (r.1,r.2.2) (List.mem_map.2 ⟨r,hm,rfl⟩)
  obtain⟨b,o,ea,hr⟩:=S.get (sz:=4) (fun r=>pkRw_len _ _) (by decide) hx
  have hr':=Hp.row_le O.le hr
  have tkU:uptoL size far (growL (R.take (i+1)))=uptoL size far (growL (R.take i))++if r.1.1+size≤far then [(r.1,r.2.2)] else []:=by
   rw [tk,growL_snoc]
   unfold uptoL
   rw [List.filter_append,List.filter_cons,List.filter_nil]
   by_cases hq:r.1.1+size≤far<;>simp [hq]
  intro J27
  have hJ:∀ a2 c2 (Q2:List (GRow Vl PK)) h2,Q2.length≤i+1→growL Q2=uptoL size far (growL (R.take (i+1)))→OwnV h h2 72 4 a2 Q2.length c2 (Q2.flatMap (growV pkRw))→(∀ r ∈ Q2,HasRow h r.2.1.1 (r.2.2.flatMap encV))→J27 a2 Q2.length c2 h2:=by
   intro a2 c2 Q2 h2 q1 q2 q3 q4
   exact⟨_,isW (by unfold InR;omega),⟨i+1,a2,c2,Q2,rfl,by omega,q1,q2,q3,q4⟩,by simp [vint];omega⟩
  clear_value J27
  refine⟨b,o,⟨ea,by omega,by omega⟩,r.1.1,Hp.row_cell (by rw [Int.toNat_natCast];exact hr') (i:=0) rfl,_,isW hbr,fun e2=>?_,fun e2=>?_⟩
  ·have e2:=of_decide_eq_true e2
   refine⟨b,o,⟨ea,by omega,by omega⟩,_,_,_,_,_,_,by rw [Int.toNat_natCast];exact hr',?_⟩
   intro b20 hb20 h21
   refine OwnV.append elOut (OwnV.set hb20 _ O) (HasRow.new _ _ (growV pkRw r) _) (m:=1) rfl ?_ (by omega) (by omega) fun a2 c2 h2 O2 _ _=>⟨_,_,_,rfl,?_⟩
   ·intro u hu
    simp only [growV,pkRw,List.mem_cons,List.not_mem_nil,or_false] at hu
    rcases hu with rfl|rfl|rfl|rfl<;>rfl
   ·have:=hJ a2 c2 (Q++[r]) h2 (by simp;omega) (by rw [growL_snoc,eQ,tkU,if_pos e2]) (by rw [List.flatMap_append,List.length_append,List.flatMap_singleton];exact O2) (by
     intro r' hr2
     rcases List.mem_append.1 hr2 with h1|h1
     ·exact HQ r' h1
     ·rw [List.mem_singleton.1 h1];exact H2 r hm)
    rw [List.length_append] at this
    exact this
  ·have e2:=of_decide_eq_false e2
   exact hJ a' c' Q hh (by omega) (by rw [eQ,tkU,if_neg e2,List.append_nil]) O HQ
 ·have hge:i=R.length:=by have:=of_decide_eq_false e;omega
  subst hge
  rw [List.take_length] at eQ
  have hlen:Q.length=(uptoL size far (growL R)).length:=by rw [←eQ];simp [growL]
  have:=hK a' c' hh O.le ⟨Q,eQ,rfl,O.row,fun r hr=>(HQ r hr).le O.le⟩
  rw [←hlen] at this
  exact this
end
open Go.Txt
theorem slb_lit (h:Hp)(b:Nat)(l:List Wd)(hl:l.length≤maxLen):SlB (h.set b (cellsO (l.flatMap encB) 9)) (some ⟨b,0,none⟩) l.length l:=⟨rfl,(OwnS.new h b 9 (sz:=1) (n:=l.length) (l.flatMap encB) (by induction l with
 | nil=>rfl
 | cons w l ih=>have:=ih (by simp at hl;omega);simp [encB] at this ⊢;omega) hl).row⟩
theorem number_range {s:RS}{most:Int}(hm:0≤most):0≤(s.number most).1∧(s.number most).1≤most:=by
 unfold RS.number
 split
 ·exact⟨Int.le_refl _,hm⟩
 ·split
  ·exact⟨Int.le_refl _,hm⟩
  ·rename_i h
   exact⟨by omega,(natF_low hm).2⟩
theorem joinP_le (op:Int)(x y:List Nd)(s:RS):(joinP op x y s).1.length≤40:=by
 unfold joinP
 split
 ·simp
 ·rw [joinL_length];omega
theorem read_const {w:Wd}(h:w ∈ constW):(readV w).1=constV w:=by
 have h2:w=wNull∨w=wTrue∨w=wFalse:=by simpa [constW] using h
 rcases h2 with rfl|rfl|rfl<;>rfl
theorem reader_atom_ok {P:Ps}{n:Nat}(F:Reads 84 P n)(kp:KP P n):Reads 209 (atomP P) (n+1):=by
 intro h0 h g s D E S R hK
 refine ok_query_reader_atom ?_
 unfold VC_query_reader_atom
 intro b1 hb1 h2
 have hl:h.le h2:=Hp.le_set (Hp.le_refl h) hb1 _
 have hb:=S.big
 have tk:=@taken s ([wOpen]++constW++fieldW)
 have sp:=s.is_spec ([wOpen]++constW++fieldW)
 have gi:=goes_is S.good ([wOpen]++constW++fieldW)
 have nr:=@number_range
 unfold atomP at hK
 simp only at hK
 refine reader_is_ok (D.le hl) (l:=[wOpen]++constW++fieldW) (slb_lit h b1 ([wOpen]++constW++fieldW) (by decide)) (by decide) (by omega) fun h4 D4 M4=>⟨_,rfl,?_⟩
 have M04:Mut (At g) h (At g) h4:=(Mut.of_le hl).trans M4
 generalize s.is ([wOpen]++constW++fieldW)=A at *
 obtain⟨w,s1⟩:=A
 simp -zeta only at hK D4 tk sp gi ⊢
 have hS1:=S.goes gi
 have E4:=E.mut M04
 refine⟨_,rd_eqBs (b:=wOpen),fun e=>?_,fun e1=>?_⟩
 ·have ew:w=wOpen:=of_decide_eq_true e
  have tk:=tk (by rw [ew];decide)
  rw [if_pos ew] at hK
  have d1:=S.d1
  have hdp:=gi.deep
  have Sn:SOk n s1:=⟨hS1.good,by have:=S.len;omega,hS1.big,hS1.d0,hS1.d1⟩
  have kd:=keeps_down kp (Goes.refl hS1.good) (Nat.le_of_lt Sn.len)
  refine reader_down_ok ⟨_,Tryz.func84,by kernel_rfl,by kernel_rfl⟩ F kp D4 E4 Sn (by omega) fun a c h8 D8 N8 M8=>⟨_,_,_,rfl,?_⟩
  refine reader_must_ok D8 (by have:=kd.len;have:=hS1.big;omega) fun h11 D11 M11=>⟨rfl,?_⟩
  exact hK a c h11 D11 ((N8.base (M04.up D4.al)).mut D.al M11) ((M04.trans M8).trans M11)
 have e1:¬ w=wOpen:=of_decide_eq_false e1
 rw [if_neg e1] at hK
 have hwc:w ∈ constW↔w=wNull∨w=wTrue∨w=wFalse:=by simp [constW]
 refine⟨_,rd_eqBs (b:=wNull),?_⟩
 intro J18
 have yes:w ∈ constW→J18 true:=by
  intro hw
  rw [if_pos hw] at hK
  have hwl:w.length≤1000000:=by
   have:w=wNull∨w=wTrue∨w=wFalse:=hwc.1 hw
   rcases this with rfl|rfl|rfl<;>decide
  refine⟨fun _=>?_,fun e=>by cases e⟩
  refine value_Parse_ok hwl E4.now.p E4.now.e ⟨_,_,_,rfl,?_⟩
  rw [read_const hw]
  refine query_leaf_ok ⟨1,0,0,0,constV w⟩ fun a c h26 N26 _ l26=>⟨_,_,_,rfl,?_⟩
  exact hK a c h26 (D4.le l26) (N26.base (M04.up D4.al)) (M04.trans (Mut.of_le l26))
 have no:¬ w ∈ constW→J18 false:=by
  intro hw
  rw [if_neg hw] at hK
  refine⟨fun e=>by (cases e),fun _=>⟨_,rd_eqBs (b:=[]),fun e=>?_,fun e=>?_⟩⟩
  ·rw [if_pos (of_decide_eq_true e)] at hK
   have nr1:=nr (s:=s1) (most:=1000000000) (by decide)
   refine reader_number_ok D4 E4 (by have:=hS1.big;omega) (by decide) (by decide) fun h30 D30 M30=>⟨_,rfl,value_Number_ok ⟨_,_,rfl,?_⟩⟩
   have en:numV (s1.number 1000000000).1=(1,(s1.number 1000000000).1):=by unfold numV;rw [if_neg (by omega)]
   rw [en]
   refine query_leaf_ok ⟨1,0,0,0,(1,(s1.number 1000000000).1)⟩ fun a c h37 N37 _ l37=>⟨_,_,_,rfl,?_⟩
   exact hK a c h37 (D30.le l37) (N37.base ((M04.trans M30).up D30.al)) ((M04.trans M30).trans (Mut.of_le l37))
  ·have e3:=of_decide_eq_false e
   rw [if_neg e3] at hK
   have hm:w ∈ fieldW:=by
    rcases sp with ⟨q,_⟩|⟨w',r,_,hm,q,_⟩
    ·exact absurd q e3
    ·rw [←q] at hm
     rcases List.mem_append.1 hm with h4|h4
     ·rcases List.mem_append.1 h4 with h5|h5
      ·exact absurd (by simpa using h5) e1
      ·exact absurd h5 hw
     ·exact h4
   obtain⟨fa,fc,hf,hfs⟩:=E4.now.f
   refine⟨_,_,_,hf,slices_Index_ok hfs (by decide) ⟨_,rfl,?_⟩⟩
   rw [if_pos hm]
   refine query_leaf_ok ⟨2,0,0,fieldW.idxOf w,(0,0)⟩ fun a c h44 N44 _ l44=>⟨_,_,_,rfl,?_⟩
   exact hK a c h44 (D4.le l44) (N44.base (M04.up D4.al)) (M04.trans (Mut.of_le l44))
 clear_value J18
 refine⟨fun e=>?_,fun e2=>⟨_,rd_eqBs (b:=wTrue),fun e=>?_,fun e3=>⟨_,rd_eqBs (b:=wFalse),?_⟩⟩⟩
 ·rw [e];exact yes (hwc.2 (.inl (of_decide_eq_true e)))
 ·rw [e];exact yes (hwc.2 (.inr (.inl (of_decide_eq_true e))))
 ·have e2:=of_decide_eq_false e2
  have e3:=of_decide_eq_false e3
  by_cases hf:w=wFalse
  ·rw [decide_eq_true hf];exact yes (hwc.2 (.inr (.inr hf)))
  ·rw [decide_eq_false hf]
   refine no fun h=>?_
   rcases hwc.1 h with h|h|h
   ·exact e2 h
   ·exact e3 h
   ·exact hf h
theorem reader_unary_ok {U A:Ps}{n:Nat}(F:Reads 207 U n)(ku:KP U n)(FA:Reads 209 A (n+1)):Reads 207 (unaryP U A) (n+1):=by
 intro h0 h g s D E S R hK
 refine ok_query_reader_unary ?_
 unfold VC_query_reader_unary
 intro b1 hb1 h2
 have hl:h.le h2:=Hp.le_set (Hp.le_refl h) hb1 _
 have hb:=S.big
 have tk:=@taken s [wMinus]
 have gi:=goes_is S.good [wMinus]
 unfold unaryP at hK
 have hi:=@RS.is_spec s [wMinus]
 refine reader_is_ok (D.le hl) (slb_one h b1 wMinus) (by decide) (by omega) fun h4 D4 M4=>⟨_,rfl,?_⟩
 have M04:Mut (At g) h (At g) h4:=(Mut.of_le hl).trans M4
 generalize s.is [wMinus]=B at *
 obtain⟨w,s1⟩:=B
 simp -zeta only at hK D4 tk gi hi ⊢
 have hS1:=S.goes gi
 have E4:=E.mut M04
 refine⟨_,rd_eqBs (b:=[]),fun e=>?_,fun e=>?_⟩
 ·have ew:=of_decide_eq_true e
  rw [if_pos ew] at hK
  have es:s1=s:=by
   rcases hi with ⟨_,q⟩|⟨w',r,_,hm,q,_⟩
   ·exact q
   ·rw [ew] at q;rw [←q] at hm;exact absurd hm (by decide)
  subst es
  exact FA D4 E4 hS1 fun a c h8 D8 N8 M8=>⟨_,_,_,rfl,hK a c h8 D8 (N8.base (M04.up D4.al)) (M04.trans M8)⟩
 ·have ew:=of_decide_eq_false e
  rw [if_neg ew] at hK
  have tk:=tk ew
  have d1:=S.d1
  have hdp:=gi.deep
  have Sn:SOk n s1:=⟨hS1.good,by have:=S.len;omega,hS1.big,hS1.d0,hS1.d1⟩
  have kd:=keeps_down ku (Goes.refl hS1.good) (Nat.le_of_lt Sn.len)
  refine reader_down_ok ⟨_,Tryz.func207,by kernel_rfl,by kernel_rfl⟩ F ku D4 E4 Sn (by omega) fun a c h8 D8 N8 M8=>⟨_,_,_,rfl,?_⟩
  refine reader_join_ok D8 N8.s (nd_nil h8 h8).s wf_nil (by have:=kd.le;omega) (by simp) fun a c h15 D15 N15 M15=>⟨_,_,_,rfl,?_⟩
  exact hK a c h15 D15 (N15.base ((M04.trans M8).up D8.al)) ((M04.trans M8).trans M15)
theorem reader_not_ok {U A:Ps}{n:Nat}(F:Reads 166 U n)(ku:KP U n)(FA:Reads 186 A (n+1)):Reads 166 (notP U A) (n+1):=by
 intro h0 h g s D E S R hK
 refine ok_query_reader_not ?_
 unfold VC_query_reader_not
 intro b1 hb1 h2
 have hl:h.le h2:=Hp.le_set (Hp.le_refl h) hb1 _
 have hb:=S.big
 have tk:=@taken s [wNot]
 have gi:=goes_is S.good [wNot]
 unfold notP at hK
 have hi:=@RS.is_spec s [wNot]
 refine reader_is_ok (D.le hl) (slb_one h b1 wNot) (by decide) (by omega) fun h4 D4 M4=>⟨_,rfl,?_⟩
 have M04:Mut (At g) h (At g) h4:=(Mut.of_le hl).trans M4
 generalize s.is [wNot]=B at *
 obtain⟨w,s1⟩:=B
 simp -zeta only at hK D4 tk gi hi ⊢
 have hS1:=S.goes gi
 have E4:=E.mut M04
 refine⟨_,rd_eqBs (b:=[]),fun e=>?_,fun e=>?_⟩
 ·have ew:=of_decide_eq_true e
  rw [if_pos ew] at hK
  have es:s1=s:=by
   rcases hi with ⟨_,q⟩|⟨w',r,_,hm,q,_⟩
   ·exact q
   ·rw [ew] at q;rw [←q] at hm;exact absurd hm (by decide)
  subst es
  exact FA D4 E4 hS1 fun a c h8 D8 N8 M8=>⟨_,_,_,rfl,hK a c h8 D8 (N8.base (M04.up D4.al)) (M04.trans M8)⟩
 ·have ew:=of_decide_eq_false e
  rw [if_neg ew] at hK
  have tk:=tk ew
  have d1:=S.d1
  have hdp:=gi.deep
  have Sn:SOk n s1:=⟨hS1.good,by have:=S.len;omega,hS1.big,hS1.d0,hS1.d1⟩
  have kd:=keeps_down ku (Goes.refl hS1.good) (Nat.le_of_lt Sn.len)
  refine reader_down_ok ⟨_,Tryz.func166,by kernel_rfl,by kernel_rfl⟩ F ku D4 E4 Sn (by omega) fun a c h8 D8 N8 M8=>⟨_,_,_,rfl,?_⟩
  refine reader_join_ok D8 N8.s (nd_nil h8 h8).s wf_nil (by have:=kd.le;omega) (by simp) fun a c h15 D15 N15 M15=>⟨_,_,_,rfl,?_⟩
  exact hK a c h15 D15 (N15.base ((M04.trans M8).up D8.al)) ((M04.trans M8).trans M15)
theorem reader_compare_ok {P:Ps}{n:Nat}(F:Reads 197 P n)(kp:KP P n):Reads 186 (cmpP P) n:=by
 intro h0 h g s D E S R hK
 refine ok_query_reader_compare ?_
 unfold VC_query_reader_compare
 have k:=kp s S.good (Nat.le_of_lt S.len)
 unfold cmpP at hK
 simp only at hK
 refine F D E S fun a3 c3 h2 D2 N2 M2=>⟨_,_,_,rfl,?_⟩
 intro b4 hb4 h5
 have l5:h2.le h5:=Hp.le_set (Hp.le_refl h2) hb4 _
 have S2:=S.goes k.goes
 have G0:=k.goes
 have k0:=k.le
 generalize P s=X at *
 obtain⟨x,s0⟩:=X
 simp only at hK D2 N2 S2 G0 k0
 have gi:=goes_is S2.good [wLt,wGt,wLe,wGe,wEq,wNe,wIs]
 refine reader_is_ok (D2.le l5) (slb_lit h2 b4 [wLt,wGt,wLe,wGe,wEq,wNe,wIs] (by decide)) (by decide) (by have:=S2.big;omega) fun h7 D7 M7=>⟨_,rfl,?_⟩
 have M57:Mut (At g) h2 (At g) h7:=(Mut.of_le l5).trans M7
 have M07:Mut (At g) h (At g) h7:=M2.trans M57
 have N7:=N2.mut D.al M57
 generalize s0.is [wLt,wGt,wLe,wGe,wEq,wNe,wIs]=B at *
 obtain⟨w,s1⟩:=B
 simp -zeta only at hK D7 gi ⊢
 have S7:=S2.goes gi
 have k2:=kp s1 S7.good (Nat.le_of_lt S7.len)
 have kw:=k2.wf
 have kl:=k2.le
 have E7:=E.mut M07
 have sumK:∀{R2:Value→Hp→Prop},(∀ a c h',RdAt h0 h' g (P s1).2→NdAt h7 h' a (P s1).1.length (P s1).1→Mut (At g) h7 (At g) h'→R2 (vsl a (P s1).1.length c) h')→CallOK Tryz.prog 197 [vhp g 0] h7 R2:=fun H=>F D7 E7 S7 H
 have kx:=k.wf
 intro J78
 generalize P s1=Y at *
 obtain⟨y,s2⟩:=Y
 simp -zeta only at hK sumK kw kl ⊢
 refine⟨_,rd_eqBs (b:=wLt),fun e=>?_,fun e1=>⟨_,rd_eqBs (b:=wGt),fun e=>?_,fun e2=>⟨_,rd_eqBs (b:=wLe),fun e=>?_,fun e3=>⟨_,rd_eqBs (b:=wGe),fun e=>?_,fun e4=>⟨_,rd_eqBs (b:=wEq),fun e=>?_,fun e5=>⟨_,rd_eqBs (b:=wNe),fun e=>?_,fun e6=>⟨_,rd_eqBs (b:=wIs),fun e=>?_,fun e7=>?_⟩⟩⟩⟩⟩⟩⟩
 ·rw [if_pos (of_decide_eq_true e)] at hK
  exact sumK fun a c h11 D11 N11 M11=>⟨_,_,_,rfl,reader_join_ok D11 (N7.mut D.al M11).s N11.s kw (by omega) (by omega) fun a c h14 D14 N14 M14=>⟨_,_,_,rfl,hK a c h14 D14 (N14.base ((M07.trans M11).up D11.al)) ((M07.trans M11).trans M14)⟩⟩
 ·rw [if_neg (of_decide_eq_false e1),if_pos (of_decide_eq_true e)] at hK
  exact sumK fun a c h11 D11 N11 M11=>⟨_,_,_,rfl,reader_join_ok D11 N11.s (N7.mut D.al M11).s kx (by omega) (by omega) fun a c h14 D14 N14 M14=>⟨_,_,_,rfl,hK a c h14 D14 (N14.base ((M07.trans M11).up D11.al)) ((M07.trans M11).trans M14)⟩⟩
 ·rw [if_neg (of_decide_eq_false e1),if_neg (of_decide_eq_false e2),if_pos (of_decide_eq_true e)] at hK
  have jl:=joinP_le 11 y x s2
  exact sumK fun a c h11 D11 N11 M11=>⟨_,_,_,rfl,reader_join_ok D11 N11.s (N7.mut D.al M11).s kx (by omega) (by omega) fun a c h14 D14 N14 M14=>⟨_,_,_,rfl,reader_join_ok D14 N14.s (nd_nil h14 h14).s wf_nil (by omega) (by simp) fun a c h17 D17 N17 M17=>⟨_,_,_,rfl,hK a c h17 D17 (N17.base (((M07.trans M11).trans M14).up D14.al)) (((M07.trans M11).trans M14).trans M17)⟩⟩⟩
 ·rw [if_neg (of_decide_eq_false e1),if_neg (of_decide_eq_false e2),if_neg (of_decide_eq_false e3),if_pos (of_decide_eq_true e)] at hK
  have jl:=joinP_le 11 x y s2
  exact sumK fun a c h11 D11 N11 M11=>⟨_,_,_,rfl,reader_join_ok D11 (N7.mut D.al M11).s N11.s kw (by omega) (by omega) fun a c h14 D14 N14 M14=>⟨_,_,_,rfl,reader_join_ok D14 N14.s (nd_nil h14 h14).s wf_nil (by omega) (by simp) fun a c h17 D17 N17 M17=>⟨_,_,_,rfl,hK a c h17 D17 (N17.base (((M07.trans M11).trans M14).up D14.al)) (((M07.trans M11).trans M14).trans M17)⟩⟩⟩
 ·rw [if_neg (of_decide_eq_false e1),if_neg (of_decide_eq_false e2),if_neg (of_decide_eq_false e3),if_neg (of_decide_eq_false e4),if_pos (of_decide_eq_true e)] at hK
  exact sumK fun a c h11 D11 N11 M11=>⟨_,_,_,rfl,reader_join_ok D11 (N7.mut D.al M11).s N11.s kw (by omega) (by omega) fun a c h14 D14 N14 M14=>⟨_,_,_,rfl,hK a c h14 D14 (N14.base ((M07.trans M11).up D11.al)) ((M07.trans M11).trans M14)⟩⟩
 ·rw [if_neg (of_decide_eq_false e1),if_neg (of_decide_eq_false e2),if_neg (of_decide_eq_false e3),if_neg (of_decide_eq_false e4),if_neg (of_decide_eq_false e5),if_pos (of_decide_eq_true e)] at hK
  have jl:=joinP_le 12 x y s2
  exact sumK fun a c h11 D11 N11 M11=>⟨_,_,_,rfl,reader_join_ok D11 (N7.mut D.al M11).s N11.s kw (by omega) (by omega) fun a c h14 D14 N14 M14=>⟨_,_,_,rfl,reader_join_ok D14 N14.s (nd_nil h14 h14).s wf_nil (by omega) (by simp) fun a c h17 D17 N17 M17=>⟨_,_,_,rfl,hK a c h17 D17 (N17.base (((M07.trans M11).trans M14).up D14.al)) (((M07.trans M11).trans M14).trans M17)⟩⟩⟩
 ·rw [if_neg (of_decide_eq_false e1),if_neg (of_decide_eq_false e2),if_neg (of_decide_eq_false e3),if_neg (of_decide_eq_false e4),if_neg (of_decide_eq_false e5),if_neg (of_decide_eq_false e6),if_pos (of_decide_eq_true e)] at hK
  intro b61 hb61 h62
  have l62:h7.le h62:=Hp.le_set (Hp.le_refl h7) hb61 _
  have g3:=goes_is S7.good [wNot]
  refine reader_is_ok (D7.le l62) (slb_one h7 b61 wNot) (by decide) (by have:=S7.big;omega) fun h64 D64 M64=>⟨_,rfl,?_⟩
  have M64':Mut (At g) h7 (At g) h64:=(Mut.of_le l62).trans M64
  have S8:=S7.goes g3
  generalize s1.is [wNot]=C at *
  obtain⟨v,s3⟩:=C
  simp -zeta only at hK D64 S8 ⊢
  refine reader_must_ok D64 (by have:=S8.big;omega) fun h67 D67 M67=>⟨rfl,?_⟩
  have M67':=M64'.trans M67
  refine reader_join_ok D67 (N7.mut D.al M67').s (nd_nil h67 h67).s wf_nil (by omega) (by simp) fun a c h69 D69 N69 M69=>⟨_,_,_,rfl,?_⟩
  have jl:=joinP_le 5 x [] (s3.must wNull)
  refine⟨_,rd_neBs (b:=[]),fun q=>?_,fun q=>?_⟩
  ·have q:v≠[]:=by simpa using q
   rw [if_pos q] at hK
   exact reader_join_ok D69 N69.s (nd_nil h69 h69).s wf_nil (Nat.le_trans jl (by decide)) (by simp) fun a c h73 D73 N73 M73=>⟨_,_,_,rfl,hK a c h73 D73 (N73.base (((M07.trans M67').trans M69).up D69.al)) (((M07.trans M67').trans M69).trans M73)⟩
  ·have q:¬ v≠[]:=by simpa using q
   rw [if_neg q] at hK
   exact hK a c h69 D69 (N69.base ((M07.trans M67').up D67.al)) ((M07.trans M67').trans M69)
 ·rw [if_neg (of_decide_eq_false e1),if_neg (of_decide_eq_false e2),if_neg (of_decide_eq_false e3),if_neg (of_decide_eq_false e4),if_neg (of_decide_eq_false e5),if_neg (of_decide_eq_false e6),if_neg (of_decide_eq_false e7)] at hK
  exact hK _ _ h7 D7 N7 M07
def wordsN (h:Hp)(g:Nat):Nat:=match h.cell g 0 with|some (.slice _ n _)=>n|_=>0
theorem RdAt.wn {h0 h:Hp}{g:Nat}{s:RS}(D:RdAt h0 h g s):wordsN h g=s.ws.length:=by
 obtain⟨a,c,e⟩:=D.c0
 unfold wordsN
 rw [e]
theorem reader_row_ok {f:FuncId}{P:Ps}{n:Nat}(B:Bodied f)(F:Reads f P n)(kp:KP P n){ops:List (Wd × Int)}(ho:∀ q ∈ ops,Opr q.2)(hne:∀ q ∈ ops,q.1≠[])(hol:ops.length≤100){h0 h:Hp}{g:Nat}{s:RS}(D:RdAt h0 h g s)(E:EnvQ h0 h g)(S:SOk n s){y:Value}{wa:Option Addr}{wn wc:Nat}(W:ElAt encB h g wa wn (ops.map (·.1)))
  (hop:∀ h',Mut (At g) h (At g) h'→∀ w ∈ ops.map (·.1),Rd Tryz.prog (Instr.lookup 199 y (vs (bs w)) false) h' (vi (opOf ops w)))
  {R:Value→Hp→Prop} (hK:∀ a c h',RdAt h0 h' g (rowP P ops s).2→NdAt h h' a (rowP P ops s).1.length (rowP P ops s).1→Mut (At g) h (At g) h'→R (vsl a (rowP P ops s).1.length c) h'):CallOK Tryz.prog 131 [vhp g 0,.func (.func f) #[vhp g 0] #[],y,vsl wa wn wc] h R:=by
 refine ok_query_reader_row ?_
 unfold VC_query_reader_row
 have k:=kp s S.good (Nat.le_of_lt S.len)
 have Sx:=S.goes k.goes
 have kx:=k.wf
 have kl:=k.le
 have kp1:=k.pos
 unfold rowP at hK
 have hwn:wn=ops.length:=by have:=W.s.1;simpa using this
 refine inv_of B (F D E S fun a3 c3 h2 D2 N2 M2=>⟨_,_,_,rfl,?_⟩)
 generalize P s=X at *
 obtain⟨x0,s0⟩:=X
 simp -zeta only at hK D2 N2 Sx kx kl kp1 ⊢
 intro J26
 refine⟨fun vs' hh=>∃(k:Nat) (x:List Nd) (t:RS) (a:Option Addr) (c:Nat),vs'=[vsl a x.length c]∧RdAt h0 hh g t∧NdAt h hh a x.length x∧Mut (At g) h (At g) hh∧SOk n t∧1≤x.length∧x.length≤40∧WfL x∧t.ws.length < k∧rowL P ops k x t=rowL P ops (s0.ws.length+1) x0 s0,fun _ hh=>wordsN hh g,⟨_,x0,s0,a3,c3,rfl,D2,N2,M2,Sx,kp1,kl,kx,Nat.lt_succ_self _,rfl⟩,?_⟩
 rintro vs' hh ⟨k,x,t,a,c,rfl,Dt,Nt,Mt,St,hx1,hx,Wx,hk,hrow⟩
 obtain⟨k,rfl⟩:∃ j,k=j+1:=⟨k - 1,by omega⟩
 rw [rowL] at hrow
 refine⟨_,_,_,rfl,_,Dt.c2,fun e=>?_,fun e=>?_⟩
 ·have f0:¬ t.f≠0:=by rw [errV_none] at e;simpa using e
  rw [if_neg f0] at hrow
  have gi:=goes_is St.good (ops.map (·.1))
  have gm:=@is_mem t (ops.map (·.1))
  have tk:=@taken t (ops.map (·.1))
  have hDt:=Dt.wn
  refine reader_is_ok Dt (W.mut Mt).s (by omega) (by have:=St.big;omega) fun h14 D14 M14=>⟨_,rfl,?_⟩
  have M014:=Mt.trans M14
  simp only at hrow
  generalize t.is (ops.map (·.1))=A at *
  obtain⟨w,s1⟩:=A
  simp -zeta only at hrow D14 gi gm tk ⊢
  have S1:=St.goes gi
  refine⟨_,rd_eqBs (b:=[]),fun e=>?_,fun e=>?_⟩
  ·rw [if_pos (of_decide_eq_true e)] at hrow
   rw [←hrow] at hK
   exact hK _ _ h14 D14 (Nt.mut D.al M14) M014
  ·have ew:=of_decide_eq_false e
   rw [if_neg ew] at hrow
   have hop':=opOf_opr ho (gm ew)
   have kn:=kp s1 S1.good (Nat.le_of_lt S1.len)
   have tk:=tk ew
   refine⟨_,hop h14 M014 w (gm ew),inv_of B (F D14 (E.mut M014) S1 fun a22 c22 h21 D21 N21 M21=>⟨_,_,_,rfl,hop h21 (M014.trans M21) w (gm ew),?_⟩)⟩
   generalize opOf ops w=op at *
   have kj:Keeps (joinP op x (P s1).1 (P s1).2) t:=keeps_join hop' (gi.trans kn.goes) Wx kn.wf hx1 (fun _=>kn.pos)
   have kn1:=kn.wf
   have kn2:=kn.le
   have kn3:=kn.len
   have kj2:(joinP op x (P s1).1 (P s1).2).2.ws.length≤(P s1).2.ws.length:=by
    unfold joinP
    split
    ·exact Nat.zero_le _
    ·exact Nat.le_refl _
   generalize P s1=Y at *
   obtain⟨y1,s2⟩:=Y
   simp -zeta only at hrow D21 N21 kj kn1 kn2 kn3 kj2 ⊢
   refine reader_join_ok D21 ((Nt.mut D.al M14).mut D.al M21).s N21.s kn1 (by omega) (by omega) fun a25 c25 h24 D24 N24 M24=>⟨_,_,_,rfl,⟨k,_,_,a25,c25,rfl,D24,N24.base ((M014.trans M21).up D21.al),(M014.trans M21).trans M24,St.goes kj.goes,kj.pos,kj.le,kj.wf,by omega,hrow⟩,?_⟩
   have h24n:=D24.wn
   show wordsN h24 g < wordsN hh g
   omega
 ·have f0:t.f≠0:=by rw [errV_none] at e;simpa using e
  rw [if_pos f0] at hrow
  rw [←hrow] at hK
  exact hK _ _ hh Dt Nt Mt
theorem rd_mapS {h:Hp}{b:Nat}{es:Array MapEntry}{clock:Nat}(hb:h b=some (.map es clock)){w:Wd}{x:Int}{i:Nat}(hf:Instr.findNow .string (vs (bs w)) es.toList 0=some (some (i,vi x))):Rd Tryz.prog (Instr.lookup 199 (.map (some b)) (vs (bs w)) false) h (vi x):=
 rd_lookup (k:=9) (e:=3) (d:=.string) (by kernel_rfl) (by kernel_rfl) hb trivial hf
theorem sem_mapS {h:Hp}{b:Nat}{es:Array MapEntry}{clock:Nat}(hb:h b=some (.map es clock)){w:Wd}{x:Int}(hf:Instr.findNow .string (vs (bs w)) es.toList 0=some none){K:Hp→Prop}(hK:K (h.set b (.map (es.push { key:=vs (bs w),val:=vi x,born:=clock }) (clock+1)))):SemOKu Tryz.prog (Instr.mapUpdate 199 (.map (some b)) (vs (bs w)) (vi x)) h K:=
 sem_mapNew (k:=9) (e:=3) (d:=.string) (key:=vs (bs w)) (by kernel_rfl) (by kernel_rfl) hb trivial hf hK
theorem reader_one_ok {f:FuncId}{P:Ps}{n:Nat}(B:Bodied f)(F:Reads f P n)(kp:KP P n){w:Wd}{op:Int}(ho:Opr op)(hw:w≠[]){h0 h:Hp}{g:Nat}{s:RS}(D:RdAt h0 h g s)(E:EnvQ h0 h g)(S:SOk n s){R:Value→Hp→Prop}(hK:∀ a c h',RdAt h0 h' g (rowP P [(w,op)] s).2→NdAt h h' a (rowP P [(w,op)] s).1.length (rowP P [(w,op)] s).1→Mut (At g) h (At g) h'→R (vsl a (rowP P [(w,op)] s).1.length c) h') :
  SemOK Tryz.prog (Instr.makeMap 199 none) h fun v1 h2=>∃(y3:Value),v1=y3∧(SemOKu Tryz.prog (Instr.mapUpdate 199 y3 (vs (bs w)) (vi op)) h2 fun h4=>(∀(b5:Nat),h4 b5=none→let h6:Hp:=Hp.set h4 b5 (cellsO [(vs (bs w))] 9);(CallOK Tryz.prog 131 [(vhp g 0),(Value.func (.func f) #[(vhp g 0)] #[]),y3,(vsl (some (⟨b5,0,none⟩:Addr)) 1 1)] h6 fun v7 h8=>∃(a9:Option Addr) (n9 c9:Nat),v7=(vsl a9 n9 c9)∧R (vsl a9 n9 c9) h8))):=by
 refine sem_makeMap fun b hb=>⟨_,rfl,?_⟩
 refine sem_mapS (Hp.set_same _ _ _) rfl ?_
 intro b5 hb5 h6
 have hbg:b≠g:=fun e=>by rw [e] at hb;exact D.al hb
 have l1:h.le (h.set b (.map #[] 0)):=Hp.le_set (Hp.le_refl h) hb _
 rw [Hp.set_set] at hb5
 have l2:h.le h6:=by
  have:h6=(h.set b (.map (#[].push { key:=vs (bs w),val:=vi op,born:=0 }) (0+1))).set b5 (cellsO [vs (bs w)] 9):=by
   show ((h.set b _).set b _).set b5 _=_
   rw [Hp.set_set]
  rw [this]
  exact Hp.le_trans (Hp.le_set (Hp.le_refl h) hb _) (Hp.le_set (Hp.le_refl _) hb5 _)
 have hb6:h6 b=some (.map (#[].push { key:=vs (bs w),val:=vi op,born:=0 }) (0+1)):=by
  have hne:b≠b5:=fun e=>by rw [e,Hp.set_same] at hb5;cases hb5
  show (((h.set b _).set b _).set b5 _) b=_
  rw [Hp.set_other _ _ hne,Hp.set_same]
 have D6:=D.le l2
 have hb5g:b5≠g:=fun e=>by
  subst e
  have:(h.set b (.map (#[].push { key:=vs (bs w),val:=vi op,born:=0 }) (0+1))) b5≠none:=by rw [Hp.set_other _ _ hbg.symm];exact D.al
  exact this hb5
 refine reader_row_ok B F kp (ops:=[(w,op)]) (by simpa using ho) (by simpa using hw) (by simp) D6 (E.mut (Mut.of_le l2)) S ⟨slb_one _ b5 w,fun b' o e=>by cases e;exact hb5g⟩ (fun h' M w' hw'=>?_) fun a c h' D' N' M'=>⟨_,_,_,rfl,?_⟩
 ·have e:w'=w:=by simpa using hw'
  subst e
  have ho:opOf [(w',op)] w'=op:=by simp [opOf]
  rw [ho]
  have hm:h' b=_:=M.keep b _ (fun e=>hbg e) hb6
  refine rd_mapS hm (i:=0) ?_
  show Instr.findNow .string (vs (bs w')) [{ key:=vs (bs w'),val:=vi op,born:=0 }] 0=_
  simp [Instr.findNow,Instr.sameNow,(Go.MapKept.bytes_beq (bs w') (bs w')).2 rfl]
 ·exact hK a c h' D' (N'.base (le_up l2)) ((Mut.of_le l2).trans M')
theorem reader_product_ok {P:Ps}{n:Nat}(F:Reads 207 P n)(kp:KP P n):Reads 203 (rowP P [(wStar,8)]) n:=by
 intro h0 h g s D E S R hK
 refine ok_query_reader_product ?_
 unfold VC_query_reader_product
 exact reader_one_ok ⟨_,Tryz.func207,by kernel_rfl,by kernel_rfl⟩ F kp (by decide) (by decide) D E S hK
theorem reader_and_ok {P:Ps}{n:Nat}(F:Reads 166 P n)(kp:KP P n):Reads 132 (rowP P [(wAnd,9)]) n:=by
 intro h0 h g s D E S R hK
 refine ok_query_reader_and ?_
 unfold VC_query_reader_and
 exact reader_one_ok ⟨_,Tryz.func166,by kernel_rfl,by kernel_rfl⟩ F kp (by decide) (by decide) D E S hK
theorem reader_or_ok {P:Ps}{n:Nat}(F:Reads 132 P n)(kp:KP P n):Reads 84 (rowP P [(wOr,10)]) n:=by
 intro h0 h g s D E S R hK
 refine ok_query_reader_or ?_
 unfold VC_query_reader_or
 exact reader_one_ok ⟨_,Tryz.func132,by kernel_rfl,by kernel_rfl⟩ F kp (by decide) (by decide) D E S hK
theorem reader_sum_ok {P:Ps}{n:Nat}(F:Reads 203 P n)(kp:KP P n):Reads 197 (rowP P [(wPlus,6),(wMinus,7)]) n:=by
 intro h0 h g s D E S R hK
 refine ok_query_reader_sum ?_
 unfold VC_query_reader_sum
 refine sem_makeMap fun b hb=>⟨_,rfl,?_⟩
 refine sem_mapS (w:=wPlus) (Hp.set_same _ _ _) rfl ?_
 refine sem_mapS (w:=wMinus) (Hp.set_same _ _ _) rfl ?_
 rw [Hp.set_set,Hp.set_set]
 generalize hM:Obj.map _ _=ob
 intro b5 hb5 h6
 have hbg:b≠g:=fun e=>by rw [e] at hb;exact D.al hb
 have l2:h.le h6:=Hp.le_trans (Hp.le_set (Hp.le_refl h) hb _) (Hp.le_set (Hp.le_refl _) hb5 _)
 have hb6:h6 b=some ob:=by
  have hne:b≠b5:=fun e=>by rw [e,Hp.set_same] at hb5;cases hb5
  show ((h.set b _).set b5 _) b=_
  rw [Hp.set_other _ _ hne,Hp.set_same]
 have D6:=D.le l2
 have hb5g:b5≠g:=fun e=>by
  subst e
  have:(h.set b ob) b5≠none:=by rw [Hp.set_other _ _ hbg.symm];exact D.al
  exact this hb5
 refine reader_row_ok ⟨_,Tryz.func203,by kernel_rfl,by kernel_rfl⟩ F kp (ops:=[(wPlus,6),(wMinus,7)]) (by decide) (by decide) (by simp) D6 (E.mut (Mut.of_le l2)) S ⟨slb_lit _ b5 [wPlus,wMinus] (by decide),fun b' o e=>by cases e;exact hb5g⟩ (fun h' M w' hw'=>?_) fun a c h' D' N' M'=>⟨_,_,_,rfl,?_⟩
 ·have hm:h' b=some ob:=M.keep b _ (fun e=>hbg e) hb6
  rw [←hM] at hm
  have e:w'=wPlus∨w'=wMinus:=by simpa using hw'
  rcases e with rfl|rfl
  ·exact rd_mapS hm (i:=0) rfl
  ·exact rd_mapS hm (i:=1) rfl
 ·exact hK a c h' D' (N'.base (le_up l2)) ((Mut.of_le l2).trans M')
theorem reads_step {t:Three}{n:Nat}(h:KP t.o n∧KP t.n n∧KP t.u n)(H:Reads 84 t.o n∧Reads 166 t.n n∧Reads 207 t.u n):Reads 84 (orS t) (n+1)∧Reads 166 (notS t) (n+1)∧Reads 207 (unS t) (n+1):=by
 obtain⟨k1,k2,k3,k4,k5,k6,k7⟩:=keeps_S h
 have h1:Reads 207 (unS t) (n+1):=reader_unary_ok H.2.2 h.2.2 (reader_atom_ok H.1 h.1)
 have h2:Reads 203 (prodS t) (n+1):=reader_product_ok h1 k3
 have h3:Reads 197 (sumS t) (n+1):=reader_sum_ok h2 k4
 have h4:Reads 186 (cmpS t) (n+1):=reader_compare_ok h3 k5
 have h5:Reads 166 (notS t) (n+1):=reader_not_ok H.2.1 h.2.1 h4
 have h6:Reads 132 (andS t) (n+1):=reader_and_ok h5 k2
 exact⟨reader_or_ok h6 k7,h5,h1⟩
theorem reads_none (f:FuncId)(P:Ps):Reads f P 0:=by
 intro h0 h g s D E S R hK
 exact absurd S.len (Nat.not_lt_zero _)
theorem reads_all (n:Nat):Reads 84 (allP n).o n∧Reads 166 (allP n).n n∧Reads 207 (allP n).u n:=by
 induction n with
 | zero=>exact⟨reads_none _ _,reads_none _ _,reads_none _ _⟩
 | succ n ih=>rw [allP_succ];exact reads_step (keeps_all n) ih
theorem is_one {s:RS}{w:Wd}(hw:w≠[])(h:(s.is [w]).1=[]):(s.is [w]).2=s:=by
 rcases s.is_spec [w] with ⟨_,q⟩|⟨w',r,_,hm,q,_⟩
 ·exact q
 ·rw [h] at q
  rw [←q] at hm
  exact absurd (List.mem_singleton.1 hm).symm hw
theorem reader_optional_ok {n:Nat}{h0 h:Hp}{g:Nat}{s:RS}(D:RdAt h0 h g s)(E:EnvQ h0 h g)(S:SOk n s){w:Wd}(hw:w≠[]){d:Int}{R:Value→Hp→Prop}(hK:∀ h',RdAt h0 h' g (optN w d s).2→Mut (At g) h (At g) h'→R (vi (optN w d s).1) h'):CallOK Tryz.prog 86 [vhp g 0,vs (bs w),vi d] h R:=by
 refine ok_query_reader_optional ?_
 unfold VC_query_reader_optional
 intro b1 hb1 h2
 have hl:h.le h2:=Hp.le_set (Hp.le_refl h) hb1 _
 have hb:=S.big
 have io:=@is_one s w hw
 have gi:=goes_is S.good [w]
 unfold optN at hK
 refine reader_is_ok (D.le hl) (slb_one h b1 w) (by decide) (by omega) fun h4 D4 M4=>⟨_,rfl,?_⟩
 have M04:Mut (At g) h (At g) h4:=(Mut.of_le hl).trans M4
 refine⟨_,rd_eqBs (b:=[]),fun e=>?_,fun e=>?_⟩
 ·have e:=of_decide_eq_true e
  rw [if_pos e] at hK
  rw [io e] at D4
  exact hK h4 D4 M04
 ·have e:=of_decide_eq_false e
  rw [if_neg e] at hK
  exact reader_number_ok D4 (E.mut M04) (by have:=gi.len;omega) (by decide) (by decide) fun h9 D9 M9=>⟨_,rfl,hK h9 D9 (M04.trans M9)⟩
theorem idx_aggs {w:Wd}(h:w ∈ [[],wCount,wSum,wMin,wMax]):w ∈ aggsW∧(aggsW.idxOf w:Int)=aggKind w:=by
 have h2:w=[]∨w=wCount∨w=wSum∨w=wMin∨w=wMax:=by simpa using h
 rcases h2 with rfl|rfl|rfl|rfl|rfl<;>exact⟨by decide,by decide⟩
theorem reader_agg_ok {P:Ps}{n:Nat}(F:Reads 84 P n)(kp:KP P n){h0 h:Hp}{g:Nat}{s:RS}(D:RdAt h0 h g s)(E:EnvQ h0 h g)(S:SOk n s){R:Value→Hp→Prop}(hK:∀ a c h',RdAt h0 h' g (aggP P s).2→NdAt h h' a (aggP P s).1.2.length (aggP P s).1.2→Mut (At g) h (At g) h'→R (vag [vi (aggP P s).1.1,vsl a (aggP P s).1.2.length c]) h'):CallOK Tryz.prog 82 [vhp g 0] h R:=by
 refine ok_query_reader_agg ?_
 unfold VC_query_reader_agg
 intro b1 hb1 h2
 have hl:h.le h2:=Hp.le_set (Hp.le_refl h) hb1 _
 have hb:=S.big
 have gi:=goes_is S.good [wCount,wSum,wMin,wMax]
 have gm:=@is_mem s [wCount,wSum,wMin,wMax]
 unfold aggP at hK
 simp only at hK
 refine reader_is_ok (D.le hl) (slb_lit h b1 [wCount,wSum,wMin,wMax] (by decide)) (by decide) (by omega) fun h4 D4 M4=>⟨_,rfl,?_⟩
 have M04:Mut (At g) h (At g) h4:=(Mut.of_le hl).trans M4
 generalize s.is [wCount,wSum,wMin,wMax]=B at *
 obtain⟨w,s1⟩:=B
 simp -zeta only at hK D4 gi gm ⊢
 have S1:=S.goes gi
 have hwm:w ∈ [[],wCount,wSum,wMin,wMax]:=by
  by_cases e:w=[]
  ·rw [e];simp
  ·exact List.mem_cons_of_mem _ (gm e)
 obtain⟨hwa,hwi⟩:=idx_aggs hwm
 refine⟨_,rd_eqBs (b:=[]),?_⟩
 intro J11
 have hJ:∀(h12:Hp) (t:RS),t=(if w=[] then s1.fail 4 else s1)→RdAt h0 h12 g t→Mut (At g) h (At g) h12→Goes t s→J11 h12:=by
  intro h12 t ht D12 M12 Gt
  rw [←ht] at hK
  clear ht
  have St:=S.goes Gt
  refine reader_must_ok D12 (by have:=St.big;omega) fun h14 D14 M14=>⟨rfl,?_⟩
  have M014:=M12.trans M14
  have E14:=E.mut M014
  have G2:=Gt.trans (goes_must Gt.ok wOpen)
  obtain⟨qa,qc,hq,hqs⟩:=E14.now.a
  refine⟨_,_,_,hq,slices_Index_ok hqs (by decide) ⟨_,rfl,?_⟩⟩
  rw [if_pos hwa,hwi]
  have D14:RdAt h0 h14 g (t.must wOpen):=D14
  generalize t.must wOpen=s2 at *
  have S2:=S.goes G2
  intro J56
  have fin:∀(k:Int) (a:Option Addr) (c:Nat) (h66:Hp) (l:List Nd) (u:RS),RdAt h0 h66 g u→NdAt h h66 a l.length l→Mut (At g) h (At g) h66→SOk n u→(∀ a c h',RdAt h0 h' g (u.must wClose)→NdAt h h' a l.length l→Mut (At g) h (At g) h'→R (vag [vi k,vsl a l.length c]) h')→J56 k a l.length c h66:=by
   intro k a c h66 l u D66 N66 M66 Su hR
   exact reader_must_ok D66 (by have:=Su.big;omega) fun h68 D68 M68=>⟨rfl,hR a c h68 D68 (N66.mut D.al M68) (M66.trans M68)⟩
  clear_value J56
  have orK:∀{h26:Hp} (k:Int),RdAt h0 h26 g s2→Mut (At g) h (At g) h26→(∀ a c h',RdAt h0 h' g ((P s2).2.must wClose)→NdAt h h' a (P s2).1.length (P s2).1→Mut (At g) h (At g) h'→R (vag [vi k,vsl a (P s2).1.length c]) h')→CallOK Tryz.prog 84 [vhp g 0] h26 fun v31 h32=>∃(a33:Option Addr) (n33 c33:Nat),v31=vsl a33 n33 c33∧J56 k a33 n33 c33 h32:=by
   intro h26 k D26 M26 hR
   have k2:=kp s2 S2.good (Nat.le_of_lt S2.len)
   exact F D26 (E.mut M26) S2 fun a c h' D' N' M'=>⟨_,_,_,rfl,fin k a c h' _ _ D' (N'.base (M26.up D26.al)) (M26.trans M') (S2.goes k2.goes) hR⟩
  refine⟨_,rd_eqBs (b:=wCount),fun e=>?_,fun e=>?_⟩
  ·have ew:w=wCount:=of_decide_eq_true e
   have hk1:aggKind w=1:=by rw [ew];rfl
   intro b20 hb20 h21
   have l21:h14.le h21:=Hp.le_set (Hp.le_refl h14) hb20 _
   have M21:=M014.trans (Mut.of_le l21)
   have gi2:=goes_is S2.good [wStar]
   have io:=@is_one s2 wStar (by decide)
   refine⟨fun x hh=>x=.t (.one (.v (vs (bs (s2.is [wStar]).1))))∧RdAt h0 hh g (s2.is [wStar]).2∧Mut (At g) h (At g) hh,fun _=>reader_is_ok (D14.le l21) (slb_one h14 b20 wStar) (by decide) (by have:=S2.big;omega) fun h24 D24 M24=>⟨_,rfl,rfl,D24,M21.trans M24⟩,fun q=>absurd e q,?_⟩
   rintro h26 s27 ⟨e27,D26,M26⟩
   cases e27
   generalize s2.is [wStar]=C at *
   obtain⟨v,s3⟩:=C
   simp only at hK D26 gi2 io ⊢
   refine⟨_,fun _=>rd_neBs (b:=[]),fun q=>?_,fun q=>?_⟩
   ·have q2:v≠[]:=by simpa [ew] using q
    rw [if_pos ⟨ew,q2⟩] at hK
    rw [hk1]
    exact fin 1 none 0 h26 [] s3 D26 (nd_nil _ _) M26 (S2.goes gi2) hK
   ·have q2:v=[]:=by simpa [ew] using q
    rw [if_neg (by rintro⟨_,h⟩;exact h q2),if_pos ew] at hK
    rw [io q2] at D26
    refine⟨_,rd_eqBs (b:=wCount),fun q3=>orK 2 D26 M26 hK,fun q3=>absurd ew (of_decide_eq_false q3)⟩
  ·have e0:¬ w=wCount:=fun h=>e (decide_eq_true h)
   rw [if_neg (by rintro⟨h,_⟩;exact e0 h),if_neg e0] at hK
   refine⟨fun x hh=>x=.t (.one (.v (vs ⟨#[]⟩)))∧hh=h14,fun q=>absurd q e,fun _=>⟨rfl,rfl⟩,?_⟩
   rintro h43 s44 ⟨e43,rfl⟩
   cases e43
   refine⟨false,fun q=>absurd q e,fun q=>by simp at q,fun _=>?_⟩
   refine⟨_,rd_eqBs (b:=wCount),fun q3=>absurd (of_decide_eq_true q3) e0,fun q3=>orK (aggKind w) D14 M014 hK⟩
 clear_value J11
 refine⟨fun e=>?_,fun e=>?_⟩
 ·have e:=of_decide_eq_true e
  exact reader_fail_ok D4 (by decide) fun h8 D8 M8=>⟨rfl,hJ h8 _ (by rw [if_pos e]) D8 (M04.trans M8) (gi.trans (goes_fail _ _))⟩
 ·have e:=of_decide_eq_false e
  exact hJ h4 _ (by rw [if_neg e]) D4 M04 gi
theorem elAgg:ElT Tryz.prog 25 86 2 32:=.of (by kernel_rfl) (by kernel_rfl) (by decide)
abbrev AggB (G:Nat→Prop):=GTabB encN aggRw 2 86 G
theorem RdAt.keep {h0 h h':Hp}{g:Nat}{s:RS}(D:RdAt h0 h g s)(hb:h' g=h g)(l:h0.le h'):RdAt h0 h' g s:=by
 obtain⟨a,c,hb',hS,hc⟩:=D.b
 exact⟨⟨a,c,hb.trans hb',hS,hc⟩,l,D.n,D.w⟩
theorem agg_app {h0 hB h1:Hp}{g:Nat}{a:Option Addr}{c:Nat}{L:List Ag}{s:RS}(B:AggB (At g) h0 h1 a c L)(D:RdAt h0 h1 g s)(hBg:hB g≠none)(hBa:∀ b,a=some ⟨b,0,none⟩→hB b≠none){k:Int}{a2:Option Addr}{c2:Nat}{l:List Nd}(N:NdAt hB h1 a2 l.length l)(hL:L.length≤1000)
  {b:Nat} (hb:h1 b=none) {K:Value→Hp→Prop} (hK:∀ a' c' h',AggB (At g) h0 h' a' c' (L++[(k,l)])→RdAt h0 h' g s→K (vsl a' (L.length+1) c') h') :
  SemOK Tryz.prog (Builtin.append_ #[25,25] 25 #[vsl a L.length c,vsl (some ⟨b,0,none⟩) 1 1]) (h1.set b (cellsO [vi k,vsl a2 l.length c2] 86)) K:=by
 refine B.app (x:=k) (c2:=c2) elAgg (Hp.le_refl h1) (fun b' e=>by rw [show b'=g from e];exact hBg) hBa N.s.2 N.nw ?_ rfl (fun b' e=>by rw [show b'=g from e];exact D.al) (by omega) (by omega) hb fun a' c' h' B' hk=>hK a' c' h' B' ?_
 ·intro u hu
  have:u=vi k∨u=vsl a2 l.length c2:=by simpa [aggRw] using hu
  rcases this with rfl|rfl<;>rfl
 ·obtain⟨o,ho⟩:∃ o,h1 g=some o:=by
   cases e:h1 g with
   | none=>exact absurd e D.al
   | some o=>exact⟨o,rfl⟩
  exact D.keep ((hk g o ho (B.ne rfl)).trans ho.symm) B'.le0
theorem noQ_at (h:Hp):QAt h noQ none 0 none 0 none 0:=⟨⟨[],rfl,rfl,.inl rfl,fun r hr=>by cases hr⟩,⟨rfl,.inl rfl⟩,⟨rfl,.inl rfl⟩⟩
set_option maxHeartbeats 1000000 in
theorem query_Parse_ok {l:List UInt8}{h:Hp}(T:TabQ h){R:Value→Hp→Prop}(hK:∀ a1 n1 c1 a2 n2 c2 a3 n3 c3 h',h.le h'→QAt h' (parseQ l).1 a1 n1 a2 n2 a3 n3→R (vtup [qV a1 n1 c1 a2 n2 c2 a3 n3 c3 (parseQ l).1,ifv (errV (parseQ l).2)]) h'):CallOK Tryz.prog 40 [vs (bs l)] h R:=by
 refine ok_query_Parse ?_
 unfold VC_query_Parse
 refine lexer_Words_ok fun wa wn wc h2 O=>⟨_,_,_,_,rfl,?_⟩
 have lw:=wordsL_words l
 have l02:=O.le
 unfold parseQ at hK
 generalize wordsL l=WW at *
 obtain⟨W,fw⟩:=WW
 simp only at hK lw O
 show (Option.isSome (errV fw)=true→R (vtup [qV none 0 0 none 0 0 none 0 0 noQ,ifv (errV fw)]) h2)∧(Option.isSome (errV fw)=false→_)
 rw [errV_some]
 refine⟨fun e=>?_,fun e=>?_⟩
 ·have e2:fw≠0:=by simpa using e
  rw [if_pos e2] at hK
  exact hK none 0 0 none 0 0 none 0 0 h2 l02 (noQ_at h2)
 have e2:¬ fw≠0:=by simpa using e
 rw [if_neg e2] at hK
 clear e e2
 have hS:=O.slp encB_len (by decide)
 obtain rfl:=hS.1
 intro b6 hb6 h7
 have l7:h2.le h7:=Hp.le_set (Hp.le_refl h2) hb6 _
 have D7:RdAt h2 h7 b6 ⟨W,0,0⟩:=⟨⟨wa,wc,Hp.set_same _ _ _,hS,O.own.cap⟩,l7,hb6,fun x hx=>Nat.le_trans (lw.2 x hx) (by decide)⟩
 have E7:EnvQ h2 h7 b6:=⟨T.le l02,l7,hb6⟩
 have F:Reads 84 (allP (W.length+1)).o (W.length+1):=(reads_all (W.length+1)).1
 have kp:=(keeps_all (W.length+1)).1
 have g0:(⟨W,0,0⟩:RS).good:=fun h=>absurd rfl h
 have S7:SOk (W.length+1) ⟨W,0,0⟩:=⟨g0,Nat.lt_succ_self _,by show W.length≤1000;omega,Int.le_refl _,by show (0:Int)+(W.length:Int)≤1000000;omega⟩
 have hAll:=allA_ok W
 unfold parseW at hK
 rw [readQ_eq] at hK
 unfold allA firstA at hK hAll
 generalize (allP (W.length+1)).o=o at *
 have G1:=goes_must g0 wSelect
 refine reader_must_ok D7 (by show W.length≤1000000;omega) fun h9 D9 M9=>⟨rfl,?_⟩
 have D9:RdAt h2 h9 b6 ((⟨W,0,0⟩:RS).must wSelect):=D9
 generalize (⟨W,0,0⟩:RS).must wSelect=s1 at *
 have S9:=S7.goes G1
 have G2:=goes_agg kp S9.good (Nat.le_of_lt S9.len)
 have hs1:s1.ws.length≤80:=Nat.le_trans G1.len lw.1
 refine reader_agg_ok F kp D9 (E7.mut M9) S9 fun a13 c13 h11 D11 N11 M11=>⟨_,_,_,_,rfl,?_⟩
 generalize aggP o s1=A at *
 obtain⟨⟨k1,l1⟩,s2⟩:=A
 simp -zeta only at hK D11 N11 G2 hAll ⊢
 have S11:=S9.goes G2.1
 have l11:h2.le h11:=D11.l
 intro b14 hb14 h15
 refine agg_app (L:=[]) (a:=none) (c:=0) (hB:=h9) (k:=k1) (GTabB.nil l11) D11 D9.al (fun b e=>by cases e) N11 (by decide) hb14 fun a18 c18 h17 B17 D17=>⟨_,_,_,rfl,?_⟩
 intro J48
 -- the rest, behind what is gathered
 have hRest:∀(L:List Ag) (t:RS) (a:Option Addr) (c:Nat) (hE:Hp),AggB (At b6) h2 hE a c L→RdAt h2 hE b6 t→SOk (W.length+1) t→aggsP o (s2.ws.length+1) [(k1,l1)] s2=(L,t)→L.length≤1000→J48 a L.length c none 0 0 none 0 0 hE:=by
  intro L t a c hE BE DE SE hL hLn
  rw [hL] at hK hAll
  simp only at hK hAll
  have EE:EnvQ h2 hE b6:=⟨E7.t,DE.l,hb6⟩
  have hgE:=DE.al
  have hG2:∀ b,At b6 b→h2 b=none:=fun b e=>by rw [show b=b6 from e];exact hb6
  have G3:=goes_must SE.good wFrom
  refine reader_must_ok DE (by have:=SE.big;omega) fun h261 D261 M261=>⟨rfl,?_⟩
  have D261:RdAt h2 h261 b6 (t.must wFrom):=D261
  have S261:=SE.goes G3
  have G4:=G3.trans (goes_must G3.ok wEvents)
  refine reader_must_ok D261 (by have:=S261.big;omega) fun h263 D263 M263=>⟨rfl,?_⟩
  have D263:RdAt h2 h263 b6 ((t.must wFrom).must wEvents):=D263
  have ME:=M261.trans M263
  have S263:=SE.goes G4
  unfold restQ at hK
  generalize (t.must wFrom).must wEvents=t2 at *
  clear G3 D261 S261
  intro b264 hb264 h265
  have l265:h263.le h265:=Hp.le_set (Hp.le_refl h263) hb264 _
  have gi:=goes_is S263.good [wWhere]
  have io:=@is_one t2 wWhere (by decide)
  refine reader_is_ok (D263.le l265) (slb_one h263 b264 wWhere) (by decide) (by have:=S263.big;omega) fun h267 D267 M267=>⟨_,rfl,_,rd_neBs (b:=[]),?_⟩
  have D267:RdAt h2 h267 b6 (t2.is [wWhere]).2:=D267
  have M267':=(ME.trans (Mut.of_le l265)).trans M267
  intro J275
  have h275:∀(wh:List Nd) (aw:Option Addr) (cw:Nat) (u:RS) (h315:Hp),optP wWhere o t2=(wh,u)→RdAt h2 h315 b6 u→SOk (W.length+1) u→NdAt hE h315 aw wh.length wh→NdsOK wh→Mut (At b6) hE (At b6) h315→J275 aw wh.length cw h315:=by
   intro wh aw cw u h315 hw D315 S315 N315 Kw M315
   rw [hw] at hK
   simp only at hK
   unfold byQ at hK
   intro b316 hb316 h317
   have l317:h315.le h317:=Hp.le_set (Hp.le_refl h315) hb316 _
   have gi:=goes_is S315.good [wGroup]
   have io:=@is_one u wGroup (by decide)
   refine reader_is_ok (D315.le l317) (slb_one h315 b316 wGroup) (by decide) (by have:=S315.big;omega) fun h319 D319 M319=>⟨_,rfl,_,rd_neBs (b:=[]),?_⟩
   have D319:RdAt h2 h319 b6 (u.is [wGroup]).2:=D319
   have M319':=(M315.trans (Mut.of_le l317)).trans M319
   intro J329
   have h329:∀(by_:List Nd) (ab:Option Addr) (cb:Nat) (v:RS) (h354:Hp),optP wGroup (fun s=>o (s.must wBy)) u=(by_,v)→RdAt h2 h354 b6 v→SOk (W.length+1) v→NdAt hE h354 aw wh.length wh→NdAt hE h354 ab by_.length by_→NdsOK by_→Mut (At b6) hE (At b6) h354→J329 ab by_.length cb h354:=by
    intro by_ ab cb v h354 hv D354 S354 Nw N354 Kb M354
    rw [hv] at hK
    simp only at hK
    unfold endQ at hK
    simp only at hK
    have Ga:=goes_must S354.good wWindow
    refine reader_must_ok D354 (by have:=S354.big;omega) fun h356 D356 M356=>⟨rfl,?_⟩
    have D356:RdAt h2 h356 b6 (v.must wWindow):=D356
    have Sa:=S354.goes Ga
    generalize v.must wWindow=v1 at *
    have Gb:=goes_number Sa.good 1000
    refine reader_number_ok D356 (EE.mut (M354.trans M356)) (by have:=Sa.big;omega) (by decide) (by decide) fun h358 D358 M358=>⟨_,rfl,?_⟩
    have Sb:=Sa.goes Gb
    generalize v1.number 1000=Z at *
    obtain⟨z,v2⟩:=Z
    simp -zeta only at hK D358 Sb ⊢
    have Gc:=goes_optN Sb.good wSlide z
    refine reader_optional_ok (w:=wSlide) D358 (EE.mut ((M354.trans M356).trans M358)) Sb (by decide) fun h361 D361 M361=>⟨_,rfl,?_⟩
    have Sc:=Sb.goes Gc
    generalize optN wSlide z v2=Z at *
    obtain⟨sl,v3⟩:=Z
    simp -zeta only at hK D361 Sc ⊢
    have Gd:=goes_optN Sc.good wDelay 0
    refine reader_optional_ok (w:=wDelay) D361 (EE.mut (((M354.trans M356).trans M358).trans M361)) Sc (by decide) fun h364 D364 M364=>⟨_,rfl,?_⟩
    have Sd:=Sc.goes Gd
    generalize optN wDelay 0 v3=Z at *
    obtain⟨d,v4⟩:=Z
    simp -zeta only at hK D364 Sd ⊢
    have Ge:=goes_optN Sd.good wLate 0
    refine reader_optional_ok (w:=wLate) D364 (EE.mut ((((M354.trans M356).trans M358).trans M361).trans M364)) Sd (by decide) fun h367 D367 M367=>⟨_,rfl,?_⟩
    have Se:=Sd.goes Ge
    generalize optN wLate 0 v4=Z at *
    obtain⟨lt,v5⟩:=Z
    simp -zeta only at hK D367 Se ⊢
    have M367':=((((M354.trans M356).trans M358).trans M361).trans M364).trans M367
    have M36:=((((M356).trans M358).trans M361).trans M364).trans M367
    obtain⟨qa,qc,hq⟩:=D367.c0
    refine⟨_,D367.c2,_,_,_,fun _=>hq,?_⟩
    intro J374
    have h374:∀(h375:Hp) (y:RS),y.f=(if v5.f=0∧v5.ws≠[] then v5.fail 4 else v5).f→RdAt h2 h375 b6 y→Mut (At b6) h367 (At b6) h375→J374 h375:=by
     intro h375 y hy D375 M375
     rw [←hy] at hK
     have M375':=M367'.trans M375
     have BE2:AggB (At b6) h2 h375 a c L:=BE.keep hG2 M375'.keep
     have Nw2:=Nw.mut hgE (M36.trans M375)
     have N2:=N354.mut hgE (M36.trans M375)
     have QE:QAt h375 ⟨L,wh,by_,z,sl,d,lt⟩ a L.length aw wh.length ab by_.length:=⟨BE2.tab,Nw2.s,N2.s⟩
     refine⟨_,D375.c2,?_⟩
     intro J383
     have h383:∀(h384:Hp) (f:Int),h384.cell b6 (0+2)=some (ifv (errV f))→h.le h384→(f≠0→∀ h',h.le h'→R (vtup [qV none 0 0 none 0 0 none 0 0 noQ,ifv (errV f)]) h')→(f=0→R (vtup [qV a L.length c aw wh.length cw ab by_.length cb ⟨L,wh,by_,z,sl,d,lt⟩,ifv none]) h384)→J383 h384:=by
      intro h384 f hc lh hb hg
      refine⟨_,hc,fun e=>⟨_,hc,hc,?_⟩,fun e=>?_⟩
      ·rw [errV_some] at e
       exact hb (by simpa using e) h384 lh
      ·rw [errV_some] at e
       exact hg (by simpa using e)
     clear_value J383
     refine⟨fun e=>?_,fun e=>?_⟩
     ·rw [errV_none] at e
      have e:y.f=0:=of_decide_eq_true e
      rw [e,if_neg (fun h=>h rfl)] at hK
      have hbig:QBig ⟨L,wh,by_,z,sl,d,lt⟩:=⟨Nat.le_trans Kw.1 (by decide),Nat.le_trans Kb.1 (by decide),fun x hx=>Nat.le_trans (hAll x hx).1 (by decide),by show L.length≤1000000;omega⟩
      refine query_Check_ok (q:=⟨L,wh,by_,z,sl,d,lt⟩) (c1:=c) (c2:=cw) (c3:=cb) QE hbig fun h378 l378=>⟨errV (qryF ⟨L,wh,by_,z,sl,d,lt⟩),rfl,?_⟩
      refine(D375.le l378).put2 fun h380 D380 M380=>?_
      have lh:h.le h380:=Hp.le_trans l02 D380.l
      refine h383 h380 _ D380.c2 lh (fun hf h' l'=>?_) fun hf=>?_
      ·rw [if_pos hf] at hK
       exact hK none 0 0 none 0 0 none 0 0 h' l' (noQ_at h')
      ·rw [if_neg (fun h=>h hf)] at hK
       have M2:=(Mut.of_le l378).trans M380
       exact hK _ _ c _ _ cw _ _ cb h380 lh ⟨(BE2.keep hG2 M2.keep).tab,(Nw2.mut hgE M2).s,(N2.mut hgE M2).s⟩
     ·rw [errV_none] at e
      have e:y.f≠0:=of_decide_eq_false e
      rw [if_pos e] at hK
      refine h383 h375 y.f D375.c2 (Hp.le_trans l02 D375.l) (fun hf h' l'=>?_) fun hf=>absurd hf e
      exact hK none 0 0 none 0 0 none 0 0 h' l' (noQ_at h')
    clear_value J374
    have hcond:(bif Option.isNone (errV v5.f) then decide (((v5.ws.length:Nat):Int) > 0) else false)=decide (v5.f=0∧v5.ws≠[]):=by
     rw [errV_none,cand]
     refine decide_eq_decide.2 ?_
     rw [ne_eq,nil_len]
     constructor
     ·rintro⟨h1,h2⟩;exact⟨h1,by omega⟩
     ·rintro⟨h1,h2⟩;exact⟨h1,by omega⟩
    rw [hcond]
    refine⟨fun e=>?_,fun e=>?_⟩
    ·have e:=of_decide_eq_true e
     refine(D367.put2 (f:=4) fun h371 D371 M371=>h374 h371 _ ?_ D371 M371)
     rw [if_pos e]
     unfold RS.fail
     rw [if_pos e.1]
    ·have e:=of_decide_eq_false e
     exact h374 h367 v5 (by rw [if_neg e]) D367 (Mut.of_le (Hp.le_refl _))
   clear_value J329
   have Nw:=(N315.mut hgE ((Mut.of_le l317).trans M319))
   refine⟨fun e=>?_,fun e=>?_⟩
   ·have e:(u.is [wGroup]).1≠[]:=by simpa using e
    have hop:optP wGroup (fun s=>o (s.must wBy)) u=o ((u.is [wGroup]).2.must wBy):=by unfold optP;rw [if_neg e]
    rw [hop] at h329
    have Su:=S315.goes gi
    have Gy:=goes_must Su.good wBy
    refine reader_must_ok D319 (by have:=Su.big;omega) fun h323 D323 M323=>⟨rfl,?_⟩
    have D323:RdAt h2 h323 b6 ((u.is [wGroup]).2.must wBy):=D323
    have S323:=Su.goes Gy
    have k2:=kp _ S323.good (Nat.le_of_lt S323.len)
    have M323':=M319'.trans M323
    refine F D323 (EE.mut M323') S323 fun a c h325 D325 N325 M325=>⟨_,_,_,rfl,?_⟩
    exact h329 _ _ _ _ h325 rfl D325 (S323.goes k2.goes) ((Nw.mut hgE M323).mut hgE M325) (N325.base (M323'.up D323.al)) k2.nds (M323'.trans M325)
   ·have e:(u.is [wGroup]).1=[]:=by simpa using e
    have hop:optP wGroup (fun s=>o (s.must wBy)) u=([],u):=by unfold optP;rw [if_pos e]
    rw [io e] at D319
    exact h329 [] none 0 u h319 hop D319 S315 Nw (nd_nil _ _) nds_nil M319'
  clear_value J275
  refine⟨fun e=>?_,fun e=>?_⟩
  ·have e:(t2.is [wWhere]).1≠[]:=by simpa using e
   have hop:optP wWhere o t2=o (t2.is [wWhere]).2:=by unfold optP;rw [if_neg e]
   rw [hop] at h275
   have Su:=S263.goes gi
   have k2:=kp _ Su.good (Nat.le_of_lt Su.len)
   refine F D267 (EE.mut M267') Su fun a c h271 D271 N271 M271=>⟨_,_,_,rfl,?_⟩
   exact h275 _ _ _ _ h271 rfl D271 (Su.goes k2.goes) (N271.base (M267'.up D267.al)) k2.nds (M267'.trans M271)
  ·have e:(t2.is [wWhere]).1=[]:=by simpa using e
   have hop:optP wWhere o t2=([],t2):=by unfold optP;rw [if_pos e]
   rw [io e] at D267
   exact h275 [] none 0 t2 h267 hop D267 S263 (nd_nil _ _) nds_nil M267'
 clear_value J48
 -- what is gathered, one behind the other
 refine⟨fun vs' hh=>∃(k:Nat) (L:List Ag) (t:RS) (a:Option Addr) (c:Nat),vs'=[vsl a L.length c,vsl none 0 0,vsl none 0 0,vi 0,vi 0,vi 0,vi 0]∧AggB (At b6) h2 hh a c L∧RdAt h2 hh b6 t∧SOk (W.length+1) t∧t.ws.length < k∧aggsP o (s2.ws.length+1) [(k1,l1)] s2=aggsP o k L t∧L.length+t.ws.length≤100,fun _ hh=>wordsN hh b6,⟨_,[(k1,l1)],s2,a18,c18,rfl,B17,D17,S11,Nat.lt_succ_self _,rfl,?_⟩,?_⟩
 ·have:=G2.1.len
  show 1+s2.ws.length≤100
  omega
 rintro vs' hh ⟨k,L,t,a,c,rfl,B,D,S,hk,hrow,hL⟩
 obtain⟨k,rfl⟩:∃ j,k=j+1:=⟨k - 1,by omega⟩
 have hst:aggsP o (k+1) L t=if (t.is [wComma]).1=[] then(L,t) else aggsP o k (L++[(aggP o (t.is [wComma]).2).1]) (aggP o (t.is [wComma]).2).2:=rfl
 rw [hst] at hrow
 clear hst
 refine⟨_,_,_,_,_,_,_,_,_,_,_,_,_,rfl,?_⟩
 intro b31 hb31 h32
 have l32:hh.le h32:=Hp.le_set (Hp.le_refl hh) hb31 _
 have gi:=goes_is S.good [wComma]
 have io:=@is_one t wComma (by decide)
 have tk:=@taken t [wComma]
 have hG2:∀ b,At b6 b→h2 b=none:=fun b e=>by rw [show b=b6 from e];exact hb6
 have hwn:=D.wn
 refine reader_is_ok (D.le l32) (slb_one hh b31 wComma) (by decide) (by have:=S.big;omega) fun h34 D34 M34=>⟨_,rfl,_,rd_neBs (b:=[]),fun e=>?_,fun e=>?_⟩
 ·have e:(t.is [wComma]).1≠[]:=by simpa using e
  rw [if_neg e] at hrow
  have tk:=tk e
  have D34:RdAt h2 h34 b6 (t.is [wComma]).2:=D34
  have B34:=(B.grow l32).keep hG2 M34.keep
  have St:=S.goes gi
  have Ga:=goes_agg kp St.good (Nat.le_of_lt St.len)
  have E34:EnvQ h2 h34 b6:=⟨E7.t,D34.l,hb6⟩
  refine reader_agg_ok F kp D34 E34 St fun a42 c42 h40 D40 N40 M40=>⟨_,_,_,_,rfl,?_⟩
  generalize aggP o (t.is [wComma]).2=A at *
  obtain⟨⟨k2,l2⟩,t2⟩:=A
  simp -zeta only at hrow D40 N40 Ga ⊢
  have B40:=B34.keep hG2 M40.keep
  intro b43 hb43 h44
  have hlen:=Ga.1.len
  refine agg_app (hB:=h34) (k:=k2) B40 D40 D34.al (fun b e=>B34.al e) N40 (by omega) hb43 fun a47 c47 h46 B46 D46=>⟨_,_,_,rfl,⟨k,L++[(k2,l2)],t2,a47,c47,by simp,B46,D46,St.goes Ga.1,by omega,hrow,by simp;omega⟩,?_⟩
  have h46n:=D46.wn
  show wordsN h46 b6 < wordsN hh b6
  omega
 ·have e:(t.is [wComma]).1=[]:=by simpa using e
  rw [if_pos e] at hrow
  rw [io e] at D34
  exact hRest L t a c h34 ((B.grow l32).keep hG2 M34.keep) D34 S hrow (by omega)
end Go.Proofs.YtiflgceoamkmnaaGreatDoor
namespace Go.Proofs.YtiflgceoamkmnaaGreatDoor
open Go Go.Vc
def VC_top_works  (h:Hp)(R:Value→Hp→Prop):Prop:=
 (CallOK Tryz.prog 40 [(vs ⟨#[115,101,108,101,99,116,32,99,111,117,110,116,40,42,41,32,102,114,111,109,32,101,118,101,110,116,115,32,119,105,110,100,111,119,32,49,48]⟩)] h fun v1 h2=>∃ a3 n3 c3 a4 n4 c4 a5 n5 c5 x6 x7 x8 x9 e10,v1=(vtup [vag [vsl a3 n3 c3,vsl a4 n4 c4,vsl a5 n5 c5,vi x6,vi x7,vi x8,vi x9],ifv e10])∧(((Option.isSome e10)=true→R (vb false) h2)∧((Option.isSome e10)=false→(CallOK Tryz.prog 13 [vag [vsl a3 n3 c3,vsl a4 n4 c4,vsl a5 n5 c5,vi x6,vi x7,vi x8,vi x9],vi 1] h2 fun v12 h13=>∃ q14 e15,v12=(vtup [vp q14,ifv e15])∧(∃ p16,((Option.isSome e15)=false→Rd Tryz.prog ((eqGuard .eql 31 (.tmp 18) (.const (vp none)) (vp q14) (vp none) >>= fun _=>binOp .eql 31 (vp q14) (vp none))) h13 (vb p16))∧(((bif (Option.isSome e15) then true else p16)=true→R (vb false) h13)∧((bif (Option.isSome e15) then true else p16)=false→(CallOK Tryz.prog 17 [vp q14,vi 0,vag [vi 3,vi 0,vi 0,vi 0,vi 0,vi 0,vi 0]] h13 fun v18 h19=>v18=(vtup [])∧(CallOK Tryz.prog 17 [vp q14,vi 0,vag [vi 12,vi 0,vi 0,vi 0,vi 0,vi 0,vi 0]] h19 fun v20 h21=>v20=(vtup [])∧(∃ b22 o23,(q14=some ⟨b22,o23,none⟩)∧(∃ a24 n24 c24,(Hp.cell h21 b22 (o23+12)=some (vsl a24 n24 c24))∧(∃ b25 o26,((decide ((n24:Int)=1))=true→q14=some ⟨b25,o26,none⟩)∧(∃ a27 n27 c27,((decide ((n24:Int)=1))=true→Hp.cell h21 b25 (o26+12)=some (vsl a27 n27 c27))∧(∃ b28 o29,((decide ((n24:Int)=1))=true→(a27=some ⟨b28,o29,none⟩∧(0:Int)≤0∧0 < (n27:Int)))∧(∃ a30 n30 c30,((decide ((n24:Int)=1))=true→Hp.cell h21 b28 (((o29+(0:Int).toNat*5)+1)+3)=some (vsl a30 n30 c30))∧(∃ b31 o32,((decide ((n24:Int)=1))=true→(a30=some ⟨b31,o32,none⟩∧(0:Int)≤0∧0 < (n30:Int)))∧(∃ x33,((decide ((n24:Int)=1))=true→Hp.cell h21 b31 ((o32+(0:Int).toNat*2)+1)=some (vi x33))∧R (vb (bif (decide ((n24:Int)=1)) then(decide (x33=1)) else false)) h21)))))))))))))))))
theorem ok_top_works {h R}(H:VC_top_works  h R):CallOK Tryz.prog 20 [] h R:=
 call_of (cfg:=⟨[],[],[]⟩) noNG mixed Tryz.func20 [] (by kernel_rfl) rfl (by kernel_rfl) H
def VC_top_few (u0:Option Addr)(u1 u2:Nat)(u3:Option Addr)(u4 u5:Nat)(h:Hp)(R:Value→Hp→Prop):Prop:=
 (∃(J1:SV→Hp→Prop),((decide ((u1:Int) > 0))=true→(CallOK Tryz.prog 33 [vsl u0 u1 u2] h fun v2 h3=>∃ p4,v2=(vb p4)∧J1 (.t (.one (.v (vb p4)))) h3))∧(¬((decide ((u1:Int) > 0))=true)→J1 (.t (.one (.v (vb false)))) h)∧∀ h5 p6,J1 (.t (.one (.v (vb p6)))) h5→R (vb (bif (bif (decide ((u1:Int) > 0)) then p6 else false) then(decide ((u4:Int)≤200)) else false)) h5)
theorem ok_top_few {u0 u1 u2 u3 u4 u5 h R}(H:VC_top_few u0 u1 u2 u3 u4 u5 h R):CallOK Tryz.prog 22 [vsl u0 u1 u2,vsl u3 u4 u5] h R:=
 call_of (cfg:=⟨[],[],[]⟩) noNG mixed Tryz.func22 [.one (.v (vsl u0 u1 u2)),.one (.v (vsl u3 u4 u5))] (by kernel_rfl) rfl (by kernel_rfl) H
def VC_top_run (u0:Option Addr)(u1 u2:Nat)(u3:Option Addr)(u4 u5:Nat)(u6:Option Addr)(u7 u8:Nat)(u9:Int)(u10:Int)(u11:Int)(u12:Int)(u13:Option Addr)(u14 u15:Nat)(u16:Option Addr)(u17 u18:Nat)(u19:Value)(h:Hp)(R:Value→Hp→Prop):Prop:=
 (CallOK Tryz.prog 13 [vag [vsl u0 u1 u2,vsl u3 u4 u5,vsl u6 u7 u8,vi u9,vi u10,vi u11,vi u12],(vi (u14:Int))] h fun v1 h2=>∃ q3 e4,v1=(vtup [vp q3,ifv e4])∧(((Option.isSome e4)=true→R (vtup [vp none,vb false]) h2)∧((Option.isSome e4)=false→(∃(I7:List Value→Hp→Prop) (m8:List Value→Hp→Nat),I7 [vi 0] h2∧∀ vs9 h10,I7 vs9 h10→∃ x11,vs9=[vi x11]∧(((decide (x11 < (u17:Int)))=true→(let J53:Hp→Prop:=fun h54=>(∃ x55,(IsW x55 (x11+1))∧(I7 [vi x55] h54∧m8 [vi x55] h54 < m8 vs9 h10));(∃ b14 o15,(u16=some ⟨b14,o15,none⟩∧(0:Int)≤x11∧x11 < (u17:Int))∧(∃ x16,(Hp.cell h10 b14 (o15+x11.toNat*1)=some (vi x16))∧(∃ x17,(Rd Tryz.prog (binOp .and 3 (vi x16) (vi 1023)) h10 (vi x17))∧(((u14:Int)≠0)∧(∃ b18 o19,(q3=some ⟨b18,o19,none⟩)∧(∃ a20 n20 c20,(Hp.cell h10 b18 (o19+8)=some (vsl a20 n20 c20))∧(∃ b21 o22,(a20=some ⟨b21,o22,none⟩∧(0:Int)≤(Int.tmod x17 (u14:Int))∧(Int.tmod x17 (u14:Int)) < (n20:Int))∧(∃ x23,(Hp.cell h10 b21 (o22+(Int.tmod x17 (u14:Int)).toNat*1)=some (vi x23))∧(∃ b24 o25,(u13=some ⟨b24,o25,none⟩∧(0:Int)≤(Int.tmod x17 (u14:Int))∧(Int.tmod x17 (u14:Int)) < (u14:Int))∧(∃ a26 n26 c26,(Hp.cell h10 b24 (o25+(Int.tmod x17 (u14:Int)).toNat*1)=some (vsl a26 n26 c26))∧(((decide (x23=(n26:Int)))=true→(J53 h10))∧((decide (x23=(n26:Int)))=false→(∃ b29 o30,(u13=some ⟨b29,o30,none⟩∧(0:Int)≤(Int.tmod x17 (u14:Int))∧(Int.tmod x17 (u14:Int)) < (u14:Int))∧(∃ a31 n31 c31,(Hp.cell h10 b29 (o30+(Int.tmod x17 (u14:Int)).toNat*1)=some (vsl a31 n31 c31))∧(∃ b32 o33,(q3=some ⟨b32,o33,none⟩)∧(∃ a34 n34 c34,(Hp.cell h10 b32 (o33+8)=some (vsl a34 n34 c34))∧(∃ b35 o36,(a34=some ⟨b35,o36,none⟩∧(0:Int)≤(Int.tmod x17 (u14:Int))∧(Int.tmod x17 (u14:Int)) < (n34:Int))∧(∃ x37,(Hp.cell h10 b35 (o36+(Int.tmod x17 (u14:Int)).toNat*1)=some (vi x37))∧(∃ b38 o39,(a31=some ⟨b38,o39,none⟩∧(0:Int)≤x37∧x37 < (n31:Int))∧(∃ x40 x41 x42 x43 x44 x45 x46,(Hp.row h10 b38 (o39+x37.toNat*7) 7=some [vi x40,vi x41,vi x42,vi x43,vi x44,vi x45,vi x46])∧(CallOK Tryz.prog 17 [vp q3,(vi (Int.tmod x17 (u14:Int))),vag [vi x40,vi x41,vi x42,vi x43,vi x44,vi x45,vi x46]] h10 fun v47 h48=>v47=(vtup [])∧(InvOK Tryz.prog u19 [vp q3] h48 fun v49 h50=>∃ p51,v49=(vb p51)∧(((!p51)=true→R (vtup [vp none,vb false]) h50)∧((!p51)=false→(J53 h50)))))))))))))))))))))))))))∧((decide (x11 < (u17:Int)))=false→R (vtup [vp q3,vb true]) h10))))))
theorem ok_top_run {u0 u1 u2 u3 u4 u5 u6 u7 u8 u9 u10 u11 u12 u13 u14 u15 u16 u17 u18 u19 h R}(H:VC_top_run u0 u1 u2 u3 u4 u5 u6 u7 u8 u9 u10 u11 u12 u13 u14 u15 u16 u17 u18 u19 h R):CallOK Tryz.prog 23 [vag [vsl u0 u1 u2,vsl u3 u4 u5,vsl u6 u7 u8,vi u9,vi u10,vi u11,vi u12],vsl u13 u14 u15,vsl u16 u17 u18,u19] h R:=
 call_of (cfg:=⟨[],[(5,([12],[.one (.int .i64)],[]))],[(8,[0,1,2,3,4,5,6,7,8,9,10,11,12]),(9,[0,1,2,3,4,5,6,7,8,9,10,11,12,13,14,15])]⟩) noNG mixed Tryz.func23 [.ag [.v (vsl u0 u1 u2),.v (vsl u3 u4 u5),.v (vsl u6 u7 u8),.v (vi u9),.v (vi u10),.v (vi u11),.v (vi u12)],.one (.v (vsl u13 u14 u15)),.one (.v (vsl u16 u17 u18)),.one (.v u19)] (by kernel_rfl) rfl (by kernel_rfl) H
def VC_top_net (u0:Option Addr)(u1 u2:Nat)(h:Hp)(R:Value→Hp→Prop):Prop:=
 (∃(I2:List Value→Hp→Prop) (m3:List Value→Hp→Nat),I2 [vsl none 0 0,vi 0] h∧∀ vs4 h5,I2 vs4 h5→∃ a6 n6 c6 x7,vs4=[vsl a6 n6 c6,vi x7]∧(((decide (x7 < (u1:Int)))=true→(let J73:Option Addr→Nat→Nat→Hp→Prop:=fun a76 n76 c76 h77=>(∃ x78,(IsW x78 (x7+1))∧(I2 [vsl a76 n76 c76,vi x78] h77∧m3 [vsl a76 n76 c76,vi x78] h77 < m3 vs4 h5));(∃ b10 o11,(u0=some ⟨b10,o11,none⟩∧(0:Int)≤x7∧x7 < (u1:Int))∧(∃ x12 x13 x14 a15 n15 c15,(Hp.row h5 b10 ((o11+x7.toNat*5)+1) 4=some [vi x12,vi x13,vi x14,vsl a15 n15 c15])∧(∃(I17:List Value→Hp→Prop) (m18:List Value→Hp→Nat),I17 [(vi (-1)),vi 0] h5∧∀ vs19 h20,I17 vs19 h20→∃ x21 x22,vs19=[vi x21,vi x22]∧(((decide (x22 < (n6:Int)))=true→(let J35:Int→Prop:=fun x37=>(∃ x38,(IsW x38 (x22+1))∧(I17 [vi x37,vi x38] h20∧m18 [vi x37,vi x38] h20 < m18 vs19 h20));(∃ b25 o26,(a6=some ⟨b25,o26,none⟩∧(0:Int)≤x22∧x22 < (n6:Int))∧(∃ x27,(Hp.cell h20 b25 (o26+x22.toNat*4)=some (vi x27))∧(∃ b28 o29,((decide (x27=x12))=true→(a6=some ⟨b28,o29,none⟩∧(0:Int)≤x22∧x22 < (n6:Int)))∧(∃ x30 x31,((decide (x27=x12))=true→Hp.row h20 b28 ((o29+x22.toNat*4)+1) 2=some [vi x30,vi x31])∧(∃ p32,((decide (x27=x12))=true→Rd Tryz.prog ((eqGuard .eql 41 (.tmp 39) (.tmp 41) (vag [vi x30,vi x31]) (vag [vi x13,vi x14]) >>= fun _=>binOp .eql 41 (vag [vi x30,vi x31]) (vag [vi x13,vi x14]))) h20 (vb p32))∧(((bif (decide (x27=x12)) then p32 else false)=true→(J35 x22))∧((bif (decide (x27=x12)) then p32 else false)=false→(J35 x21))))))))))∧((decide (x22 < (n6:Int)))=false→(∃ b39 o40,(u0=some ⟨b39,o40,none⟩∧(0:Int)≤x7∧x7 < (u1:Int))∧(∃ p41,(Hp.cell h20 b39 (o40+x7.toNat*5)=some (vb p41))∧(((!p41)=true→(((decide (x21≥0))=true→R (vtup [vsl none 0 0,vb false]) h20)∧((decide (x21≥0))=false→(∀ b43,h20 b43=none→let h44:= Hp.set h20 b43 (cellsO [vi x12,vi x13,vi x14,vsl a15 n15 c15] 72);(SemOK Tryz.prog (Builtin.append_ #[54,54] 54 #[vsl a6 n6 c6,(vsl (some (⟨b43,0,none⟩:Addr)) 1 1)]) h44 fun v45 h46=>∃ a47 n47 c47,v45=(vsl a47 n47 c47)∧(J73 a47 n47 c47 h46))))))∧((!p41)=false→(∃ b50 o51,((decide (x21 < 0))=false→(a6=some ⟨b50,o51,none⟩∧(0:Int)≤x21∧x21 < (n6:Int)))∧(∃ x52 x53 x54 a55 n55 c55,((decide (x21 < 0))=false→Hp.row h20 b50 (o51+x21.toNat*4) 4=some [vi x52,vi x53,vi x54,vsl a55 n55 c55])∧(∃(J56:SV→Hp→Prop),((decide (x21 < 0))=false→(CallOK Tryz.prog 63 [vag [vi x52,vi x53,vi x54,vsl a55 n55 c55],vag [vi x12,vi x13,vi x14,vsl a15 n15 c15]] h20 fun v57 h58=>∃ p59,v57=(vb p59)∧J56 (.t (.one (.v (vb p59)))) h58))∧(¬((decide (x21 < 0))=false)→J56 (.t (.one (.v (vb false)))) h20)∧∀ h60 p61,J56 (.t (.one (.v (vb p61)))) h60→(((bif (decide (x21 < 0)) then true else(!p61))=true→R (vtup [vsl none 0 0,vb false]) h60)∧((bif (decide (x21 < 0)) then true else(!p61))=false→(∃ a63 n63 c63,(Rd Tryz.prog (Instr.sliceAt 54 (vsl a6 n6 c6) none (some (vi x21)) none) h60 (vsl a63 n63 c63))∧(∃ x64,(IsW x64 (x21+1))∧(∃ a65 n65 c65,(Rd Tryz.prog (Instr.sliceAt 54 (vsl a6 n6 c6) (some (vi x64)) none none) h60 (vsl a65 n65 c65))∧(SemOK Tryz.prog (Builtin.append_ #[54,54] 54 #[vsl none 0 0,vsl a63 n63 c63]) h60 fun v66 h67=>∃ a68 n68 c68,v66=(vsl a68 n68 c68)∧((Rd Tryz.prog (Instr.sliceAt 54 (vsl a6 n6 c6) (some (vi x64)) none none) h67 (vsl a65 n65 c65))∧(SemOK Tryz.prog (Builtin.append_ #[54,54] 54 #[vsl a68 n68 c68,vsl a65 n65 c65]) h67 fun v69 h70=>∃ a71 n71 c71,v69=(vsl a71 n71 c71)∧(J73 a71 n71 c71 h70)))))))))))))))))))))))∧((decide (x7 < (u1:Int)))=false→R (vtup [vsl a6 n6 c6,vb true]) h5)))
theorem ok_top_net {u0 u1 u2 h R}(H:VC_top_net u0 u1 u2 h R):CallOK Tryz.prog 25 [vsl u0 u1 u2] h R:=
 call_of (cfg:=⟨[],[(8,([7,8],[.one (.int .i64),.one (.int .i64)],[])),(3,([4,5],[.one (.slice),.one (.int .i64)],[]))],[(10,[0,1,2,3,4,5,6,7,8,9,10,11,12,13,14,15,16,17]),(16,[0,1,2,3,4,5,6,7,8,9,10]),(18,[0,1,2,4,5,6,7,3,8,9])]⟩) noNG mixed Tryz.func25 [.one (.v (vsl u0 u1 u2))] (by kernel_rfl) rfl (by kernel_rfl) H
def VC_top_alike (u0:Option Addr)(u1 u2:Nat)(u3:Option Addr)(u4 u5:Nat)(h:Hp)(R:Value→Hp→Prop):Prop:=
 (((decide ((u1:Int)≠(u4:Int)))=true→R (vb false) h)∧((decide ((u1:Int)≠(u4:Int)))=false→(∃(I3:List Value→Hp→Prop) (m4:List Value→Hp→Nat),I3 [vi 0] h∧∀ vs5 h6,I3 vs5 h6→∃ x7,vs5=[vi x7]∧(((decide (x7 < (u1:Int)))=true→(∃(I11:List Value→Hp→Prop) (m12:List Value→Hp→Nat),I11 [vb false,vi 0] h6∧∀ vs13 h14,I11 vs13 h14→∃ p15 x16,vs13=[vb p15,vi x16]∧(((decide (x16 < (u4:Int)))=true→(∃ b19 o20,(u0=some ⟨b19,o20,none⟩∧(0:Int)≤x7∧x7 < (u1:Int))∧(∃ x21 x22 x23 a24 n24 c24,(Hp.row h14 b19 (o20+x7.toNat*4) 4=some [vi x21,vi x22,vi x23,vsl a24 n24 c24])∧(∃ b25 o26,(u3=some ⟨b25,o26,none⟩∧(0:Int)≤x16∧x16 < (u4:Int))∧(∃ x27 x28 x29 a30 n30 c30,(Hp.row h14 b25 (o26+x16.toNat*4) 4=some [vi x27,vi x28,vi x29,vsl a30 n30 c30])∧(CallOK Tryz.prog 63 [vag [vi x21,vi x22,vi x23,vsl a24 n24 c24],vag [vi x27,vi x28,vi x29,vsl a30 n30 c30]] h14 fun v31 h32=>∃ p33,v31=(vb p33)∧(∃ x35,(IsW x35 (x16+1))∧(I11 [(vb (bif p15 then true else p33)),vi x35] h32∧m12 [(vb (bif p15 then true else p33)),vi x35] h32 < m12 vs13 h14))))))))∧((decide (x16 < (u4:Int)))=false→(((!p15)=true→R (vb false) h14)∧((!p15)=false→(∃ x37,(IsW x37 (x7+1))∧(I3 [vi x37] h14∧m4 [vi x37] h14 < m4 vs5 h6))))))))∧((decide (x7 < (u1:Int)))=false→R (vb true) h6)))))
theorem ok_top_alike {u0 u1 u2 u3 u4 u5 h R}(H:VC_top_alike u0 u1 u2 u3 u4 u5 h R):CallOK Tryz.prog 29 [vsl u0 u1 u2,vsl u3 u4 u5] h R:=
 call_of (cfg:=⟨[],[(8,([6,7],[.one (.bool),.one (.int .i64)],[])),(4,([5],[.one (.int .i64)],[]))],[(10,[0,1,2,3,4,5,6,7,8,9])]⟩) noNG mixed Tryz.func29 [.one (.v (vsl u0 u1 u2)),.one (.v (vsl u3 u4 u5))] (by kernel_rfl) rfl (by kernel_rfl) H
def VC_top_read (u0 u1:Nat)(u2:Option Addr)(u3 u4:Nat)(h:Hp)(R:Value→Hp→Prop):Prop:=
 (∃(I2:List Value→Hp→Prop) (m3:List Value→Hp→Nat),I2 [vsl none 0 0,vi 0] h∧∀ vs4 h5,I2 vs4 h5→∃ a6 n6 c6 x7,vs4=[vsl a6 n6 c6,vi x7]∧(((decide (x7 < (u3:Int)))=true→(∃ b10 o11,(u2=some ⟨b10,o11,none⟩∧(0:Int)≤x7∧x7 < (u3:Int))∧(∃ a12 n12 c12,(Hp.cell h5 b10 (o11+x7.toNat*1)=some (vsl a12 n12 c12))∧(∃ a13 n13 c13,(Hp.cell h5 u0 (u1+8)=some (vsl a13 n13 c13))∧(∃ b14 o15,(a13=some ⟨b14,o15,none⟩∧(0:Int)≤x7∧x7 < (n13:Int))∧(∃ x16,(Hp.cell h5 b14 (o15+x7.toNat*1)=some (vi x16))∧(∃ a17 n17 c17,(Rd Tryz.prog (Instr.sliceAt 69 (vsl a12 n12 c12) none (some (vi x16)) none) h5 (vsl a17 n17 c17))∧(∀ b18,h5 b18=none→let h19:= Hp.set h5 b18 (cellsO [vsl a17 n17 c17] 69);(SemOK Tryz.prog (Builtin.append_ #[49,49] 49 #[vsl a6 n6 c6,(vsl (some (⟨b18,0,none⟩:Addr)) 1 1)]) h19 fun v20 h21=>∃ a22 n22 c22,v20=(vsl a22 n22 c22)∧(∃ x24,(IsW x24 (x7+1))∧(I2 [vsl a22 n22 c22,vi x24] h21∧m3 [vsl a22 n22 c22,vi x24] h21 < m3 vs4 h5)))))))))))∧((decide (x7 < (u3:Int)))=false→R (vsl a6 n6 c6) h5)))
theorem ok_top_read {u0 u1 u2 u3 u4 h R}(H:VC_top_read u0 u1 u2 u3 u4 h R):CallOK Tryz.prog 38 [vhp u0 u1,vsl u2 u3 u4] h R:=
 call_of (cfg:=⟨[],[(3,([5,6],[.one (.slice),.one (.int .i64)],[]))],[(5,[0,1,2,3,4,5,6,7,8,9,10,11,12,13,14,15])]⟩) noNG mixed Tryz.func38 [.one (.hp u0 u1),.one (.v (vsl u2 u3 u4))] (by kernel_rfl) rfl (by kernel_rfl) H
def VC_top_TopSo (u0:ByteArray)(u1:Option Addr)(u2 u3:Nat)(u4:Option Addr)(u5 u6:Nat)(h:Hp)(R:Value→Hp→Prop):Prop:=
 (∀ b1,h b1=none→let h2:= Hp.set h b1 (cellsO [vsl u1 u2 u3] 49);(CallOK Tryz.prog 20 [] h2 fun v3 h4=>∃ p5,v3=(vb p5)∧(((!p5)=true→R (vb false) h4)∧((!p5)=false→(CallOK Tryz.prog 21 [vs u0] h4 fun v7 h8=>∃ a9 n9 c9 a10 n10 c10 a11 n11 c11 x12 x13 x14 x15 p16,v7=(vtup [vag [vsl a9 n9 c9,vsl a10 n10 c10,vsl a11 n11 c11,vi x12,vi x13,vi x14,vi x15],vb p16])∧(∀ b17,h8 b17=none→let h18:= Hp.set h8 b17 (cellsO [vsl none 0 0,vsl none 0 0,vsl none 0 0,vi 0,vi 0,vi 0,vi 0] 28);(Hp.store h18 b17 0 [vsl a9 n9 c9,vsl a10 n10 c10,vsl a11 n11 c11,vi x12,vi x13,vi x14,vi x15] fun h19=>(∃ a20 n20 c20,((!p16)=false→Hp.cell h19 b1 0=some (vsl a20 n20 c20))∧(∃(J21:SV→Hp→Prop),((!p16)=false→(CallOK Tryz.prog 22 [vsl a20 n20 c20,vsl u4 u5 u6] h19 fun v22 h23=>∃ p24,v22=(vb p24)∧J21 (.t (.one (.v (vb p24)))) h23))∧(¬((!p16)=false)→J21 (.t (.one (.v (vb false)))) h19)∧∀ h25 p26,J21 (.t (.one (.v (vb p26)))) h25→(((bif (!p16) then true else(!p26))=true→R (vb true) h25)∧((bif (!p16) then true else(!p26))=false→(∃ a28 n28 c28 a29 n29 c29 a30 n30 c30 x31 x32 x33 x34,(Hp.row h25 b17 0 7=some [vsl a28 n28 c28,vsl a29 n29 c29,vsl a30 n30 c30,vi x31,vi x32,vi x33,vi x34])∧(∃ a35 n35 c35,(Hp.cell h25 b1 0=some (vsl a35 n35 c35))∧(CallOK Tryz.prog 23 [vag [vsl a28 n28 c28,vsl a29 n29 c29,vsl a30 n30 c30,vi x31,vi x32,vi x33,vi x34],vsl a35 n35 c35,vsl u4 u5 u6,(Value.func (.func 37) #[] #[vhp b17 0,vhp b1 0])] h25 fun v36 h37=>∃ q38 p39,v36=(vtup [vp q38,vb p39])∧R (vb p39) h37))))))))))))))
theorem ok_top_TopSo {u0 u1 u2 u3 u4 u5 u6 h R}(H:VC_top_TopSo u0 u1 u2 u3 u4 u5 u6 h R):CallOK Tryz.prog 9 [vs u0,vsl u1 u2 u3,vsl u4 u5 u6] h R:=
 call_of (cfg:=⟨[8,4],[],[]⟩) noNG mixed Tryz.func9 [.one (.v (vs u0)),.one (.v (vsl u1 u2 u3)),.one (.v (vsl u4 u5 u6))] (by kernel_rfl) rfl (by kernel_rfl) H
def VC_top_TopSo_1 (u0 u1:Nat)(f_0b f_0o:Nat)(f_1b f_1o:Nat)(h:Hp)(R:Value→Hp→Prop):Prop:=
 (∃ a1 n1 c1,(Hp.cell h u0 (u1+12)=some (vsl a1 n1 c1))∧(CallOK Tryz.prog 25 [vsl a1 n1 c1] h fun v2 h3=>∃ a4 n4 c4 p5,v2=(vtup [vsl a4 n4 c4,vb p5])∧(∃ a6 n6 c6 a7 n7 c7 a8 n8 c8 x9 x10 x11 x12,(Hp.row h3 f_0b f_0o 7=some [vsl a6 n6 c6,vsl a7 n7 c7,vsl a8 n8 c8,vi x9,vi x10,vi x11,vi x12])∧(∃ a13 n13 c13,(Hp.cell h3 f_1b f_1o=some (vsl a13 n13 c13))∧(CallOK Tryz.prog 38 [vhp u0 u1,vsl a13 n13 c13] h3 fun v14 h15=>∃ a16 n16 c16,v14=(vsl a16 n16 c16)∧((Hp.row h15 f_0b f_0o 7=some [vsl a6 n6 c6,vsl a7 n7 c7,vsl a8 n8 c8,vi x9,vi x10,vi x11,vi x12])∧(CallOK Tryz.prog 35 [vag [vsl a6 n6 c6,vsl a7 n7 c7,vsl a8 n8 c8,vi x9,vi x10,vi x11,vi x12],vsl a16 n16 c16] h15 fun v17 h18=>∃ a19 n19 c19 x20,v17=(vtup [vsl a19 n19 c19,vi x20])∧(∃ a21 n21 c21,(Hp.row h18 u0 (u1+9) 1=some [vsl a21 n21 c21])∧(∃ x22,(Hp.cell h18 f_0b (f_0o+5)=some (vi x22))∧(CallOK Tryz.prog 27 [vag [vsl a21 n21 c21],vi x22] h18 fun v23 h24=>∃ x25 p26,v23=(vtup [vi x25,vb p26])∧(((!p26)=true→(∃ x27,((bif p5 then(decide ((n4:Int)=0)) else false)=true→Hp.cell h24 u0 (u1+11)=some (vi x27))∧R (vb (bif (bif p5 then(decide ((n4:Int)=0)) else false) then(decide (x20=x27)) else false)) h24))∧((!p26)=false→(∃ x29,(p5=true→Hp.cell h24 u0 (u1+11)=some (vi x29))∧(∃ x30,((bif p5 then(decide (x20=x29)) else false)=true→Hp.cell h24 f_0b (f_0o+3)=some (vi x30))∧(∃(J31:SV→Hp→Prop),((bif p5 then(decide (x20=x29)) else false)=true→(CallOK Tryz.prog 39 [vsl a19 n19 c19,vi x30,vi x25] h24 fun v32 h33=>∃ a34 n34 c34,v32=(vsl a34 n34 c34)∧J31 (.t (.one (.v (vsl a34 n34 c34)))) h33))∧(¬((bif p5 then(decide (x20=x29)) else false)=true)→J31 (.t (.one (.v (vsl none 0 0)))) h24)∧∀ h35 a36 n36 c36,J31 (.t (.one (.v (vsl a36 n36 c36)))) h35→(∃(J37:SV→Hp→Prop),((bif p5 then(decide (x20=x29)) else false)=true→(CallOK Tryz.prog 29 [vsl a4 n4 c4,vsl a36 n36 c36] h35 fun v38 h39=>∃ p40,v38=(vb p40)∧J37 (.t (.one (.v (vb p40)))) h39))∧(¬((bif p5 then(decide (x20=x29)) else false)=true)→J37 (.t (.one (.v (vb false)))) h35)∧∀ h41 p42,J37 (.t (.one (.v (vb p42)))) h41→R (vb (bif (bif p5 then(decide (x20=x29)) else false) then p42 else false)) h41))))))))))))))))
theorem ok_top_TopSo_1 {u0 u1 f_0b f_0o f_1b f_1o h R}(H:VC_top_TopSo_1 u0 u1 f_0b f_0o f_1b f_1o h R):CallOK Tryz.prog 37 [vhp u0 u1,vhp f_0b f_0o,vhp f_1b f_1o] h R:=
 call_of (cfg:=⟨[],[],[(2,[0,1,2,3,4,5,6,7,8,9]),(3,[0,1,2,3,4,5,6,7,8,9,10,11])]⟩) noNG mixed Tryz.func37 [.one (.hp u0 u1),.one (.hp f_0b f_0o),.one (.hp f_1b f_1o)] (by kernel_rfl) rfl (by kernel_rfl) H
open Go.Txt
def pt (n:Nat)(t:Int):Nat:=(Int.tmod (t % 1024) (n:Int)).toNat
theorem pt_ok {n:Nat}(hn:1≤n)(t:Int):Int.tmod (t % 1024) (n:Int)=(pt n t:Int)∧pt n t < n:=by
 have h1:0≤t % 1024:=Int.emod_nonneg _ (by decide)
 unfold pt
 obtain⟨y,hy⟩:=Int.eq_ofNat_of_zero_le h1
 rw [hy,←Int.ofNat_tmod]
 exact⟨rfl,Nat.mod_lt _ hn⟩
def preO (ps:List (List EvL))(cs:List Nat):List (List EvL):=List.zipWith (fun l c=>l.take c) ps cs
def turnC (ps:List (List EvL))(cs:List Nat)(t:Int):List Nat:=
 if cs.getD (pt ps.length t) 0=(ps.getD (pt ps.length t) []).length then cs else cs.set (pt ps.length t) (cs.getD (pt ps.length t) 0+1)
structure RunS (q:Qy)(ps:List (List EvL))(cs:List Nat)(st:En):Prop where
 cl:cs.length=ps.length
 cb:∀ p,p < ps.length→cs.getD p 0≤(ps.getD p []).length
 rd:st.rd=cs
 en:EnI q (preO ps cs) st
theorem preO_len {ps:List (List EvL)}{cs:List Nat}(h:cs.length=ps.length):(preO ps cs).length=ps.length:=by
 unfold preO
 rw [List.length_zipWith];omega
theorem preO_at {ps:List (List EvL)}{cs:List Nat}(h:cs.length=ps.length){p:Nat}(hp:p < ps.length):(preO ps cs).getD p []=(ps.getD p []).take (cs.getD p 0):=by
 unfold preO
 have e1:ps.getD p []=ps[p]:=by rw [List.getD_eq_getElem?_getD,List.getElem?_eq_getElem hp];rfl
 have e2:cs.getD p 0=cs[p]'(by omega):=by rw [List.getD_eq_getElem?_getD,List.getElem?_eq_getElem (by omega)];rfl
 rw [e1,e2,List.getD_eq_getElem?_getD,List.getElem?_zipWith,List.getElem?_eq_getElem hp,List.getElem?_eq_getElem (by omega)]
 rfl
theorem preO_read {ps:List (List EvL)}{cs:List Nat}(h:cs.length=ps.length){p:Nat}(hp:p < ps.length){e:EvL}(he:(ps.getD p [])[cs.getD p 0]?=some e):preO ps (cs.set p (cs.getD p 0+1))=readP (preO ps cs) p e:=by
 obtain⟨hlt,ee⟩:=List.getElem?_eq_some_iff.1 he
 have e1:(ps.getD p []).take (cs.getD p 0+1)=(ps.getD p []).take (cs.getD p 0)++[e]:=by rw [List.take_succ_eq_append_getElem hlt,ee]
 unfold readP
 rw [preO_at h hp,←e1]
 unfold preO
 apply List.ext_getElem?
 intro i
 rw [List.getElem?_zipWith,List.getElem?_set,List.getElem?_set,List.length_zipWith,List.getElem?_zipWith]
 by_cases q:p=i
 ·subst q
  have e2:ps.getD p []=ps[p]:=by rw [List.getD_eq_getElem?_getD,List.getElem?_eq_getElem hp];rfl
  rw [if_pos rfl,if_pos rfl,if_pos (by omega),if_pos (by omega),List.getElem?_eq_getElem hp,e2]
 ·rw [if_neg q,if_neg q]
theorem RunS.step {q:Qy}{ps:List (List EvL)}{cs:List Nat}{st:En}(X:RunS q ps cs st)(B:QOk q){p:Nat}(hp:p < ps.length){e:EvL}(he:(ps.getD p [])[cs.getD p 0]?=some e) :
  RunS q ps (cs.set p (cs.getD p 0+1)) (stepE q p e st)∧∃ more,(stepE q p e st).rows=st.rows++more∧∀ w ∈ more,goneU q (farC q.delay st.far) w.2.1=false:=by
 obtain⟨hlt,ee⟩:=List.getElem?_eq_some_iff.1 he
 obtain⟨I,M⟩:=X.en.step B (p:=p) (by rw [preO_len X.cl];exact hp) e
 have hcp:p < cs.length:=by rw [X.cl];exact hp
 refine⟨⟨by rw [List.length_set];exact X.cl,fun p' hp'=>?_,?_,by rw [preO_read X.cl hp he];exact I⟩,M⟩
 ·by_cases q1:p=p'
  ·subst q1
   rw [List.getD_eq_getElem?_getD,List.getElem?_set_self hcp]
   exact hlt
  ·rw [List.getD_eq_getElem?_getD,List.getElem?_set_ne q1,←List.getD_eq_getElem?_getD]
   exact X.cb p' hp'
 ·have hse:∀ s:En,(endE q s).rd=s.rd:=fun s=>by unfold endE;split<;>rfl
  unfold stepE
  rw [hse]
  unfold seenE
  rw [(winsE_same).1,X.rd]
theorem RunS.new (q:Qy)(ps:List (List EvL)):RunS q ps (List.replicate ps.length 0) (newE ps.length):=by
 refine⟨List.length_replicate ..,fun p hp=>?_,rfl,?_⟩
 ·rw [List.getD_eq_getElem?_getD,List.getElem?_replicate,if_pos hp]
  exact Nat.zero_le _
 ·have:preO ps (List.replicate ps.length 0)=List.replicate ps.length []:=by
   unfold preO
   apply List.ext_getElem?
   intro i
   rw [List.getElem?_zipWith,List.getElem?_replicate,List.getElem?_replicate]
   by_cases h:i < ps.length
   ·rw [if_pos h,if_pos h,List.getElem?_eq_getElem h];rfl
   ·rw [if_neg h,if_neg h,List.getElem?_eq_none (by omega)]
  rw [this]
  exact EnI.new q ps.length
section
variable {h:Hp}{R':Value→Hp→Prop}
theorem top_few_ok {ps:List (List EvL)}{pa:Option Addr}{pn pc:Nat}{ta:Option Addr}{tn tc:Nat}(TP:TabC encE h pa pn ps)
  (hK:∀ p h',h.le h'→(p=true→1≤ps.length∧ps.length≤3∧tn≤200∧∀ x ∈ ps,x.length≤40∧∀ e ∈ x,EvOK e)→R' (vb p) h'):CallOK Tryz.prog 22 [vsl pa pn pc,vsl ta tn tc] h R':=by
 refine ok_top_few ?_
 unfold VC_top_few
 have hpn:pn=ps.length:=TP.r.choose_spec.2.1
 refine⟨fun x hh=>h.le hh∧∃ p:Bool,x=.t (.one (.v (vb p)))∧(p=true→ps.length≤3∧∀ x ∈ ps,x.length≤40∧∀ e ∈ x,EvOK e),fun _=>top_light_ok TP fun p h' l hp=>⟨_,rfl,l,p,rfl,hp⟩,fun _=>⟨Hp.le_refl h,false,rfl,fun q=>by cases q⟩,?_⟩
 rintro h5 p6 ⟨l5,p,e,hp⟩
 cases e
 refine hK _ h5 l5 fun q=>?_
 cases h1:decide ((((pn:Nat):Int):Int) > 0) with
 | false=>rw [h1] at q;cases q
 | true=>
  cases h2:p6 with
  | false=>rw [h1,h2] at q;cases q
  | true=>
   rw [h1,h2] at q
   have:=of_decide_eq_true h1
   have q3:=of_decide_eq_true (show decide ((((tn:Nat):Int):Int)≤200)=true from q)
   obtain⟨k1,k2⟩:=hp h2
   exact⟨by omega,k1,by omega,k2⟩
theorem top_runI_ok {I:En→Prop}{q:Qy}{a1:Option Addr}{n1 c1:Nat}{a2:Option Addr}{n2 c2:Nat}{a3:Option Addr}{n3 c3:Nat}{ps:List (List EvL)}{pa:Option Addr}{pc:Nat}{ts:List Int}{ta:Option Addr}{tn tc:Nat}{fv:Value}(Q:QAt h q a1 n1 a2 n2 a3 n3)(B:QOk q)(TP:TabC encE h pa ps.length ps)
  (h1:1≤ps.length) (h3:ps.length≤3) (hE:∀ x ∈ ps,x.length≤40∧∀ e ∈ x,EvOK e) (ST:SlI h ta tn ts) (ht:tn≤200)
  (I0:I (newE ps.length)) (hI:∀ st p e N,EnB q ps.length N st→I st→p < ps.length→EvOK e→I (stepE q p e st))
  (hf:∀ g hh st cs N,EngX q h hh g st→RunS q ps cs st→EnB q ps.length N st→N≤300000→InvOK Tryz.prog fv [vhp g 0] hh fun v h'=>v=vb true∧hh.le h')
  (hK:∀ g h' st N,EngX q h h' g st→RunS q ps (ts.foldl (turnC ps) (List.replicate ps.length 0)) st→EnB q ps.length N st→N≤300000→I st→R' (vtup [vhp g 0,vb true]) h') :
  CallOK Tryz.prog 23 [qV a1 n1 c1 a2 n2 c2 a3 n3 c3 q,vsl pa ps.length pc,vsl ta tn tc,fv] h R':=by
 refine ok_top_run ?_
 unfold VC_top_run
 have htl:=ST.1
 refine engine_New_ok Q B (fun hbad=>absurd ⟨by omega,by omega⟩ hbad) fun _ _ g h2 l2 X=>⟨some ⟨g,0,none⟩,none,rfl,fun e=>(by cases e),fun _=>?_⟩
 rw [Int.toNat_natCast] at X
 refine⟨fun vs hh=>∃(i:Nat) (st:En),vs=[vi i]∧i≤tn∧EngX q h hh g st∧RunS q ps ((ts.take i).foldl (turnC ps) (List.replicate ps.length 0)) st∧EnB q ps.length (1001*i) st∧I st,fun vs hh=>tn - (vint vs 0).toNat,⟨0,_,rfl,Nat.zero_le _,X,RunS.new q ps,newE_ok q _,I0⟩,?_⟩
 clear X l2
 rintro vs hh ⟨i,st,rfl,hi,X,RS,HB,HI⟩
 refine⟨i,rfl,fun e=>?_,fun e=>?_⟩
 ·have hlt:i < ts.length:=by have:=of_decide_eq_true e;omega
  have hx:ts[i]?=some ts[i]:=List.getElem?_eq_getElem hlt
  have tk:ts.take (i+1)=ts.take i++[ts[i]]:=List.take_succ_eq_append_getElem hlt
  have hgd:ts.getD i 0=ts[i]:=by rw [List.getD_eq_getElem?_getD,hx];rfl
  obtain⟨b,o,ea,hc⟩:=(ST.le X.le0).get (i:=i) (by omega)
  rw [hgd] at hc
  generalize ts[i]=t at *
  generalize hcs:(ts.take i).foldl (turnC ps) (List.replicate ps.length 0)=cs at RS
  obtain⟨ep,hp⟩:=pt_ok h1 t
  generalize hpt:pt ps.length t=p at ep hp
  have hcp:p < cs.length:=by rw [RS.cl];exact hp
  have hxp:ps[p]?=some (ps.getD p []):=by rw [List.getD_eq_getElem?_getD,List.getElem?_eq_getElem hp];rfl
  obtain⟨hE1,hE2⟩:=hE _ (List.mem_of_getElem? hxp)
  have hcb:=RS.cb p hp
  intro J53
  have hJ:∀ h' st',EngX q h h' g st'→RunS q ps (turnC ps cs t) st'→EnB q ps.length (1001*(i+1)) st'→I st'→J53 h':=by
   intro h' st' q1 q2 q3 q5
   refine⟨_,isW (by unfold InR;omega),⟨i+1,st',rfl,by omega,q1,?_,q3,q5⟩,by simp [vint];omega⟩
   rw [tk,List.foldl_append,hcs]
   exact q2
  clear_value J53
  obtain⟨b1,m1,d1,b2,m2,d2,b3,m3,d3,qf,ak,nk,ck,ar,cr,ac,cc,tb,tc',aw,cw,RP,k1,s1,s2,g1,_⟩:=X.seen
  obtain⟨bp,op,ap,cp,eap,hcp2,SP,_⟩:=(TP.le X.le0).cell hxp
  have hxr:(st.rd.map fun n:Nat=>(n:Int)).getD p 0=((cs.getD p 0:Nat):Int):=by
   rw [RS.rd,List.getD_eq_getElem?_getD,List.getD_eq_getElem?_getD,List.getElem?_map,List.getElem?_eq_getElem hcp];rfl
  have hrl:st.rd.length=ps.length:=by rw [RS.rd];exact RS.cl
  obtain⟨br,or_,ear,hcr⟩:=s1.get (i:=p) (by omega)
  rw [hxr] at hcr
  have hbr:ar=some ⟨br,or_,none⟩∧(0:Int)≤(p:Int)∧(p:Int) < ((st.rd.length:Nat):Int):=⟨ear,by omega,by omega⟩
  have hbp:pa=some ⟨bp,op,none⟩∧(0:Int)≤(p:Int)∧(p:Int) < ((ps.length:Nat):Int):=⟨eap,by omega,by omega⟩
  refine⟨b,o,⟨ea,by omega,by omega⟩,t,by rw [Int.toNat_natCast];exact hc,_,rd_and1023,by omega,g,0,rfl,_,_,_,cell_cells k1 rfl,?_⟩
  rw [ep]
  refine⟨br,or_,hbr,_,by rw [Int.toNat_natCast];exact hcr,bp,op,hbp,_,_,_,by rw [Int.toNat_natCast];exact hcp2,fun e1=>?_,fun e1=>?_⟩
  ·have:cs.getD p 0=(ps.getD p []).length:=by have:=of_decide_eq_true e1;omega
   refine hJ hh st X ?_ (HB.mono (by omega)) HI
   unfold turnC
   rw [hpt,if_pos this]
   exact RS
  ·have hlt2:cs.getD p 0 < (ps.getD p []).length:=by have:=of_decide_eq_false e1;omega
   have hev:(ps.getD p [])[cs.getD p 0]?=some (ps.getD p [])[cs.getD p 0]:=List.getElem?_eq_getElem hlt2
   have hEe:=hE2 _ (List.getElem_mem hlt2)
   have htc:turnC ps cs t=cs.set p (cs.getD p 0+1):=by
    unfold turnC
    rw [hpt,if_neg (by omega)]
   rw [htc] at hJ
   generalize (ps.getD p [])[cs.getD p 0]=ev at hev hEe
   obtain⟨b4,o4,e4,hr4⟩:=SP.get (sz:=7) (fun _=>rfl) (by decide) hev
   refine⟨bp,op,hbp,_,_,_,by rw [Int.toNat_natCast];exact hcp2,g,0,rfl,_,_,_,cell_cells k1 rfl,br,or_,hbr,_,by rw [Int.toNat_natCast];exact hcr,b4,o4,⟨e4,by omega,by omega⟩,_,_,_,_,_,_,_,by rw [Int.toNat_natCast];exact hr4,?_⟩
   obtain⟨RS2,_⟩:=RS.step B hp hev
   have HB2:=stepE_ok B HB hp hEe
   refine engine_Step_ok X B hEe HB (by omega) hp (by omega) fun h48 l48 X2=>⟨rfl,?_⟩
   have F:=hf g h48 _ _ _ X2 RS2 HB2 (by omega)
   obtain⟨f,pre,post,q1,q2,q3⟩:=F
   refine⟨f,pre,post,q1,q2,CallOK.mono q3 ?_⟩
   rintro v h50 ⟨rfl,l50⟩
   exact⟨_,rfl,fun e=>(by cases e),fun _=>hJ h50 _ (X2.le l50) RS2 (HB2.mono (by omega)) (hI _ _ _ _ HB HI hp hEe)⟩
 ·have hge:i=tn:=by have:=of_decide_eq_false e;omega
  rw [hge,htl,List.take_length] at RS
  exact hK g hh st _ X RS HB (by omega) HI
theorem top_run_ok {q:Qy}{a1:Option Addr}{n1 c1:Nat}{a2:Option Addr}{n2 c2:Nat}{a3:Option Addr}{n3 c3:Nat}{ps:List (List EvL)}{pa:Option Addr}{pc:Nat}{ts:List Int}{ta:Option Addr}{tn tc:Nat}{fv:Value}(Q:QAt h q a1 n1 a2 n2 a3 n3)(B:QOk q)(TP:TabC encE h pa ps.length ps)
  (h1:1≤ps.length) (h3:ps.length≤3) (hE:∀ x ∈ ps,x.length≤40∧∀ e ∈ x,EvOK e) (ST:SlI h ta tn ts) (ht:tn≤200)
  (hf:∀ g hh st cs N,EngX q h hh g st→RunS q ps cs st→EnB q ps.length N st→N≤300000→InvOK Tryz.prog fv [vhp g 0] hh fun v h'=>v=vb true∧hh.le h')
  (hK:∀ g h' st N,EngX q h h' g st→RunS q ps (ts.foldl (turnC ps) (List.replicate ps.length 0)) st→EnB q ps.length N st→N≤300000→R' (vtup [vhp g 0,vb true]) h') :
  CallOK Tryz.prog 23 [qV a1 n1 c1 a2 n2 c2 a3 n3 c3 q,vsl pa ps.length pc,vsl ta tn tc,fv] h R':=
 top_runI_ok (I:=fun _=>True) Q B TP h1 h3 hE ST ht trivial (fun _ _ _ _ _ _ _ _=>trivial) hf fun g h' st N a b c d _=>hK g h' st N a b c d
end
end Go.Proofs.YtiflgceoamkmnaaGreatDoor
namespace Go.Proofs.YtiflgceoamkmnaaGreatDoor
open Go Go.Vc
section
variable {h0 h:Hp}{a:Option Addr}{c:Nat}{R:List PN}
end
section
variable {h:Hp}{R':Value→Hp→Prop}
theorem R_SameValuesD_ok {l m:List Vl}{a b:Option Addr}{c d:Nat}(S:SlP encV h a l.length l)(S2:SlP encV h b m.length m)(hn:l.length≤1000000)(hK:R' (vb (decide (l=m))) h):CallOK Tryz.prog 58 [vsl a l.length c,vsl b m.length d] h R':=by
 refine ok_R_SameValues ?_
 unfold VC_R_SameValues
 refine⟨fun e=>?_,fun e=>?_⟩
 ·have hne:l≠m:=by
   intro q
   subst q
   exact of_decide_eq_true e rfl
  rw [decide_eq_false hne] at hK
  exact hK
 ·have hlen:l.length=m.length:=by
   have:=of_decide_eq_false e
   omega
  refine⟨fun vs hh=>hh=h∧∃ i:Nat,vs=[vi i]∧i≤l.length∧l.take i=m.take i,fun vs hh=>l.length - (vint vs 0).toNat,⟨rfl,0,rfl,Nat.zero_le _,rfl⟩,?_⟩
  rintro vs hh ⟨rfl,i,rfl,hi,ht⟩
  refine⟨i,rfl,fun e=>?_,fun e=>?_⟩
  ·have hlt:i < l.length:=by have:=of_decide_eq_true e;omega
   have hx:l[i]?=some l[i]:=List.getElem?_eq_getElem hlt
   have hy:m[i]?=some (m[i]'(by omega)):=List.getElem?_eq_getElem (by omega)
   obtain⟨b1,o1,e1,r1⟩:=S.get (sz:=2) (fun _=>rfl) (by decide) hx
   obtain⟨b2,o2,e2,r2⟩:=S2.get (sz:=2) (fun _=>rfl) (by decide) hy
   have tk:l.take (i+1)=l.take i++[l[i]]:=List.take_succ_eq_append_getElem hlt
   have tm:m.take (i+1)=m.take i++[m[i]'(by omega)]:=List.take_succ_eq_append_getElem (by omega)
   refine⟨b1,o1,⟨e1,by omega,by omega⟩,_,_,(show Hp.row hh b1 (o1+((i:Nat):Int).toNat*2) 2=some (encV l[i]) by rw [Int.toNat_natCast];exact r1),b2,o2,⟨e2,by omega,by omega⟩,_,_,(show Hp.row hh b2 (o2+((i:Nat):Int).toNat*2) 2=some (encV (m[i]'(by omega))) by rw [Int.toNat_natCast];exact r2),!decide (l[i]=m[i]'(by omega)),rd_neqV,fun e3=>?_,fun e3=>?_⟩
   ·have hne:l≠m:=by
     intro q
     have h1:l[i]?=m[i]?:=by rw [q]
     rw [hx,hy] at h1
     have h2:=Option.some.inj h1
     rw [decide_eq_true h2] at e3
     cases e3
    rw [decide_eq_false hne] at hK
    exact hK
   ·have h2:l[i]=m[i]'(by omega):=by simpa using e3
    refine⟨_,isW (by unfold InR;omega),⟨rfl,i+1,rfl,by omega,?_⟩,by simp [vint];omega⟩
    rw [tk,tm,ht,h2]
  ·have hge:i=l.length:=by have:=of_decide_eq_false e;omega
   have heq:l=m:=by
    rw [hge,List.take_length,hlen,List.take_length] at ht
    exact ht
   rw [decide_eq_true heq] at hK
   exact hK
end
open Go.Txt
theorem netS_keys {L L':List (PK × List Vl)}{w:Rw}(hn:(L.map (·.1)).Nodup)(h:netS L w=some L'):(L'.map (·.1)).Nodup∧L'.length≤L.length+1:=by
 unfold netS at h
 split at h
 ·split at h
  ·simp only [Option.some.injEq] at h
   subst h
   exact⟨hn.sublist (List.erase_sublist.map _),Nat.le_succ_of_le List.erase_sublist.length_le⟩
  ·cases h
 ·split at h
  ·cases h
  ·rename_i hno
   simp only [Option.some.injEq] at h
   subst h
   rw [List.map_append,List.nodup_append]
   refine⟨⟨hn,by simp,fun a ha b hb e=>?_⟩,by simp⟩
   simp only [List.map_cons,List.map_nil,List.mem_singleton] at hb
   obtain⟨x,hx,ex⟩:=List.mem_map.1 ha
   exact hno ⟨x,hx,by rw [ex,e,hb]⟩
theorem fold_keys:∀{rows:List Rw} {L L':List (PK × List Vl)},(L.map (·.1)).Nodup→rows.foldlM netS L=some L'→(L'.map (·.1)).Nodup∧L'.length≤L.length+rows.length
 | [],L,L',hn,h=>by
  simp only [List.foldlM_nil] at h
  cases h
  exact⟨hn,Nat.le_refl _⟩
 | w :: rows,L,L',hn,h=>by
  rw [List.foldlM_cons] at h
  cases e:netS L w with
  | none=>rw [e] at h;cases h
  | some L1=>
   rw [e] at h
   obtain⟨k1,k2⟩:=netS_keys hn e
   obtain⟨k3,k4⟩:=fold_keys k1 h
   exact⟨k3,by rw [List.length_cons];omega⟩
theorem erase_at {α:Type}[BEq α][LawfulBEq α]{a:α}:∀{l:List α} {m:Nat},l.Nodup→l[m]?=some a→l.erase a=l.take m++l.drop (m+1)
 | [],m,_,h=>by simp at h
 | x :: l,0,_,h=>by
  simp at h
  subst h
  simp
 | x :: l,m+1,hd,h=>by
  obtain⟨d1,d2⟩:=List.nodup_cons.1 hd
  rw [List.getElem?_cons_succ] at h
  have hne:x≠a:=fun e=>d1 (by rw [e];exact List.mem_of_getElem? h)
  rw [List.erase_cons_tail (by simpa using hne),erase_at d2 h]
  rfl
theorem growL_take {α β:Type}(R:List (GRow α β))(m:Nat):growL (R.take m++R.drop (m+1))=(growL R).take m++(growL R).drop (m+1):=by
 unfold growL
 rw [List.map_append,List.map_take,List.map_drop]
section
variable {h:Hp}{R':Value→Hp→Prop}
theorem one_pan {R:List (GRow Vl PK)}:∀ u ∈ R.flatMap (growV pkRw),u.oneCell'=true:=by
 intro u hu
 obtain⟨r,_,hr⟩:=List.mem_flatMap.1 hu
 simp only [growV,pkRw,List.mem_cons,List.not_mem_nil,or_false] at hr
 rcases hr with rfl|rfl|rfl|rfl<;>rfl
theorem pan_len (R:List (GRow Vl PK)):(R.flatMap (growV pkRw)).length=R.length*4:=flatMap_length (enc:=growV pkRw) (sz:=4) (fun _=>rfl) R
set_option maxHeartbeats 1000000 in
theorem top_net_ok {rows:List Rw}{L:List (PK × List Vl)}{a:Option Addr}{c:Nat}(hn:netR rows=some L)(G:GTab encV rwRow h a (rows.map rowG).length (rows.map rowG))(hl:rows.length≤4000000)(hv:∀ w ∈ rows,w.2.2.length≤1000)
  (hK:∀ a' c' h',h.le h'→GTab encV pkRw h' a' L.length L→R' (vtup [vsl a' L.length c',vb true]) h'):CallOK Tryz.prog 25 [vsl a (rows.map rowG).length c] h R':=by
 refine ok_top_net ?_
 unfold VC_top_net
 have hrl:(rows.map rowG).length=rows.length:=List.length_map _
 refine⟨fun vs hh=>∃(i:Nat) (a':Option Addr) (c':Nat) (R:List (GRow Vl PK)),vs=[vsl a' R.length c',vi i]∧i≤rows.length∧netR (rows.take i)=some (growL R)∧OwnV h hh 72 4 a' R.length c' (R.flatMap (growV pkRw))∧∀ r ∈ R,HasRow h r.2.1.1 (r.2.2.flatMap encV),fun vs hh=>rows.length - (vint vs 1).toNat,⟨0,none,0,[],rfl,Nat.zero_le _,rfl,OwnV.nil (Hp.le_refl h) _ _,fun r hr=>by cases hr⟩,?_⟩
 rintro vs hh ⟨i,a',c',R,rfl,hi,eR,O,HR⟩
 have hR:=fold_keys (by simp) eR
 have hRl:R.length=(growL R).length:=by simp [growL]
 have hR2:R.length≤4000000:=by
  have:=hR.2
  rw [List.length_take] at this
  simp at this
  omega
 refine⟨a',_,c',i,rfl,fun e=>?_,fun e=>?_⟩
 ·have hlt:i < rows.length:=by have:=of_decide_eq_true e;omega
  have hx0:rows[i]?=some rows[i]:=List.getElem?_eq_getElem hlt
  have tk:rows.take (i+1)=rows.take i++[rows[i]]:=List.take_succ_eq_append_getElem hlt
  have hvl:=hv _ (List.getElem_mem hlt)
  have hpre:(netR (rows.take (i+1))).isSome=true:=by
   have:netR rows=(netR (rows.take (i+1))).bind fun L=>(rows.drop (i+1)).foldlM netS L:=by rw [←netR_app,List.take_append_drop]
   rw [hn] at this
   cases h9:netR (rows.take (i+1)) with
   | none=>rw [h9] at this;cases this
   | some _=>rfl
  generalize rows[i]=w at *
  obtain⟨gw,k,l⟩:=w
  have hvl:l.length≤1000:=hvl
  rw [tk,netR_app,eR] at hpre
  have hst:∃ L',netS (growL R) (gw,k,l)=some L':=by
   cases h9:netS (growL R) (gw,k,l) with
   | some L'=>exact⟨L',rfl⟩
   | none=>
    have:([(gw,k,l)]:List Rw).foldlM netS (growL R)=none:=by rw [List.foldlM_cons,h9];rfl
    simp only [Option.bind_some,this] at hpre
    cases hpre
  obtain⟨L',hL'⟩:=hst
  have tkN:netR (rows.take (i+1))=some L':=by
   rw [tk,netR_app,eR]
   show ([(gw,k,l)]:List Rw).foldlM netS (growL R)=_
   rw [List.foldlM_cons,hL'];rfl
  have hxg:(rows.map rowG)[i]?=some ((gw,k),l):=by rw [List.getElem?_map,hx0];rfl
  obtain⟨b,o,av,cv,ea,hrow,SV⟩:=G.row rwRow_len (by decide) hxg
  have hb:a=some ⟨b,o,none⟩∧(0:Int)≤(i:Int)∧(i:Int) < (((rows.map rowG).length:Nat):Int):=⟨ea,by omega,by omega⟩
  intro J73
  have hJ:∀(a2:Option Addr) (c2:Nat) (R2:List (GRow Vl PK)) h2,growL R2=L'→OwnV h h2 72 4 a2 R2.length c2 (R2.flatMap (growV pkRw))→(∀ r ∈ R2,HasRow h r.2.1.1 (r.2.2.flatMap encV))→J73 a2 R2.length c2 h2:=by
   intro a2 c2 R2 h2 q1 q2 q3
   exact⟨_,isW (by unfold InR;omega),⟨i+1,a2,c2,R2,rfl,by omega,by rw [tkN,q1],q2,q3⟩,by simp [vint];omega⟩
  clear_value J73
  have hr4:hh.row b (o+i*5+1) 4=some (pkRw k (vsl av l.length cv)):=Hp.row_sub (Hp.row_le O.le hrow) (i:=1) (k:=4) (by decide)
  refine⟨b,o,hb,_,_,_,_,_,_,by rw [Int.toNat_natCast];exact hr4,?_⟩
  -- where it is among those that are had
  have S:SlP (growV pkRw) hh a' R.length R:=⟨rfl,O.row⟩
  refine⟨fun vs h2=>h2=hh∧∃(at_:Int) (j:Nat),vs=[vi at_,vi j]∧j≤R.length∧((at_=-1∧∀ x ∈ (growL R).take j,x.1≠k)∨∃ m:Nat,at_=m∧m < j∧∃ v,(growL R)[m]?=some (k,v)),fun vs hh=>R.length - (vint vs 1).toNat,⟨rfl,-1,0,rfl,Nat.zero_le _,.inl ⟨rfl,by simp⟩⟩,?_⟩
  rintro vs h2 ⟨rfl,at_,j,rfl,hj,hat⟩
  refine⟨at_,_,rfl,fun e1=>?_,fun e1=>?_⟩
  ·have hltj:j < R.length:=by have:=of_decide_eq_true e1;omega
   have hxj:R[j]?=some R[j]:=List.getElem?_eq_getElem hltj
   have hgj:(growL R)[j]?=some (R[j].1,R[j].2.2):=by unfold growL;rw [List.getElem?_map,hxj];rfl
   have tkj:(growL R).take (j+1)=(growL R).take j++[(R[j].1,R[j].2.2)]:=by
    obtain⟨q1,q2⟩:=List.getElem?_eq_some_iff.1 hgj
    rw [List.take_succ_eq_append_getElem q1,q2]
   generalize R[j]=r at *
   obtain⟨b2,o2,ea2,hr2⟩:=S.get (sz:=4) (fun _=>rfl) (by decide) hxj
   intro J35
   have hJ35:∀ at':Int,((at'=-1∧∀ x ∈ (growL R).take (j+1),x.1≠k)∨∃ m:Nat,at'=m∧m < j+1∧∃ v,(growL R)[m]?=some (k,v))→J35 at':=by
    intro at' q
    exact⟨_,isW (by unfold InR;omega),⟨rfl,at',j+1,rfl,by omega,q⟩,by simp [vint];omega⟩
   clear_value J35
   have hb2:a'=some ⟨b2,o2,none⟩∧(0:Int)≤(j:Int)∧(j:Int) < ((R.length:Nat):Int):=⟨ea2,by omega,by omega⟩
   refine⟨b2,o2,hb2,r.1.1,by rw [Int.toNat_natCast];exact Hp.row_cell hr2 (i:=0) rfl,b2,o2,fun _=>hb2,_,_,fun _=>by rw [Int.toNat_natCast];exact Hp.row_sub hr2 (i:=1) (k:=2) (by decide),decide (r.1.2=k.2),fun _=>rd_eqV,?_⟩
   have hk:(bif (decide ((r.1.1:Int)=k.1)) then decide (r.1.2=k.2) else false)=decide (r.1=k):=by
    by_cases q1:r.1.1=k.1
    ·rw [decide_eq_true q1]
     show decide (r.1.2=k.2)=_
     refine decide_eq_decide.2 ⟨fun q2=>Prod.ext q1 q2,fun q2=>by rw [q2]⟩
    ·rw [decide_eq_false q1,decide_eq_false (show ¬ r.1=k from fun q2=>q1 (by rw [q2]))];rfl
   rw [hk]
   refine⟨fun e2=>hJ35 _ (.inr ⟨j,rfl,by omega,r.2.2,by rw [hgj,of_decide_eq_true e2]⟩),fun e2=>hJ35 _ ?_⟩
   rcases hat with ⟨q1,q2⟩|⟨m,q1,q2,q3⟩
   ·refine .inl ⟨q1,fun x hx=>?_⟩
    rw [tkj] at hx
    rcases List.mem_append.1 hx with q|q
    ·exact q2 x q
    ·rw [List.mem_singleton.1 q];exact of_decide_eq_false e2
   ·exact .inr ⟨m,q1,by omega,q3⟩
  ·have hge:j=R.length:=by have:=of_decide_eq_false e1;omega
   rw [hge] at hat
   refine⟨b,o,hb,gw,by rw [Int.toNat_natCast];exact Hp.row_cell (Hp.row_le O.le hrow) (i:=0) rfl,fun e2=>?_,fun e2=>?_⟩
   ·have hg:gw=false:=by simpa using e2
    subst hg
    unfold netS at hL'
    rw [if_neg (by simp)] at hL'
    split at hL'
    ·cases hL'
    rename_i hno
    simp only [Option.some.injEq] at hL'
    have hm1:at_=-1:=by
     rcases hat with ⟨q1,_⟩|⟨m,q1,q2,v,q3⟩
     ·exact q1
     ·exact absurd ⟨(k,v),List.mem_of_getElem? q3,rfl⟩ hno
    subst hm1
    refine⟨fun e3=>(by cases e3),fun _=>?_⟩
    intro b43 hb43
    refine OwnV.append elOut (OwnV.set hb43 _ O) (HasRow.new _ _ (pkRw k (vsl av l.length cv)) _) (m:=1) rfl ?_ (by omega) (by omega) fun a2 c2 h2' O2 _ _=>⟨_,_,_,rfl,?_⟩
    ·intro u hu
     simp only [pkRw,List.mem_cons,List.not_mem_nil,or_false] at hu
     rcases hu with rfl|rfl|rfl|rfl<;>rfl
    ·have:=hJ a2 c2 (R++[(k,(av,cv),l)]) h2' (by rw [growL_snoc,←hL']) (by rw [List.flatMap_append,List.length_append,List.flatMap_singleton];exact O2) (by
      intro r' hr2
      rcases List.mem_append.1 hr2 with h1|h1
      ·exact HR r' h1
      ·rw [List.mem_singleton.1 h1];exact SV.2)
     rw [List.length_append] at this
     exact this
   ·have hg:gw=true:=by simpa using e2
    subst hg
    unfold netS at hL'
    rw [if_pos rfl] at hL'
    by_cases hin:(k,l) ∈ growL R
    rotate_left
    ·rw [if_neg hin] at hL';cases hL'
    rw [if_pos hin] at hL'
    simp only [Option.some.injEq] at hL'
    obtain⟨m0,hm0⟩:=List.getElem?_of_mem hin
    have hml:m0 < R.length:=by have:=(List.getElem?_eq_some_iff.1 hm0).1;rw [hRl];exact this
    have hm1:at_=(m0:Int):=by
     rcases hat with ⟨q1,q2⟩|⟨m,q1,q2,v,q3⟩
     ·rw [hRl,List.take_length] at q2
      exact absurd rfl (q2 _ hin)
     ·rw [q1]
      have z1:((growL R).map (·.1))[m]?=some k:=by rw [List.getElem?_map,q3];rfl
      have z2:((growL R).map (·.1))[m0]?=some k:=by rw [List.getElem?_map,hm0];rfl
      have:=(List.getElem?_inj (by rw [List.length_map,←hRl];omega) hR.1).1 (z1.trans z2.symm)
      rw [this]
    subst hm1
    have hRm:∃ r,R[m0]?=some r∧r.1=k∧r.2.2=l:=by
     unfold growL at hm0
     rw [List.getElem?_map,Option.map_eq_some_iff] at hm0
     obtain⟨r,q1,q2⟩:=hm0
     simp only [Prod.mk.injEq] at q2
     exact⟨r,q1,q2.1,q2.2⟩
    obtain⟨r,hrm,rfl,rfl⟩:=hRm
    obtain⟨b5,o5,ea5,hr5⟩:=S.get (sz:=4) (fun _=>rfl) (by decide) hrm
    have hcO:=O.own.cap
    have hd0:decide ((m0:Int) < 0)=false:=decide_eq_false (by omega)
    rw [hd0]
    refine⟨b5,o5,fun _=>⟨ea5,by omega,by omega⟩,_,_,_,_,_,_,fun _=>by rw [Int.toNat_natCast];exact hr5,fun x h3=>h3=h2∧x=.t (.one (.v (vb true))),fun _=>?_,fun q=>absurd rfl q,?_⟩
    ·exact R_SamePane_ok (k:=r.1) (l:=r.2.2) ⟨rfl,(HR r (List.mem_of_getElem? hrm)).le O.le⟩ (SV.le O.le) (by omega) ⟨_,rfl,rfl,rfl⟩
    rintro h60 p61 ⟨rfl,e⟩
    cases e
    refine⟨fun q=>(by cases q),fun _=>?_⟩
    have hw:R.length - (m0+1)+m0+1=R.length:=by omega
    have R1:=rd_slice_h (P:=Tryz.prog) (h:=h60) (t:=54) (e:=72) (by kernel_rfl) (by kernel_rfl) (a:=a') (n:=R.length) (c:=c') (x:=(m0:Int)) (by omega) (by omega)
    rw [Int.toNat_natCast] at R1
    have R2:∀ hx:Hp,Rd Tryz.prog (Instr.sliceAt 54 (vsl a' R.length c') (some (vi ((m0+1:Nat):Int))) none none) hx (vsl (cutA a' (m0+1) c' 4) (R.length - (m0+1)) (c' - (m0+1))):=fun hx=>by
     have:=rd_slice_l (P:=Tryz.prog) (h:=hx) (t:=54) (e:=72) (by kernel_rfl) (by kernel_rfl) (a:=a') (n:=R.length) (c:=c') (x:=((m0+1:Nat):Int)) (by omega) (by omega)
     rw [Int.toNat_natCast] at this
     exact this
    have ec:((m0:Nat):Int)+1=((m0+1:Nat):Int):=by omega
    refine⟨_,_,_,R1,_,isW (by unfold InR;omega),?_⟩
    rw [ec]
    refine⟨_,_,_,R2 _,?_⟩
    have ST:=S.take (sz:=4) (fun _=>rfl) (i:=m0) (by omega)
    have SD:=S.drop (sz:=4) (fun _=>rfl) (i:=m0+1) (c:=c') (by omega) hcO
    refine OwnV.append elOut (OwnV.nil O.le 72 4) ST.2 (m:=m0) (by rw [pan_len,List.length_take];omega) one_pan (by omega) (by omega) fun a6 c6 h67 O6 k6 _=>⟨_,_,_,rfl,R2 _,?_⟩
    have l67:h60.le h67:=fun b o hb=>k6 b o hb (by simp)
    refine OwnV.append elOut O6 (SD.2.le l67) (m:=R.length - (m0+1)) (by rw [pan_len,List.length_drop]) one_pan (by omega) (by omega) fun a7 c7 h70 O7 _ _=>⟨_,_,_,rfl,?_⟩
    have hnd:(growL R).Nodup:=List.Pairwise.of_map (fun x:PK × List Vl=>x.1) (fun a b h e=>h (by rw [e])) hR.1
    have hlen:(R.take m0++R.drop (m0+1)).length=0+m0+(R.length - (m0+1)):=by rw [List.length_append,List.length_take,List.length_drop];omega
    have:=hJ a7 c7 (R.take m0++R.drop (m0+1)) h70 (by rw [growL_take,←hL',erase_at hnd hm0]) (by rw [hlen,List.flatMap_append];exact O7) (by
     intro r' hr2
     rcases List.mem_append.1 hr2 with h1|h1
     ·exact HR r' (List.mem_of_mem_take h1)
     ·exact HR r' (List.mem_of_mem_drop h1))
    rw [hlen] at this
    exact this
 ·have hge:i=rows.length:=by have:=of_decide_eq_false e;omega
  rw [hge,List.take_length,hn] at eR
  simp only [Option.some.injEq] at eR
  have:=hK a' c' hh O.le ⟨R,eR.symm,rfl,O.row,fun r hr=>(HR r hr).le O.le⟩
  rw [eR,←hRl] at this
  exact this
theorem R_SamePaneD_ok {k k':PK}{l m:List Vl}{a b:Option Addr}{c d:Nat}(S:SlP encV h a l.length l)(S2:SlP encV h b m.length m)(hn:l.length≤1000000)(hK:R' (vb (decide ((k,l)=(k',m)))) h):CallOK Tryz.prog 63 [vag (pkRw k (vsl a l.length c)),vag (pkRw k' (vsl b m.length d))] h R':=by
 refine ok_R_SamePane ?_
 unfold VC_R_SamePane
 refine R_SameValuesD_ok S S2 hn ⟨_,rfl,decide (k.2=k'.2),fun _=>rd_eqV,?_⟩
 have e:(bif (bif (decide (k.1=k'.1)) then decide (k.2=k'.2) else false) then decide (l=m) else false)=decide ((k,l)=(k',m)):=by
  by_cases h1:k.1=k'.1
  ·by_cases h2:k.2=k'.2
   ·rw [decide_eq_true h1,decide_eq_true h2]
    show decide (l=m)=_
    refine decide_eq_decide.2 ⟨fun h3=>by rw [h3,show k=k' from Prod.ext h1 h2],fun h3=>by simp only [Prod.mk.injEq] at h3;exact h3.2⟩
   ·rw [decide_eq_true h1,decide_eq_false h2,decide_eq_false (show ¬(k,l)=(k',m) from fun h3=>h2 (by simp only [Prod.mk.injEq] at h3;rw [h3.1]))];rfl
  ·rw [decide_eq_false h1,decide_eq_false (show ¬(k,l)=(k',m) from fun h3=>h1 (by simp only [Prod.mk.injEq] at h3;rw [h3.1]))];rfl
 rw [←e] at hK
 exact hK
theorem top_alike_ok {A B:List (PK × List Vl)}{a b:Option Addr}{c d:Nat}(GA:GTab encV pkRw h a A.length A)(GB:GTab encV pkRw h b B.length B)(p:A.Perm B)(hn:A.length≤4000000)(hv:∀ x ∈ A,x.2.length≤1000)(hK:R' (vb true) h) :
  CallOK Tryz.prog 29 [vsl a A.length c,vsl b B.length d] h R':=by
 refine ok_top_alike ?_
 unfold VC_top_alike
 have hl:=p.length_eq
 refine⟨fun e=>absurd (of_decide_eq_true e) (by omega),fun _=>?_⟩
 refine⟨fun vs hh=>hh=h∧∃ i:Nat,vs=[vi i]∧i≤A.length,fun vs hh=>A.length - (vint vs 0).toNat,⟨rfl,0,rfl,Nat.zero_le _⟩,?_⟩
 rintro vs hh ⟨rfl,i,rfl,hi⟩
 refine⟨i,rfl,fun e=>?_,fun _=>hK⟩
 have hlt:i < A.length:=by have:=of_decide_eq_true e;omega
 have hx:A[i]?=some A[i]:=List.getElem?_eq_getElem hlt
 have hm:=hv _ (List.getElem_mem hlt)
 have hin:A[i] ∈ B:=p.mem_iff.1 (List.getElem_mem hlt)
 generalize A[i]=x at *
 obtain⟨k,l⟩:=x
 have hm:l.length≤1000:=hm
 obtain⟨b1,o1,a1,c1,e1,r1,S1⟩:=GA.row pkRw_len (by decide) hx
 refine⟨fun vs h2=>h2=hh∧∃(j:Nat) (q:Bool),vs=[vb q,vi j]∧j≤B.length∧((k,l) ∈ B.take j→q=true),fun vs hh=>B.length - (vint vs 1).toNat,⟨rfl,0,false,rfl,Nat.zero_le _,by simp⟩,?_⟩
 rintro vs h2 ⟨rfl,j,q,rfl,hj,hq⟩
 refine⟨q,_,rfl,fun e2=>?_,fun e2=>?_⟩
 ·have hltj:j < B.length:=by have:=of_decide_eq_true e2;omega
  have hxj:B[j]?=some B[j]:=List.getElem?_eq_getElem hltj
  have tkj:B.take (j+1)=B.take j++[B[j]]:=List.take_succ_eq_append_getElem hltj
  generalize B[j]=y at *
  obtain⟨k',l'⟩:=y
  obtain⟨b2,o2,a2,c2,e2',r2,S2⟩:=GB.row pkRw_len (by decide) hxj
  refine⟨b1,o1,⟨e1,by omega,by omega⟩,_,_,_,_,_,_,by rw [Int.toNat_natCast];exact r1,b2,o2,⟨e2',by omega,by omega⟩,_,_,_,_,_,_,by rw [Int.toNat_natCast];exact r2,?_⟩
  refine R_SamePaneD_ok (k:=k) (k':=k') S1 S2 (by omega) ⟨_,rfl,_,isW (by unfold InR;omega),⟨rfl,j+1,_,rfl,by omega,fun hm2=>?_⟩,by simp [vint];omega⟩
  rw [tkj] at hm2
  rcases List.mem_append.1 hm2 with q1|q1
  ·rw [hq q1];rfl
  ·rw [decide_eq_true (List.mem_singleton.1 q1)]
   cases q<;>rfl
 ·have hge:j=B.length:=by have:=of_decide_eq_false e2;omega
  rw [hge,List.take_length] at hq
  have:=hq hin
  subst this
  exact⟨fun q1=>(by cases q1),fun _=>⟨_,isW (by unfold InR;omega),⟨rfl,i+1,rfl,by omega⟩,by simp [vint];omega⟩⟩
end
def PosL (l:List Nd):Prop:=∀ n ∈ l,0≤n.v.2
def PP (P:Ps):Prop:=∀ s,PosL (P s).1
theorem pos_one {n:Nd}(h:0≤n.v.2):PosL [n]:=fun m hm=>by rw [List.mem_singleton.1 hm];exact h
theorem pos_join {op:Int}{x y:List Nd}(hx:PosL x)(hy:PosL y):PosL (joinL op x y):=by
 intro n hn
 unfold joinL at hn
 rcases List.mem_append.1 hn with h|h
 ·rcases List.mem_append.1 h with h|h
  ·exact hx n h
  ·obtain⟨m,hm,rfl⟩:=List.mem_map.1 h
   exact hy m hm
 ·rw [List.mem_singleton.1 h]
  exact Int.le_refl _
theorem pos_joinP {op:Int}{x y:List Nd}{s:RS}(hx:PosL x)(hy:PosL y):PosL (joinP op x y s).1:=by
 unfold joinP
 split
 ·exact pos_one (by decide)
 ·exact pos_join hx hy
theorem pos_nil:PosL []:=fun n h=>by cases h
theorem number_pos (s:RS)(m:Int):0≤(s.number m).1:=by
 unfold RS.number
 split
 ·exact Int.le_refl _
 ·split
  ·exact Int.le_refl _
  ·rename_i h;simp only;omega
theorem pp_down {P:Ps}(h:PP P):PP (downP P):=by
 intro s
 unfold downP
 exact h _
theorem pp_atom {o:Ps}(h:PP o):PP (atomP o):=by
 intro s
 unfold atomP
 simp only
 split
 ·exact pp_down h _
 ·split
  ·refine pos_one ?_
   simp only
   unfold constV
   split
   ·decide
   ·simp only
    split<;>decide
  ·split
   ·exact pos_one (number_pos _ _)
   ·exact pos_one (Int.le_refl _)
theorem pp_unary {u a:Ps}(hu:PP u)(ha:PP a):PP (unaryP u a):=by
 intro s
 unfold unaryP
 split
 ·exact ha s
 ·exact pos_joinP (pp_down hu _) pos_nil
theorem pp_not {u a:Ps}(hu:PP u)(ha:PP a):PP (notP u a):=by
 intro s
 unfold notP
 split
 ·exact ha s
 ·exact pos_joinP (pp_down hu _) pos_nil
theorem pp_rowL {P:Ps}(h:PP P){ops:List (Wd × Int)}:∀(k:Nat) (x:List Nd) (s:RS),PosL x→PosL (rowL P ops k x s).1
 | 0,x,s,hx=>hx
 | k+1,x,s,hx=>by
  rw [rowL]
  split
  ·exact hx
  ·simp only
   split
   ·exact hx
   ·exact pp_rowL h k _ _ (pos_joinP hx (h _))
theorem pp_row {P:Ps}(h:PP P){ops:List (Wd × Int)}:PP (rowP P ops):=fun s=>pp_rowL h _ _ _ (h s)
theorem pp_cmp {P:Ps}(h:PP P):PP (cmpP P):=by
 intro s
 unfold cmpP
 simp only
 split
 ·exact pos_joinP (h _) (h _)
 ·split
  ·exact pos_joinP (h _) (h _)
  ·split
   ·exact pos_joinP (pos_joinP (h _) (h _)) pos_nil
   ·split
    ·exact pos_joinP (pos_joinP (h _) (h _)) pos_nil
    ·split
     ·exact pos_joinP (h _) (h _)
     ·split
      ·exact pos_joinP (pos_joinP (h _) (h _)) pos_nil
      ·split
       ·split
        ·exact pos_joinP (pos_joinP (h _) pos_nil) pos_nil
        ·exact pos_joinP (h _) pos_nil
       ·exact h _
theorem pp_S {t:Three}(ho:PP t.o)(hn:PP t.n)(hu:PP t.u):PP (orS t)∧PP (notS t)∧PP (unS t):=by
 have h1:PP (unS t):=pp_unary hu (pp_atom ho)
 have h3:PP (sumS t):=pp_row (pp_row h1)
 have h5:PP (notS t):=pp_not hn (pp_cmp h3)
 exact⟨pp_row (pp_row h5),h5,h1⟩
theorem pp_noP:PP noP:=fun s=>pos_one (by decide)
theorem pp_all (n:Nat):PP (allP n).o∧PP (allP n).n∧PP (allP n).u:=by
 induction n with
 | zero=>exact⟨pp_noP,pp_noP,pp_noP⟩
 | succ n ih=>
  rw [allP_succ]
  exact pp_S ih.1 ih.2.1 ih.2.2
structure PosQ (q:Qy):Prop where
 g:∀ a ∈ q.aggs,PosL a.2
 w:PosL q.wh
 b:PosL q.by_
theorem pos_ite {c:Prop}[Decidable c]{x y:Ag × RS}(hx:PosL x.1.2)(hy:PosL y.1.2):PosL (if c then x else y).1.2:=by
 split
 ·exact hx
 ·exact hy
theorem pp_agg {o:Ps}(h:PP o)(s:RS):PosL (aggP o s).1.2:=by
 unfold aggP
 exact pos_ite pos_nil (h _)
theorem pp_aggs {o:Ps}(h:PP o):∀(k:Nat) (l:List Ag) (s:RS),(∀ a ∈ l,PosL a.2)→∀ a ∈ (aggsP o k l s).1,PosL a.2
 | 0,l,s,hl=>hl
 | k+1,l,s,hl=>by
  rw [aggsP]
  split
  ·exact hl
  ·refine pp_aggs h k _ _ fun a ha=>?_
   rcases List.mem_append.1 ha with h1|h1
   ·exact hl a h1
   ·rw [List.mem_singleton.1 h1];exact pp_agg h _
theorem pp_opt {P:Ps}(h:PP P){w:Wd}{s:RS}:PosL (optP w P s).1:=by
 unfold optP
 split
 ·exact pos_nil
 ·exact h _
theorem posQ_read (ws:List Wd):PosQ (readQ ws).1:=by
 have ho:=(pp_all (ws.length+1)).1
 rw [readQ_eq]
 generalize (allP (ws.length+1)).o=o at ho ⊢
 refine⟨pp_aggs ho _ _ _ fun a ha=>?_,pp_opt ho,pp_opt (fun s=>ho _)⟩
 rw [List.mem_singleton.1 ha];exact pp_agg ho _
theorem posQ_parse {s:List UInt8}(h:(parseQ s).2=0):QOk (parseQ s).1∧PosQ (parseQ s).1:=by
 unfold parseQ at h ⊢
 split at h
 ·rename_i h1;exact absurd h h1
 ·rename_i h1
  rw [if_neg h1]
  unfold parseW at h ⊢
  split at h
  ·rename_i h2;exact absurd h h2
  ·rename_i h2
   rw [if_neg h2]
   split at h
   ·rename_i h3;exact absurd h h3
   ·rename_i h3
    rw [if_neg h3]
    exact⟨qok_of (Decidable.not_not.1 h3),posQ_read _⟩
def tkN (q:Qy):List Wd:=[wWindow,Lib.itoa q.size,wSlide,Lib.itoa q.slide,wDelay,Lib.itoa q.delay,wLate,Lib.itoa q.late]
end Go.Proofs.YtiflgceoamkmnaaGreatDoor
namespace Go.Proofs.YtiflgceoamkmnaaGreatDoor
open Go Go.Vc
def VC_top_asked (u0:ByteArray)(h:Hp)(R:Value→Hp→Prop):Prop:=
 (((decide ((((ByteArray.size u0:Nat):Int):Int) > 400))=true→R (vtup [vag [vsl none 0 0,vsl none 0 0,vsl none 0 0,vi 0,vi 0,vi 0,vi 0],vb false]) h)∧((decide ((((ByteArray.size u0:Nat):Int):Int) > 400))=false→(CallOK Tryz.prog 40 [vs u0] h fun v2 h3=>∃ a4 n4 c4 a5 n5 c5 a6 n6 c6 x7 x8 x9 x10 e11,v2=(vtup [vag [vsl a4 n4 c4,vsl a5 n5 c5,vsl a6 n6 c6,vi x7,vi x8,vi x9,vi x10],ifv e11])∧R (vtup [vag [vsl a4 n4 c4,vsl a5 n5 c5,vsl a6 n6 c6,vi x7,vi x8,vi x9,vi x10],(vb (Option.isNone e11))]) h3)))
theorem ok_top_asked {u0 h R}(H:VC_top_asked u0 h R):CallOK Tryz.prog 21 [vs u0] h R:=
 call_of (cfg:=⟨[],[],[(4,[0,1,2,3,4])]⟩) noNG mixed Tryz.func21 [.one (.v (vs u0))] (by kernel_rfl) rfl (by kernel_rfl) H
open Go.Txt
theorem top_asked_ok {s:Wd}{h:Hp}(T:TabQ h){R:Value→Hp→Prop}(bad:∀ a1 n1 c1 a2 n2 c2 a3 n3 c3 x4 x5 x6 x7 h',h.le h'→R (vtup [vag [vsl a1 n1 c1,vsl a2 n2 c2,vsl a3 n3 c3,vi x4,vi x5,vi x6,vi x7],vb false]) h')
  (hK:(parseQ s).2=0→QOk (parseQ s).1→∀ a1 n1 c1 a2 n2 c2 a3 n3 c3 h',h.le h'→QAt h' (parseQ s).1 a1 n1 a2 n2 a3 n3→R (vtup [qV a1 n1 c1 a2 n2 c2 a3 n3 c3 (parseQ s).1,vb true]) h'):CallOK Tryz.prog 21 [vs (bs s)] h R:=by
 refine ok_top_asked ?_
 unfold VC_top_asked
 refine⟨fun e=>bad _ _ _ _ _ _ _ _ _ _ _ _ _ h (Hp.le_refl _),fun _=>?_⟩
 refine query_Parse_ok T fun a1 n1 c1 a2 n2 c2 a3 n3 c3 h' l' Q=>⟨_,_,_,_,_,_,_,_,_,_,_,_,_,_,rfl,?_⟩
 rw [errV_none]
 by_cases hf:(parseQ s).2=0
 ·rw [decide_eq_true hf]
  exact hK hf (posQ_parse hf).1 a1 n1 c1 a2 n2 c2 a3 n3 c3 h' l' Q
 ·rw [decide_eq_false hf]
  exact bad _ _ _ _ _ _ _ _ _ _ _ _ _ h' l'
open Go.RowKit
abbrev encI1 (x:Int):List Value:=[vi x]
def tWk:Wd:=[115,101,108,101,99,116,32,99,111,117,110,116,40,42,41,32,102,114,111,109,32,101,118,101,110,116,115,32,119,105,110,100,111,119,32,49,48]
def evW (t:Int):EvL:=(t,(0,0),(0,0),(0,0))
theorem tWk_read:(parseQ tWk).2=0∧(stepE (parseQ tWk).1 0 (evW 12) (stepE (parseQ tWk).1 0 (evW 3) (newE 1))).rows=[(false,(0,(0,0)),[(1,1)])]:=by decide +kernel
theorem top_works_ok {h:Hp}(T:TabQ h){R:Value→Hp→Prop}(hK:∀ h',h.le h'→R (vb true) h'):CallOK Tryz.prog 20 [] h R:=by
 refine ok_top_works ?_
 unfold VC_top_works
 obtain⟨e0,e1⟩:=tWk_read
 have Qk:=(posQ_parse e0).1
 refine query_Parse_ok (l:=tWk) T fun a1 n1 c1 a2 n2 c2 a3 n3 c3 h2 l2 Q=>⟨_,_,_,_,_,_,_,_,_,_,_,_,_,_,rfl,?_⟩
 rw [errV_some,decide_eq_true e0]
 refine⟨fun e=>(by cases e),fun _=>?_⟩
 generalize (parseQ tWk).1=q at *
 refine engine_New_ok Q Qk (fun e=>absurd ⟨by decide,by decide⟩ e) fun _ _ g h13 l13 X=>⟨some ⟨g,0,none⟩,none,rfl,_,fun _=>rd_eqNilP (e:=64) (by kernel_rfl),fun e=>(by cases e),fun _=>?_⟩
 have hB:=newE_ok q 1
 have E1:EvOK (evW 3):=chkE_ok (by decide)
 have E2:EvOK (evW 12):=chkE_ok (by decide)
 have hB1:=stepE_ok Qk hB (p:=0) (by decide) E1
 refine engine_Step_ok (p:=0) (e:=evW 3) X Qk E1 hB (by decide) (by decide) (by decide) fun h19 l19 X1=>⟨rfl,?_⟩
 refine engine_Step_ok (p:=0) (e:=evW 12) X1 Qk E2 hB1 (by decide) (by decide) (by decide) fun h21 l21 X2=>⟨rfl,?_⟩
 obtain⟨a1,n1,c1,a2,n2,c2,a3,n3,c3,qf,ak,nk,ck,ar,cr,ac,cc,tb,tc,aw,cw,RP,k1,s1,s2,g1,_⟩:=X2.seen
 rw [show (newE (1:Int).toNat)=newE 1 from rfl] at *
 rw [e1] at k1 g1
 obtain⟨b,o,a',c',ea,hr,hS⟩:=g1.row rwRow_len (by decide) (j:=0) (x:=(false,(0,(0,0)))) (l:=[(1,1)]) rfl
 obtain⟨b2,o2,ea2,hr2⟩:=hS.get (sz:=2) (fun _=>rfl) (by decide) (i:=0) (x:=(1,1)) rfl
 refine⟨g,0,rfl,_,_,_,cell_cells k1 rfl,g,0,fun _=>rfl,_,_,_,fun _=>cell_cells k1 rfl,b,o,fun _=>⟨ea,by decide,by decide⟩,a',_,c',fun _=>Hp.row_cell hr (i:=4) rfl,b2,o2,fun _=>⟨ea2,by decide,by decide⟩,1,fun _=>Hp.row_cell hr2 (i:=1) rfl,?_⟩
 exact hK h21 (Hp.le_trans l2 l21)
theorem RunS.net_ok {q:Qy}{ps:List (List EvL)}{cs:List Nat}{h0 h:Hp}{g N:Nat}{st:En}{parts:Nat}(X:EngX q h0 h g st)(B:QOk q)(RS:RunS q ps cs st)(HB:EnB q parts N st)(hN:N≤300000):∃(a:Option Addr) (c:Nat) (L:List (PK × List Vl)),
  h.cell g (0+12)=some (vsl a (st.rows.map rowG).length c)∧netR st.rows=some L∧L.Perm ((ansQ q (preO ps cs)).filter fun x=>dueU q (farC q.delay ((preO ps cs).map farL)) x.1)∧L.length≤900000∧(∀ x ∈ L,x.2.length≤1000) ∧
  ∀{R':Value→Hp→Prop} {h2:Hp},h.le h2→(∀ a' c' h',h2.le h'→GTab encV pkRw h' a' L.length L→R' (vtup [vsl a' L.length c',vb true]) h')→CallOK Tryz.prog 25 [vsl a (st.rows.map rowG).length c] h2 R':=by
 obtain⟨a1,n1,c1,a2,n2,c2,a3,n3,c3,qf,ak,nk,ck,ar,cr,ac,cc,tb,tc,aw,cw,RP,k1,s1,s2,g1,_⟩:=X.seen
 obtain⟨L,hL,hp⟩:=RS.en.net B
 have hwl:=HB.wl
 have hwo:=HB.wo
 have hn4:=B.n2
 have hlen:=(fold_keys (by simp) hL).2
 simp only [List.length_nil] at hlen
 refine⟨aw,cw,L,cell_cells k1 rfl,hL,hp,by omega,fun x hx=>?_,fun l hK=>top_net_ok hL (g1.le l) (by omega) (fun w hw=>by have:=hwo w hw;omega) hK⟩
 have hx2:=(List.mem_filter.1 (hp.mem_iff.1 hx)).1
 have h3:x.2.length=q.aggs.length:=by
  unfold ansQ ansA at hx2
  obtain⟨k,_,rfl⟩:=List.mem_map.1 hx2
  unfold outV
  rw [List.length_map,←kindsQ_len]
  have:=congrArg List.length (accsOf_kinds (ks:=kindsQ q) (rs:=rowsOf (addA q (preO ps cs)) k) fun r hr=>by rw [rowsOf_len addA_len k r hr,kindsQ_len])
  rw [List.length_map] at this
  exact this
 omega
theorem tabc_of3 {α:Type}{enc:α→List Value}{h:Hp}{a:Option Addr}{n:Nat}{R:List (TRow α)}(S:SlP (fun r=>[rowV r]) h a n R)(hr:∀ r ∈ R,HasRow h r.1.1 (r.2.flatMap enc)∧r.2.length≤r.1.2):TabC enc h a n (R.map Prod.snd):=by
 have e:(R.flatMap fun r=>[rowV r])=R.map rowV:=by
  clear S hr
  induction R with
  | nil=>rfl
  | cons r R ih=>rw [List.flatMap_cons,ih];rfl
 refine⟨R,rfl,by rw [S.1];simp,?_,fun j r hj=>hr r (List.mem_of_getElem? hj)⟩
 have:=S.2
 rw [e] at this
 exact this
section
variable {h:Hp}{R':Value→Hp→Prop}
theorem top_read_ok {q:Qy}{ps:List (List EvL)}{pa:Option Addr}{pc:Nat}{cs:List Nat}{h0:Hp}{g:Nat}{st:En}(TP:TabC encE h pa ps.length ps)(X:EngX q h0 h g st)(RS:RunS q ps cs st)(h3:ps.length≤3)(hb:∀ x ∈ ps,x.length≤1000)
  (hK:∀ a c h',h.le h'→TabC encE h' a ps.length (preO ps cs)→R' (vsl a ps.length c) h'):CallOK Tryz.prog 38 [vhp g 0,vsl pa ps.length pc] h R':=by
 obtain⟨R,rfl,hn,H,H2⟩:=TP
 have hRl:(R.map Prod.snd).length=R.length:=List.length_map _
 have hcl:=RS.cl
 have hcb:=RS.cb
 refine ok_top_read ?_
 unfold VC_top_read
 refine⟨fun vs hh=>∃(i:Nat) (a:Option Addr) (c:Nat),vs=[vsl a i c,vi i]∧i≤R.length∧OwnV h hh 69 1 a i c (((List.zipWith (fun(r:TRow EvL) (c:Nat)=>(r.1,r.2.take c)) R cs).take i).map rowV),fun vs hh=>R.length - (vint vs 1).toNat,⟨0,none,0,rfl,Nat.zero_le _,OwnV.nil (Hp.le_refl h) _ _⟩,?_⟩
 rintro vs hh ⟨i,a,c,rfl,hi,O⟩
 have hzl:(List.zipWith (fun(r:TRow EvL) (c:Nat)=>(r.1,r.2.take c)) R cs).length=R.length:=by rw [List.length_zipWith];omega
 refine⟨a,i,c,i,rfl,fun e=>?_,fun e=>?_⟩
 ·have hlt:i < R.length:=by have:=of_decide_eq_true e;omega
  have hx:R[i]?=some R[i]:=List.getElem?_eq_getElem hlt
  have hz:(List.zipWith (fun(r:TRow EvL) (c:Nat)=>(r.1,r.2.take c)) R cs)[i]'(by omega)=(R[i].1,R[i].2.take (cs.getD i 0)):=by
   rw [List.getElem_zipWith,List.getD_eq_getElem?_getD,List.getElem?_eq_getElem (by omega)];rfl
  have tk:(List.zipWith (fun(r:TRow EvL) (c:Nat)=>(r.1,r.2.take c)) R cs).take (i+1)=(List.zipWith (fun(r:TRow EvL) (c:Nat)=>(r.1,r.2.take c)) R cs).take i++[(R[i].1,R[i].2.take (cs.getD i 0))]:=by
   rw [List.take_succ_eq_append_getElem (by omega),hz]
  have hci:cs.getD i 0≤R[i].2.length:=by
   have:=hcb i (by omega)
   rw [List.getD_eq_getElem?_getD (l:=R.map Prod.snd),List.getElem?_map,hx] at this
   exact this
  obtain⟨_,hcap⟩:=H2 i R[i] hx
  have hbl:=hb R[i].2 (List.mem_map.2 ⟨R[i],List.getElem_mem hlt,rfl⟩)
  generalize R[i]=r at *
  obtain⟨b,o,ea,hc⟩:=H.get1 (j:=i) (v:=rowV r) (by rw [List.getElem?_map,hx];rfl)
  obtain⟨a1,n1,c1,a2,n2,c2,a3,n3,c3,qf,ak,nk,ck,ar,cr,ac,cc,tb,tc',aw,cw,RP,k1,s1,_⟩:=(X.le O.le).seen
  have hrl:st.rd.length=R.length:=by rw [RS.rd,hcl,hRl]
  obtain⟨br,or_,ear,hcr⟩:=s1.get (i:=i) (by omega)
  have hxr:(st.rd.map fun n:Nat=>(n:Int)).getD i 0=((cs.getD i 0:Nat):Int):=by
   rw [RS.rd,List.getD_eq_getElem?_getD,List.getD_eq_getElem?_getD,List.getElem?_map,List.getElem?_eq_getElem (by omega)];rfl
  rw [hxr] at hcr
  have rs:=rd_slice_h (P:=Tryz.prog) (h:=hh) (t:=69) (e:=43) (by kernel_rfl) (by kernel_rfl) (a:=r.1.1) (n:=r.2.length) (c:=r.1.2) (x:=((cs.getD i 0:Nat):Int)) (by omega) (by omega)
  rw [Int.toNat_natCast] at rs
  have erow:rowV (r.1,r.2.take (cs.getD i 0))=vsl r.1.1 (cs.getD i 0) r.1.2:=by
   show vsl r.1.1 (r.2.take (cs.getD i 0)).length r.1.2=_
   rw [List.length_take,Nat.min_eq_left hci]
  refine⟨b,o,⟨ea,by omega,by omega⟩,r.1.1,r.2.length,r.1.2,by rw [Int.toNat_natCast];exact cell_le O.le hc,_,_,_,cell_cells k1 rfl,br,or_,⟨ear,by omega,by omega⟩,_,by rw [Int.toNat_natCast];exact hcr,_,_,_,rs,?_⟩
  intro b18 hb18 h19
  refine OwnV.append elParts (OwnV.set hb18 _ O) (HasRow.new _ _ [vsl r.1.1 (cs.getD i 0) r.1.2] _) (m:=1) rfl (by intro u hu;rw [List.mem_singleton.1 hu];rfl) (by omega) (by omega) fun a' c' h' O' _ _=>⟨_,_,_,rfl,_,isW (by unfold InR;omega),⟨i+1,a',c',rfl,by omega,?_⟩,by simp [vint];omega⟩
  rw [tk,List.map_append,List.map_cons,List.map_nil,erow]
  exact O'
 ·have hge:i=R.length:=by have:=of_decide_eq_false e;omega
  subst hge
  rw [List.take_of_length_le (by omega)] at O
  have epre:(List.zipWith (fun(r:TRow EvL) (c:Nat)=>(r.1,r.2.take c)) R cs).map Prod.snd=preO (R.map Prod.snd) cs:=by
   unfold preO
   rw [List.map_zipWith,List.zipWith_map_left]
  have:=hK a c hh O.le ⟨_,epre,by rw [preO_len hcl],O.row,fun j r hr=>?_⟩
  ·rw [hRl] at this
   exact this
  ·obtain⟨hj,er⟩:=List.getElem?_eq_some_iff.1 hr
   rw [List.getElem_zipWith] at er
   obtain⟨q1,q2⟩:=H2 j _ (List.getElem?_eq_getElem (by omega))
   subst er
   refine⟨?_,Nat.le_trans (List.length_take_le' ..) q2⟩
   have S:SlP encE h (R[j]'(by omega)).1.1 (R[j]'(by omega)).2.length (R[j]'(by omega)).2:=⟨rfl,q1⟩
   have hcj:cs[j]'(by omega)≤(R[j]'(by omega)).2.length:=by
    have:=hcb j (by omega)
    rw [List.getD_eq_getElem?_getD,List.getElem?_eq_getElem (by omega),List.getD_eq_getElem?_getD (l:=R.map Prod.snd),List.getElem?_map,List.getElem?_eq_getElem (by omega)] at this
    exact this
   exact(S.take (sz:=7) (fun _=>rfl) hcj).2.le O.le
end
set_option maxHeartbeats 1000000 in
theorem so_ok {q:Qy}(B:QOk q){ps:List (List EvL)}{pa:Option Addr}{pc:Nat}{cs:List Nat}{h0 h:Hp}{g b0 b1 N:Nat}{st:En}{t0 t1:TypeId}{a7:Option Addr}{n7 c7:Nat}{a8:Option Addr}{n8 c8:Nat}{a9:Option Addr}{n9 c9:Nat}(Q:QAt h q a7 n7 a8 n8 a9 n9)(TP:TabC encE h pa ps.length ps)(X:EngX q h0 h g st)(RS:RunS q ps cs st)(HB:EnB q ps.length N st)(hN:N≤300000)(h3:ps.length≤3)(hE:∀ x ∈ ps,x.length≤40∧∀ e ∈ x,EvOK e)
  (k0:h b0=some (cellsO [vsl a7 n7 c7,vsl a8 n8 c8,vsl a9 n9 c9,vi q.size,vi q.slide,vi q.delay,vi q.late] t0)) (kp:h b1=some (cellsO [vsl pa ps.length pc] t1)) :
  CallOK Tryz.prog 37 [vhp g 0,vhp b0 0,vhp b1 0] h fun v h'=>v=vb true∧h.le h':=by
 refine ok_top_TopSo_1 ?_
 unfold VC_top_TopSo_1
 obtain⟨a,c,L,hc,hL,hp,hl,hv,hnet⟩:=RS.net_ok X B HB hN
 have hpE:∀ p ∈ preO ps cs,∀ e ∈ p,EvOK e:=by
  intro p hp e he
  unfold preO at hp
  obtain⟨i,hi,rfl⟩:=List.mem_iff_getElem.1 hp
  rw [List.getElem_zipWith] at he
  exact(hE _ (List.getElem_mem _)).2 e (List.mem_of_mem_take he)
 have hpl:∀ p ∈ preO ps cs,p.length≤100:=by
  intro p hp
  unfold preO at hp
  obtain⟨i,hi,rfl⟩:=List.mem_iff_getElem.1 hp
  rw [List.getElem_zipWith,List.length_take]
  have:=(hE _ (List.getElem_mem (by rw [List.length_zipWith] at hi;omega:i < ps.length))).1
  omega
 have hlen:=preO_len RS.cl
 obtain⟨hm1,hm2⟩:=ansQ_many B (by rw [hlen];omega) hpl hpE
 refine⟨_,_,_,hc,hnet (Hp.le_refl h) fun a' c' h3' l3' G=>⟨_,_,_,_,rfl,?_⟩⟩
 refine⟨_,_,_,_,_,_,_,_,_,_,_,_,_,row_cells' (l3' _ _ k0) (Nat.le_of_ble_eq_true rfl),_,_,_,cell_cells (l3' _ _ kp) rfl,?_⟩
 refine top_read_ok (TP.le l3') (X.le l3') RS h3 (fun x hx=>by have:=(hE x hx).1;omega) fun a16 c16 h15 l15 T16=>⟨_,_,_,rfl,row_cells' (l15 _ _ (l3' _ _ k0)) (Nat.le_of_ble_eq_true rfl),?_⟩
 have l015:=Hp.le_trans l3' l15
 rw [←hlen] at T16 ⊢
 refine batch_Answer_ok (Q.le l015) B T16 (by omega) hpl hpE fun a19 c19 h18 l18 G19=>⟨_,_,_,_,rfl,?_⟩
 have l018:=Hp.le_trans l015 l18
 obtain⟨a1,n1,c1,a2,n2,c2,a3,n3,c3,qf,ak,nk,ck,ar,cr,ac,cc,tb,tc',aw,cw,RP,k1,s1,s2,g1,_⟩:=(X.le l018).seen
 have hfl:=HB.fl
 have hfar:(preO ps cs).map farL=st.far:=RS.en.far.symm
 have hlate:st.late=lateA q (preO ps cs):=RS.en.late
 rw [hfar] at hp
 refine⟨_,_,_,row_cells' k1 (Nat.le_of_ble_eq_true rfl),_,cell_cells (l018 _ _ k0) rfl,?_⟩
 refine clock_All_ok s2 (by omega) HB.fb B.d ⟨_,_,rfl,fun e1=>?_,fun e1=>?_⟩
 ·have hU:(farC q.delay st.far).2=false:=by simpa using e1
  have hnil:L=[]:=by
   have:(ansQ q (preO ps cs)).filter (fun x=>dueU q (farC q.delay st.far) x.1)=[]:=by
    rw [List.filter_eq_nil_iff]
    intro x _ hx
    unfold dueU at hx
    rw [hU] at hx
    cases hx
   rw [this] at hp
   exact List.Perm.eq_nil hp
  refine⟨_,fun _=>cell_cells k1 rfl,?_,l018⟩
  rw [hnil,hlate]
  simp
 ·have hU:(farC q.delay st.far).2=true:=by simpa using e1
  refine⟨_,fun _=>cell_cells k1 rfl,_,fun _=>cell_cells (l018 _ _ k0) rfl,?_⟩
  have hdue:(ansQ q (preO ps cs)).filter (fun x=>dueU q (farC q.delay st.far) x.1)=uptoL q.size (farC q.delay st.far).1 (ansQ q (preO ps cs)):=by
   unfold uptoL
   refine List.filter_congr fun x _=>?_
   unfold dueU
   rw [hU,Bool.true_and]
  rw [hdue] at hp
  have hlq:(decide (((lateA q (preO ps cs):Nat):Int)=((st.late:Nat):Int)))=true:=by rw [hlate];exact decide_eq_true rfl
  rw [hlq]
  refine⟨fun x hh=>h18.le hh∧∃(a':Option Addr) (c':Nat),x=.t (.one (.v (vsl a' (uptoL q.size (farC q.delay st.far).1 (ansQ q (preO ps cs))).length c')))∧GTab encV pkRw hh a' (uptoL q.size (farC q.delay st.far).1 (ansQ q (preO ps cs))).length (uptoL q.size (farC q.delay st.far).1 (ansQ q (preO ps cs))),fun _=>?_,fun e=>absurd rfl e,?_⟩
  ·refine top_upto_ok G19 (by omega) (fun x hx=>?_) fun a34 c34 h33 l33 G34=>⟨_,_,_,rfl,l33,_,_,rfl,G34⟩
   have hk:-1000≤x.1.1∧x.1.1≤9999:=by
    unfold ansQ ansA at hx
    obtain⟨k,hk,rfl⟩:=List.mem_map.1 hx
    obtain⟨d,hd,e⟩:=(keysS_mem _ _).1 hk
    have:=(addA_ok B hpE d hd).s
    rw [e] at this
    exact this
   have:=B.s
   unfold InR
   omega
  rintro h35 a36 n36 c36 ⟨l35,a'',c'',e,G36⟩
  cases e
  have l035:=Hp.le_trans l018 l35
  refine⟨fun x hh=>hh=h35∧x=.t (.one (.v (vb true))),fun _=>top_alike_ok (G.le (Hp.le_trans l15 (Hp.le_trans l18 l35))) G36 hp (by omega) hv ⟨_,rfl,rfl,rfl⟩,fun e=>absurd rfl e,?_⟩
  rintro h41 p42 ⟨rfl,e⟩
  cases e
  exact⟨rfl,l035⟩
set_option maxHeartbeats 1000000 in
theorem law_TopSo_ok {s:Wd}{ps:List (List EvL)}{pa:Option Addr}{pn pc:Nat}{ts:List Int}{ta:Option Addr}{tn tc:Nat}{h:Hp}(TP:TabC encE h pa pn ps)(ST:SlI h ta tn ts)(T:TabQ h):CallOK Tryz.prog 9 [vs (bs s),vsl pa pn pc,vsl ta tn tc] h fun v h'=>v=vb true∧h.le h':=by
 refine ok_top_TopSo ?_
 unfold VC_top_TopSo
 have hpn:pn=ps.length:=TP.r.choose_spec.2.1
 subst hpn
 intro b1 hb1 h2'
 have l02:h.le h2':=Hp.le_set (Hp.le_refl h) hb1 _
 have kb1:h2' b1=some (cellsO [vsl pa ps.length pc] 49):=Hp.set_same _ _ _
 clear_value h2'
 refine top_works_ok (T.le l02) fun h4 l4=>⟨_,rfl,fun e=>(by cases e),fun _=>?_⟩
 have l04:=Hp.le_trans l02 l4
 refine top_asked_ok (T.le l04) (fun a1 n1 c1 a2 n2 c2 a3 n3 c3 x4 x5 x6 x7 h' l'=>⟨_,_,_,_,_,_,_,_,_,_,_,_,_,_,rfl,?_⟩) ?_
 ·intro b17 hb17 h18
  refine store_new (by rfl) ?_
  have l17:=Hp.le_set (Hp.le_trans l04 l') hb17 (cellsO [vsl a1 n1 c1,vsl a2 n2 c2,vsl a3 n3 c3,vi x4,vi x5,vi x6,vi x7] 28)
  exact⟨none,0,0,fun e=>(by cases e),fun x hh=>h.le hh,fun e=>(by cases e),fun _=>l17,fun h25 p26 l25=>⟨fun _=>⟨rfl,l25⟩,fun e=>(by cases e)⟩⟩
 intro hf B a9 n9 c9 a10 n10 c10 a11 n11 c11 h8 l8 Q
 have l08:=Hp.le_trans l04 l8
 refine⟨_,_,_,_,_,_,_,_,_,_,_,_,_,_,rfl,?_⟩
 intro b17 hb17 h18
 refine store_new (by rfl) ?_
 have l19:=Hp.le_set (Hp.le_refl h8) hb17 (cellsO [vsl a9 n9 c9,vsl a10 n10 c10,vsl a11 n11 c11,vi (parseQ s).1.size,vi (parseQ s).1.slide,vi (parseQ s).1.delay,vi (parseQ s).1.late] 28)
 have k17:(h8.set b17 (cellsO [vsl a9 n9 c9,vsl a10 n10 c10,vsl a11 n11 c11,vi (parseQ s).1.size,vi (parseQ s).1.slide,vi (parseQ s).1.delay,vi (parseQ s).1.late] 28)) b17=some _:=Hp.set_same _ _ _
 generalize (h8.set b17 (cellsO [vsl a9 n9 c9,vsl a10 n10 c10,vsl a11 n11 c11,vi (parseQ s).1.size,vi (parseQ s).1.slide,vi (parseQ s).1.delay,vi (parseQ s).1.late] 28))=h19 at l19 k17 ⊢
 have l019:=Hp.le_trans l08 l19
 have kb19:=Hp.le_trans l4 (Hp.le_trans l8 l19) _ _ kb1
 refine⟨_,_,_,fun _=>cell_cells kb19 rfl,?_⟩
 refine⟨fun x hh=>h19.le hh∧∃ p,x=.t (.one (.v (vb p)))∧(p=true→1≤ps.length∧ps.length≤3∧tn≤200∧∀ x ∈ ps,x.length≤40∧∀ e ∈ x,EvOK e),fun _=>top_few_ok (TP.le l019) fun p h' l' hp=>⟨_,rfl,l',p,rfl,hp⟩,fun e=>absurd rfl e,?_⟩
 rintro h25 p26 ⟨l25,p,e,hp⟩
 cases e
 have l025:=Hp.le_trans l019 l25
 refine⟨fun _=>⟨rfl,l025⟩,fun e=>?_⟩
 have hpt:p26=true:=by cases p26 with|true=>rfl|false=>cases e
 obtain⟨h1,h3,ht,hE⟩:=hp hpt
 have k25:=l25 _ _ k17
 have kb25:=l25 _ _ kb19
 have Q25:=Q.le (Hp.le_trans l19 l25)
 refine⟨_,_,_,_,_,_,_,_,_,_,_,_,_,row_cells' k25 (Nat.le_of_ble_eq_true rfl),_,_,_,cell_cells kb25 rfl,?_⟩
 refine top_run_ok Q25 B (TP.le l025) h1 h3 hE (ST.le l025) ht (fun g hh st cs N X RS HB hN=>?_) fun g h' st N X RS HB hN=>⟨_,_,rfl,rfl,Hp.le_trans l025 X.le0⟩
 exact⟨37,#[],#[vhp b17 0,vhp b1 0],rfl,⟨_,Tryz.func37,by kernel_rfl,rfl⟩,so_ok B (Q25.le X.le0) (TP.le (Hp.le_trans l025 X.le0)) X RS HB hN h3 hE (X.le0 _ _ k25) (X.le0 _ _ kb25)⟩
end Go.Proofs.YtiflgceoamkmnaaGreatDoor
namespace Go.Proofs.YtiflgceoamkmnaaGreatDoor.topSo
open Go.ChangeShapes Go.WideShapes Go.ChangeAt Go.RowKit Go.Vc
theorem own:ownKnob Tryz.prog.godebug=none:=by kernel_rfl
theorem open0 {H:Type}{enc:TypeId × Value→H}{W:World}{cs:List Value}(L:LeafL Tryz.prog enc W (fun _=>True) (flatIds Tryz.prog 4 43) cs):∃(x0:Int) (x1:Int) (x2:Int) (x3:Int) (x4:Int) (x5:Int) (x6:Int),cs=encE (x0,(x1,x2),(x3,x4),(x5,x6))∧InR x0∧InR x1∧InR x2∧InR x3∧InR x4∧InR x5∧InR x6:=by
 have e:flatIds Tryz.prog 4 43=[3,3,3,3,3,3,3]:=by kernel_rfl
 rw [e] at L
 match cs,L with
 | [v0,v1,v2,v3,v4,v5,v6],L=>
  obtain⟨x0,h0,g0⟩:=leaf_i64 Tryz.underlying3 (L.1)
  cases h0
  obtain⟨x1,h1,g1⟩:=leaf_i64 Tryz.underlying3 (L.2.1)
  cases h1
  obtain⟨x2,h2,g2⟩:=leaf_i64 Tryz.underlying3 (L.2.2.1)
  cases h2
  obtain⟨x3,h3,g3⟩:=leaf_i64 Tryz.underlying3 (L.2.2.2.1)
  cases h3
  obtain⟨x4,h4,g4⟩:=leaf_i64 Tryz.underlying3 (L.2.2.2.2.1)
  cases h4
  obtain⟨x5,h5,g5⟩:=leaf_i64 Tryz.underlying3 (L.2.2.2.2.2.1)
  cases h5
  obtain⟨x6,h6,g6⟩:=leaf_i64 Tryz.underlying3 (L.2.2.2.2.2.2.1)
  cases h6
  exact⟨x0,x1,x2,x3,x4,x5,x6,rfl,g0,g1,g2,g3,g4,g5,g6⟩
theorem open1 {H:Type}{enc:TypeId × Value→H}{W:World}{cs:List Value}(L:LeafL Tryz.prog enc W (fun _=>True) (flatIds Tryz.prog 4 3) cs):∃(x0:Int),cs=encI1 x0∧InR x0:=by
 have e:flatIds Tryz.prog 4 3=[3]:=by kernel_rfl
 rw [e] at L
 match cs,L with
 | [v0],L=>
  obtain⟨x0,h0,g0⟩:=leaf_i64 Tryz.underlying3 (L.1)
  cases h0
  exact⟨x0,rfl,g0⟩
abbrev lay:=Rows.topSoRow.laid
theorem tabs {W:World}(hL:laidMetH Tryz.prog lay W):TabP (hpOf W):=by
 rw [MakeChecks.laidMetH_plain _ _ _ (by kernel_rfl)] at hL
 have h3:laidMet Tryz.prog (("internal/strconv.uint64pow10",Lib.tabData .u64 Lib.pow10Tab) :: lay.drop 3) W:=hL.tail.tail
 have hT:=Lib.tabIs_of_head (g:=5) (n:=20) (by kernel_rfl) (t:=274) (by kernel_rfl) (e:=223) (by kernel_rfl) (by kernel_rfl) (by kernel_rfl) (by kernel_rfl) h3
 intro w hs
 exact var_sub hT hs
theorem star: "*"++ "errors.errorString"= "*errors.errorString":=by decide
theorem rowE (u:TypeId)(h:Tryz.prog.typeName? 3 u=some "*errors.errorString"):u=263:=
 typeName_ptr_named (nm:= "errors.errorString") (by rw [star];kernel_rfl) (by kernel_rfl) (by decide) u (by rw [star];exact h)
theorem errs {W:World}(hL:laidMetH Tryz.prog lay W):TabE (hpOf W):=by
 rw [MakeChecks.laidMetH_plain _ _ _ (by kernel_rfl)] at hL
 have h4:laidMet Tryz.prog (("strconv.ErrRange",_) :: ("strconv.ErrSyntax",_) :: lay.drop 5) W:=hL.tail.tail.tail
 obtain⟨a0,s0,hv0,_⟩:=laid_sentinel (g:=2) (ti:=33) h4 (by kernel_rfl) (by kernel_rfl) Tryz.underlying33 rowE Tryz.underlying263 Tryz.underlying265 rfl rfl Tryz.underlying9 (by kernel_rfl) (by kernel_rfl)
 obtain⟨a1,s1,hv1,_⟩:=laid_sentinel (g:=1) (ti:=33) h4.tail (by kernel_rfl) (by kernel_rfl) Tryz.underlying33 rowE Tryz.underlying263 Tryz.underlying265 rfl rfl Tryz.underlying9 (by kernel_rfl) (by kernel_rfl)
 exact⟨⟨_,_,fun w hs=>vars_sub hv1 hs⟩,⟨_,_,fun w hs=>vars_sub hv0 hs⟩⟩
theorem names {W:World}(hL:laidMetH Tryz.prog lay W):TabQ (hpOf W):=by
 have T:=tabs hL
 have E:=errs hL
 rw [MakeChecks.laidMetH_plain _ _ _ (by kernel_rfl)] at hL
 have h6:laidMet Tryz.prog (("penstock/query.fields",_) :: ("penstock/query.aggs",_) :: lay.drop 7) W:=hL.tail.tail.tail.tail.tail
 exact⟨T,E,laid_texts (texts:=fieldW) (g:=4) (t:=145) (e:=9) h6 (by kernel_rfl) (by kernel_rfl) (by kernel_rfl) (by kernel_rfl) (by kernel_rfl) (by decide),laid_texts (texts:=aggsW) (g:=0) (t:=145) (e:=9) h6.tail (by kernel_rfl) (by kernel_rfl) (by kernel_rfl) (by kernel_rfl) (by kernel_rfl) (by decide)⟩
theorem door_met (os:Os)(args:Array Value):laidMetH Tryz.prog lay ((World.doorLaid Tryz.prog 400 os).forCall (fun _ _=>0) ⟨#[],args,[]⟩).memory:=
 laidMetH_of_parts3 (fuel:=8) (laidMet_of_run' 8 (by kernel_rfl) (by kernel_rfl)) (by kernel_rfl) (by kernel_rfl)
set_option maxRecDepth 100000 in
theorem lifted (os:Os)(started:os.Started)(H:Type)(enc:TypeId × Value→H) :
  ReturnsInHanded {} Tryz.checked os 9 .any (fun w args=>(Rows.topSoSpec.pre enc Tryz.prog Tryz.f9 Rows.topSoRow.domain false w args∧laidMetH Tryz.prog lay w)∧sizedMet enc Tryz.prog Tryz.f9 (OpenSpec.ofChange Rows.topSoSpec) false w args) (Rows.topSoSpec.post enc Tryz.prog Tryz.f9 false true false false):=by
 refine returnsInHanded_of_change_and (C:=Tryz.checked) (X:=fun w _=>laidMetH Tryz.prog lay w) (fun _ _ _ hh h=>h.of_heap hh) own started (by kernel_rfl) Tryz.func9
  (ChangeSpec.witness_shaped (enc:=enc) (C:=Tryz.checked) (os:=os) (X:=fun w _=>laidMetH Tryz.prog lay w) false (World.doorLaid Tryz.prog 400 os) #[.string ⟨#[]⟩,.slice none 0 0,.slice none 0 0] 8 rfl (World.shaped_of_RefB (by kernel_rfl) (by kernel_rfl)) (by kernel_rfl) (by kernel_rfl) (by kernel_rfl) (door_met os _)) ?_
 intro W base args ds gs before hval0 hW hcnd _ hL _
 have T:=tabs hL
 have E:=errs hL
 have TQ:=names hL
 have hval:∀(j:Nat) t v,Tryz.f9.params[j]?=some t→args[j]?=some v→Value.okWide Tryz.prog W .any base t v:=hval0
 have hW':=hW
 obtain⟨p,q,hA0,hV,rfl,hfz,hnd⟩:=hW
 have hA:DataW.TrodAll enc Tryz.prog W 0 (fun _=>true) true Tryz.f9.params.toList args.toList ds p:=hA0
 rw [Tryz.params9] at hA hval
 obtain⟨v0,vs0,d0,ds0,p0,q0,hargs,rfl,rfl,h0,r0⟩:=trodAll_cons hA
 obtain⟨v1,vs1,d1,ds1,p1,q1,rfl,rfl,rfl,h1,r1⟩:=trodAll_cons r0
 obtain⟨v2,vs2,d2,ds2,p2,q2,rfl,rfl,rfl,h2,r2⟩:=trodAll_cons r1
 obtain⟨rfl,rfl,rfl⟩:=trodAll_nil r2
 obtain rfl:args=#[v0,v1,v2]:=by cases args;simp_all
 obtain⟨rfl,rfl⟩:=trodVars_none hV
 obtain⟨s0,rfl⟩:=okWide_string Tryz.underlying9 (hval 0 9 v0 rfl rfl)
 obtain⟨b0,e0,_,z0⟩:=leaf_string smTrue Tryz.underlying9 (leafC_of (Sm:=fun _=>True) h0 trivial)
 cases e0
 obtain⟨w1,w2,w3,rfl⟩:=okWide_slice (e:=69) (by kernel_rfl) (hval 1 49 v1 rfl rfl)
 obtain⟨p1,n1,c1,R1,e1,S1,hc1,hm1,_,g1⟩:=leaf_slice (enc:=fun r=>[rowV r]) (sz:=1) (good:=fun r:TRow _=>HasRow (hpOf W) r.1.1 (r.2.flatMap encE)∧r.2.length≤r.1.2∧r.1.2≤maxLen∧∀ y ∈ r.2,True) smTrue (e:=69) (by kernel_rfl) (by kernel_rfl) (by decide) (fun _=>rfl)
  (fun cs L=>by
   obtain⟨a,n,c,l,e,S,hc,hm,_,hg⟩:=leaf_slice (enc:=encE) (sz:=7) (good:=fun y=>True) smTrue (e:=43) (by kernel_rfl) (by kernel_rfl) (by decide) (fun _=>rfl) (fun cs L=>by
    have hf:=leaf_flat smTrue 4 (by kernel_rfl) L
    obtain⟨x0,x1,x2,x3,x4,x5,x6,hy,hg⟩:=open0 hf
    exact⟨(x0,(x1,x2),(x3,x4),(x5,x6)),hy,trivial⟩) L
   cases e
   obtain rfl:=S.1
   exact⟨((a,c),l),rfl,S.2,hc,hm,hg⟩) (leafC_of (Sm:=fun _=>True) h1 trivial)
 cases e1
 obtain⟨w1,w2,w3,rfl⟩:=okWide_slice (e:=3) (by kernel_rfl) (hval 2 50 v2 rfl rfl)
 obtain⟨p2,n2,c2,l2,e2,S2,hc2,hm2,_,g2⟩:=leaf_slice (enc:=encI1) (sz:=1) (good:=fun y=>True) smTrue (e:=3) (by kernel_rfl) (by kernel_rfl) (by decide) (fun _=>rfl)
  (fun cs L=>by
   have hf:=leaf_flat smTrue 4 (by kernel_rfl) L
   obtain⟨x0,hy,hg⟩:=open1 hf
   exact⟨x0,hy,trivial⟩) (leafC_of (Sm:=fun _=>True) h2 trivial)
 cases e2
 refine(calls_law (law_TopSo_ok (s:=s0.data.toList) (tabc_of3 S1 (fun r hr=>⟨(g1 r hr).1,(g1 r hr).2.1⟩)) (SlI.of_slp S2) TQ)).mono fun e W' ⟨he,hg⟩=>?_
 subst he
 exact⟨_,rfl,law_post big hW' hg (by kernel_rfl) (tb:=4) (by kernel_rfl) (by kernel_rfl) rfl⟩
theorem over:Rows.topSoRow.holds Tryz.pinned (OpenSpec.ofChange Rows.topSoSpec):=
 OpenClaim.holds_of_wide 9 Tryz.f9 rfl rfl rfl rfl rfl rfl rfl ⟨rfl,rfl,rfl,rfl,rfl⟩ rfl rfl rfl rfl rfl (by kernel_rfl) Tryz.func9 (by kernel_rfl)
  (of_decide_eq_true (by kernel_rfl)) (by unfold Func.isWrapper;first|(rw [if_pos (by decide +kernel)];kernel_rfl)|(rw [if_neg (by decide +kernel)];exact⟨rfl,rfl⟩))
  (fun os started H enc _=>lifted os started H enc)
theorem proved:Rows.TopSoCardSaid:=
 Claim7.holds_tied_plain_at .later [] _ true _ true
  over (fun _ h=>by cases h) (by kernel_rfl) (fun _ h=>by cases h) topSo_row_tie rfl ⟨rfl,rfl⟩ (by kernel_rfl) rfl
  (fun f fn hf hfn=>by
   obtain rfl:f=9:=Option.some.inj ((show Tryz.prog.funcNamed "penstock/penstocktop.TopSo"=some 9 by kernel_rfl).symm.trans hf) |>.symm
   obtain rfl:fn=Tryz.f9:=(Option.some.inj (Tryz.func9.symm.trans hfn)).symm
   exact⟨by kernel_rfl,fun j t ht=>by
    rw [Tryz.params9] at ht
    have hm:t ∈ [9,49,50]:=by simpa using Array.mem_of_getElem? ht
    have hall:([9,49,50].all fun u=>!Tryz.prog.wantsStandIn u)=true:=by kernel_rfl
    exact(show Tryz.prog.wantsStandIn t=false by simpa using List.all_eq_true.1 hall t hm)⟩)
  (by kernel_rfl)
end Go.Proofs.YtiflgceoamkmnaaGreatDoor.topSo
