/-
  The statement that the last part names, proved; and all that it stands on that is not in the parts ahead. Conditions: those stated at each.
-/
import Derived.Test.YtiflgceoamkmnaaGreatDoorRows
import Derived.Test.YtiflgceoamkmnaaGreatDoorCards
import Derived.Test.YtiflgceoamkmnaaGreatDoorTie
import Derived.WalkKit
import Derived.ProofKit
import Derived.OpenShut
import Derived.LaidMore
import Derived.Stop.Joined
import Derived.Stop.LaidErr
import Derived.SevenTiedAt
import Derived.Test.YtiflgceoamkmnaaGreatDoorEn4
set_option linter.unusedVariables false
set_option maxRecDepth 100000
namespace Go.Proofs.YtiflgceoamkmnaaGreatDoor
open Go Go.Vc
theorem qryF_ok {q:Qy}(B:QOk q):qryF q=0:=by
 have h1:=B.n1
 have h2:=B.n2
 have hA:firstF (q.aggs.map aggF)=0:=by
  refine firstF_zero fun x hx=>?_
  obtain⟨a,ha,rfl⟩:=List.mem_map.1 hx
  obtain⟨g1,g2,g3,g4⟩:=B.g a ha
  unfold aggF
  rw [if_neg (by
   rintro(q1|q1|⟨q1,q2⟩)
   ·omega
   ·omega
   ·exact q2 (g4 q1))]
  split
  ·rfl
  ·rename_i h;exact B.ga a ha h
 unfold qryF
 rw [if_neg (by omega),if_neg (by rw [hA];simp)]
 unfold tailF
 refine firstF_zero fun x hx=>?_
 simp only [List.mem_cons,List.not_mem_nil,or_false] at hx
 rcases hx with rfl|rfl|rfl
 ·split
  ·rfl
  ·rename_i h;exact B.wa h
 ·split
  ·rfl
  ·rename_i h;exact B.ba h
 ·have h3:=B.s
  have h4:=B.l
  have h5:=B.d
  have h6:=B.t
  have h7:=B.r
  unfold numsF
  rw [if_neg (by omega),if_neg (by omega)]
def csE (vA v2 v3:Value)(q:Qy)(vK vR vC:Value):List Value:=[vA,v2,v3,vi q.size,vi q.slide,vi q.delay,vi q.late,vK,vR,vC,vsl none 0 0,vi 0,vsl none 0 0]
theorem growL_snocN {α β:Type}(R:List (GRow α β))(r:GRow α β):growL (R++[r])=growL R++[(r.1,r.2.2)]:=by unfold growL;rw [List.map_append];rfl
def AggF (a b:Ag):Prop:=b.1=a.1∧(a.1=1→b.2=[])∧(a.1≠1→Rep (fun e=>valE e a.2) (tAt a.2 (a.2.length - 1)) a.2.length b.2)
theorem elAggN:ElT Tryz.prog 25 86 2 32:=.of (by kernel_rfl) (by kernel_rfl) (by decide)
abbrev owI (a:Option Addr)(n c:Nat)(xs:List Value):Ow:=⟨3,1,a,n,c,xs⟩
def EngO (q:Qy)(h0 h:Hp)(g parts:Nat):Prop:=
 ∃(qf:Qy) (hi:Hp) (a1:Option Addr) (n1 c1:Nat) (a2:Option Addr) (n2 c2:Nat) (a3:Option Addr) (n3 c3:Nat) (ak:Option Addr) (nk ck:Nat) (ar:Option Addr) (cr:Nat) (ac:Option Addr) (cc:Nat),
  h0.le hi∧Owns hi h [owI ac parts cc ((List.replicate parts (-1:Int)).map vi),owI ar parts cr ((List.replicate parts (0:Nat)).map fun n:Nat=>vi n),blkO g 64 (engC a1 n1 c1 a2 n2 c2 a3 n3 c3 qf ak nk ck ar parts cr ac parts cc none 0 0 0 none 0 0)] ∧
   FoldQ q qf∧QAt hi qf a1 n1 a2 n2 a3 n3∧SlI hi ak nk (kindsQ q)
theorem EngX.of_owns {q qf:Qy}{h0 hi h:Hp}{g:Nat}{st:En}{a1:Option Addr}{n1 c1:Nat}{a2:Option Addr}{n2 c2:Nat}{a3:Option Addr}{n3 c3:Nat}{ak:Option Addr}{nk ck:Nat}{ar:Option Addr}{cr:Nat}{ac:Option Addr}{cc:Nat}{tb:Option Addr}{tc:Nat}{aw:Option Addr}{cw:Nat}{R:List PR}{RW:List (GRow Vl (Bool × PK))}(l0:h0.le hi)
  (O:Owns hi h [owI ac st.far.length cc (st.far.map vi),owI ar st.rd.length cr (st.rd.map fun n:Nat=>vi n),blkO g 64 (engC a1 n1 c1 a2 n2 c2 a3 n3 c3 qf ak nk ck ar st.rd.length cr ac st.far.length cc tb R.length tc st.late aw RW.length cw),⟨79,5,tb,R.length,tc,R.flatMap encPr⟩,⟨74,5,aw,RW.length,cw,RW.flatMap (growV rwRow)⟩])
  (F:FoldQ q qf) (Q:QAt hi qf a1 n1 a2 n2 a3 n3) (K:SlI hi ak nk (kindsQ q)) (hR:∀ r ∈ R,HasRow hi r.a (r.acs.flatMap encAc)) (hW:∀ r ∈ RW,HasRow hi r.2.1.1 (r.2.2.flatMap encV)) (eR:R.map prT=st.pn.map (pnT (kindsQ q))) (eW:growL RW=st.rows.map rowG):EngX q h0 h g st:=by
 obtain⟨hj,lj,Oj,kj⟩:=O.rebase (L':=[owI ar st.rd.length cr (st.rd.map fun n:Nat=>vi n),blkO g 64 (engC a1 n1 c1 a2 n2 c2 a3 n3 c3 qf ak nk ck ar st.rd.length cr ac st.far.length cc tb R.length tc st.late aw RW.length cw),⟨74,5,aw,RW.length,cw,RW.flatMap (growV rwRow)⟩]) (by
  refine List.Sublist.cons _ (List.Sublist.cons_cons _ (List.Sublist.cons_cons _ (List.Sublist.cons _ ?_)))
  exact List.Sublist.refl _)
 have keepR:∀(s:Ow) (k:Nat),(k=0∨k=3)→[owI ac st.far.length cc (st.far.map vi),owI ar st.rd.length cr (st.rd.map fun n:Nat=>vi n),blkO g 64 (engC a1 n1 c1 a2 n2 c2 a3 n3 c3 qf ak nk ck ar st.rd.length cr ac st.far.length cc tb R.length tc st.late aw RW.length cw),⟨79,5,tb,R.length,tc,R.flatMap encPr⟩,⟨74,5,aw,RW.length,cw,RW.flatMap (growV rwRow)⟩][k]?=some s→HasRow hj s.a s.xs:=by
  intro s k hk hs
  have hrow:=(O.ownV (List.mem_of_getElem? hs)).row
  refine HasRow.over hrow fun b o ob hb ho=>kj b ob ho fun t ht q1=>?_
  have hb0:o=0:=(O.own s (List.mem_of_getElem? hs)).at0 b o hb
  subst hb0
  simp only [List.mem_cons,List.not_mem_nil,or_false] at ht
  rcases ht with rfl|rfl|rfl
  ·exact O.apart hs (j:=1) rfl (by omega) hb q1
  ·exact O.apart hs (j:=2) rfl (by omega) hb q1
  ·exact O.apart hs (j:=4) rfl (by omega) hb q1
 have hcl:SlI hj ac st.far.length st.far:=⟨rfl,keepR _ 0 (.inl rfl) rfl⟩
 have hT:SlP encPr hj tb R.length R:=⟨rfl,keepR _ 3 (.inr rfl) rfl⟩
 refine⟨qf,hj,a1,n1,c1,a2,n2,c2,a3,n3,c3,ak,nk,ck,ar,cr,ac,st.far.length,cc,tb,tc,aw,cw,R,RW,Hp.le_trans l0 lj,⟨Oj.blk (List.mem_cons_of_mem _ (List.mem_cons_self ..)),Oj.new _ (List.mem_cons_of_mem _ (List.mem_cons_self ..)) g rfl,Oj.ownV (s:=owI ar st.rd.length cr (st.rd.map fun n:Nat=>vi n)) (List.mem_cons_self ..),Oj.ownV (s:=⟨74,5,aw,RW.length,cw,RW.flatMap (growV rwRow)⟩) (by simp),fun q1=>?_,fun q1=>?_,fun b hb q1=>?_⟩,
  ⟨F,Q.le lj,K.le lj,hcl,⟨hT,fun r hr=>(hR r hr).le lj⟩,eR,eW,fun r hr=>(hW r hr).le lj⟩⟩
 ·exact Oj.apart (i:=0) (j:=1) rfl rfl (by decide) (b:=g) q1 rfl
 ·exact Oj.apart (i:=2) (j:=1) rfl rfl (by decide) (b:=g) q1 rfl
 ·exact Oj.apart (i:=0) (j:=2) rfl rfl (by decide) (b:=b) hb q1
set_option maxHeartbeats 1000000 in
theorem engine_NewO_ok {q:Qy}{a1:Option Addr}{n1 c1:Nat}{a2:Option Addr}{n2 c2:Nat}{a3:Option Addr}{n3 c3:Nat}{h:Hp}{p:Int}{R':Value→Hp→Prop}(Q:QAt h q a1 n1 a2 n2 a3 n3)(B:QOk q)
  (hbad:¬(1≤p∧p≤3)→∀ h',h.le h'→R' (vtup [vp none,ifv (some (99,vi 1))]) h')
  (hK:1≤p→p≤3→∀ g h',h.le h'→EngO q h h' g p.toNat→R' (vtup [vhp g 0,ifv none]) h'):CallOK Tryz.prog 13 [qV a1 n1 c1 a2 n2 c2 a3 n3 c3 q,vi p] h R':=by
 refine ok_engine_New ?_
 unfold VC_engine_New
 have hn1:=Q.g.len
 have hn4:=B.n2
 refine query_Check_ok Q (qbig_of B) fun h2 l2=>⟨_,rfl,?_⟩
 rw [errV_some,decide_eq_true (qryF_ok B)]
 refine⟨fun e=>(by cases e),fun _=>?_⟩
 refine clock_New_ok (fun hp=>⟨_,_,_,_,rfl,fun _=>hbad hp h2 l2,fun e=>(by cases e)⟩) fun hp1 hp3 a7 n7 c7 h6 O6=>⟨_,_,_,_,rfl,fun e=>(by cases e),fun _=>?_⟩
 have l6:=Hp.le_trans l2 O6.le
 obtain⟨parts,rfl⟩:∃ n:Nat,p=(n:Int):=⟨p.toNat,by omega⟩
 rw [Int.toNat_natCast] at O6 hK
 refine sem_make elInt (z:=[vi 0]) (by kernel_rfl) (n:=parts) (by omega) (by omega) fun b10 hb10=>⟨_,_,_,rfl,?_⟩
 have erep:(List.replicate parts [vi 0]).flatten=(List.replicate parts (0:Nat)).map fun n:Nat=>vi n:=by
  clear hK hbad O6 hp1 hp3
  induction parts with
  | zero=>rfl
  | succ n ih=>rw [List.replicate_succ,List.flatten_cons,ih,List.replicate_succ,List.map_cons];rfl
 rw [erep]
 have hrl:((List.replicate parts (0:Nat)).map fun n:Nat=>vi n).length=parts*1:=by rw [List.length_map,List.length_replicate,Nat.mul_one]
 have l11:h6.le (h6.set b10 (cellsO ((List.replicate parts (0:Nat)).map fun n:Nat=>vi n) 3)):=Hp.le_set (Hp.le_refl _) hb10 _
 have hn7:parts=n7:=by rw [(O6.sli:SlI h6 a7 n7 (List.replicate parts (-1:Int))).1,List.length_replicate]
 subst hn7
 have OC:=(Owns.nil (Hp.le_refl h2)).push O6.le (s:=owI a7 parts c7 ((List.replicate parts (-1:Int)).map vi)) O6.own (fun b hb=>O6.new b hb)
 have OR:=OC.push l11 (s:=⟨3,1,some ⟨b10,0,none⟩,parts,parts,(List.replicate parts (0:Nat)).map fun n:Nat=>vi n⟩) (OwnS.new h6 b10 3 _ hrl (by simp only [maxLen];omega)) (fun b hb=>by cases hb;exact hb10)
 generalize h6.set b10 (cellsO ((List.replicate parts (0:Nat)).map fun n:Nat=>vi n) 3)=h11 at l11 OR
 intro b13 hb13 h14
 have l14:h11.le h14:=Hp.le_set (Hp.le_refl _) hb13 _
 have OB:=OR.push l14 (s:=blkO b13 64 (csE (vsl a1 n1 c1) (vsl a2 n2 c2) (vsl a3 n3 c3) q (vsl none 0 0) (vsl (some ⟨b10,0,none⟩) parts parts) (vsl a7 parts c7))) (blkO_own (Hp.set_same _ _ _)) (fun b hb=>by cases hb;exact hb13)
 clear_value h14
 have OA:=OB.push (Hp.le_refl h14) (s:=⟨86,2,none,0,0,[]⟩) (OwnS.nil _ _ _) (fun b hb=>by cases hb)
 have OK:=OA.push (Hp.le_refl h14) (s:=⟨3,1,none,0,0,[]⟩) (OwnS.nil _ _ _) (fun b hb=>by cases hb)
 simp only [List.nil_append,List.cons_append] at OK
 refine OK.put (j:=2) rfl (i:=0) (Nat.le_of_ble_eq_true rfl) fun h15 O15 _=>?_
 have Q6:=Q.le l2
 generalize hcs:owI a7 parts c7 ((List.replicate parts (-1:Int)).map vi)=clS at O15
 generalize hrd:(⟨3,1,some ⟨b10,0,none⟩,parts,parts,(List.replicate parts (0:Nat)).map fun n:Nat=>vi n⟩:Ow)=rdS at O15
 refine⟨fun vs hh=>∃(i:Nat) (hi:Hp) (aA:Option Addr) (cA:Nat) (RA:List (GRow Nd Int)) (aK:Option Addr) (cK:Nat),vs=[vi i]∧i≤q.aggs.length∧h2.le hi∧RA.length=i ∧
   Owns hi hh [clS,rdS,blkO b13 64 (csE (vsl aA i cA) (vsl a2 n2 c2) (vsl a3 n3 c3) q (vsl aK i cK) (vsl (some ⟨b10,0,none⟩) parts parts) (vsl a7 parts c7)),⟨86,2,aA,i,cA,RA.flatMap (growV aggRw)⟩,⟨3,1,aK,i,cK,((kindsQ q).take i).map vi⟩] ∧
   (∀ r ∈ RA,HasRow hi r.2.1.1 (r.2.2.flatMap encN))∧∀(j:Nat) (a b:Ag),q.aggs[j]?=some a→(growL RA)[j]?=some b→AggF a b,
  fun vs hh=>q.aggs.length - (vint vs 0).toNat,⟨0,h2,none,0,[],none,0,rfl,Nat.zero_le _,Hp.le_refl h2,rfl,O15,fun r hr=>(by cases hr),fun j a b _ hb=>by simp [growL] at hb⟩,?_⟩
 rintro vs hh ⟨i,hi,aA,cA,RA,aK,cK,rfl,hi',lhi,hRl,O,hin,hag⟩
 refine⟨i,rfl,fun e1=>?_,fun e1=>?_⟩
 ·have hlt:i < q.aggs.length:=by have:=of_decide_eq_true e1;omega
  have hx:q.aggs[i]?=some q.aggs[i]:=List.getElem?_eq_getElem hlt
  have hg:=B.g _ (List.getElem_mem hlt)
  have hkt:(kindsQ q).take (i+1)=(kindsQ q).take i++[(q.aggs[i]).1]:=by
   rw [List.take_succ_eq_append_getElem (by rw [kindsQ_len];exact hlt)]
   congr 2
   unfold kindsQ
   rw [List.getElem_map]
  generalize q.aggs[i]=ag at *
  obtain⟨b,o,a',c',ha,hrow,hS⟩:=((Q6.le lhi).g).row aggRw_len (by decide) hx
  refine⟨b,o,⟨ha,by omega,by omega⟩,ag.1,a',ag.2.length,c',by rw [Int.toNat_natCast];exact Hp.row_le O.le hrow,?_⟩
  intro J33
  have hJ:∀(a38:Option Addr) (n38 c38:Nat) (hk h39:Hp) (z:List Nd),hi.le hk→Owns hk h39 [clS,rdS,blkO b13 64 (csE (vsl aA i cA) (vsl a2 n2 c2) (vsl a3 n3 c3) q (vsl aK i cK) (vsl (some ⟨b10,0,none⟩) parts parts) (vsl a7 parts c7)),⟨86,2,aA,i,cA,RA.flatMap (growV aggRw)⟩,⟨3,1,aK,i,cK,((kindsQ q).take i).map vi⟩]→n38=z.length→HasRow hk a38 (z.flatMap encN)→AggF ag (ag.1,z)→J33 a38 n38 c38 h39:=by
   intro a38 n38 c38 hk h39 z lk Ok hn38 hz hA
   refine⟨_,_,_,cell_cells (Ok.blk (List.mem_cons_of_mem _ (List.mem_cons_of_mem _ (List.mem_cons_self ..)))) rfl,?_⟩
   intro b41 hb41 h42
   refine Ok.app (j:=3) rfl elAggN (tn:=86) (m:=1) (news:=[vi ag.1,vsl a38 n38 c38]) hb41 rfl (by intro u hu;simp at hu;rcases hu with rfl|rfl<;>rfl) (by simp only;omega) (by simp only;omega) fun aA' cA' h44 O44 _=>⟨_,_,_,rfl,?_⟩
   simp only [List.set_cons_succ,List.set_cons_zero] at O44
   refine O44.put (j:=2) rfl (i:=0) (Nat.le_of_ble_eq_true rfl) fun h46 O46 _=>?_
   simp only [List.set_cons_succ,List.set_cons_zero,csE] at O46
   refine⟨_,_,_,cell_cells (O46.blk (List.mem_cons_of_mem _ (List.mem_cons_of_mem _ (List.mem_cons_self ..)))) rfl,?_⟩
   intro b48 hb48 h49
   refine O46.app (j:=4) rfl elInt (tn:=3) (m:=1) (news:=[vi ag.1]) hb48 rfl (by intro u hu;simp at hu;rcases hu with rfl;rfl) (by simp only;omega) (by simp only;omega) fun aK' cK' h51 O51 _=>⟨_,_,_,rfl,?_⟩
   simp only [List.set_cons_succ,List.set_cons_zero] at O51
   refine O51.put (j:=2) rfl (i:=7) (Nat.le_of_ble_eq_true rfl) fun h53 O53 _=>?_
   simp only [List.set_cons_succ,List.set_cons_zero] at O53
   refine⟨_,isW (by unfold InR;omega),⟨i+1,hk,aA',cA',RA++[(ag.1,(a38,c38),z)],aK',cK',by simp,by omega,Hp.le_trans lhi lk,by simp [hRl],?_,?_,?_⟩,by simp [vint];omega⟩
   ·rw [hkt,List.map_append,List.flatMap_append]
    have e3:([(ag.1,(a38,c38),z)]:List (GRow Nd Int)).flatMap (growV aggRw)=[vi ag.1,vsl a38 n38 c38]:=by rw [hn38];rfl
    rw [e3]
    exact O53
   ·intro r hr
    rcases List.mem_append.1 hr with q1|q1
    ·exact(hin r q1).le lk
    ·rw [List.mem_singleton.1 q1];exact hz
   ·intro j a b h1 h2
    have hgl:(growL RA).length=i:=by simp [growL,hRl]
    rw [growL_snocN] at h2
    rcases Nat.lt_or_ge j i with q1|q1
    ·rw [List.getElem?_append_left (by omega)] at h2
     exact hag j a b h1 h2
    ·rw [List.getElem?_append_right (by omega)] at h2
     have hj:j=i:=by
      have:=(List.getElem?_eq_some_iff.1 h2).1
      simp at this
      omega
     subst hj
     rw [hgl,Nat.sub_self] at h2
     cases h2
     rw [hx] at h1
     cases h1
     exact hA
  clear_value J33
  refine⟨fun e2=>?_,fun e2=>?_⟩
  ·have hne:ag.1≠1:=of_decide_eq_true e2
   obtain⟨OE,hlen⟩:=exprF_ok (hg.2.2.1 hne)
   refine O.frame (fold_Fold_ok hS OE (by omega) fun az nz cz hk z lk NSz Rp h29 l29 O29=>⟨_,_,_,rfl,?_⟩)
   exact hJ az nz cz hk h29 z lk O29 NSz.s.1 NSz.s.2 ⟨rfl,fun q1=>absurd q1 hne,fun _=>Rp⟩
  ·have he:ag.1=1:=Decidable.not_not.1 (of_decide_eq_false e2)
   have hz:=hg.2.2.2 he
   refine hJ a' ag.2.length c' hi hh [] (Hp.le_refl hi) O (by rw [hz]) (.inl rfl) ⟨rfl,fun _=>rfl,fun q1=>absurd he q1⟩
 ·have hge:i=q.aggs.length:=by have:=of_decide_eq_false e1;omega
  subst hge
  rw [List.take_of_length_le (by rw [kindsQ_len];exact Nat.le_refl _)] at O
  obtain⟨hj,lj,Oj,kj⟩:=O.rebase (L':=[clS,rdS,blkO b13 64 (csE (vsl aA q.aggs.length cA) (vsl a2 n2 c2) (vsl a3 n3 c3) q (vsl aK q.aggs.length cK) (vsl (some ⟨b10,0,none⟩) parts parts) (vsl a7 parts c7))]) (by simp)
  have keepR:∀(s:Ow) (k:Nat),(k=3∨k=4)→[clS,rdS,blkO b13 64 (csE (vsl aA q.aggs.length cA) (vsl a2 n2 c2) (vsl a3 n3 c3) q (vsl aK q.aggs.length cK) (vsl (some ⟨b10,0,none⟩) parts parts) (vsl a7 parts c7)),⟨86,2,aA,q.aggs.length,cA,RA.flatMap (growV aggRw)⟩,⟨3,1,aK,q.aggs.length,cK,(kindsQ q).map vi⟩][k]?=some s→HasRow hj s.a s.xs:=by
   intro s k hk hs
   have hrow:=(O.ownV (List.mem_of_getElem? hs)).row
   refine HasRow.over hrow fun b o ob hb ho=>kj b ob ho fun t ht q1=>?_
   have hb0:o=0:=(O.own s (List.mem_of_getElem? hs)).at0 b o hb
   subst hb0
   simp only [List.mem_cons,List.not_mem_nil,or_false] at ht
   rcases ht with rfl|rfl|rfl
   ·exact O.apart hs (j:=0) rfl (by omega) hb q1
   ·exact O.apart hs (j:=1) rfl (by omega) hb q1
   ·exact O.apart hs (j:=2) rfl (by omega) hb q1
  have hgA:GTab encN aggRw hj aA q.aggs.length (growL RA):=⟨RA,rfl,by simp [growL,hRl],keepR _ 3 (.inl rfl) rfl,fun r hr=>(hin r hr).le lj⟩
  have hkK:SlI hj aK q.aggs.length (kindsQ q):=⟨by rw [kindsQ_len],keepR _ 4 (.inr rfl) rfl⟩
  have Qj:=Q6.le (Hp.le_trans lhi lj)
  have l0j:h.le hj:=Hp.le_trans l2 (Hp.le_trans lhi lj)
  have hgl:(growL RA).length=q.aggs.length:=by simp [growL,hRl]
  clear O keepR hin kj
  -- all of it is there
  have fin:∀(hk h':Hp) (w2:Option Addr) (m2 d2:Nat) (w3:Option Addr) (m3 d3:Nat) (wh by_:List Nd),hj.le hk→Owns hk h' [clS,rdS,blkO b13 64 (csE (vsl aA q.aggs.length cA) (vsl w2 m2 d2) (vsl w3 m3 d3) q (vsl aK q.aggs.length cK) (vsl (some ⟨b10,0,none⟩) parts parts) (vsl a7 parts c7))]→SlP encN hk w2 m2 wh→SlP encN hk w3 m3 by_→FoldQ q { q with aggs:=growL RA,wh:=wh,by_:=by_ }→R' (vtup [vhp b13 0,ifv none]) h':=by
   intro hk h' w2 m2 d2 w3 m3 d3 wh by_ lk Ok S2 S3 F
   rw [←hrd,←hcs] at Ok
   exact hK hp1 hp3 b13 h' (Hp.le_trans l0j (Hp.le_trans lk Ok.le)) ⟨{ q with aggs:=growL RA,wh:=wh,by_:=by_ },hk,aA,q.aggs.length,cA,w2,m2,d2,w3,m3,d3,aK,q.aggs.length,cK,some ⟨b10,0,none⟩,parts,a7,c7,Hp.le_trans l0j lk,Ok,F,⟨hgA.le lk,S2,S3⟩,hkK.le lk⟩
  have F0:∀ wh by_,(q.wh=[]→wh=[])→(q.wh≠[]→Rep (fun e=>valE e q.wh) (tAt q.wh (q.wh.length - 1)) q.wh.length wh)→(q.by_=[]→by_=[])→(q.by_≠[]→Rep (fun e=>valE e q.by_) (tAt q.by_ (q.by_.length - 1)) q.by_.length by_)→FoldQ q { q with aggs:=growL RA,wh:=wh,by_:=by_ }:=
   fun wh by_ f1 f2 f3 f4=>⟨rfl,rfl,rfl,rfl,hgl,hag,f1,f2,f3,f4⟩
  intro J62
  have hJ62:∀(hk h':Hp) (w2:Option Addr) (m2 d2:Nat) (wh:List Nd),hj.le hk→Owns hk h' [clS,rdS,blkO b13 64 (csE (vsl aA q.aggs.length cA) (vsl w2 m2 d2) (vsl a3 n3 c3) q (vsl aK q.aggs.length cK) (vsl (some ⟨b10,0,none⟩) parts parts) (vsl a7 parts c7))]→SlP encN hk w2 m2 wh→(q.wh=[]→wh=[])→(q.wh≠[]→Rep (fun e=>valE e q.wh) (tAt q.wh (q.wh.length - 1)) q.wh.length wh)→J62 h':=by
   intro hk h' w2 m2 d2 wh lk Ok S2 f1 f2
   have hJ70:∀(hl h'':Hp) (w3:Option Addr) (m3 d3:Nat) (by_:List Nd),hk.le hl→Owns hl h'' [clS,rdS,blkO b13 64 (csE (vsl aA q.aggs.length cA) (vsl w2 m2 d2) (vsl w3 m3 d3) q (vsl aK q.aggs.length cK) (vsl (some ⟨b10,0,none⟩) parts parts) (vsl a7 parts c7))]→SlP encN hl w3 m3 by_→(q.by_=[]→by_=[])→(q.by_≠[]→Rep (fun e=>valE e q.by_) (tAt q.by_ (q.by_.length - 1)) q.by_.length by_)→R' (vtup [vhp b13 0,ifv none]) h'':=
    fun hl h'' w3 m3 d3 by_ ll Ol S3 f3 f4=>fin hl h'' w2 m2 d2 w3 m3 d3 wh by_ (Hp.le_trans lk ll) Ol (S2.le ll) S3 (F0 wh by_ f1 f2 f3 f4)
   refine⟨fun e2=>?_,fun e2=>?_⟩
   ·have hne:q.by_≠[]:=by
     intro q1
     have:=of_decide_eq_true e2
     rw [Q.b.1,q1] at this
     simp at this
    obtain⟨OE,hlen⟩:=exprF_ok (B.b hne)
    refine Ok.frame (fold_Fold_ok (Qj.b.le lk) OE (by omega) fun az nz cz hl z ll NSz Rp h65 l65 O65=>⟨_,_,_,rfl,?_⟩)
    refine O65.put (j:=2) rfl (i:=2) (Nat.le_of_ble_eq_true rfl) fun h67 O67 _=>?_
    exact hJ70 hl h67 az nz cz z ll O67 NSz.s (fun q1=>absurd q1 hne) (fun _=>Rp)
   ·have he:q.by_=[]:=by
     have:=of_decide_eq_false e2
     rw [Q.b.1] at this
     exact List.length_eq_zero_iff.1 (by omega)
    exact hJ70 hk h' a3 n3 c3 q.by_ (Hp.le_refl hk) Ok (Qj.b.le lk) (fun q1=>q1) (fun q1=>absurd he q1)
  clear_value J62
  refine⟨fun e2=>?_,fun e2=>?_⟩
  ·have hne:q.wh≠[]:=by
    intro q1
    have:=of_decide_eq_true e2
    rw [Q.w.1,q1] at this
    simp at this
   obtain⟨OE,hlen⟩:=exprF_ok (B.w hne)
   refine Oj.frame (fold_Fold_ok Qj.w OE (by omega) fun az nz cz hl z ll NSz Rp h57 l57 O57=>⟨_,_,_,rfl,?_⟩)
   refine O57.put (j:=2) rfl (i:=1) (Nat.le_of_ble_eq_true rfl) fun h59 O59 _=>?_
   exact hJ62 hl h59 az nz cz z ll O59 NSz.s (fun q1=>absurd q1 hne) (fun _=>Rp)
  ·have he:q.wh=[]:=by
    have:=of_decide_eq_false e2
    rw [Q.w.1] at this
    exact List.length_eq_zero_iff.1 (by omega)
   exact hJ62 hj hh a2 n2 c2 q.wh (Hp.le_refl hj) Oj Qj.w (fun q1=>q1) (fun q1=>absurd he q1)
theorem EngO.engX {q:Qy}{h0 h:Hp}{g parts:Nat}(X:EngO q h0 h g parts):EngX q h0 h g (newE parts):=by
 obtain⟨qf,hi,a1,n1,c1,a2,n2,c2,a3,n3,c3,ak,nk,ck,ar,cr,ac,cc,l0,O,F,Q,K⟩:=X
 have O1:=O.push (Hp.le_refl h) (s:=⟨79,5,none,0,0,[]⟩) (OwnS.nil _ _ _) (fun b hb=>by cases hb)
 have O2:=O1.push (Hp.le_refl h) (s:=⟨74,5,none,0,0,[]⟩) (OwnS.nil _ _ _) (fun b hb=>by cases hb)
 simp only [List.cons_append,List.nil_append] at O2
 refine EngX.of_owns (R:=[]) (RW:=[]) (tc:=0) (cw:=0) (tb:=none) (aw:=none) (c1:=c1) (c2:=c2) (c3:=c3) (ck:=ck) (ar:=ar) (cr:=cr) (ac:=ac) (cc:=cc) l0 ?_ F Q K (fun r hr=>by cases hr) (fun r hr=>by cases hr) rfl rfl
 simp only [newE,List.length_replicate]
 exact O2
theorem engine_New_ok {q:Qy}{a1:Option Addr}{n1 c1:Nat}{a2:Option Addr}{n2 c2:Nat}{a3:Option Addr}{n3 c3:Nat}{h:Hp}{p:Int}{R':Value→Hp→Prop}(Q:QAt h q a1 n1 a2 n2 a3 n3)(B:QOk q)
  (hbad:¬(1≤p∧p≤3)→∀ h',h.le h'→R' (vtup [vp none,ifv (some (99,vi 1))]) h')
  (hK:1≤p→p≤3→∀ g h',h.le h'→EngX q h h' g (newE p.toNat)→R' (vtup [vhp g 0,ifv none]) h'):CallOK Tryz.prog 13 [qV a1 n1 c1 a2 n2 c2 a3 n3 c3 q,vi p] h R':=
 engine_NewO_ok Q B hbad fun h1 h3 g h' l X=>hK h1 h3 g h' l X.engX
theorem mapT_ind {ks:List Int}{C:List PR→List Pn→Prop}(h0:C [] [])(h1:∀ r R p L,prT r=pnT ks p→R.map prT=L.map (pnT ks)→C R L→C (r :: R) (p :: L)):∀{R:List PR} {L:List Pn},R.map prT=L.map (pnT ks)→C R L
 | [],[],_=>h0
 | [],_ :: _,h=>by simp at h
 | _ :: _,[],h=>by simp at h
 | r :: R,p :: L,h=>by
  simp only [List.map_cons,List.cons.injEq] at h
  exact h1 r R p L h.1 h.2 (mapT_ind h0 h1 h.2)
theorem prT_eq {ks:List Int}{r:PR}{p:Pn}(h:prT r=pnT ks p):r.k=p.k∧r.acs=accsOf ks p.rs∧r.t=p.t:=by
 simp only [prT,pnT,Prod.mk.injEq] at h
 exact h
theorem tell_map {ks:List Int}{size u:Int}{R:List PR}{L:List Pn}(h:R.map prT=L.map (pnT ks)):(R.map (tellPr size u)).map prT=(tellP size u L).map (pnT ks):=by
 refine mapT_ind (C:=fun R L=>(R.map (tellPr size u)).map prT=(tellP size u L).map (pnT ks)) rfl (fun r R p L h1 h2 ih=>?_) h
 obtain⟨e1,e2,e3⟩:=prT_eq h1
 unfold tellP at ih ⊢
 simp only [List.map_cons,ih]
 congr 1
 simp only [prT,pnT,tellPr,duePr,dueP,e1,e2,e3]
theorem drop_map {ks:List Int}{size u:Int}{R:List PR}{L:List Pn}(h:R.map prT=L.map (pnT ks)):(R.filter fun r=>!decide (r.k.1+size≤u)).map prT=(dropP size u L).map (pnT ks):=by
 refine mapT_ind (C:=fun R L=>(R.filter fun r=>!decide (r.k.1+size≤u)).map prT=(dropP size u L).map (pnT ks)) rfl (fun r R p L h1 h2 ih=>?_) h
 obtain⟨e1,e2,e3⟩:=prT_eq h1
 unfold dropP dueP at ih ⊢
 rw [List.filter_cons,List.filter_cons,e1]
 split
 ·rw [List.map_cons,List.map_cons,ih,h1]
 ·exact ih
theorem new_map {ks:List Int}{size u:Int}{R:List PR}{L:List Pn}(h:R.map prT=L.map (pnT ks)):((R.filter (newPr size u)).map toldPr).map (fun r=>(r.k,r.acs))=(newP size u L).map (fun p=>(p.k,accsOf ks p.rs)):=by
 refine mapT_ind (C:=fun R L=>((R.filter (newPr size u)).map toldPr).map (fun r=>(r.k,r.acs))=(newP size u L).map (fun p=>(p.k,accsOf ks p.rs))) rfl (fun r R p L h1 h2 ih=>?_) h
 obtain⟨e1,e2,e3⟩:=prT_eq h1
 unfold newP at ih ⊢
 have hc:newPr size u r=(!p.t&&dueP size u p):=by unfold newPr duePr dueP;rw [e1,e3]
 rw [List.filter_cons,List.filter_cons,hc]
 split
 ·rw [List.map_cons,List.map_cons,List.map_cons,ih]
  simp only [toldPr,e1,e2]
 ·exact ih
def farX (f d:Int):Int:=if f < 0 then 0 else f - d
theorem clock_Part2_ok {a:Option Addr}{n c:Nat}{l:List Int}{p d:Int}{h:Hp}{R:Value→Hp→Prop}(S:SlI h a n l)(hp:0≤p)(hp':p < n)(hr:InR (l.getD p.toNat 0 - d))
  (hK:R (vtup [vi (farX (l.getD p.toNat 0) d),vb (decide (0≤l.getD p.toNat 0))]) h):CallOK Tryz.prog 44 [vag [vsl a n c],vi p,vi d] h R:=by
 refine clock_Part_ok S hp hp' hr ?_
 unfold farX at hK
 split
 ·rename_i h1
  rw [if_pos h1,decide_eq_false (by omega)] at hK
  exact hK
 ·rename_i h1
  rw [if_neg h1,decide_eq_true (by omega)] at hK
  exact hK
set_option maxHeartbeats 4000000 in
theorem engine_Step_ok {q:Qy}{h0 h:Hp}{g parts N p:Nat}{st:En}{e:EvL}{R':Value→Hp→Prop}(X:EngX q h0 h g st)(B:QOk q)(E:EvOK e)(HB:EnB q parts N st)(hN:N≤700000)(hp:p < parts)(hparts:parts≤1000)
  (hK:∀ h',h0.le h'→EngX q h0 h' g (stepE q p e st)→R' (vtup []) h'):CallOK Tryz.prog 17 [vhp g 0,vi p,vag (encE e)] h R':=by
 refine ok_engine_Engine_Step ?_
 unfold VC_engine_Engine_Step
 have hd:=B.d
 have ht:=B.t
 have hs:=B.s
 have hsl:=B.l
 have hEt:=E.t
 have hfl:=HB.fl
 have hrl:=HB.rl
 have X0:=X
 obtain⟨qf,hi,a1,n1,c1,a2,n2,c2,a3,n3,c3,ak,nk,ck,ar,cr,ac,nc,cc,tb,tc,aw,cw,R,RW,l0,M,I⟩:=X
 have hnc:nc=st.far.length:=I.c.1
 have hfp:st.far.getD p 0 ∈ st.far:=by rw [List.getD_eq_getElem?_getD,List.getElem?_eq_getElem (by omega)];exact List.getElem_mem _
 have hfb:=HB.fb _ hfp
 have F:=I.f
 refine⟨_,_,_,row_cells' M.blk (Nat.le_of_ble_eq_true rfl),_,cell_cells M.blk rfl,?_⟩
 refine clock_Part2_ok (p:=(p:Int)) (d:=qf.delay) (I.c.le M.le0) (by omega) (by omega) (by rw [Int.toNat_natCast,F.de];unfold InR;omega) ⟨_,_,rfl,?_⟩
 rw [Int.toNat_natCast,F.de]
 have hn:(decide ((((n2:Nat):Int):Int)=0))=decide (q.wh=[]):=by
  rw [I.qa.w.1]
  refine decide_eq_decide.2 ⟨fun h=>F.wn.1 (List.length_eq_zero_iff.1 (by omega)),fun h=>by rw [F.wn.2 h];rfl⟩
 refine⟨_,_,_,cell_cells M.blk rfl,_,_,_,fun _=>cell_cells M.blk rfl,?_⟩
 rw [hn]
 refine⟨fun x hh=>h.le hh∧(q.wh≠[]→x=.t (.ag [.v (vi (valE e q.wh).1),.v (vi (valE e q.wh).2)])),fun e1=>?_,fun e1=>⟨Hp.le_refl h,fun hw=>absurd (decide_eq_false hw) e1⟩,?_⟩
 ·have hw:q.wh≠[]:=of_decide_eq_false e1
  have Rp:=F.w1 hw
  have hlq:=(exprF_ok (B.w hw)).2
  refine evalO_ok Rp.ok (by have:=Rp.len;omega) (I.qa.w.le M.le0) fun h' l'=>⟨_,_,rfl,l',fun _=>by rw [Rp.val e E]⟩
 rintro h14 x15 x16 ⟨l14,e14⟩
 refine⟨fun x hh=>h.le hh∧(q.wh≠[]→x=.t (.ag [.v (vi (truthV true).1),.v (vi (truthV true).2)])),fun e1=>value_Truth_ok ⟨_,_,rfl,l14,fun _=>rfl⟩,fun e1=>⟨l14,fun hw=>absurd (decide_eq_false hw) e1⟩,?_⟩
 rintro h22 x23 x24 ⟨l22,e22⟩
 refine⟨decide (valE e q.wh=truthV true),fun e1=>?_,?_⟩
 ·have hw:q.wh≠[]:=of_decide_eq_false e1
  have e14:=e14 hw
  have e22:=e22 hw
  cases e14
  cases e22
  exact rd_eqV
 have hask:(bif (decide (q.wh=[])) then true else decide (valE e q.wh=truthV true))=asksQ q e:=by
  unfold asksQ
  cases decide (q.wh=[])<;>rfl
 rw [hask]
 intro J58
 have X22:=X0.le l22
 have hJ:∀ h59,EngX q h0 h59 g (winsE q (st.far.getD p 0) e st)→J58 h59:=by
  intro h59 X59
  have HB2:=winsE_ok B HB E (far:=st.far.getD p 0)
  obtain⟨ws1,ws2⟩:=winsE_same (q:=q) (far:=st.far.getD p 0) (e:=e) (st:=st)
  generalize hst2:winsE q (st.far.getD p 0) e st=st2 at X59 HB2 ws1 ws2
  clear M I X0 X22 l14 e14 l22 e22 hn hask
  obtain⟨qf,hi,a1,n1,c1,a2,n2,c2,a3,n3,c3,ak,nk,ck,ar,cr,ac,nc,cc,tb,tc,aw,cw,R,RW,l0,M,I⟩:=X59
  have F:=I.f
  have hrl2:=HB2.rl
  have hfl2:=HB2.fl
  have hnc:nc=st2.far.length:=I.c.1
  have hRl:R.length=st2.pn.length:=by have:=congrArg List.length I.p;simpa using this
  have hpl:=HB2.pl
  have hwl:=HB2.wl
  have hWl:RW.length=st2.rows.length:=by have:=congrArg List.length I.w;simpa [growL] using this
  have hrm:st2.rd.getD p 0 ∈ st2.rd:=by rw [List.getD_eq_getElem?_getD,List.getElem?_eq_getElem (by omega)];exact List.getElem_mem _
  have hrb:=HB2.rb _ hrm
  have hao:=acs_ok HB2 (by omega) I.p
  obtain⟨bR,eR,hcR,HR⟩:=M.read (p:=p) (x:=st2.rd.getD p 0+1) (by omega)
  have hbd:ar=some ⟨bR,0,none⟩∧(0:Int)≤(p:Int)∧(p:Int) < ((st2.rd.length:Nat):Int):=⟨eR,by omega,by omega⟩
  refine⟨_,_,_,cell_cells M.blk rfl,bR,0,hbd,((st2.rd.getD p 0:Nat):Int),hcR,_,isW (by unfold InR;omega),bR,0,hbd,?_⟩
  have ec:((st2.rd.getD p 0:Nat):Int)+1=((st2.rd.getD p 0+1:Nat):Int):=by omega
  rw [ec]
  refine HR _ fun h67 M67=>?_
  refine⟨_,_,_,row_cells' M67.blk (Nat.le_of_ble_eq_true rfl),?_⟩
  refine clock_See_ok (p:=(p:Int)) (I.c.le M67.le0) (by omega) (by omega) (by omega) fun a71 c71 h70 O70=>⟨_,_,_,rfl,?_⟩
  rw [Int.toNat_natCast] at O70
  obtain⟨hj,lj,Mj,trj,_⟩:=M67.rebase_new O70.le
  have hclk:SlI hj a71 nc (see st2.far p e.1):=⟨by rw [see_length];exact hnc,trj _ _ O70.row fun b o hb=>O70.new b (by rw [hb,OwnS.at0 O70.own b o hb])⟩
  refine Mj.put (j:=9) (Nat.le_of_ble_eq_true rfl) fun h72 M72=>?_
  have I72:EngI q qf hj a1 n1 a2 n2 a3 n3 ak nk a71 nc tb R RW (seenE p e st2):=⟨F,I.qa.le lj,I.k.le lj,hclk,I.t.le lj,I.p,I.w,fun r hr=>(I.wi r hr).le lj⟩
  have hstep:stepE q p e st=endE q (seenE p e st2):=by unfold stepE;rw [hst2]
  rw [hstep] at hK
  have hlr:(st2.rd.set p (st2.rd.getD p 0+1)).length=st2.rd.length:=List.length_set
  refine⟨_,_,_,row_cells' M72.blk (Nat.le_of_ble_eq_true rfl),_,cell_cells M72.blk rfl,?_⟩
  rw [F.de]
  refine clock_All_ok (hclk.le M72.le0) (by omega) (seeAll _ _ _ HB2.fb hEt (by omega)) hd ⟨_,_,rfl,fun e1=>?_,fun e1=>?_⟩
  ·have e2:(farC q.delay (see st2.far p e.1)).2=false:=by simpa using e1
   have hend:endE q (seenE p e st2)=seenE p e st2:=by
    unfold endE
    rw [if_neg]
    show ¬(farC q.delay (see st2.far p e.1)).2=true
    rw [e2];decide
   rw [hend] at hK
   refine hK h72 (Hp.le_trans l0 (Hp.le_trans lj M72.le0)) ⟨qf,hj,a1,n1,c1,a2,n2,c2,a3,n3,c3,ak,nk,ck,ar,cr,a71,nc,c71,tb,tc,aw,cw,R,RW,Hp.le_trans l0 lj,?_,I72⟩
   show EngM hj h72 g (engC a1 n1 c1 a2 n2 c2 a3 n3 c3 qf ak nk ck ar (st2.rd.set p (st2.rd.getD p 0+1)).length cr a71 nc c71 tb R.length tc st2.late aw RW.length cw) ar cr (st2.rd.set p (st2.rd.getD p 0+1)) aw RW.length cw (RW.flatMap (growV rwRow))
   rw [hlr]
   exact M72
  ·have e2:(farC q.delay (see st2.far p e.1)).2=true:=by simpa using e1
   have hend:endE q (seenE p e st2)={ seenE p e st2 with pn:=dropP q.size ((farC q.delay (see st2.far p e.1)).1 - q.late) (tellP q.size (farC q.delay (see st2.far p e.1)).1 st2.pn),rows:=st2.rows++(newP q.size (farC q.delay (see st2.far p e.1)).1 st2.pn).map (rowPn (kindsQ q)) }:=by
    unfold endE
    rw [if_pos (show (farC q.delay (seenE p e st2).far).2=true from e2)]
    rfl
   rw [hend] at hK
   have hub:-1001≤(farC q.delay (see st2.far p e.1)).1∧(farC q.delay (see st2.far p e.1)).1≤9999:=by
    have hsa:=seeAll st2.far p e.1 HB2.fb hEt (by omega)
    unfold farC
    split
    ·simp only
     split
     ·omega
     ·rename_i hne
      have:=hsa _ (minL_mem hne)
      omega
    ·simp only;omega
   generalize (farC q.delay (see st2.far p e.1)).1=u at *
   refine⟨_,_,_,row_cells' M72.blk (Nat.le_of_ble_eq_true rfl),_,cell_cells M72.blk rfl,?_⟩
   rw [F.sz]
   refine EngM.frame M72 (Table_Tell_ok (size:=q.size) (upto:=u) I72.t (by omega) (fun r hr=>by have:=(hao r hr).2.2;unfold InR;omega) fun a84 c84 a85 c85 hk lk Tk TN h83 l83 M83=>⟨_,_,_,_,_,_,rfl,?_⟩)
   have Ik:=I72.le lk
   have hNm:∀ r ∈ (R.filter (newPr q.size u)).map toldPr,r.acs.length≤1000:=by
    intro r hr
    obtain⟨r0,h0',rfl⟩:=List.mem_map.1 hr
    have:=(hao r0 (List.mem_filter.1 h0').1).1
    have h4:=B.n2
    rw [kindsQ_len] at this
    show r0.acs.length≤1000
    omega
   have hNeq:((R.filter (newPr q.size u)).map toldPr).map (fun r=>((false,r.k),r.acs.map gOut))=((newP q.size u st2.pn).map (rowPn (kindsQ q))).map rowG:=by
    have:=congrArg (List.map fun x:PK × List AcS=>(((false,x.1),x.2.map gOut):(Bool × PK) × List Vl)) (new_map (size:=q.size) (u:=u) I.p)
    simp only [List.map_map] at this ⊢
    exact this
   have hNl:((R.filter (newPr q.size u)).map toldPr).length≤R.length:=by rw [List.length_map];exact List.length_filter_le _ _
   generalize (R.filter (newPr q.size u)).map toldPr=NN at *
   refine⟨fun vs hh=>∃(i:Nat) (hx:Hp) (aw':Option Addr) (cw':Nat) (RW':List (GRow Vl (Bool × PK))),vs=[vi i]∧i≤NN.length∧hk.le hx∧EngM hx hh g (engC a1 n1 c1 a2 n2 c2 a3 n3 c3 qf ak nk ck ar st2.rd.length cr a71 nc c71 tb R.length tc st2.late aw' RW'.length cw') ar cr (st2.rd.set p (st2.rd.getD p 0+1)) aw' RW'.length cw' (RW'.flatMap (growV rwRow))∧growL RW'=st2.rows.map rowG++(NN.take i).map (fun r=>((false,r.k),r.acs.map gOut))∧∀ r ∈ RW',HasRow hx r.2.1.1 (r.2.2.flatMap encV),fun vs hh=>NN.length - (vint vs 0).toNat,⟨0,hk,aw,cw,RW,rfl,Nat.zero_le _,Hp.le_refl hk,M83,by rw [I.w];simp,Ik.wi⟩,?_⟩
   rintro vs hh ⟨i,hx,aw',cw',RW',rfl,hi',lx,Mx,hw1,hw2⟩
   have hW':RW'.length=st2.rows.length+i:=by
    have:=congrArg List.length hw1
    simp [growL] at this
    omega
   refine⟨i,rfl,fun e3=>?_,fun e3=>?_⟩
   ·have hlt:i < NN.length:=by have:=of_decide_eq_true e3;omega
    have hxi:NN[i]?=some NN[i]:=List.getElem?_eq_getElem hlt
    have hmem:=List.getElem_mem hlt
    have tk:NN.take (i+1)=NN.take i++[NN[i]]:=List.take_succ_eq_append_getElem hlt
    have lhh:=Hp.le_trans lx Mx.le0
    obtain⟨b,o,ea,hr⟩:=(TN.s.le lhh).get encPr_len (by decide) hxi
    have hri:=(TN.i _ hmem).le lhh
    have hal:=hNm _ hmem
    generalize NN[i]=r at *
    refine⟨b,o,⟨ea,by omega,by omega⟩,_,_,_,_,_,_,_,by rw [Int.toNat_natCast];exact hr,_,_,_,cell_cells Mx.blk rfl,?_⟩
    refine pane_Out_ok (r:=r) ⟨rfl,hri⟩ hal fun a107 c107 h103 V103=>⟨_,_,_,_,_,_,rfl,cell_cells (Mx.le V103.le0).blk rfl,?_⟩
    intro b108 hb108 h109
    obtain⟨hy,ly,My,try_,_⟩:=Mx.rebase_new V103.le0
    have o1:=try_ _ _ (OwnV.row V103) fun b o hb=>V103.new b (by rw [hb,OwnS.at0 (OwnV.own V103) b o hb])
    refine My.rows (m:=1) (news:=[vb false,vi r.k.1,vi r.k.2.1,vi r.k.2.2,vsl a107 (r.acs.map gOut).length c107]) hb108 rfl (by
     intro u hu
     simp only [List.mem_cons,List.not_mem_nil,or_false] at hu
     rcases hu with rfl|rfl|rfl|rfl|rfl<;>rfl) (by omega) fun aw2 cw2 h111 M111=>⟨_,_,_,rfl,?_⟩
    refine M111.put (j:=12) (Nat.le_of_ble_eq_true rfl) fun h113 M113=>⟨_,isW (by unfold InR;omega),⟨i+1,hy,aw2,cw2,RW'++[((false,r.k),(a107,c107),r.acs.map gOut)],rfl,by omega,Hp.le_trans lx ly,?_,?_,?_⟩,by simp [vint];omega⟩
    ·rw [List.length_append,List.flatMap_append]
     exact M113
    ·rw [tk,List.map_append,←List.append_assoc,←hw1]
     unfold growL
     rw [List.map_append]
     rfl
    ·intro r' hr'
     rcases List.mem_append.1 hr' with q1|q1
     ·exact(hw2 r' q1).le ly
     ·rw [List.mem_singleton.1 q1];exact o1
   ·have hge:i=NN.length:=by have:=of_decide_eq_false e3;omega
    subst hge
    rw [List.take_length] at hw1
    refine⟨_,cell_cells Mx.blk rfl,_,cell_cells Mx.blk rfl,_,isW (by rw [F.la];unfold InR;omega),?_⟩
    rw [F.sz,F.la]
    have hml:(R.map (tellPr q.size u)).length=R.length:=List.length_map _
    have drp:=fun(K':Value→Hp→Prop) (hK':∀ a' c' h',hx.le h'→Tb h' a' ((R.map (tellPr q.size u)).filter fun r=>!decide (r.k.1+q.size≤u - q.late))→K' (vag [vsl a' ((R.map (tellPr q.size u)).filter fun r=>!decide (r.k.1+q.size≤u - q.late)).length c']) h')=>
     Table_Drop_ok (h:=hx) (K':=K') (c:=c84) (size:=q.size) (upto:=u - q.late) (Tk.le lx) (by rw [hml];omega) (fun r hr=>by
      obtain⟨r0,h0',rfl⟩:=List.mem_map.1 hr
      have:=(hao r0 h0').2.2
      show InR (r0.k.1+q.size)
      unfold InR;omega) hK'
    rw [hml] at drp
    refine EngM.frame Mx (drp _ fun a121 c121 hz lz Tz h120 l120 M120=>⟨_,_,_,rfl,?_⟩)
    refine M120.put (j:=10) (Nat.le_of_ble_eq_true rfl) fun h122 M122=>?_
    have lall:h0.le hz:=Hp.le_trans l0 (Hp.le_trans lj (Hp.le_trans lk (Hp.le_trans lx lz)))
    have lkz:=Hp.le_trans lx lz
    refine hK h122 (Hp.le_trans lall M122.le0) ⟨qf,hz,a1,n1,c1,a2,n2,c2,a3,n3,c3,ak,nk,ck,ar,cr,a71,nc,c71,a121,c121,aw',cw',(R.map (tellPr q.size u)).filter fun r=>!decide (r.k.1+q.size≤u - q.late),RW',lall,?_,⟨F,Ik.qa.le lkz,Ik.k.le lkz,Ik.c.le lkz,Tz,drop_map (tell_map I.p),?_,fun r hr=>(hw2 r hr).le lz⟩⟩
    ·show EngM hz h122 g (engC a1 n1 c1 a2 n2 c2 a3 n3 c3 qf ak nk ck ar (st2.rd.set p (st2.rd.getD p 0+1)).length cr a71 nc c71 a121 _ c121 st2.late aw' RW'.length cw') ar cr (st2.rd.set p (st2.rd.getD p 0+1)) aw' RW'.length cw' (RW'.flatMap (growV rwRow))
     rw [hlr]
     exact M122
    ·show growL RW'=(st2.rows++(newP q.size u st2.pn).map (rowPn (kindsQ q))).map rowG
     rw [hw1,List.map_append,hNeq]
 clear_value J58
 refine⟨fun e1=>?_,fun e1=>?_⟩
 ·have hw:winsE q (st.far.getD p 0) e st=(startsOf e.1 q.size q.slide).foldl (winE q (st.far.getD p 0) e) st:=by unfold winsE;rw [if_pos e1]
  rw [hw] at hJ
  have M22:=M.le l22
  have cS:∀{qf:Qy},FoldQ q qf→vi qf.size=vi q.size:=fun F=>by rw [F.sz]
  refine⟨_,cell_cells M22.blk rfl,_,cell_cells M22.blk rfl,?_⟩
  rw [F.sz,F.sl]
  refine window_StartsN_ok (by omega) (by omega) (by omega) (by omega) (by omega) (by omega) fun a30 n30 c30 h29 l29 SS hnew=>⟨_,_,_,rfl,?_⟩
  have hsb:=starts_ok B E
  have hsm:=starts_many B (e:=e)
  have hn30:n30=(startsOf e.1 q.size q.slide).length:=SS.1
  generalize startsOf e.1 q.size q.slide=ss at *
  -- the windows' slice is not the engine's
  refine⟨fun vs hh=>∃(k:Nat) (hb:Hp),vs=[vi k]∧k≤ss.length∧h0.le hb∧SlI hb a30 n30 ss∧EngX q hb hh g ((ss.take k).foldl (winE q (st.far.getD p 0) e) st),fun vs hh=>ss.length - (vint vs 0).toNat,?_,?_⟩
  ·obtain⟨hj,lj,Mj,trj,_⟩:=M22.rebase_new l29
   refine⟨0,hj,rfl,Nat.zero_le _,Hp.le_trans l0 lj,⟨SS.1,trj _ _ SS.2 hnew⟩,?_⟩
   rw [List.take_zero]
   exact⟨qf,hj,a1,n1,c1,a2,n2,c2,a3,n3,c3,ak,nk,ck,ar,cr,ac,nc,cc,tb,tc,aw,cw,R,RW,Hp.le_refl hj,Mj,I.le lj⟩
  rintro vs hh ⟨k,hb,rfl,hk,lb,Sb,Xb⟩
  refine⟨k,rfl,fun e2=>?_,fun e2=>?_⟩
  ·have hlt:k < ss.length:=by have:=of_decide_eq_true e2;omega
   obtain⟨b,o,ea,hc⟩:=(Sb.le Xb.le0).get (i:=k) (by omega)
   have hgd:ss.getD k 0=ss[k]:=by rw [List.getD_eq_getElem?_getD,List.getElem?_eq_getElem hlt];rfl
   have tk:ss.take (k+1)=ss.take k++[ss[k]]:=List.take_succ_eq_append_getElem hlt
   have hsk:=hsb _ (List.getElem_mem hlt)
   have HBk:=winsE_fold (far:=st.far.getD p 0) B E (ss.take k) HB (fun s hs=>hsb s (List.mem_of_mem_take hs))
   rw [List.length_take,Nat.min_eq_left hk] at HBk
   rw [hgd] at hc
   generalize ss[k]=s at *
   intro J54
   have hJ2:∀ h',EngX q hb h' g (winE q (st.far.getD p 0) e ((ss.take k).foldl (winE q (st.far.getD p 0) e) st) s)→J54 h':=by
    intro h' X'
    refine⟨_,isW (by unfold InR;omega),⟨k+1,hb,rfl,by omega,lb,Sb,?_⟩,by simp [vint];omega⟩
    rw [tk,List.foldl_append]
    exact X'
   clear_value J54
   generalize (ss.take k).foldl (winE q (st.far.getD p 0) e) st=stk at *
   have Xb0:=Xb
   obtain⟨qf,hi,a1,n1,c1,a2,n2,c2,a3,n3,c3,ak,nk,ck,ar,cr,ac,nc,cc,tb,tc,aw,cw,R,RW,l0,M,I⟩:=Xb
   have F:=I.f
   refine⟨b,o,⟨ea,by omega,by omega⟩,s,by rw [Int.toNat_natCast];exact hc,_,fun _=>cell_cells M.blk rfl,_,fun _=>isW (by rw [F.sz];unfold InR;omega),_,fun _=>cell_cells M.blk rfl,_,fun _=>isW (by rw [F.sz,F.la];unfold InR;omega),?_⟩
   have hl:(bif (decide (0≤st.far.getD p 0)) then(decide ((s+qf.size+qf.late:Int)≤farX (st.far.getD p 0) q.delay)) else false)=lateQ q (st.far.getD p 0) s:=by
    unfold lateQ farX
    rw [F.sz,F.la]
    by_cases h1:0≤st.far.getD p 0
    ·rw [decide_eq_true h1,if_neg (by omega)];rfl
    ·rw [decide_eq_false h1];rfl
   rw [hl]
   refine⟨fun e3=>?_,fun e3=>?_⟩
   ·have hll:=HBk.ll
    refine⟨_,cell_cells M.blk rfl,_,isW (by unfold InR;omega),?_⟩
    refine M.put (j:=11) (Nat.le_of_ble_eq_true rfl) fun h48 M48=>hJ2 h48 ?_
    unfold winE
    rw [if_pos e3]
    exact⟨qf,hi,a1,n1,c1,a2,n2,c2,a3,n3,c3,ak,nk,ck,ar,cr,ac,nc,cc,tb,tc,aw,cw,R,RW,l0,M48,⟨I.f,I.qa,I.k,I.c,I.t,I.p,I.w,I.wi⟩⟩
   ·refine engine_change_ok Xb0 B E HBk (by omega) fun h52 l52 X52=>⟨rfl,hJ2 h52 ?_⟩
    unfold winE
    rw [if_neg (by rw [e3];decide)]
    exact X52
  ·have hge:k=ss.length:=by have:=of_decide_eq_false e2;omega
   rw [hge,List.take_length] at Xb
   refine hJ hh ?_
   obtain⟨qf,hi,a1,n1,c1,a2,n2,c2,a3,n3,c3,ak,nk,ck,ar,cr,ac,nc,cc,tb,tc,aw,cw,R,RW,l0,M,I⟩:=Xb
   exact⟨qf,hi,a1,n1,c1,a2,n2,c2,a3,n3,c3,ak,nk,ck,ar,cr,ac,nc,cc,tb,tc,aw,cw,R,RW,Hp.le_trans lb l0,M,I⟩
 ·have hw:winsE q (st.far.getD p 0) e st=st:=by unfold winsE;rw [if_neg (by rw [e1];decide)]
  rw [hw] at hJ
  exact hJ h22 X22
def VC_law_same (u0:Option (TypeId × Value))(u1:Int)(h:Hp)(R:Value→Hp→Prop):Prop:=
 (((Option.isNone u0)=true→R (vb (decide (u1=0))) h)∧((Option.isNone u0)=false→(∃ x2 p3,(Rd Tryz.prog (Instr.typeAssert (ifv u0) 33 99 true) h (vtup [vi x2,vb p3]))∧R (vb (bif (bif p3 then(decide (u1 > 0)) else false) then(decide (x2=u1)) else false)) h)))
theorem ok_law_same {u0 u1 h R}(H:VC_law_same u0 u1 h R):CallOK Tryz.prog 14 [ifv u0,vi u1] h R:=
 call_of (cfg:=⟨[],[],[]⟩) noNG mixed Tryz.func14 [.one (.ifc u0),.one (.v (vi u1))] (by kernel_rfl) rfl (by kernel_rfl) H
theorem assertErrno (v:Value)(w:World):(Instr.typeAssert (.iface 99 v) 33 99 true).run Tryz.prog w=.ok (.tuple #[v,.bool true]) w:=by kernel_rfl
theorem law_same_ok {f g:Int}(hf:0≤f){h:Hp}{R:Value→Hp→Prop}(hK:R (vb (decide (f=g))) h):CallOK Tryz.prog 14 [ifv (errV f),vi g] h R:=by
 refine ok_law_same ?_
 unfold VC_law_same
 by_cases h0:f=0
 ·have e:errV f=none:=by simp [errV,h0]
  rw [e]
  refine⟨fun _=>?_,fun e=>by simp at e⟩
  have:decide (g=0)=decide (f=g):=by rw [h0];exact decide_eq_decide.2 eq_comm
  rw [this];exact hK
 ·have e:errV f=some (99,vi f):=by simp [errV,h0]
  rw [e]
  refine⟨fun e=>by simp at e,fun _=>⟨f,true,fun w _=>assertErrno _ w,?_⟩⟩
  have:(bif (bif true then(decide (g > 0)) else false) then(decide (f=g)) else false)=decide (f=g):=by
   by_cases hg:f=g
   ·simp [hg];omega
   ·simp [hg]
  rw [this];exact hK
end Go.Proofs.YtiflgceoamkmnaaGreatDoor
namespace Go.Vc
open Go
structure Duo (h0 hA hM h:Hp):Prop where
 lA:hA.le h
 lM:hM.le h
 zA:h0.le hA
 zM:h0.le hM
 dj:∀ b,hA b≠none→hM b≠none→h0 b≠none
section
variable {P:Program}{h0 hA hM h:Hp}
theorem Duo.le0 (D:Duo h0 hA hM h):h0.le h:=Hp.le_trans D.zA D.lA
theorem Duo.swap (D:Duo h0 hA hM h):Duo h0 hM hA h:=⟨D.lM,D.lA,D.zM,D.zA,fun b x y=>D.dj b y x⟩
theorem Duo.grow (D:Duo h0 hA hM h){h':Hp}(l:h.le h'):Duo h0 hA hM h':=⟨Hp.le_trans D.lA l,Hp.le_trans D.lM l,D.zA,D.zM,D.dj⟩
theorem Duo.new (l:h0.le h):Duo h0 h h0 h:=⟨Hp.le_refl h,l,l,Hp.le_refl h0,fun _ _ y=>y⟩
theorem Duo.one (l:h0.le h):Duo h0 h0 h0 h:=⟨l,l,Hp.le_refl h0,Hp.le_refl h0,fun _ _ y=>y⟩
theorem Duo.left (D:Duo h0 hA hM h){f:FuncId}{args:List Value}{R:Value→Hp→Prop}(H:CallOK P f args hA fun v h1=>h0.le h1∧∀ h2,Duo h0 h1 hM h2→R v h2):CallOK P f args h R:=by
 intro w hs
 refine(CallOK.frame D.lA H w hs).mono ?_
 rintro e w' ⟨v,h2,rfl,s2,F,h1,l1,kp,z1,k⟩
 refine⟨v,h2,rfl,s2,F,k h2 ⟨l1,fun b o ho=>?_,z1,D.zM,fun b x y=>?_⟩⟩
 ·cases hq:hA b with
  | none=>exact(kp b o (D.lM b o ho) hq).1
  | some o'=>
   cases hz:h0 b with
   | none=>exact absurd hz (D.dj b (by rw [hq];simp) (by rw [ho];simp))
   | some o2=>
    have e1:=D.zM b o2 hz
    rw [ho] at e1
    cases e1
    exact l1 b o (z1 b o hz)
 ·cases hz:h0 b with
  | some o2=>simp
  | none=>
   exfalso
   cases ho:hM b with
   | none=>exact y ho
   | some o=>
    cases hq:hA b with
    | none=>exact x (kp b o (D.lM b o ho) hq).2
    | some o'=>exact D.dj b (by rw [hq];simp) (by rw [ho];simp) hz
theorem Duo.right (D:Duo h0 hA hM h){f:FuncId}{args:List Value}{R:Value→Hp→Prop}(H:CallOK P f args hM fun v h1=>h0.le h1∧∀ h2,Duo h0 hA h1 h2→R v h2):CallOK P f args h R:=
 D.swap.left (CallOK.mono H fun v h1 k=>⟨k.1,fun h2 D2=>k.2 h2 D2.swap⟩)
end
end Go.Vc
namespace Go.Proofs.YtiflgceoamkmnaaGreatDoor
open Go Go.Vc Go.Txt
theorem cell_le {h h':Hp}(l:h.le h'){b i:Nat}{v:Value}(hc:h.cell b i=some v):h'.cell b i=some v:=by
 unfold Hp.cell at hc ⊢
 cases hb:h b with
 | none=>rw [hb] at hc;cases hc
 | some o=>rw [l b o hb];rw [hb] at hc;exact hc
def pkRw (k:PK)(v:Value):List Value:=[vi k.1,vi k.2.1,vi k.2.2,v]
end Go.Proofs.YtiflgceoamkmnaaGreatDoor
namespace Go.Proofs.YtiflgceoamkmnaaGreatDoor
open Go Go.Vc
section
variable {h:Hp}{R':Value→Hp→Prop}
theorem R_SameValues_ok {l:List Vl}{a b:Option Addr}{c d:Nat}(S:SlP encV h a l.length l)(S2:SlP encV h b l.length l)(hn:l.length≤1000000)(hK:R' (vb true) h):CallOK Tryz.prog 58 [vsl a l.length c,vsl b l.length d] h R':=by
 refine ok_R_SameValues ?_
 unfold VC_R_SameValues
 refine⟨fun e=>absurd rfl (of_decide_eq_true e),fun _=>?_⟩
 refine⟨fun vs hh=>hh=h∧∃ i:Nat,vs=[vi i]∧i≤l.length,fun vs hh=>l.length - (vint vs 0).toNat,⟨rfl,0,rfl,Nat.zero_le _⟩,?_⟩
 rintro vs hh ⟨rfl,i,rfl,hi⟩
 refine⟨i,rfl,fun e=>?_,fun _=>hK⟩
 have hlt:i < l.length:=by have:=of_decide_eq_true e;omega
 have hx:l[i]?=some l[i]:=List.getElem?_eq_getElem hlt
 obtain⟨b1,o1,e1,r1⟩:=S.get (sz:=2) (fun _=>rfl) (by decide) hx
 obtain⟨b2,o2,e2,r2⟩:=S2.get (sz:=2) (fun _=>rfl) (by decide) hx
 refine⟨b1,o1,⟨e1,by omega,by omega⟩,_,_,by rw [Int.toNat_natCast];exact r1,b2,o2,⟨e2,by omega,by omega⟩,_,_,by rw [Int.toNat_natCast];exact r2,!decide (l[i]=l[i]),rd_neqV,fun e3=>(by simp at e3),fun _=>⟨_,isW (by unfold InR;omega),⟨rfl,i+1,rfl,by omega⟩,by simp [vint];omega⟩⟩
theorem R_SamePane_ok {k:PK}{l:List Vl}{a b:Option Addr}{c d:Nat}(S:SlP encV h a l.length l)(S2:SlP encV h b l.length l)(hn:l.length≤1000000)(hK:R' (vb true) h):CallOK Tryz.prog 63 [vag (pkRw k (vsl a l.length c)),vag (pkRw k (vsl b l.length d))] h R':=by
 refine ok_R_SamePane ?_
 unfold VC_R_SamePane
 refine R_SameValues_ok S S2 hn ⟨_,rfl,decide (k.2=k.2),fun _=>rd_eqV,?_⟩
 rw [decide_eq_true (rfl:k.1=k.1),decide_eq_true (rfl:k.2=k.2)]
 exact hK
end
def VC_law_Light (u0:Option Addr)(u1 u2:Nat)(u3:Option Addr)(u4 u5:Nat)(h:Hp)(R:Value→Hp→Prop):Prop:=
 R (vb (bif (decide ((u1:Int)≤130)) then(decide ((u4:Int)≤200)) else false)) h
theorem ok_law_Light {u0 u1 u2 u3 u4 u5 h R}(H:VC_law_Light u0 u1 u2 u3 u4 u5 h R):CallOK Tryz.prog 11 [vsl u0 u1 u2,vsl u3 u4 u5] h R:=
 call_of (cfg:=⟨[],[],[]⟩) noNG mixed Tryz.func11 [.one (.v (vsl u0 u1 u2)),.one (.v (vsl u3 u4 u5))] (by kernel_rfl) rfl (by kernel_rfl) H
def VC_law_engines  (h:Hp)(R:Value→Hp→Prop):Prop:=
 (CallOK Tryz.prog 40 [(vs ⟨#[115,101,108,101,99,116,32,99,111,117,110,116,40,42,41,32,102,114,111,109,32,101,118,101,110,116,115,32,119,105,110,100,111,119,32,49,48]⟩)] h fun v1 h2=>∃ a3 n3 c3 a4 n4 c4 a5 n5 c5 x6 x7 x8 x9 e10,v1=(vtup [vag [vsl a3 n3 c3,vsl a4 n4 c4,vsl a5 n5 c5,vi x6,vi x7,vi x8,vi x9],ifv e10])∧(((Option.isSome e10)=true→R (vb false) h2)∧((Option.isSome e10)=false→(CallOK Tryz.prog 13 [vag [vsl a3 n3 c3,vsl a4 n4 c4,vsl a5 n5 c5,vi x6,vi x7,vi x8,vi x9],vi 1] h2 fun v12 h13=>∃ q14 e15,v12=(vtup [vp q14,ifv e15])∧(∃ p16,((Option.isSome e15)=false→Rd Tryz.prog ((eqGuard .eql 31 (.tmp 18) (.const (vp none)) (vp q14) (vp none) >>= fun _=>binOp .eql 31 (vp q14) (vp none))) h13 (vb p16))∧(((bif (Option.isSome e15) then true else p16)=true→R (vb false) h13)∧((bif (Option.isSome e15) then true else p16)=false→(CallOK Tryz.prog 17 [vp q14,vi 0,vag [vi 3,vi 0,vi 0,vi 0,vi 0,vi 0,vi 0]] h13 fun v18 h19=>v18=(vtup [])∧(CallOK Tryz.prog 17 [vp q14,vi 0,vag [vi 12,vi 0,vi 0,vi 0,vi 0,vi 0,vi 0]] h19 fun v20 h21=>v20=(vtup [])∧(∃ b22 o23,(q14=some ⟨b22,o23,none⟩)∧(∃ a24 n24 c24,(Hp.cell h21 b22 (o23+12)=some (vsl a24 n24 c24))∧(∃ b25 o26,((decide ((n24:Int)=1))=true→q14=some ⟨b25,o26,none⟩)∧(∃ a27 n27 c27,((decide ((n24:Int)=1))=true→Hp.cell h21 b25 (o26+12)=some (vsl a27 n27 c27))∧(∃ b28 o29,((decide ((n24:Int)=1))=true→(a27=some ⟨b28,o29,none⟩∧(0:Int)≤0∧0 < (n27:Int)))∧(∃ a30 n30 c30,((decide ((n24:Int)=1))=true→Hp.cell h21 b28 (((o29+(0:Int).toNat*5)+1)+3)=some (vsl a30 n30 c30))∧(∃ b31 o32,((decide ((n24:Int)=1))=true→(a30=some ⟨b31,o32,none⟩∧(0:Int)≤0∧0 < (n30:Int)))∧(∃ x33,((decide ((n24:Int)=1))=true→Hp.cell h21 b31 ((o32+(0:Int).toNat*2)+1)=some (vi x33))∧R (vb (bif (decide ((n24:Int)=1)) then(decide (x33=1)) else false)) h21)))))))))))))))))
theorem ok_law_engines {h R}(H:VC_law_engines  h R):CallOK Tryz.prog 10 [] h R:=
 call_of (cfg:=⟨[],[],[]⟩) noNG mixed Tryz.func10 [] (by kernel_rfl) rfl (by kernel_rfl) H
def VC_law_asEngine (u0 u1:Nat)(u2 u3:Nat)(h:Hp)(R:Value→Hp→Prop):Prop:=
 (∃ a1 n1 c1,(Hp.cell h u0 (u1+8)=some (vsl a1 n1 c1))∧(∃ a2 n2 c2,(Hp.cell h u2 (u3+7)=some (vsl a2 n2 c2))∧(CallOK Tryz.prog 60 [vsl a1 n1 c1,vsl a2 n2 c2] h fun v3 h4=>∃ p5,v3=(vb p5)∧(∃ a6 n6 c6,(p5=true→Hp.cell h4 u0 (u1+9)=some (vsl a6 n6 c6))∧(∃ a7 n7 c7,(p5=true→Hp.cell h4 u2 (u3+8)=some (vsl a7 n7 c7))∧(∃(J8:SV→Hp→Prop),(p5=true→(CallOK Tryz.prog 60 [vsl a6 n6 c6,vsl a7 n7 c7] h4 fun v9 h10=>∃ p11,v9=(vb p11)∧J8 (.t (.one (.v (vb p11)))) h10))∧(¬(p5=true)→J8 (.t (.one (.v (vb false)))) h4)∧∀ h12 p13,J8 (.t (.one (.v (vb p13)))) h12→(∃ x14,((bif p5 then p13 else false)=true→Hp.cell h12 u0 (u1+11)=some (vi x14))∧(∃ x15,((bif p5 then p13 else false)=true→Hp.cell h12 u2 (u3+10)=some (vi x15))∧(∃ a16 n16 c16,((bif (bif p5 then p13 else false) then(decide (x14=x15)) else false)=true→Hp.cell h12 u0 (u1+10)=some (vsl a16 n16 c16))∧(∃(J17:SV→Hp→Prop),((bif (bif p5 then p13 else false) then(decide (x14=x15)) else false)=true→(CallOK Tryz.prog 61 [vhp u2 u3] h12 fun v18 h19=>∃ x20,v18=(vi x20)∧J17 (.t (.one (.v (vi x20)))) h19))∧(¬((bif (bif p5 then p13 else false) then(decide (x14=x15)) else false)=true)→J17 (.t (.one (.v (vi 0)))) h12)∧∀ h21 x22,J17 (.t (.one (.v (vi x22)))) h21→(((bif (bif p5 then p13 else false) then(decide (x14=x15)) else false)=true→Hp.cell h21 u0 (u1+10)=some (vsl a16 n16 c16))∧(∃ a23 n23 c23,((bif (bif (bif p5 then p13 else false) then(decide (x14=x15)) else false) then(decide ((n16:Int)=x22)) else false)=true→Hp.cell h21 u0 (u1+12)=some (vsl a23 n23 c23))∧(∃ a24 n24 c24,((bif (bif (bif p5 then p13 else false) then(decide (x14=x15)) else false) then(decide ((n16:Int)=x22)) else false)=true→Hp.cell h21 u2 (u3+11)=some (vsl a24 n24 c24))∧(∃(J25:SV→Hp→Prop),((bif (bif (bif p5 then p13 else false) then(decide (x14=x15)) else false) then(decide ((n16:Int)=x22)) else false)=true→(CallOK Tryz.prog 62 [vsl a23 n23 c23,vsl a24 n24 c24] h21 fun v26 h27=>∃ p28,v26=(vb p28)∧J25 (.t (.one (.v (vb p28)))) h27))∧(¬((bif (bif (bif p5 then p13 else false) then(decide (x14=x15)) else false) then(decide ((n16:Int)=x22)) else false)=true)→J25 (.t (.one (.v (vb false)))) h21)∧∀ h29 p30,J25 (.t (.one (.v (vb p30)))) h29→R (vb (bif (bif (bif (bif p5 then p13 else false) then(decide (x14=x15)) else false) then(decide ((n16:Int)=x22)) else false) then p30 else false)) h29))))))))))))))
theorem ok_law_asEngine {u0 u1 u2 u3 h R}(H:VC_law_asEngine u0 u1 u2 u3 h R):CallOK Tryz.prog 19 [vhp u0 u1,vhp u2 u3] h R:=
 call_of (cfg:=⟨[],[],[(1,[0,1,2,3,4,5,6,7,8,9,10,11,12,13,14,15,16,17,18,19,20,21,22,23,24,25,26,27,28,29,30,31,32,33,34,35,36,37,38,39,40,41,42,43,44,45,46,47,48,49,50,51,52,53,54])]⟩) noNG mixed Tryz.func19 [.one (.hp u0 u1),.one (.hp u2 u3)] (by kernel_rfl) rfl (by kernel_rfl) H
def VC_law_EngineSays (u0:ByteArray)(u1:Int)(u2:Option Addr)(u3 u4:Nat)(h:Hp)(R:Value→Hp→Prop):Prop:=
 (CallOK Tryz.prog 10 [] h fun v1 h2=>∃ p3,v1=(vb p3)∧(∃(J4:SV→Hp→Prop),((!p3)=false→(CallOK Tryz.prog 11 [vsl u2 u3 u4,vsl none 0 0] h2 fun v5 h6=>∃ p7,v5=(vb p7)∧J4 (.t (.one (.v (vb p7)))) h6))∧(¬((!p3)=false)→J4 (.t (.one (.v (vb false)))) h2)∧∀ h8 p9,J4 (.t (.one (.v (vb p9)))) h8→(((bif (!p3) then true else(!p9))=true→R (vb p3) h8)∧((bif (!p3) then true else(!p9))=false→(CallOK Tryz.prog 12 [vs u0] h8 fun v11 h12=>∃ a13 n13 c13 a14 n14 c14 a15 n15 c15 x16 x17 x18 x19 p20,v11=(vtup [vag [vsl a13 n13 c13,vsl a14 n14 c14,vsl a15 n15 c15,vi x16,vi x17,vi x18,vi x19],vb p20])∧(((!p20)=true→R (vb true) h12)∧((!p20)=false→(CallOK Tryz.prog 13 [vag [vsl a13 n13 c13,vsl a14 n14 c14,vsl a15 n15 c15,vi x16,vi x17,vi x18,vi x19],vi u1] h12 fun v22 h23=>∃ q24 e25,v22=(vtup [vp q24,ifv e25])∧(((bif (decide (u1 < 1)) then true else(decide (u1 > 3)))=true→(CallOK Tryz.prog 14 [ifv e25,vi 1] h23 fun v26 h27=>∃ p28,v26=(vb p28)∧(∃ p29,(p28=true→Rd Tryz.prog ((eqGuard .eql 31 (.tmp 46) (.const (vp none)) (vp q24) (vp none) >>= fun _=>binOp .eql 31 (vp q24) (vp none))) h27 (vb p29))∧R (vb (bif p28 then p29 else false)) h27)))∧((bif (decide (u1 < 1)) then true else(decide (u1 > 3)))=false→(∃ p31,((Option.isSome e25)=false→Rd Tryz.prog ((eqGuard .eql 31 (.tmp 52) (.const (vp none)) (vp q24) (vp none) >>= fun _=>binOp .eql 31 (vp q24) (vp none))) h23 (vb p31))∧(((bif (Option.isSome e25) then true else p31)=true→R (vb false) h23)∧((bif (Option.isSome e25) then true else p31)=false→(CallOK Tryz.prog 15 [vag [vsl a13 n13 c13,vsl a14 n14 c14,vsl a15 n15 c15,vi x16,vi x17,vi x18,vi x19],vi u1] h23 fun v33 h34=>∃ q35,v33=(vp q35)∧(∃(I37:List Value→Hp→Prop) (m38:List Value→Hp→Nat),I37 [vi 0] h34∧∀ vs39 h40,I37 vs39 h40→∃ x41,vs39=[vi x41]∧(((decide (x41 < (u3:Int)))=true→(let J88:Hp→Prop:=fun h89=>(∃ x90,(IsW x90 (x41+1))∧(I37 [vi x90] h89∧m38 [vi x90] h89 < m38 vs39 h40));(∃ b44 o45,(u2=some ⟨b44,o45,none⟩∧(0:Int)≤x41∧x41 < (u3:Int))∧(∃ x46 x47 x48 x49 x50 x51 x52,(Hp.row h40 b44 ((o45+x41.toNat*8)+1) 7=some [vi x46,vi x47,vi x48,vi x49,vi x50,vi x51,vi x52])∧(CallOK Tryz.prog 16 [vag [vi x46,vi x47,vi x48,vi x49,vi x50,vi x51,vi x52]] h40 fun v53 h54=>∃ x55,v53=(vi x55)∧(((decide (x55 > 0))=true→(J88 h54))∧((decide (x55 > 0))=false→(∃ b58 o59,(u2=some ⟨b58,o59,none⟩∧(0:Int)≤x41∧x41 < (u3:Int))∧(∃ x60,(Hp.cell h54 b58 (o59+x41.toNat*8)=some (vi x60))∧(∃ x61,(Rd Tryz.prog (binOp .and 3 (vi x60) (vi 1023)) h54 (vi x61))∧((u1≠0)∧(∃ b62 o63,(u2=some ⟨b62,o63,none⟩∧(0:Int)≤x41∧x41 < (u3:Int))∧(∃ x64 x65 x66 x67 x68 x69 x70,(Hp.row h54 b62 ((o63+x41.toNat*8)+1) 7=some [vi x64,vi x65,vi x66,vi x67,vi x68,vi x69,vi x70])∧(CallOK Tryz.prog 17 [vp q24,(vi (Int.tmod x61 u1)),vag [vi x64,vi x65,vi x66,vi x67,vi x68,vi x69,vi x70]] h54 fun v71 h72=>v71=(vtup [])∧(∃ b73 o74,(u2=some ⟨b73,o74,none⟩∧(0:Int)≤x41∧x41 < (u3:Int))∧(∃ x75 x76 x77 x78 x79 x80 x81,(Hp.row h72 b73 ((o74+x41.toNat*8)+1) 7=some [vi x75,vi x76,vi x77,vi x78,vi x79,vi x80,vi x81])∧(CallOK Tryz.prog 18 [vp q35,(vi (Int.tmod x61 u1)),vag [vi x75,vi x76,vi x77,vi x78,vi x79,vi x80,vi x81]] h72 fun v82 h83=>v82=(vtup [])∧(CallOK Tryz.prog 19 [vp q24,vp q35] h83 fun v84 h85=>∃ p86,v84=(vb p86)∧(((!p86)=true→R (vb false) h85)∧((!p86)=false→(J88 h85)))))))))))))))))))))∧((decide (x41 < (u3:Int)))=false→R (vb true) h40)))))))))))))))))
theorem ok_law_EngineSays {u0 u1 u2 u3 u4 h R}(H:VC_law_EngineSays u0 u1 u2 u3 u4 h R):CallOK Tryz.prog 3 [vs u0,vi u1,vsl u2 u3 u4] h R:=
 call_of (cfg:=⟨[],[(14,([13],[.one (.int .i64)],[]))],[]⟩) noNG mixed Tryz.func3 [.one (.v (vs u0)),.one (.v (vi u1)),.one (.v (vsl u2 u3 u4))] (by kernel_rfl) rfl (by kernel_rfl) H
theorem R_NewEngineM_ok {q:Qy}{a1:Option Addr}{n1 c1:Nat}{a2:Option Addr}{n2 c2:Nat}{a3:Option Addr}{n3 c3:Nat}{p:Nat}{h:Hp}{R':Value→Hp→Prop}(Q:QAt h q a1 n1 a2 n2 a3 n3)(hp:p≤1000)
  (hK:∀ g h',h.le h'→MEng q h h' g (newE p)→R' (vhp g 0) h'):CallOK Tryz.prog 15 [qV a1 n1 c1 a2 n2 c2 a3 n3 c3 q,vi (p:Int)] h R':=by
 refine R_NewEngine_ok (by omega) fun b aR cR aF cF h' l hb hB OR OF fR fF=>hK b h' l ⟨h,h,a1,n1,c1,a2,n2,c2,a3,n3,c3,aR,cR,aF,cF,none,0,none,0,[],[],Hp.le_refl h,Q,PanR.nil (Hp.le_refl h),?_,rfl,rfl,fun r hr=>(by cases hr)⟩
 rw [Int.toNat_natCast] at hB OR OF
 have e1:((List.replicate p (0:Int)).map vi)=(newE p).rd.map fun n:Nat=>vi n:=by
  show _=(List.replicate p 0).map _
  rw [List.map_replicate,List.map_replicate];rfl
 rw [e1] at OR
 have l1:(newE p).rd.length=p:=List.length_replicate ..
 have l2:(newE p).far.length=p:=List.length_replicate ..
 have k1:(blkO b 103 (csM a1 n1 c1 a2 n2 c2 a3 n3 c3 q aR (newE p).rd.length cR aF (newE p).far.length cF none 0 0 (newE p).late none 0 0)).own h':=by
  refine blkO_own ?_
  rw [l1,l2]
  exact hB
 have k2:(owR aR cR (newE p).rd).own h':=by
  show OwnS _ _ _ _ (newE p).rd.length _ _
  rw [l1];exact OR
 have k3:(owF aF cF (newE p).far).own h':=by
  show OwnS _ _ _ _ (newE p).far.length _ _
  rw [l2];exact OF
 refine⟨l,fun s hs=>?_,fun s hs x hx=>?_,?_⟩
 ·simp only [List.mem_cons,List.not_mem_nil,or_false] at hs
  rcases hs with rfl|rfl|rfl|rfl
  ·exact k1
  ·exact k2
  ·exact k3
  ·exact OwnS.nil ..
 ·simp only [List.mem_cons,List.not_mem_nil,or_false] at hs
  rcases hs with rfl|rfl|rfl|rfl
  ·have hx:some (⟨b,0,none⟩:Addr)=some ⟨x,0,none⟩:=hx
   cases hx
   exact hb
  ·exact(fR x hx).1
  ·exact(fF x hx).1
  ·cases hx
 ·have w:∀{s:Ow} {x:Nat},¬(owW none 0 []).at x:=fun {s x} hx=>by cases hx
  refine List.Pairwise.cons (fun s hs x hx hy=>?_) (List.Pairwise.cons (fun s hs x hx hy=>?_) (List.Pairwise.cons (fun s hs x hx hy=>?_) (List.Pairwise.cons (fun s hs=>(by cases hs)) List.Pairwise.nil)))
  ·have hx:some (⟨b,0,none⟩:Addr)=some ⟨x,0,none⟩:=hx
   cases hx
   simp only [List.mem_cons,List.not_mem_nil,or_false] at hs
   rcases hs with rfl|rfl|rfl
   ·exact(fR _ hy).2 rfl
   ·exact(fF _ hy).2.1 rfl
   ·cases hy
  ·simp only [List.mem_cons,List.not_mem_nil,or_false] at hs
   rcases hs with rfl|rfl
   ·exact(fF _ hy).2.2 hx
   ·cases hy
  ·rw [List.mem_singleton.1 hs] at hy
   cases hy
theorem R_Kept_ok {q:Qy}{h0 h:Hp}{g:Nat}{st:En}{R':Value→Hp→Prop}(X:MEng q h0 h g st)(hK:R' (vi (st.pn.length:Nat)) h):CallOK Tryz.prog 61 [vhp g 0] h R':=by
 refine ok_R_Engine_Kept ?_
 unfold VC_R_Engine_Kept
 obtain⟨hB,hP,a1,n1,c1,a2,n2,c2,a3,n3,c3,ar,cr,af,cf,ap,cp,aw,cw,R,RW,l0,Q,N,O,e1,e2,e3⟩:=X
 have hRl:R.length=st.pn.length:=by have:=congrArg List.length e1;simpa using this
 refine⟨_,_,_,cell_cells (O.blk (List.mem_cons_self ..)) rfl,?_⟩
 rw [hRl]
 exact hK
theorem R_SameRows_ok {L:List ((Bool × PK) × List Vl)}{a b:Option Addr}{c d:Nat}{h:Hp}{R':Value→Hp→Prop}(T:GTab encV rwRow h a L.length L)(T2:GTab encV rwRow h b L.length L)(hn:L.length≤4000000)(hl:∀ x ∈ L,x.2.length≤1000000)(hK:R' (vb true) h):CallOK Tryz.prog 62 [vsl a L.length c,vsl b L.length d] h R':=by
 refine ok_R_SameRows ?_
 unfold VC_R_SameRows
 refine⟨fun e=>absurd rfl (of_decide_eq_true e),fun _=>?_⟩
 refine⟨fun vs hh=>hh=h∧∃ i:Nat,vs=[vi i]∧i≤L.length,fun vs hh=>L.length - (vint vs 0).toNat,⟨rfl,0,rfl,Nat.zero_le _⟩,?_⟩
 rintro vs hh ⟨rfl,i,rfl,hi⟩
 refine⟨i,rfl,fun e=>?_,fun _=>hK⟩
 have hlt:i < L.length:=by have:=of_decide_eq_true e;omega
 have hx:L[i]?=some L[i]:=List.getElem?_eq_getElem hlt
 have hm:=hl _ (List.getElem_mem hlt)
 generalize L[i]=x at hx hm
 obtain⟨k,l⟩:=x
 obtain⟨b1,o1,a1,c1,e1,r1,S1⟩:=T.row rwRow_len (by decide) hx
 obtain⟨b2,o2,a2,c2,e2,r2,S2⟩:=T2.row rwRow_len (by decide) hx
 have hb1:a=some ⟨b1,o1,none⟩∧(0:Int)≤(i:Int)∧(i:Int) < ((L.length:Nat):Int):=⟨e1,by omega,by omega⟩
 have hb2:b=some ⟨b2,o2,none⟩∧(0:Int)≤(i:Int)∧(i:Int) < ((L.length:Nat):Int):=⟨e2,by omega,by omega⟩
 have q1:hh.row b1 (o1+i*5+1) 4=some (pkRw k.2 (vsl a1 l.length c1)):=Hp.row_sub r1 (i:=1) (k:=4) (by decide)
 have q2:hh.row b2 (o2+i*5+1) 4=some (pkRw k.2 (vsl a2 l.length c2)):=Hp.row_sub r2 (i:=1) (k:=4) (by decide)
 refine⟨b1,o1,hb1,_,_,_,_,_,_,q1,b2,o2,hb2,_,_,_,_,_,_,q2,?_⟩
 refine R_SamePane_ok (k:=k.2) S1 S2 hm ⟨_,rfl,b1,o1,hb1,_,Hp.row_cell r1 (i:=0) rfl,b2,o2,hb2,_,Hp.row_cell r2 (i:=0) rfl,_,rd_neB (by kernel_rfl),?_⟩
 refine⟨fun e3=>?_,fun _=>⟨_,isW (by unfold InR;omega),⟨rfl,i+1,rfl,by omega⟩,by simp [vint];omega⟩⟩
 simp at e3
theorem EngX.see {q:Qy}{h0 h:Hp}{g:Nat}{st:En}(X:EngX q h0 h g st):∃(a1:Option Addr) (n1 c1:Nat) (a2:Option Addr) (n2 c2:Nat) (a3:Option Addr) (n3 c3:Nat) (qf:Qy) (ak:Option Addr) (nk ck:Nat) (ar:Option Addr) (cr:Nat) (ac:Option Addr) (cc:Nat) (tb:Option Addr) (tc:Nat) (aw:Option Addr) (cw:Nat),
  h g=some (cellsO (engC a1 n1 c1 a2 n2 c2 a3 n3 c3 qf ak nk ck ar st.rd.length cr ac st.far.length cc tb st.pn.length tc st.late aw (st.rows.map rowG).length cw) 64)∧SlI h ar st.rd.length (st.rd.map fun n:Nat=>(n:Int))∧SlI h ac st.far.length st.far∧GTab encV rwRow h aw (st.rows.map rowG).length (st.rows.map rowG):=by
 obtain⟨qf,hi,a1,n1,c1,a2,n2,c2,a3,n3,c3,ak,nk,ck,ar,cr,ac,nc,cc,tb,tc,aw,cw,R,RW,l0,M,I⟩:=X
 have hRl:R.length=st.pn.length:=by have:=congrArg List.length I.p;simpa using this
 have hWl:RW.length=(st.rows.map rowG).length:=by have:=congrArg List.length I.w;simpa [growL] using this
 have hnc:nc=st.far.length:=I.c.1
 subst hnc
 refine⟨a1,n1,c1,a2,n2,c2,a3,n3,c3,qf,ak,nk,ck,ar,cr,ac,cc,tb,tc,aw,cw,?_,?_,I.c.le M.le0,⟨RW,I.w,rfl,M.w.row,fun r hr=>(I.wi r hr).le M.le0⟩⟩
 ·rw [←hRl,←hWl];exact M.blk
 ·have:=M.r
  rw [rd_ints] at this
  exact this.sli
theorem MEng.see {q:Qy}{h0 h:Hp}{g:Nat}{st:En}(X:MEng q h0 h g st):∃(a1:Option Addr) (n1 c1:Nat) (a2:Option Addr) (n2 c2:Nat) (a3:Option Addr) (n3 c3:Nat) (ar:Option Addr) (cr:Nat) (af:Option Addr) (cf:Nat) (ap:Option Addr) (cp:Nat) (aw:Option Addr) (cw:Nat),
  h g=some (cellsO (csM a1 n1 c1 a2 n2 c2 a3 n3 c3 q ar st.rd.length cr af st.far.length cf ap st.pn.length cp st.late aw (st.rows.map rowG).length cw) 103)∧SlI h ar st.rd.length (st.rd.map fun n:Nat=>(n:Int))∧SlI h af st.far.length st.far∧GTab encV rwRow h aw (st.rows.map rowG).length (st.rows.map rowG):=by
 obtain⟨hB,hP,a1,n1,c1,a2,n2,c2,a3,n3,c3,ar,cr,af,cf,ap,cp,aw,cw,R,RW,l0,Q,N,O,e1,e2,e3⟩:=X
 have hRl:R.length=st.pn.length:=by have:=congrArg List.length e1;simpa using this
 have hWl:RW.length=(st.rows.map rowG).length:=by have:=congrArg List.length e2;simpa [growL] using this
 have lB:=Hp.le_trans N.le0 O.le
 refine⟨a1,n1,c1,a2,n2,c2,a3,n3,c3,ar,cr,af,cf,ap,cp,aw,cw,?_,?_,(O.ownV (s:=owF af cf st.far) (by simp)).sli,⟨RW,e2,rfl,(O.ownV (s:=owW aw cw RW) (by simp)).row,fun r hr=>(e3 r hr).le lB⟩⟩
 ·rw [←hRl,←hWl];exact O.blk (List.mem_cons_self ..)
 ·have:=O.ownV (s:=owR ar cr st.rd) (by simp)
  unfold owR at this
  simp only [rd_ints] at this
  exact this.sli
theorem law_asEngine_ok {q:Qy}{h0 h1 h:Hp}{g m parts N:Nat}{st:En}{R':Value→Hp→Prop}(X:EngX q h0 h g st)(Y:MEng q h1 h m st)(B:QOk q)(HB:EnB q parts N st)(hp:parts≤1000)(hN:N≤1000000)(hK:R' (vb true) h):CallOK Tryz.prog 19 [vhp g 0,vhp m 0] h R':=by
 refine ok_law_asEngine ?_
 unfold VC_law_asEngine
 have hrl:=HB.rl
 have hfl:=HB.fl
 have hwl:=HB.wl
 have hwo:=HB.wo
 have hn4:=B.n2
 have hY:=R_Kept_ok (R':=fun v h'=>∃ x:Int,v=vi x∧h'=h∧x=(st.pn.length:Nat)) Y ⟨_,rfl,rfl,rfl⟩
 obtain⟨a1,n1,c1,a2,n2,c2,a3,n3,c3,qf,ak,nk,ck,ar,cr,ac,cc,tb,tc,aw,cw,k1,s1,s2,g1⟩:=X.see
 obtain⟨a1',n1',c1',a2',n2',c2',a3',n3',c3',ar',cr',af',cf',ap',cp',aw',cw',k2,s3,s4,g2⟩:=Y.see
 refine⟨_,_,_,cell_cells k1 rfl,_,_,_,cell_cells k2 rfl,?_⟩
 refine R_SameNumbers_ok s1 s3 (by omega) (by omega) ⟨_,rfl,?_⟩
 rw [decide_eq_true rfl]
 refine⟨_,_,_,fun _=>cell_cells k1 rfl,_,_,_,fun _=>cell_cells k2 rfl,fun x h'=>h'=h∧x=.t (.one (.v (vb true))),fun _=>R_SameNumbers_ok s2 s4 (by omega) (by omega) ⟨_,rfl,rfl,by rw [decide_eq_true rfl]⟩,fun e=>absurd rfl e,?_⟩
 rintro h' p9 ⟨rfl,e⟩
 cases e
 refine⟨_,fun _=>cell_cells k1 rfl,_,fun _=>cell_cells k2 rfl,_,_,_,fun _=>cell_cells k1 rfl,?_⟩
 rw [decide_eq_true (rfl:((st.late:Nat):Int)=_)]
 refine⟨fun x h2=>h2=h'∧x=.t (.one (.v (vi (st.pn.length:Nat)))),fun _=>CallOK.mono hY ?_,fun e=>absurd rfl e,?_⟩
 ·rintro v h2 ⟨x,rfl,rfl,rfl⟩
  exact⟨_,rfl,rfl,rfl⟩
 rintro h2 x22 ⟨rfl,e⟩
 cases e
 refine⟨fun _=>cell_cells k1 rfl,_,_,_,fun _=>cell_cells k1 rfl,_,_,_,fun _=>cell_cells k2 rfl,?_⟩
 rw [decide_eq_true (rfl:((st.pn.length:Nat):Int)=_)]
 refine⟨fun x h3=>h3=h2∧x=.t (.one (.v (vb true))),fun _=>R_SameRows_ok g1 g2 (by rw [List.length_map];omega) (fun x hx=>?_) ⟨_,rfl,rfl,rfl⟩,fun e=>absurd rfl e,?_⟩
 ·obtain⟨w,hw,rfl⟩:=List.mem_map.1 hx
  have:=hwo w hw
  show w.2.2.length≤1000000
  omega
 rintro h3 p30 ⟨rfl,e⟩
 cases e
 exact hK
open Go.Txt
theorem slb_lit (h:Hp)(b:Nat)(l:List Wd)(hl:l.length≤maxLen):SlB (h.set b (cellsO (l.flatMap encB) 9)) (some ⟨b,0,none⟩) l.length l:=⟨rfl,(OwnS.new h b 9 (sz:=1) (n:=l.length) (l.flatMap encB) (by induction l with
 | nil=>rfl
 | cons w l ih=>have:=ih (by simp at hl;omega);simp [encB] at this ⊢;omega) hl).row⟩
theorem number_range {s:RS}{most:Int}(hm:0≤most):0≤(s.number most).1∧(s.number most).1≤most:=by
 unfold RS.number
 split
 ·exact⟨Int.le_refl _,hm⟩
 ·split
  ·exact⟨Int.le_refl _,hm⟩
  ·rename_i h
   exact⟨by omega,(natF_low hm).2⟩
theorem joinP_le (op:Int)(x y:List Nd)(s:RS):(joinP op x y s).1.length≤40:=by
 unfold joinP
 split
 ·simp
 ·rw [joinL_length];omega
theorem read_const {w:Wd}(h:w ∈ constW):(readV w).1=constV w:=by
 have h2:w=wNull∨w=wTrue∨w=wFalse:=by simpa [constW] using h
 rcases h2 with rfl|rfl|rfl<;>rfl
theorem reader_atom_ok {P:Ps}{n:Nat}(F:Reads 84 P n)(kp:KP P n):Reads 209 (atomP P) (n+1):=by
 intro h0 h g s D E S R hK
 refine ok_query_reader_atom ?_
 unfold VC_query_reader_atom
 intro b1 hb1 h2
 have hl:h.le h2:=Hp.le_set (Hp.le_refl h) hb1 _
 have hb:=S.big
 have tk:=@taken s ([wOpen]++constW++fieldW)
 have sp:=s.is_spec ([wOpen]++constW++fieldW)
 have gi:=goes_is S.good ([wOpen]++constW++fieldW)
 have nr:=@number_range
 unfold atomP at hK
 simp only at hK
 refine reader_is_ok (D.le hl) (l:=[wOpen]++constW++fieldW) (slb_lit h b1 ([wOpen]++constW++fieldW) (by decide)) (by decide) (by omega) fun h4 D4 M4=>⟨_,rfl,?_⟩
 have M04:Mut (At g) h (At g) h4:=(Mut.of_le hl).trans M4
 generalize s.is ([wOpen]++constW++fieldW)=A at *
 obtain⟨w,s1⟩:=A
 simp -zeta only at hK D4 tk sp gi ⊢
 have hS1:=S.goes gi
 have E4:=E.mut M04
 refine⟨_,rd_eqBs (b:=wOpen),fun e=>?_,fun e1=>?_⟩
 ·have ew:w=wOpen:=of_decide_eq_true e
  have tk:=tk (by rw [ew];decide)
  rw [if_pos ew] at hK
  have d1:=S.d1
  have hdp:=gi.deep
  have Sn:SOk n s1:=⟨hS1.good,by have:=S.len;omega,hS1.big,hS1.d0,hS1.d1⟩
  have kd:=keeps_down kp (Goes.refl hS1.good) (Nat.le_of_lt Sn.len)
  refine reader_down_ok ⟨_,Tryz.func84,by kernel_rfl,by kernel_rfl⟩ F kp D4 E4 Sn (by omega) fun a c h8 D8 N8 M8=>⟨_,_,_,rfl,?_⟩
  refine reader_must_ok D8 (by have:=kd.len;have:=hS1.big;omega) fun h11 D11 M11=>⟨rfl,?_⟩
  exact hK a c h11 D11 ((N8.base (M04.up D4.al)).mut D.al M11) ((M04.trans M8).trans M11)
 have e1:¬ w=wOpen:=of_decide_eq_false e1
 rw [if_neg e1] at hK
 have hwc:w ∈ constW↔w=wNull∨w=wTrue∨w=wFalse:=by simp [constW]
 refine⟨_,rd_eqBs (b:=wNull),?_⟩
 intro J18
 have yes:w ∈ constW→J18 true:=by
  intro hw
  rw [if_pos hw] at hK
  have hwl:w.length≤1000000:=by
   have:w=wNull∨w=wTrue∨w=wFalse:=hwc.1 hw
   rcases this with rfl|rfl|rfl<;>decide
  refine⟨fun _=>?_,fun e=>by cases e⟩
  refine value_Parse_ok hwl E4.now.p E4.now.e ⟨_,_,_,rfl,?_⟩
  rw [read_const hw]
  refine query_leaf_ok ⟨1,0,0,0,constV w⟩ fun a c h26 N26 _ l26=>⟨_,_,_,rfl,?_⟩
  exact hK a c h26 (D4.le l26) (N26.base (M04.up D4.al)) (M04.trans (Mut.of_le l26))
 have no:¬ w ∈ constW→J18 false:=by
  intro hw
  rw [if_neg hw] at hK
  refine⟨fun e=>by (cases e),fun _=>⟨_,rd_eqBs (b:=[]),fun e=>?_,fun e=>?_⟩⟩
  ·rw [if_pos (of_decide_eq_true e)] at hK
   have nr1:=nr (s:=s1) (most:=1000000000) (by decide)
   refine reader_number_ok D4 E4 (by have:=hS1.big;omega) (by decide) (by decide) fun h30 D30 M30=>⟨_,rfl,value_Number_ok ⟨_,_,rfl,?_⟩⟩
   have en:numV (s1.number 1000000000).1=(1,(s1.number 1000000000).1):=by unfold numV;rw [if_neg (by omega)]
   rw [en]
   refine query_leaf_ok ⟨1,0,0,0,(1,(s1.number 1000000000).1)⟩ fun a c h37 N37 _ l37=>⟨_,_,_,rfl,?_⟩
   exact hK a c h37 (D30.le l37) (N37.base ((M04.trans M30).up D30.al)) ((M04.trans M30).trans (Mut.of_le l37))
  ·have e3:=of_decide_eq_false e
   rw [if_neg e3] at hK
   have hm:w ∈ fieldW:=by
    rcases sp with ⟨q,_⟩|⟨w',r,_,hm,q,_⟩
    ·exact absurd q e3
    ·rw [←q] at hm
     rcases List.mem_append.1 hm with h4|h4
     ·rcases List.mem_append.1 h4 with h5|h5
      ·exact absurd (by simpa using h5) e1
      ·exact absurd h5 hw
     ·exact h4
   obtain⟨fa,fc,hf,hfs⟩:=E4.now.f
   refine⟨_,_,_,hf,slices_Index_ok hfs (by decide) ⟨_,rfl,?_⟩⟩
   rw [if_pos hm]
   refine query_leaf_ok ⟨2,0,0,fieldW.idxOf w,(0,0)⟩ fun a c h44 N44 _ l44=>⟨_,_,_,rfl,?_⟩
   exact hK a c h44 (D4.le l44) (N44.base (M04.up D4.al)) (M04.trans (Mut.of_le l44))
 clear_value J18
 refine⟨fun e=>?_,fun e2=>⟨_,rd_eqBs (b:=wTrue),fun e=>?_,fun e3=>⟨_,rd_eqBs (b:=wFalse),?_⟩⟩⟩
 ·rw [e];exact yes (hwc.2 (.inl (of_decide_eq_true e)))
 ·rw [e];exact yes (hwc.2 (.inr (.inl (of_decide_eq_true e))))
 ·have e2:=of_decide_eq_false e2
  have e3:=of_decide_eq_false e3
  by_cases hf:w=wFalse
  ·rw [decide_eq_true hf];exact yes (hwc.2 (.inr (.inr hf)))
  ·rw [decide_eq_false hf]
   refine no fun h=>?_
   rcases hwc.1 h with h|h|h
   ·exact e2 h
   ·exact e3 h
   ·exact hf h
theorem reader_unary_ok {U A:Ps}{n:Nat}(F:Reads 207 U n)(ku:KP U n)(FA:Reads 209 A (n+1)):Reads 207 (unaryP U A) (n+1):=by
 intro h0 h g s D E S R hK
 refine ok_query_reader_unary ?_
 unfold VC_query_reader_unary
 intro b1 hb1 h2
 have hl:h.le h2:=Hp.le_set (Hp.le_refl h) hb1 _
 have hb:=S.big
 have tk:=@taken s [wMinus]
 have gi:=goes_is S.good [wMinus]
 unfold unaryP at hK
 have hi:=@RS.is_spec s [wMinus]
 refine reader_is_ok (D.le hl) (slb_one h b1 wMinus) (by decide) (by omega) fun h4 D4 M4=>⟨_,rfl,?_⟩
 have M04:Mut (At g) h (At g) h4:=(Mut.of_le hl).trans M4
 generalize s.is [wMinus]=B at *
 obtain⟨w,s1⟩:=B
 simp -zeta only at hK D4 tk gi hi ⊢
 have hS1:=S.goes gi
 have E4:=E.mut M04
 refine⟨_,rd_eqBs (b:=[]),fun e=>?_,fun e=>?_⟩
 ·have ew:=of_decide_eq_true e
  rw [if_pos ew] at hK
  have es:s1=s:=by
   rcases hi with ⟨_,q⟩|⟨w',r,_,hm,q,_⟩
   ·exact q
   ·rw [ew] at q;rw [←q] at hm;exact absurd hm (by decide)
  subst es
  exact FA D4 E4 hS1 fun a c h8 D8 N8 M8=>⟨_,_,_,rfl,hK a c h8 D8 (N8.base (M04.up D4.al)) (M04.trans M8)⟩
 ·have ew:=of_decide_eq_false e
  rw [if_neg ew] at hK
  have tk:=tk ew
  have d1:=S.d1
  have hdp:=gi.deep
  have Sn:SOk n s1:=⟨hS1.good,by have:=S.len;omega,hS1.big,hS1.d0,hS1.d1⟩
  have kd:=keeps_down ku (Goes.refl hS1.good) (Nat.le_of_lt Sn.len)
  refine reader_down_ok ⟨_,Tryz.func207,by kernel_rfl,by kernel_rfl⟩ F ku D4 E4 Sn (by omega) fun a c h8 D8 N8 M8=>⟨_,_,_,rfl,?_⟩
  refine reader_join_ok D8 N8.s (nd_nil h8 h8).s wf_nil (by have:=kd.le;omega) (by simp) fun a c h15 D15 N15 M15=>⟨_,_,_,rfl,?_⟩
  exact hK a c h15 D15 (N15.base ((M04.trans M8).up D8.al)) ((M04.trans M8).trans M15)
theorem reader_not_ok {U A:Ps}{n:Nat}(F:Reads 166 U n)(ku:KP U n)(FA:Reads 186 A (n+1)):Reads 166 (notP U A) (n+1):=by
 intro h0 h g s D E S R hK
 refine ok_query_reader_not ?_
 unfold VC_query_reader_not
 intro b1 hb1 h2
 have hl:h.le h2:=Hp.le_set (Hp.le_refl h) hb1 _
 have hb:=S.big
 have tk:=@taken s [wNot]
 have gi:=goes_is S.good [wNot]
 unfold notP at hK
 have hi:=@RS.is_spec s [wNot]
 refine reader_is_ok (D.le hl) (slb_one h b1 wNot) (by decide) (by omega) fun h4 D4 M4=>⟨_,rfl,?_⟩
 have M04:Mut (At g) h (At g) h4:=(Mut.of_le hl).trans M4
 generalize s.is [wNot]=B at *
 obtain⟨w,s1⟩:=B
 simp -zeta only at hK D4 tk gi hi ⊢
 have hS1:=S.goes gi
 have E4:=E.mut M04
 refine⟨_,rd_eqBs (b:=[]),fun e=>?_,fun e=>?_⟩
 ·have ew:=of_decide_eq_true e
  rw [if_pos ew] at hK
  have es:s1=s:=by
   rcases hi with ⟨_,q⟩|⟨w',r,_,hm,q,_⟩
   ·exact q
   ·rw [ew] at q;rw [←q] at hm;exact absurd hm (by decide)
  subst es
  exact FA D4 E4 hS1 fun a c h8 D8 N8 M8=>⟨_,_,_,rfl,hK a c h8 D8 (N8.base (M04.up D4.al)) (M04.trans M8)⟩
 ·have ew:=of_decide_eq_false e
  rw [if_neg ew] at hK
  have tk:=tk ew
  have d1:=S.d1
  have hdp:=gi.deep
  have Sn:SOk n s1:=⟨hS1.good,by have:=S.len;omega,hS1.big,hS1.d0,hS1.d1⟩
  have kd:=keeps_down ku (Goes.refl hS1.good) (Nat.le_of_lt Sn.len)
  refine reader_down_ok ⟨_,Tryz.func166,by kernel_rfl,by kernel_rfl⟩ F ku D4 E4 Sn (by omega) fun a c h8 D8 N8 M8=>⟨_,_,_,rfl,?_⟩
  refine reader_join_ok D8 N8.s (nd_nil h8 h8).s wf_nil (by have:=kd.le;omega) (by simp) fun a c h15 D15 N15 M15=>⟨_,_,_,rfl,?_⟩
  exact hK a c h15 D15 (N15.base ((M04.trans M8).up D8.al)) ((M04.trans M8).trans M15)
theorem reader_compare_ok {P:Ps}{n:Nat}(F:Reads 197 P n)(kp:KP P n):Reads 186 (cmpP P) n:=by
 intro h0 h g s D E S R hK
 refine ok_query_reader_compare ?_
 unfold VC_query_reader_compare
 have k:=kp s S.good (Nat.le_of_lt S.len)
 unfold cmpP at hK
 simp only at hK
 refine F D E S fun a3 c3 h2 D2 N2 M2=>⟨_,_,_,rfl,?_⟩
 intro b4 hb4 h5
 have l5:h2.le h5:=Hp.le_set (Hp.le_refl h2) hb4 _
 have S2:=S.goes k.goes
 have G0:=k.goes
 have k0:=k.le
 generalize P s=X at *
 obtain⟨x,s0⟩:=X
 simp only at hK D2 N2 S2 G0 k0
 have gi:=goes_is S2.good [wLt,wGt,wLe,wGe,wEq,wNe,wIs]
 refine reader_is_ok (D2.le l5) (slb_lit h2 b4 [wLt,wGt,wLe,wGe,wEq,wNe,wIs] (by decide)) (by decide) (by have:=S2.big;omega) fun h7 D7 M7=>⟨_,rfl,?_⟩
 have M57:Mut (At g) h2 (At g) h7:=(Mut.of_le l5).trans M7
 have M07:Mut (At g) h (At g) h7:=M2.trans M57
 have N7:=N2.mut D.al M57
 generalize s0.is [wLt,wGt,wLe,wGe,wEq,wNe,wIs]=B at *
 obtain⟨w,s1⟩:=B
 simp -zeta only at hK D7 gi ⊢
 have S7:=S2.goes gi
 have k2:=kp s1 S7.good (Nat.le_of_lt S7.len)
 have kw:=k2.wf
 have kl:=k2.le
 have E7:=E.mut M07
 have sumK:∀{R2:Value→Hp→Prop},(∀ a c h',RdAt h0 h' g (P s1).2→NdAt h7 h' a (P s1).1.length (P s1).1→Mut (At g) h7 (At g) h'→R2 (vsl a (P s1).1.length c) h')→CallOK Tryz.prog 197 [vhp g 0] h7 R2:=fun H=>F D7 E7 S7 H
 have kx:=k.wf
 intro J78
 generalize P s1=Y at *
 obtain⟨y,s2⟩:=Y
 simp -zeta only at hK sumK kw kl ⊢
 refine⟨_,rd_eqBs (b:=wLt),fun e=>?_,fun e1=>⟨_,rd_eqBs (b:=wGt),fun e=>?_,fun e2=>⟨_,rd_eqBs (b:=wLe),fun e=>?_,fun e3=>⟨_,rd_eqBs (b:=wGe),fun e=>?_,fun e4=>⟨_,rd_eqBs (b:=wEq),fun e=>?_,fun e5=>⟨_,rd_eqBs (b:=wNe),fun e=>?_,fun e6=>⟨_,rd_eqBs (b:=wIs),fun e=>?_,fun e7=>?_⟩⟩⟩⟩⟩⟩⟩
 ·rw [if_pos (of_decide_eq_true e)] at hK
  exact sumK fun a c h11 D11 N11 M11=>⟨_,_,_,rfl,reader_join_ok D11 (N7.mut D.al M11).s N11.s kw (by omega) (by omega) fun a c h14 D14 N14 M14=>⟨_,_,_,rfl,hK a c h14 D14 (N14.base ((M07.trans M11).up D11.al)) ((M07.trans M11).trans M14)⟩⟩
 ·rw [if_neg (of_decide_eq_false e1),if_pos (of_decide_eq_true e)] at hK
  exact sumK fun a c h11 D11 N11 M11=>⟨_,_,_,rfl,reader_join_ok D11 N11.s (N7.mut D.al M11).s kx (by omega) (by omega) fun a c h14 D14 N14 M14=>⟨_,_,_,rfl,hK a c h14 D14 (N14.base ((M07.trans M11).up D11.al)) ((M07.trans M11).trans M14)⟩⟩
 ·rw [if_neg (of_decide_eq_false e1),if_neg (of_decide_eq_false e2),if_pos (of_decide_eq_true e)] at hK
  have jl:=joinP_le 11 y x s2
  exact sumK fun a c h11 D11 N11 M11=>⟨_,_,_,rfl,reader_join_ok D11 N11.s (N7.mut D.al M11).s kx (by omega) (by omega) fun a c h14 D14 N14 M14=>⟨_,_,_,rfl,reader_join_ok D14 N14.s (nd_nil h14 h14).s wf_nil (by omega) (by simp) fun a c h17 D17 N17 M17=>⟨_,_,_,rfl,hK a c h17 D17 (N17.base (((M07.trans M11).trans M14).up D14.al)) (((M07.trans M11).trans M14).trans M17)⟩⟩⟩
 ·rw [if_neg (of_decide_eq_false e1),if_neg (of_decide_eq_false e2),if_neg (of_decide_eq_false e3),if_pos (of_decide_eq_true e)] at hK
  have jl:=joinP_le 11 x y s2
  exact sumK fun a c h11 D11 N11 M11=>⟨_,_,_,rfl,reader_join_ok D11 (N7.mut D.al M11).s N11.s kw (by omega) (by omega) fun a c h14 D14 N14 M14=>⟨_,_,_,rfl,reader_join_ok D14 N14.s (nd_nil h14 h14).s wf_nil (by omega) (by simp) fun a c h17 D17 N17 M17=>⟨_,_,_,rfl,hK a c h17 D17 (N17.base (((M07.trans M11).trans M14).up D14.al)) (((M07.trans M11).trans M14).trans M17)⟩⟩⟩
 ·rw [if_neg (of_decide_eq_false e1),if_neg (of_decide_eq_false e2),if_neg (of_decide_eq_false e3),if_neg (of_decide_eq_false e4),if_pos (of_decide_eq_true e)] at hK
  exact sumK fun a c h11 D11 N11 M11=>⟨_,_,_,rfl,reader_join_ok D11 (N7.mut D.al M11).s N11.s kw (by omega) (by omega) fun a c h14 D14 N14 M14=>⟨_,_,_,rfl,hK a c h14 D14 (N14.base ((M07.trans M11).up D11.al)) ((M07.trans M11).trans M14)⟩⟩
 ·rw [if_neg (of_decide_eq_false e1),if_neg (of_decide_eq_false e2),if_neg (of_decide_eq_false e3),if_neg (of_decide_eq_false e4),if_neg (of_decide_eq_false e5),if_pos (of_decide_eq_true e)] at hK
  have jl:=joinP_le 12 x y s2
  exact sumK fun a c h11 D11 N11 M11=>⟨_,_,_,rfl,reader_join_ok D11 (N7.mut D.al M11).s N11.s kw (by omega) (by omega) fun a c h14 D14 N14 M14=>⟨_,_,_,rfl,reader_join_ok D14 N14.s (nd_nil h14 h14).s wf_nil (by omega) (by simp) fun a c h17 D17 N17 M17=>⟨_,_,_,rfl,hK a c h17 D17 (N17.base (((M07.trans M11).trans M14).up D14.al)) (((M07.trans M11).trans M14).trans M17)⟩⟩⟩
 ·rw [if_neg (of_decide_eq_false e1),if_neg (of_decide_eq_false e2),if_neg (of_decide_eq_false e3),if_neg (of_decide_eq_false e4),if_neg (of_decide_eq_false e5),if_neg (of_decide_eq_false e6),if_pos (of_decide_eq_true e)] at hK
  intro b61 hb61 h62
  have l62:h7.le h62:=Hp.le_set (Hp.le_refl h7) hb61 _
  have g3:=goes_is S7.good [wNot]
  refine reader_is_ok (D7.le l62) (slb_one h7 b61 wNot) (by decide) (by have:=S7.big;omega) fun h64 D64 M64=>⟨_,rfl,?_⟩
  have M64':Mut (At g) h7 (At g) h64:=(Mut.of_le l62).trans M64
  have S8:=S7.goes g3
  generalize s1.is [wNot]=C at *
  obtain⟨v,s3⟩:=C
  simp -zeta only at hK D64 S8 ⊢
  refine reader_must_ok D64 (by have:=S8.big;omega) fun h67 D67 M67=>⟨rfl,?_⟩
  have M67':=M64'.trans M67
  refine reader_join_ok D67 (N7.mut D.al M67').s (nd_nil h67 h67).s wf_nil (by omega) (by simp) fun a c h69 D69 N69 M69=>⟨_,_,_,rfl,?_⟩
  have jl:=joinP_le 5 x [] (s3.must wNull)
  refine⟨_,rd_neBs (b:=[]),fun q=>?_,fun q=>?_⟩
  ·have q:v≠[]:=by simpa using q
   rw [if_pos q] at hK
   exact reader_join_ok D69 N69.s (nd_nil h69 h69).s wf_nil (Nat.le_trans jl (by decide)) (by simp) fun a c h73 D73 N73 M73=>⟨_,_,_,rfl,hK a c h73 D73 (N73.base (((M07.trans M67').trans M69).up D69.al)) (((M07.trans M67').trans M69).trans M73)⟩
  ·have q:¬ v≠[]:=by simpa using q
   rw [if_neg q] at hK
   exact hK a c h69 D69 (N69.base ((M07.trans M67').up D67.al)) ((M07.trans M67').trans M69)
 ·rw [if_neg (of_decide_eq_false e1),if_neg (of_decide_eq_false e2),if_neg (of_decide_eq_false e3),if_neg (of_decide_eq_false e4),if_neg (of_decide_eq_false e5),if_neg (of_decide_eq_false e6),if_neg (of_decide_eq_false e7)] at hK
  exact hK _ _ h7 D7 N7 M07
def wordsN (h:Hp)(g:Nat):Nat:=match h.cell g 0 with|some (.slice _ n _)=>n|_=>0
theorem RdAt.wn {h0 h:Hp}{g:Nat}{s:RS}(D:RdAt h0 h g s):wordsN h g=s.ws.length:=by
 obtain⟨a,c,e⟩:=D.c0
 unfold wordsN
 rw [e]
theorem reader_row_ok {f:FuncId}{P:Ps}{n:Nat}(B:Bodied f)(F:Reads f P n)(kp:KP P n){ops:List (Wd × Int)}(ho:∀ q ∈ ops,Opr q.2)(hne:∀ q ∈ ops,q.1≠[])(hol:ops.length≤100){h0 h:Hp}{g:Nat}{s:RS}(D:RdAt h0 h g s)(E:EnvQ h0 h g)(S:SOk n s){y:Value}{wa:Option Addr}{wn wc:Nat}(W:ElAt encB h g wa wn (ops.map (·.1)))
  (hop:∀ h',Mut (At g) h (At g) h'→∀ w ∈ ops.map (·.1),Rd Tryz.prog (Instr.lookup 199 y (vs (bs w)) false) h' (vi (opOf ops w)))
  {R:Value→Hp→Prop} (hK:∀ a c h',RdAt h0 h' g (rowP P ops s).2→NdAt h h' a (rowP P ops s).1.length (rowP P ops s).1→Mut (At g) h (At g) h'→R (vsl a (rowP P ops s).1.length c) h'):CallOK Tryz.prog 131 [vhp g 0,.func (.func f) #[vhp g 0] #[],y,vsl wa wn wc] h R:=by
 refine ok_query_reader_row ?_
 unfold VC_query_reader_row
 have k:=kp s S.good (Nat.le_of_lt S.len)
 have Sx:=S.goes k.goes
 have kx:=k.wf
 have kl:=k.le
 have kp1:=k.pos
 unfold rowP at hK
 have hwn:wn=ops.length:=by have:=W.s.1;simpa using this
 refine inv_of B (F D E S fun a3 c3 h2 D2 N2 M2=>⟨_,_,_,rfl,?_⟩)
 generalize P s=X at *
 obtain⟨x0,s0⟩:=X
 simp -zeta only at hK D2 N2 Sx kx kl kp1 ⊢
 intro J26
 refine⟨fun vs' hh=>∃(k:Nat) (x:List Nd) (t:RS) (a:Option Addr) (c:Nat),vs'=[vsl a x.length c]∧RdAt h0 hh g t∧NdAt h hh a x.length x∧Mut (At g) h (At g) hh∧SOk n t∧1≤x.length∧x.length≤40∧WfL x∧t.ws.length < k∧rowL P ops k x t=rowL P ops (s0.ws.length+1) x0 s0,fun _ hh=>wordsN hh g,⟨_,x0,s0,a3,c3,rfl,D2,N2,M2,Sx,kp1,kl,kx,Nat.lt_succ_self _,rfl⟩,?_⟩
 rintro vs' hh ⟨k,x,t,a,c,rfl,Dt,Nt,Mt,St,hx1,hx,Wx,hk,hrow⟩
 obtain⟨k,rfl⟩:∃ j,k=j+1:=⟨k - 1,by omega⟩
 rw [rowL] at hrow
 refine⟨_,_,_,rfl,_,Dt.c2,fun e=>?_,fun e=>?_⟩
 ·have f0:¬ t.f≠0:=by rw [errV_none] at e;simpa using e
  rw [if_neg f0] at hrow
  have gi:=goes_is St.good (ops.map (·.1))
  have gm:=@is_mem t (ops.map (·.1))
  have tk:=@taken t (ops.map (·.1))
  have hDt:=Dt.wn
  refine reader_is_ok Dt (W.mut Mt).s (by omega) (by have:=St.big;omega) fun h14 D14 M14=>⟨_,rfl,?_⟩
  have M014:=Mt.trans M14
  simp only at hrow
  generalize t.is (ops.map (·.1))=A at *
  obtain⟨w,s1⟩:=A
  simp -zeta only at hrow D14 gi gm tk ⊢
  have S1:=St.goes gi
  refine⟨_,rd_eqBs (b:=[]),fun e=>?_,fun e=>?_⟩
  ·rw [if_pos (of_decide_eq_true e)] at hrow
   rw [←hrow] at hK
   exact hK _ _ h14 D14 (Nt.mut D.al M14) M014
  ·have ew:=of_decide_eq_false e
   rw [if_neg ew] at hrow
   have hop':=opOf_opr ho (gm ew)
   have kn:=kp s1 S1.good (Nat.le_of_lt S1.len)
   have tk:=tk ew
   refine⟨_,hop h14 M014 w (gm ew),inv_of B (F D14 (E.mut M014) S1 fun a22 c22 h21 D21 N21 M21=>⟨_,_,_,rfl,hop h21 (M014.trans M21) w (gm ew),?_⟩)⟩
   generalize opOf ops w=op at *
   have kj:Keeps (joinP op x (P s1).1 (P s1).2) t:=keeps_join hop' (gi.trans kn.goes) Wx kn.wf hx1 (fun _=>kn.pos)
   have kn1:=kn.wf
   have kn2:=kn.le
   have kn3:=kn.len
   have kj2:(joinP op x (P s1).1 (P s1).2).2.ws.length≤(P s1).2.ws.length:=by
    unfold joinP
    split
    ·exact Nat.zero_le _
    ·exact Nat.le_refl _
   generalize P s1=Y at *
   obtain⟨y1,s2⟩:=Y
   simp -zeta only at hrow D21 N21 kj kn1 kn2 kn3 kj2 ⊢
   refine reader_join_ok D21 ((Nt.mut D.al M14).mut D.al M21).s N21.s kn1 (by omega) (by omega) fun a25 c25 h24 D24 N24 M24=>⟨_,_,_,rfl,⟨k,_,_,a25,c25,rfl,D24,N24.base ((M014.trans M21).up D21.al),(M014.trans M21).trans M24,St.goes kj.goes,kj.pos,kj.le,kj.wf,by omega,hrow⟩,?_⟩
   have h24n:=D24.wn
   show wordsN h24 g < wordsN hh g
   omega
 ·have f0:t.f≠0:=by rw [errV_none] at e;simpa using e
  rw [if_pos f0] at hrow
  rw [←hrow] at hK
  exact hK _ _ hh Dt Nt Mt
theorem rd_mapS {h:Hp}{b:Nat}{es:Array MapEntry}{clock:Nat}(hb:h b=some (.map es clock)){w:Wd}{x:Int}{i:Nat}(hf:Instr.findNow .string (vs (bs w)) es.toList 0=some (some (i,vi x))):Rd Tryz.prog (Instr.lookup 199 (.map (some b)) (vs (bs w)) false) h (vi x):=
 rd_lookup (k:=9) (e:=3) (d:=.string) (by kernel_rfl) (by kernel_rfl) hb trivial hf
theorem sem_mapS {h:Hp}{b:Nat}{es:Array MapEntry}{clock:Nat}(hb:h b=some (.map es clock)){w:Wd}{x:Int}(hf:Instr.findNow .string (vs (bs w)) es.toList 0=some none){K:Hp→Prop}(hK:K (h.set b (.map (es.push { key:=vs (bs w),val:=vi x,born:=clock }) (clock+1)))):SemOKu Tryz.prog (Instr.mapUpdate 199 (.map (some b)) (vs (bs w)) (vi x)) h K:=
 sem_mapNew (k:=9) (e:=3) (d:=.string) (key:=vs (bs w)) (by kernel_rfl) (by kernel_rfl) hb trivial hf hK
theorem reader_one_ok {f:FuncId}{P:Ps}{n:Nat}(B:Bodied f)(F:Reads f P n)(kp:KP P n){w:Wd}{op:Int}(ho:Opr op)(hw:w≠[]){h0 h:Hp}{g:Nat}{s:RS}(D:RdAt h0 h g s)(E:EnvQ h0 h g)(S:SOk n s){R:Value→Hp→Prop}(hK:∀ a c h',RdAt h0 h' g (rowP P [(w,op)] s).2→NdAt h h' a (rowP P [(w,op)] s).1.length (rowP P [(w,op)] s).1→Mut (At g) h (At g) h'→R (vsl a (rowP P [(w,op)] s).1.length c) h') :
  SemOK Tryz.prog (Instr.makeMap 199 none) h fun v1 h2=>∃(y3:Value),v1=y3∧(SemOKu Tryz.prog (Instr.mapUpdate 199 y3 (vs (bs w)) (vi op)) h2 fun h4=>(∀(b5:Nat),h4 b5=none→let h6:Hp:=Hp.set h4 b5 (cellsO [(vs (bs w))] 9);(CallOK Tryz.prog 131 [(vhp g 0),(Value.func (.func f) #[(vhp g 0)] #[]),y3,(vsl (some (⟨b5,0,none⟩:Addr)) 1 1)] h6 fun v7 h8=>∃(a9:Option Addr) (n9 c9:Nat),v7=(vsl a9 n9 c9)∧R (vsl a9 n9 c9) h8))):=by
 refine sem_makeMap fun b hb=>⟨_,rfl,?_⟩
 refine sem_mapS (Hp.set_same _ _ _) rfl ?_
 intro b5 hb5 h6
 have hbg:b≠g:=fun e=>by rw [e] at hb;exact D.al hb
 have l1:h.le (h.set b (.map #[] 0)):=Hp.le_set (Hp.le_refl h) hb _
 rw [Hp.set_set] at hb5
 have l2:h.le h6:=by
  have:h6=(h.set b (.map (#[].push { key:=vs (bs w),val:=vi op,born:=0 }) (0+1))).set b5 (cellsO [vs (bs w)] 9):=by
   show ((h.set b _).set b _).set b5 _=_
   rw [Hp.set_set]
  rw [this]
  exact Hp.le_trans (Hp.le_set (Hp.le_refl h) hb _) (Hp.le_set (Hp.le_refl _) hb5 _)
 have hb6:h6 b=some (.map (#[].push { key:=vs (bs w),val:=vi op,born:=0 }) (0+1)):=by
  have hne:b≠b5:=fun e=>by rw [e,Hp.set_same] at hb5;cases hb5
  show (((h.set b _).set b _).set b5 _) b=_
  rw [Hp.set_other _ _ hne,Hp.set_same]
 have D6:=D.le l2
 have hb5g:b5≠g:=fun e=>by
  subst e
  have:(h.set b (.map (#[].push { key:=vs (bs w),val:=vi op,born:=0 }) (0+1))) b5≠none:=by rw [Hp.set_other _ _ hbg.symm];exact D.al
  exact this hb5
 refine reader_row_ok B F kp (ops:=[(w,op)]) (by simpa using ho) (by simpa using hw) (by simp) D6 (E.mut (Mut.of_le l2)) S ⟨slb_one _ b5 w,fun b' o e=>by cases e;exact hb5g⟩ (fun h' M w' hw'=>?_) fun a c h' D' N' M'=>⟨_,_,_,rfl,?_⟩
 ·have e:w'=w:=by simpa using hw'
  subst e
  have ho:opOf [(w',op)] w'=op:=by simp [opOf]
  rw [ho]
  have hm:h' b=_:=M.keep b _ (fun e=>hbg e) hb6
  refine rd_mapS hm (i:=0) ?_
  show Instr.findNow .string (vs (bs w')) [{ key:=vs (bs w'),val:=vi op,born:=0 }] 0=_
  simp [Instr.findNow,Instr.sameNow,(Go.MapKept.bytes_beq (bs w') (bs w')).2 rfl]
 ·exact hK a c h' D' (N'.base (le_up l2)) ((Mut.of_le l2).trans M')
theorem reader_product_ok {P:Ps}{n:Nat}(F:Reads 207 P n)(kp:KP P n):Reads 203 (rowP P [(wStar,8)]) n:=by
 intro h0 h g s D E S R hK
 refine ok_query_reader_product ?_
 unfold VC_query_reader_product
 exact reader_one_ok ⟨_,Tryz.func207,by kernel_rfl,by kernel_rfl⟩ F kp (by decide) (by decide) D E S hK
theorem reader_and_ok {P:Ps}{n:Nat}(F:Reads 166 P n)(kp:KP P n):Reads 132 (rowP P [(wAnd,9)]) n:=by
 intro h0 h g s D E S R hK
 refine ok_query_reader_and ?_
 unfold VC_query_reader_and
 exact reader_one_ok ⟨_,Tryz.func166,by kernel_rfl,by kernel_rfl⟩ F kp (by decide) (by decide) D E S hK
theorem reader_or_ok {P:Ps}{n:Nat}(F:Reads 132 P n)(kp:KP P n):Reads 84 (rowP P [(wOr,10)]) n:=by
 intro h0 h g s D E S R hK
 refine ok_query_reader_or ?_
 unfold VC_query_reader_or
 exact reader_one_ok ⟨_,Tryz.func132,by kernel_rfl,by kernel_rfl⟩ F kp (by decide) (by decide) D E S hK
theorem reader_sum_ok {P:Ps}{n:Nat}(F:Reads 203 P n)(kp:KP P n):Reads 197 (rowP P [(wPlus,6),(wMinus,7)]) n:=by
 intro h0 h g s D E S R hK
 refine ok_query_reader_sum ?_
 unfold VC_query_reader_sum
 refine sem_makeMap fun b hb=>⟨_,rfl,?_⟩
 refine sem_mapS (w:=wPlus) (Hp.set_same _ _ _) rfl ?_
 refine sem_mapS (w:=wMinus) (Hp.set_same _ _ _) rfl ?_
 rw [Hp.set_set,Hp.set_set]
 generalize hM:Obj.map _ _=ob
 intro b5 hb5 h6
 have hbg:b≠g:=fun e=>by rw [e] at hb;exact D.al hb
 have l2:h.le h6:=Hp.le_trans (Hp.le_set (Hp.le_refl h) hb _) (Hp.le_set (Hp.le_refl _) hb5 _)
 have hb6:h6 b=some ob:=by
  have hne:b≠b5:=fun e=>by rw [e,Hp.set_same] at hb5;cases hb5
  show ((h.set b _).set b5 _) b=_
  rw [Hp.set_other _ _ hne,Hp.set_same]
 have D6:=D.le l2
 have hb5g:b5≠g:=fun e=>by
  subst e
  have:(h.set b ob) b5≠none:=by rw [Hp.set_other _ _ hbg.symm];exact D.al
  exact this hb5
 refine reader_row_ok ⟨_,Tryz.func203,by kernel_rfl,by kernel_rfl⟩ F kp (ops:=[(wPlus,6),(wMinus,7)]) (by decide) (by decide) (by simp) D6 (E.mut (Mut.of_le l2)) S ⟨slb_lit _ b5 [wPlus,wMinus] (by decide),fun b' o e=>by cases e;exact hb5g⟩ (fun h' M w' hw'=>?_) fun a c h' D' N' M'=>⟨_,_,_,rfl,?_⟩
 ·have hm:h' b=some ob:=M.keep b _ (fun e=>hbg e) hb6
  rw [←hM] at hm
  have e:w'=wPlus∨w'=wMinus:=by simpa using hw'
  rcases e with rfl|rfl
  ·exact rd_mapS hm (i:=0) rfl
  ·exact rd_mapS hm (i:=1) rfl
 ·exact hK a c h' D' (N'.base (le_up l2)) ((Mut.of_le l2).trans M')
theorem reads_step {t:Three}{n:Nat}(h:KP t.o n∧KP t.n n∧KP t.u n)(H:Reads 84 t.o n∧Reads 166 t.n n∧Reads 207 t.u n):Reads 84 (orS t) (n+1)∧Reads 166 (notS t) (n+1)∧Reads 207 (unS t) (n+1):=by
 obtain⟨k1,k2,k3,k4,k5,k6,k7⟩:=keeps_S h
 have h1:Reads 207 (unS t) (n+1):=reader_unary_ok H.2.2 h.2.2 (reader_atom_ok H.1 h.1)
 have h2:Reads 203 (prodS t) (n+1):=reader_product_ok h1 k3
 have h3:Reads 197 (sumS t) (n+1):=reader_sum_ok h2 k4
 have h4:Reads 186 (cmpS t) (n+1):=reader_compare_ok h3 k5
 have h5:Reads 166 (notS t) (n+1):=reader_not_ok H.2.1 h.2.1 h4
 have h6:Reads 132 (andS t) (n+1):=reader_and_ok h5 k2
 exact⟨reader_or_ok h6 k7,h5,h1⟩
theorem reads_none (f:FuncId)(P:Ps):Reads f P 0:=by
 intro h0 h g s D E S R hK
 exact absurd S.len (Nat.not_lt_zero _)
theorem reads_all (n:Nat):Reads 84 (allP n).o n∧Reads 166 (allP n).n n∧Reads 207 (allP n).u n:=by
 induction n with
 | zero=>exact⟨reads_none _ _,reads_none _ _,reads_none _ _⟩
 | succ n ih=>rw [allP_succ];exact reads_step (keeps_all n) ih
theorem is_one {s:RS}{w:Wd}(hw:w≠[])(h:(s.is [w]).1=[]):(s.is [w]).2=s:=by
 rcases s.is_spec [w] with ⟨_,q⟩|⟨w',r,_,hm,q,_⟩
 ·exact q
 ·rw [h] at q
  rw [←q] at hm
  exact absurd (List.mem_singleton.1 hm).symm hw
theorem reader_optional_ok {n:Nat}{h0 h:Hp}{g:Nat}{s:RS}(D:RdAt h0 h g s)(E:EnvQ h0 h g)(S:SOk n s){w:Wd}(hw:w≠[]){d:Int}{R:Value→Hp→Prop}(hK:∀ h',RdAt h0 h' g (optN w d s).2→Mut (At g) h (At g) h'→R (vi (optN w d s).1) h'):CallOK Tryz.prog 86 [vhp g 0,vs (bs w),vi d] h R:=by
 refine ok_query_reader_optional ?_
 unfold VC_query_reader_optional
 intro b1 hb1 h2
 have hl:h.le h2:=Hp.le_set (Hp.le_refl h) hb1 _
 have hb:=S.big
 have io:=@is_one s w hw
 have gi:=goes_is S.good [w]
 unfold optN at hK
 refine reader_is_ok (D.le hl) (slb_one h b1 w) (by decide) (by omega) fun h4 D4 M4=>⟨_,rfl,?_⟩
 have M04:Mut (At g) h (At g) h4:=(Mut.of_le hl).trans M4
 refine⟨_,rd_eqBs (b:=[]),fun e=>?_,fun e=>?_⟩
 ·have e:=of_decide_eq_true e
  rw [if_pos e] at hK
  rw [io e] at D4
  exact hK h4 D4 M04
 ·have e:=of_decide_eq_false e
  rw [if_neg e] at hK
  exact reader_number_ok D4 (E.mut M04) (by have:=gi.len;omega) (by decide) (by decide) fun h9 D9 M9=>⟨_,rfl,hK h9 D9 (M04.trans M9)⟩
theorem idx_aggs {w:Wd}(h:w ∈ [[],wCount,wSum,wMin,wMax]):w ∈ aggsW∧(aggsW.idxOf w:Int)=aggKind w:=by
 have h2:w=[]∨w=wCount∨w=wSum∨w=wMin∨w=wMax:=by simpa using h
 rcases h2 with rfl|rfl|rfl|rfl|rfl<;>exact⟨by decide,by decide⟩
theorem reader_agg_ok {P:Ps}{n:Nat}(F:Reads 84 P n)(kp:KP P n){h0 h:Hp}{g:Nat}{s:RS}(D:RdAt h0 h g s)(E:EnvQ h0 h g)(S:SOk n s){R:Value→Hp→Prop}(hK:∀ a c h',RdAt h0 h' g (aggP P s).2→NdAt h h' a (aggP P s).1.2.length (aggP P s).1.2→Mut (At g) h (At g) h'→R (vag [vi (aggP P s).1.1,vsl a (aggP P s).1.2.length c]) h'):CallOK Tryz.prog 82 [vhp g 0] h R:=by
 refine ok_query_reader_agg ?_
 unfold VC_query_reader_agg
 intro b1 hb1 h2
 have hl:h.le h2:=Hp.le_set (Hp.le_refl h) hb1 _
 have hb:=S.big
 have gi:=goes_is S.good [wCount,wSum,wMin,wMax]
 have gm:=@is_mem s [wCount,wSum,wMin,wMax]
 unfold aggP at hK
 simp only at hK
 refine reader_is_ok (D.le hl) (slb_lit h b1 [wCount,wSum,wMin,wMax] (by decide)) (by decide) (by omega) fun h4 D4 M4=>⟨_,rfl,?_⟩
 have M04:Mut (At g) h (At g) h4:=(Mut.of_le hl).trans M4
 generalize s.is [wCount,wSum,wMin,wMax]=B at *
 obtain⟨w,s1⟩:=B
 simp -zeta only at hK D4 gi gm ⊢
 have S1:=S.goes gi
 have hwm:w ∈ [[],wCount,wSum,wMin,wMax]:=by
  by_cases e:w=[]
  ·rw [e];simp
  ·exact List.mem_cons_of_mem _ (gm e)
 obtain⟨hwa,hwi⟩:=idx_aggs hwm
 refine⟨_,rd_eqBs (b:=[]),?_⟩
 intro J11
 have hJ:∀(h12:Hp) (t:RS),t=(if w=[] then s1.fail 4 else s1)→RdAt h0 h12 g t→Mut (At g) h (At g) h12→Goes t s→J11 h12:=by
  intro h12 t ht D12 M12 Gt
  rw [←ht] at hK
  clear ht
  have St:=S.goes Gt
  refine reader_must_ok D12 (by have:=St.big;omega) fun h14 D14 M14=>⟨rfl,?_⟩
  have M014:=M12.trans M14
  have E14:=E.mut M014
  have G2:=Gt.trans (goes_must Gt.ok wOpen)
  obtain⟨qa,qc,hq,hqs⟩:=E14.now.a
  refine⟨_,_,_,hq,slices_Index_ok hqs (by decide) ⟨_,rfl,?_⟩⟩
  rw [if_pos hwa,hwi]
  have D14:RdAt h0 h14 g (t.must wOpen):=D14
  generalize t.must wOpen=s2 at *
  have S2:=S.goes G2
  intro J56
  have fin:∀(k:Int) (a:Option Addr) (c:Nat) (h66:Hp) (l:List Nd) (u:RS),RdAt h0 h66 g u→NdAt h h66 a l.length l→Mut (At g) h (At g) h66→SOk n u→(∀ a c h',RdAt h0 h' g (u.must wClose)→NdAt h h' a l.length l→Mut (At g) h (At g) h'→R (vag [vi k,vsl a l.length c]) h')→J56 k a l.length c h66:=by
   intro k a c h66 l u D66 N66 M66 Su hR
   exact reader_must_ok D66 (by have:=Su.big;omega) fun h68 D68 M68=>⟨rfl,hR a c h68 D68 (N66.mut D.al M68) (M66.trans M68)⟩
  clear_value J56
  have orK:∀{h26:Hp} (k:Int),RdAt h0 h26 g s2→Mut (At g) h (At g) h26→(∀ a c h',RdAt h0 h' g ((P s2).2.must wClose)→NdAt h h' a (P s2).1.length (P s2).1→Mut (At g) h (At g) h'→R (vag [vi k,vsl a (P s2).1.length c]) h')→CallOK Tryz.prog 84 [vhp g 0] h26 fun v31 h32=>∃(a33:Option Addr) (n33 c33:Nat),v31=vsl a33 n33 c33∧J56 k a33 n33 c33 h32:=by
   intro h26 k D26 M26 hR
   have k2:=kp s2 S2.good (Nat.le_of_lt S2.len)
   exact F D26 (E.mut M26) S2 fun a c h' D' N' M'=>⟨_,_,_,rfl,fin k a c h' _ _ D' (N'.base (M26.up D26.al)) (M26.trans M') (S2.goes k2.goes) hR⟩
  refine⟨_,rd_eqBs (b:=wCount),fun e=>?_,fun e=>?_⟩
  ·have ew:w=wCount:=of_decide_eq_true e
   have hk1:aggKind w=1:=by rw [ew];rfl
   intro b20 hb20 h21
   have l21:h14.le h21:=Hp.le_set (Hp.le_refl h14) hb20 _
   have M21:=M014.trans (Mut.of_le l21)
   have gi2:=goes_is S2.good [wStar]
   have io:=@is_one s2 wStar (by decide)
   refine⟨fun x hh=>x=.t (.one (.v (vs (bs (s2.is [wStar]).1))))∧RdAt h0 hh g (s2.is [wStar]).2∧Mut (At g) h (At g) hh,fun _=>reader_is_ok (D14.le l21) (slb_one h14 b20 wStar) (by decide) (by have:=S2.big;omega) fun h24 D24 M24=>⟨_,rfl,rfl,D24,M21.trans M24⟩,fun q=>absurd e q,?_⟩
   rintro h26 s27 ⟨e27,D26,M26⟩
   cases e27
   generalize s2.is [wStar]=C at *
   obtain⟨v,s3⟩:=C
   simp only at hK D26 gi2 io ⊢
   refine⟨_,fun _=>rd_neBs (b:=[]),fun q=>?_,fun q=>?_⟩
   ·have q2:v≠[]:=by simpa [ew] using q
    rw [if_pos ⟨ew,q2⟩] at hK
    rw [hk1]
    exact fin 1 none 0 h26 [] s3 D26 (nd_nil _ _) M26 (S2.goes gi2) hK
   ·have q2:v=[]:=by simpa [ew] using q
    rw [if_neg (by rintro⟨_,h⟩;exact h q2),if_pos ew] at hK
    rw [io q2] at D26
    refine⟨_,rd_eqBs (b:=wCount),fun q3=>orK 2 D26 M26 hK,fun q3=>absurd ew (of_decide_eq_false q3)⟩
  ·have e0:¬ w=wCount:=fun h=>e (decide_eq_true h)
   rw [if_neg (by rintro⟨h,_⟩;exact e0 h),if_neg e0] at hK
   refine⟨fun x hh=>x=.t (.one (.v (vs ⟨#[]⟩)))∧hh=h14,fun q=>absurd q e,fun _=>⟨rfl,rfl⟩,?_⟩
   rintro h43 s44 ⟨e43,rfl⟩
   cases e43
   refine⟨false,fun q=>absurd q e,fun q=>by simp at q,fun _=>?_⟩
   refine⟨_,rd_eqBs (b:=wCount),fun q3=>absurd (of_decide_eq_true q3) e0,fun q3=>orK (aggKind w) D14 M014 hK⟩
 clear_value J11
 refine⟨fun e=>?_,fun e=>?_⟩
 ·have e:=of_decide_eq_true e
  exact reader_fail_ok D4 (by decide) fun h8 D8 M8=>⟨rfl,hJ h8 _ (by rw [if_pos e]) D8 (M04.trans M8) (gi.trans (goes_fail _ _))⟩
 ·have e:=of_decide_eq_false e
  exact hJ h4 _ (by rw [if_neg e]) D4 M04 gi
theorem elAgg:ElT Tryz.prog 25 86 2 32:=.of (by kernel_rfl) (by kernel_rfl) (by decide)
abbrev AggB (G:Nat→Prop):=GTabB encN aggRw 2 86 G
theorem RdAt.keep {h0 h h':Hp}{g:Nat}{s:RS}(D:RdAt h0 h g s)(hb:h' g=h g)(l:h0.le h'):RdAt h0 h' g s:=by
 obtain⟨a,c,hb',hS,hc⟩:=D.b
 exact⟨⟨a,c,hb.trans hb',hS,hc⟩,l,D.n,D.w⟩
theorem agg_app {h0 hB h1:Hp}{g:Nat}{a:Option Addr}{c:Nat}{L:List Ag}{s:RS}(B:AggB (At g) h0 h1 a c L)(D:RdAt h0 h1 g s)(hBg:hB g≠none)(hBa:∀ b,a=some ⟨b,0,none⟩→hB b≠none){k:Int}{a2:Option Addr}{c2:Nat}{l:List Nd}(N:NdAt hB h1 a2 l.length l)(hL:L.length≤1000)
  {b:Nat} (hb:h1 b=none) {K:Value→Hp→Prop} (hK:∀ a' c' h',AggB (At g) h0 h' a' c' (L++[(k,l)])→RdAt h0 h' g s→K (vsl a' (L.length+1) c') h') :
  SemOK Tryz.prog (Builtin.append_ #[25,25] 25 #[vsl a L.length c,vsl (some ⟨b,0,none⟩) 1 1]) (h1.set b (cellsO [vi k,vsl a2 l.length c2] 86)) K:=by
 refine B.app (x:=k) (c2:=c2) elAgg (Hp.le_refl h1) (fun b' e=>by rw [show b'=g from e];exact hBg) hBa N.s.2 N.nw ?_ rfl (fun b' e=>by rw [show b'=g from e];exact D.al) (by omega) (by omega) hb fun a' c' h' B' hk=>hK a' c' h' B' ?_
 ·intro u hu
  have:u=vi k∨u=vsl a2 l.length c2:=by simpa [aggRw] using hu
  rcases this with rfl|rfl<;>rfl
 ·obtain⟨o,ho⟩:∃ o,h1 g=some o:=by
   cases e:h1 g with
   | none=>exact absurd e D.al
   | some o=>exact⟨o,rfl⟩
  exact D.keep ((hk g o ho (B.ne rfl)).trans ho.symm) B'.le0
theorem noQ_at (h:Hp):QAt h noQ none 0 none 0 none 0:=⟨⟨[],rfl,rfl,.inl rfl,fun r hr=>by cases hr⟩,⟨rfl,.inl rfl⟩,⟨rfl,.inl rfl⟩⟩
set_option maxHeartbeats 1000000 in
theorem query_Parse_ok {l:List UInt8}{h:Hp}(T:TabQ h){R:Value→Hp→Prop}(hK:∀ a1 n1 c1 a2 n2 c2 a3 n3 c3 h',h.le h'→QAt h' (parseQ l).1 a1 n1 a2 n2 a3 n3→R (vtup [qV a1 n1 c1 a2 n2 c2 a3 n3 c3 (parseQ l).1,ifv (errV (parseQ l).2)]) h'):CallOK Tryz.prog 40 [vs (bs l)] h R:=by
 refine ok_query_Parse ?_
 unfold VC_query_Parse
 refine lexer_Words_ok fun wa wn wc h2 O=>⟨_,_,_,_,rfl,?_⟩
 have lw:=wordsL_words l
 have l02:=O.le
 unfold parseQ at hK
 generalize wordsL l=WW at *
 obtain⟨W,fw⟩:=WW
 simp only at hK lw O
 show (Option.isSome (errV fw)=true→R (vtup [qV none 0 0 none 0 0 none 0 0 noQ,ifv (errV fw)]) h2)∧(Option.isSome (errV fw)=false→_)
 rw [errV_some]
 refine⟨fun e=>?_,fun e=>?_⟩
 ·have e2:fw≠0:=by simpa using e
  rw [if_pos e2] at hK
  exact hK none 0 0 none 0 0 none 0 0 h2 l02 (noQ_at h2)
 have e2:¬ fw≠0:=by simpa using e
 rw [if_neg e2] at hK
 clear e e2
 have hS:=O.slp encB_len (by decide)
 obtain rfl:=hS.1
 intro b6 hb6 h7
 have l7:h2.le h7:=Hp.le_set (Hp.le_refl h2) hb6 _
 have D7:RdAt h2 h7 b6 ⟨W,0,0⟩:=⟨⟨wa,wc,Hp.set_same _ _ _,hS,O.own.cap⟩,l7,hb6,fun x hx=>Nat.le_trans (lw.2 x hx) (by decide)⟩
 have E7:EnvQ h2 h7 b6:=⟨T.le l02,l7,hb6⟩
 have F:Reads 84 (allP (W.length+1)).o (W.length+1):=(reads_all (W.length+1)).1
 have kp:=(keeps_all (W.length+1)).1
 have g0:(⟨W,0,0⟩:RS).good:=fun h=>absurd rfl h
 have S7:SOk (W.length+1) ⟨W,0,0⟩:=⟨g0,Nat.lt_succ_self _,by show W.length≤1000;omega,Int.le_refl _,by show (0:Int)+(W.length:Int)≤1000000;omega⟩
 have hAll:=allA_ok W
 unfold parseW at hK
 rw [readQ_eq] at hK
 unfold allA firstA at hK hAll
 generalize (allP (W.length+1)).o=o at *
 have G1:=goes_must g0 wSelect
 refine reader_must_ok D7 (by show W.length≤1000000;omega) fun h9 D9 M9=>⟨rfl,?_⟩
 have D9:RdAt h2 h9 b6 ((⟨W,0,0⟩:RS).must wSelect):=D9
 generalize (⟨W,0,0⟩:RS).must wSelect=s1 at *
 have S9:=S7.goes G1
 have G2:=goes_agg kp S9.good (Nat.le_of_lt S9.len)
 have hs1:s1.ws.length≤80:=Nat.le_trans G1.len lw.1
 refine reader_agg_ok F kp D9 (E7.mut M9) S9 fun a13 c13 h11 D11 N11 M11=>⟨_,_,_,_,rfl,?_⟩
 generalize aggP o s1=A at *
 obtain⟨⟨k1,l1⟩,s2⟩:=A
 simp -zeta only at hK D11 N11 G2 hAll ⊢
 have S11:=S9.goes G2.1
 have l11:h2.le h11:=D11.l
 intro b14 hb14 h15
 refine agg_app (L:=[]) (a:=none) (c:=0) (hB:=h9) (k:=k1) (GTabB.nil l11) D11 D9.al (fun b e=>by cases e) N11 (by decide) hb14 fun a18 c18 h17 B17 D17=>⟨_,_,_,rfl,?_⟩
 intro J48
 -- the rest, behind what is gathered
 have hRest:∀(L:List Ag) (t:RS) (a:Option Addr) (c:Nat) (hE:Hp),AggB (At b6) h2 hE a c L→RdAt h2 hE b6 t→SOk (W.length+1) t→aggsP o (s2.ws.length+1) [(k1,l1)] s2=(L,t)→L.length≤1000→J48 a L.length c none 0 0 none 0 0 hE:=by
  intro L t a c hE BE DE SE hL hLn
  rw [hL] at hK hAll
  simp only at hK hAll
  have EE:EnvQ h2 hE b6:=⟨E7.t,DE.l,hb6⟩
  have hgE:=DE.al
  have hG2:∀ b,At b6 b→h2 b=none:=fun b e=>by rw [show b=b6 from e];exact hb6
  have G3:=goes_must SE.good wFrom
  refine reader_must_ok DE (by have:=SE.big;omega) fun h261 D261 M261=>⟨rfl,?_⟩
  have D261:RdAt h2 h261 b6 (t.must wFrom):=D261
  have S261:=SE.goes G3
  have G4:=G3.trans (goes_must G3.ok wEvents)
  refine reader_must_ok D261 (by have:=S261.big;omega) fun h263 D263 M263=>⟨rfl,?_⟩
  have D263:RdAt h2 h263 b6 ((t.must wFrom).must wEvents):=D263
  have ME:=M261.trans M263
  have S263:=SE.goes G4
  unfold restQ at hK
  generalize (t.must wFrom).must wEvents=t2 at *
  clear G3 D261 S261
  intro b264 hb264 h265
  have l265:h263.le h265:=Hp.le_set (Hp.le_refl h263) hb264 _
  have gi:=goes_is S263.good [wWhere]
  have io:=@is_one t2 wWhere (by decide)
  refine reader_is_ok (D263.le l265) (slb_one h263 b264 wWhere) (by decide) (by have:=S263.big;omega) fun h267 D267 M267=>⟨_,rfl,_,rd_neBs (b:=[]),?_⟩
  have D267:RdAt h2 h267 b6 (t2.is [wWhere]).2:=D267
  have M267':=(ME.trans (Mut.of_le l265)).trans M267
  intro J275
  have h275:∀(wh:List Nd) (aw:Option Addr) (cw:Nat) (u:RS) (h315:Hp),optP wWhere o t2=(wh,u)→RdAt h2 h315 b6 u→SOk (W.length+1) u→NdAt hE h315 aw wh.length wh→NdsOK wh→Mut (At b6) hE (At b6) h315→J275 aw wh.length cw h315:=by
   intro wh aw cw u h315 hw D315 S315 N315 Kw M315
   rw [hw] at hK
   simp only at hK
   unfold byQ at hK
   intro b316 hb316 h317
   have l317:h315.le h317:=Hp.le_set (Hp.le_refl h315) hb316 _
   have gi:=goes_is S315.good [wGroup]
   have io:=@is_one u wGroup (by decide)
   refine reader_is_ok (D315.le l317) (slb_one h315 b316 wGroup) (by decide) (by have:=S315.big;omega) fun h319 D319 M319=>⟨_,rfl,_,rd_neBs (b:=[]),?_⟩
   have D319:RdAt h2 h319 b6 (u.is [wGroup]).2:=D319
   have M319':=(M315.trans (Mut.of_le l317)).trans M319
   intro J329
   have h329:∀(by_:List Nd) (ab:Option Addr) (cb:Nat) (v:RS) (h354:Hp),optP wGroup (fun s=>o (s.must wBy)) u=(by_,v)→RdAt h2 h354 b6 v→SOk (W.length+1) v→NdAt hE h354 aw wh.length wh→NdAt hE h354 ab by_.length by_→NdsOK by_→Mut (At b6) hE (At b6) h354→J329 ab by_.length cb h354:=by
    intro by_ ab cb v h354 hv D354 S354 Nw N354 Kb M354
    rw [hv] at hK
    simp only at hK
    unfold endQ at hK
    simp only at hK
    have Ga:=goes_must S354.good wWindow
    refine reader_must_ok D354 (by have:=S354.big;omega) fun h356 D356 M356=>⟨rfl,?_⟩
    have D356:RdAt h2 h356 b6 (v.must wWindow):=D356
    have Sa:=S354.goes Ga
    generalize v.must wWindow=v1 at *
    have Gb:=goes_number Sa.good 1000
    refine reader_number_ok D356 (EE.mut (M354.trans M356)) (by have:=Sa.big;omega) (by decide) (by decide) fun h358 D358 M358=>⟨_,rfl,?_⟩
    have Sb:=Sa.goes Gb
    generalize v1.number 1000=Z at *
    obtain⟨z,v2⟩:=Z
    simp -zeta only at hK D358 Sb ⊢
    have Gc:=goes_optN Sb.good wSlide z
    refine reader_optional_ok (w:=wSlide) D358 (EE.mut ((M354.trans M356).trans M358)) Sb (by decide) fun h361 D361 M361=>⟨_,rfl,?_⟩
    have Sc:=Sb.goes Gc
    generalize optN wSlide z v2=Z at *
    obtain⟨sl,v3⟩:=Z
    simp -zeta only at hK D361 Sc ⊢
    have Gd:=goes_optN Sc.good wDelay 0
    refine reader_optional_ok (w:=wDelay) D361 (EE.mut (((M354.trans M356).trans M358).trans M361)) Sc (by decide) fun h364 D364 M364=>⟨_,rfl,?_⟩
    have Sd:=Sc.goes Gd
    generalize optN wDelay 0 v3=Z at *
    obtain⟨d,v4⟩:=Z
    simp -zeta only at hK D364 Sd ⊢
    have Ge:=goes_optN Sd.good wLate 0
    refine reader_optional_ok (w:=wLate) D364 (EE.mut ((((M354.trans M356).trans M358).trans M361).trans M364)) Sd (by decide) fun h367 D367 M367=>⟨_,rfl,?_⟩
    have Se:=Sd.goes Ge
    generalize optN wLate 0 v4=Z at *
    obtain⟨lt,v5⟩:=Z
    simp -zeta only at hK D367 Se ⊢
    have M367':=((((M354.trans M356).trans M358).trans M361).trans M364).trans M367
    have M36:=((((M356).trans M358).trans M361).trans M364).trans M367
    obtain⟨qa,qc,hq⟩:=D367.c0
    refine⟨_,D367.c2,_,_,_,fun _=>hq,?_⟩
    intro J374
    have h374:∀(h375:Hp) (y:RS),y.f=(if v5.f=0∧v5.ws≠[] then v5.fail 4 else v5).f→RdAt h2 h375 b6 y→Mut (At b6) h367 (At b6) h375→J374 h375:=by
     intro h375 y hy D375 M375
     rw [←hy] at hK
     have M375':=M367'.trans M375
     have BE2:AggB (At b6) h2 h375 a c L:=BE.keep hG2 M375'.keep
     have Nw2:=Nw.mut hgE (M36.trans M375)
     have N2:=N354.mut hgE (M36.trans M375)
     have QE:QAt h375 ⟨L,wh,by_,z,sl,d,lt⟩ a L.length aw wh.length ab by_.length:=⟨BE2.tab,Nw2.s,N2.s⟩
     refine⟨_,D375.c2,?_⟩
     intro J383
     have h383:∀(h384:Hp) (f:Int),h384.cell b6 (0+2)=some (ifv (errV f))→h.le h384→(f≠0→∀ h',h.le h'→R (vtup [qV none 0 0 none 0 0 none 0 0 noQ,ifv (errV f)]) h')→(f=0→R (vtup [qV a L.length c aw wh.length cw ab by_.length cb ⟨L,wh,by_,z,sl,d,lt⟩,ifv none]) h384)→J383 h384:=by
      intro h384 f hc lh hb hg
      refine⟨_,hc,fun e=>⟨_,hc,hc,?_⟩,fun e=>?_⟩
      ·rw [errV_some] at e
       exact hb (by simpa using e) h384 lh
      ·rw [errV_some] at e
       exact hg (by simpa using e)
     clear_value J383
     refine⟨fun e=>?_,fun e=>?_⟩
     ·rw [errV_none] at e
      have e:y.f=0:=of_decide_eq_true e
      rw [e,if_neg (fun h=>h rfl)] at hK
      have hbig:QBig ⟨L,wh,by_,z,sl,d,lt⟩:=⟨Nat.le_trans Kw.1 (by decide),Nat.le_trans Kb.1 (by decide),fun x hx=>Nat.le_trans (hAll x hx).1 (by decide),by show L.length≤1000000;omega⟩
      refine query_Check_ok (q:=⟨L,wh,by_,z,sl,d,lt⟩) (c1:=c) (c2:=cw) (c3:=cb) QE hbig fun h378 l378=>⟨errV (qryF ⟨L,wh,by_,z,sl,d,lt⟩),rfl,?_⟩
      refine(D375.le l378).put2 fun h380 D380 M380=>?_
      have lh:h.le h380:=Hp.le_trans l02 D380.l
      refine h383 h380 _ D380.c2 lh (fun hf h' l'=>?_) fun hf=>?_
      ·rw [if_pos hf] at hK
       exact hK none 0 0 none 0 0 none 0 0 h' l' (noQ_at h')
      ·rw [if_neg (fun h=>h hf)] at hK
       have M2:=(Mut.of_le l378).trans M380
       exact hK _ _ c _ _ cw _ _ cb h380 lh ⟨(BE2.keep hG2 M2.keep).tab,(Nw2.mut hgE M2).s,(N2.mut hgE M2).s⟩
     ·rw [errV_none] at e
      have e:y.f≠0:=of_decide_eq_false e
      rw [if_pos e] at hK
      refine h383 h375 y.f D375.c2 (Hp.le_trans l02 D375.l) (fun hf h' l'=>?_) fun hf=>absurd hf e
      exact hK none 0 0 none 0 0 none 0 0 h' l' (noQ_at h')
    clear_value J374
    have hcond:(bif Option.isNone (errV v5.f) then decide (((v5.ws.length:Nat):Int) > 0) else false)=decide (v5.f=0∧v5.ws≠[]):=by
     rw [errV_none,cand]
     refine decide_eq_decide.2 ?_
     rw [ne_eq,nil_len]
     constructor
     ·rintro⟨h1,h2⟩;exact⟨h1,by omega⟩
     ·rintro⟨h1,h2⟩;exact⟨h1,by omega⟩
    rw [hcond]
    refine⟨fun e=>?_,fun e=>?_⟩
    ·have e:=of_decide_eq_true e
     refine(D367.put2 (f:=4) fun h371 D371 M371=>h374 h371 _ ?_ D371 M371)
     rw [if_pos e]
     unfold RS.fail
     rw [if_pos e.1]
    ·have e:=of_decide_eq_false e
     exact h374 h367 v5 (by rw [if_neg e]) D367 (Mut.of_le (Hp.le_refl _))
   clear_value J329
   have Nw:=(N315.mut hgE ((Mut.of_le l317).trans M319))
   refine⟨fun e=>?_,fun e=>?_⟩
   ·have e:(u.is [wGroup]).1≠[]:=by simpa using e
    have hop:optP wGroup (fun s=>o (s.must wBy)) u=o ((u.is [wGroup]).2.must wBy):=by unfold optP;rw [if_neg e]
    rw [hop] at h329
    have Su:=S315.goes gi
    have Gy:=goes_must Su.good wBy
    refine reader_must_ok D319 (by have:=Su.big;omega) fun h323 D323 M323=>⟨rfl,?_⟩
    have D323:RdAt h2 h323 b6 ((u.is [wGroup]).2.must wBy):=D323
    have S323:=Su.goes Gy
    have k2:=kp _ S323.good (Nat.le_of_lt S323.len)
    have M323':=M319'.trans M323
    refine F D323 (EE.mut M323') S323 fun a c h325 D325 N325 M325=>⟨_,_,_,rfl,?_⟩
    exact h329 _ _ _ _ h325 rfl D325 (S323.goes k2.goes) ((Nw.mut hgE M323).mut hgE M325) (N325.base (M323'.up D323.al)) k2.nds (M323'.trans M325)
   ·have e:(u.is [wGroup]).1=[]:=by simpa using e
    have hop:optP wGroup (fun s=>o (s.must wBy)) u=([],u):=by unfold optP;rw [if_pos e]
    rw [io e] at D319
    exact h329 [] none 0 u h319 hop D319 S315 Nw (nd_nil _ _) nds_nil M319'
  clear_value J275
  refine⟨fun e=>?_,fun e=>?_⟩
  ·have e:(t2.is [wWhere]).1≠[]:=by simpa using e
   have hop:optP wWhere o t2=o (t2.is [wWhere]).2:=by unfold optP;rw [if_neg e]
   rw [hop] at h275
   have Su:=S263.goes gi
   have k2:=kp _ Su.good (Nat.le_of_lt Su.len)
   refine F D267 (EE.mut M267') Su fun a c h271 D271 N271 M271=>⟨_,_,_,rfl,?_⟩
   exact h275 _ _ _ _ h271 rfl D271 (Su.goes k2.goes) (N271.base (M267'.up D267.al)) k2.nds (M267'.trans M271)
  ·have e:(t2.is [wWhere]).1=[]:=by simpa using e
   have hop:optP wWhere o t2=([],t2):=by unfold optP;rw [if_pos e]
   rw [io e] at D267
   exact h275 [] none 0 t2 h267 hop D267 S263 (nd_nil _ _) nds_nil M267'
 clear_value J48
 -- what is gathered, one behind the other
 refine⟨fun vs' hh=>∃(k:Nat) (L:List Ag) (t:RS) (a:Option Addr) (c:Nat),vs'=[vsl a L.length c,vsl none 0 0,vsl none 0 0,vi 0,vi 0,vi 0,vi 0]∧AggB (At b6) h2 hh a c L∧RdAt h2 hh b6 t∧SOk (W.length+1) t∧t.ws.length < k∧aggsP o (s2.ws.length+1) [(k1,l1)] s2=aggsP o k L t∧L.length+t.ws.length≤100,fun _ hh=>wordsN hh b6,⟨_,[(k1,l1)],s2,a18,c18,rfl,B17,D17,S11,Nat.lt_succ_self _,rfl,?_⟩,?_⟩
 ·have:=G2.1.len
  show 1+s2.ws.length≤100
  omega
 rintro vs' hh ⟨k,L,t,a,c,rfl,B,D,S,hk,hrow,hL⟩
 obtain⟨k,rfl⟩:∃ j,k=j+1:=⟨k - 1,by omega⟩
 have hst:aggsP o (k+1) L t=if (t.is [wComma]).1=[] then(L,t) else aggsP o k (L++[(aggP o (t.is [wComma]).2).1]) (aggP o (t.is [wComma]).2).2:=rfl
 rw [hst] at hrow
 clear hst
 refine⟨_,_,_,_,_,_,_,_,_,_,_,_,_,rfl,?_⟩
 intro b31 hb31 h32
 have l32:hh.le h32:=Hp.le_set (Hp.le_refl hh) hb31 _
 have gi:=goes_is S.good [wComma]
 have io:=@is_one t wComma (by decide)
 have tk:=@taken t [wComma]
 have hG2:∀ b,At b6 b→h2 b=none:=fun b e=>by rw [show b=b6 from e];exact hb6
 have hwn:=D.wn
 refine reader_is_ok (D.le l32) (slb_one hh b31 wComma) (by decide) (by have:=S.big;omega) fun h34 D34 M34=>⟨_,rfl,_,rd_neBs (b:=[]),fun e=>?_,fun e=>?_⟩
 ·have e:(t.is [wComma]).1≠[]:=by simpa using e
  rw [if_neg e] at hrow
  have tk:=tk e
  have D34:RdAt h2 h34 b6 (t.is [wComma]).2:=D34
  have B34:=(B.grow l32).keep hG2 M34.keep
  have St:=S.goes gi
  have Ga:=goes_agg kp St.good (Nat.le_of_lt St.len)
  have E34:EnvQ h2 h34 b6:=⟨E7.t,D34.l,hb6⟩
  refine reader_agg_ok F kp D34 E34 St fun a42 c42 h40 D40 N40 M40=>⟨_,_,_,_,rfl,?_⟩
  generalize aggP o (t.is [wComma]).2=A at *
  obtain⟨⟨k2,l2⟩,t2⟩:=A
  simp -zeta only at hrow D40 N40 Ga ⊢
  have B40:=B34.keep hG2 M40.keep
  intro b43 hb43 h44
  have hlen:=Ga.1.len
  refine agg_app (hB:=h34) (k:=k2) B40 D40 D34.al (fun b e=>B34.al e) N40 (by omega) hb43 fun a47 c47 h46 B46 D46=>⟨_,_,_,rfl,⟨k,L++[(k2,l2)],t2,a47,c47,by simp,B46,D46,St.goes Ga.1,by omega,hrow,by simp;omega⟩,?_⟩
  have h46n:=D46.wn
  show wordsN h46 b6 < wordsN hh b6
  omega
 ·have e:(t.is [wComma]).1=[]:=by simpa using e
  rw [if_pos e] at hrow
  rw [io e] at D34
  exact hRest L t a c h34 ((B.grow l32).keep hG2 M34.keep) D34 S hrow (by omega)
end Go.Proofs.YtiflgceoamkmnaaGreatDoor
namespace Go.Proofs.YtiflgceoamkmnaaGreatDoor
open Go Go.Vc
def VC_R_rd_fail (u0 u1:Nat)(u2:Int)(h:Hp)(R:Value→Hp→Prop):Prop:=
 (∃ x1,(Hp.cell h u0 (u1+3)=some (vi x1))∧(((decide (x1=0))=true→(Hp.store h u0 (u1+3) [vi u2] fun h2=>R (vtup []) h2))∧((decide (x1=0))=false→R (vtup []) h)))
theorem ok_R_rd_fail {u0 u1 u2 h R}(H:VC_R_rd_fail u0 u1 u2 h R):CallOK Tryz.prog 90 [vhp u0 u1,vi u2] h R:=
 call_of (cfg:=⟨[],[],[]⟩) noNG mixed Tryz.func90 [.one (.hp u0 u1),.one (.v (vi u2))] (by kernel_rfl) rfl (by kernel_rfl) H
def VC_R_rd_next (u0 u1:Nat)(h:Hp)(R:Value→Hp→Prop):Prop:=
 (∃ x1,(Hp.cell h u0 (u1+3)=some (vi x1))∧(∃ x2,((decide (x1 > 0))=false→Hp.cell h u0 (u1+1)=some (vi x2))∧(∃ a3 n3 c3,((decide (x1 > 0))=false→Hp.cell h u0 u1=some (vsl a3 n3 c3))∧(((bif (decide (x1 > 0)) then true else(decide (x2≥(n3:Int))))=true→R (vs ⟨#[]⟩) h)∧((bif (decide (x1 > 0)) then true else(decide (x2≥(n3:Int))))=false→(∃ a5 n5 c5,(Hp.cell h u0 u1=some (vsl a5 n5 c5))∧(∃ x6,(Hp.cell h u0 (u1+1)=some (vi x6))∧(∃ b7 o8,(a5=some ⟨b7,o8,none⟩∧(0:Int)≤x6∧x6 < (n5:Int))∧(∃ s9,(Hp.cell h b7 (o8+x6.toNat*1)=some (vs s9))∧R (vs s9) h)))))))))
theorem ok_R_rd_next {u0 u1 h R}(H:VC_R_rd_next u0 u1 h R):CallOK Tryz.prog 134 [vhp u0 u1] h R:=
 call_of (cfg:=⟨[],[],[(1,[0,1,2,3,4,5,6,7,8,9,10,11,12,13,14,15,16]),(3,[0,1,2,3,4,5,6,7,8,9,10])]⟩) noNG mixed Tryz.func134 [.one (.hp u0 u1)] (by kernel_rfl) rfl (by kernel_rfl) H
def VC_R_rd_take (u0 u1:Nat)(u2:ByteArray)(h:Hp)(R:Value→Hp→Prop):Prop:=
 (CallOK Tryz.prog 134 [vhp u0 u1] h fun v1 h2=>∃ s3,v1=(vs s3)∧(∃ p4,(Rd Tryz.prog ((eqGuard .eql 9 (.tmp 8) (.const (vs ⟨#[]⟩)) (vs s3) (vs ⟨#[]⟩) >>= fun _=>binOp .eql 9 (vs s3) (vs ⟨#[]⟩))) h2 (vb p4))∧(∃ p5,(p4=false→Rd Tryz.prog ((eqGuard .neq 9 (.tmp 11) (.tmp 12) (vs s3) (vs u2) >>= fun _=>binOp .neq 9 (vs s3) (vs u2))) h2 (vb p5))∧(((bif p4 then true else p5)=true→R (vb false) h2)∧((bif p4 then true else p5)=false→(∃ x7,(Hp.cell h2 u0 (u1+1)=some (vi x7))∧(∃ x8,(IsW x8 (x7+1))∧(Hp.store h2 u0 (u1+1) [vi x8] fun h9=>R (vb true) h9))))))))
theorem ok_R_rd_take {u0 u1 u2 h R}(H:VC_R_rd_take u0 u1 u2 h R):CallOK Tryz.prog 89 [vhp u0 u1,vs u2] h R:=
 call_of (cfg:=⟨[],[],[]⟩) noNG mixed Tryz.func89 [.one (.hp u0 u1),.one (.v (vs u2))] (by kernel_rfl) rfl (by kernel_rfl) H
def VC_R_rd_must (u0 u1:Nat)(u2:ByteArray)(h:Hp)(R:Value→Hp→Prop):Prop:=
 (CallOK Tryz.prog 89 [vhp u0 u1,vs u2] h fun v1 h2=>∃ p3,v1=(vb p3)∧(((!p3)=true→(CallOK Tryz.prog 90 [vhp u0 u1,vi 4] h2 fun v4 h5=>v4=(vtup [])∧R (vtup []) h5))∧((!p3)=false→R (vtup []) h2)))
theorem ok_R_rd_must {u0 u1 u2 h R}(H:VC_R_rd_must u0 u1 u2 h R):CallOK Tryz.prog 88 [vhp u0 u1,vs u2] h R:=
 call_of (cfg:=⟨[],[],[]⟩) noNG mixed Tryz.func88 [.one (.hp u0 u1),.one (.v (vs u2))] (by kernel_rfl) rfl (by kernel_rfl) H
def VC_R_rd_number (u0 u1:Nat)(u2:Int)(h:Hp)(R:Value→Hp→Prop):Prop:=
 (CallOK Tryz.prog 134 [vhp u0 u1] h fun v1 h2=>∃ s3,v1=(vs s3)∧(CallOK Tryz.prog 140 [vs s3,vi u2,vb false] h2 fun v4 h5=>∃ x6,v4=(vi x6)∧(((decide (x6 < 0))=true→(CallOK Tryz.prog 90 [vhp u0 u1,vi 4] h5 fun v7 h8=>v7=(vtup [])∧R (vi 0) h8))∧((decide (x6 < 0))=false→(∃ x10,(Hp.cell h5 u0 (u1+1)=some (vi x10))∧(∃ x11,(IsW x11 (x10+1))∧(Hp.store h5 u0 (u1+1) [vi x11] fun h12=>R (vi x6) h12)))))))
theorem ok_R_rd_number {u0 u1 u2 h R}(H:VC_R_rd_number u0 u1 u2 h R):CallOK Tryz.prog 92 [vhp u0 u1,vi u2] h R:=
 call_of (cfg:=⟨[],[],[]⟩) noNG mixed Tryz.func92 [.one (.hp u0 u1),.one (.v (vi u2))] (by kernel_rfl) rfl (by kernel_rfl) H
def VC_R_rd_put (u0 u1:Nat)(u2:Int)(u3:Option Addr)(u4 u5:Nat)(u6:Option Addr)(u7 u8:Nat)(h:Hp)(R:Value→Hp→Prop):Prop:=
 (∃ x1,(Hp.cell h u0 (u1+3)=some (vi x1))∧(((decide (x1 > 0))=true→R (vsl u3 u4 u5) h)∧((decide (x1 > 0))=false→(∃ x3,(IsW x3 ((u4:Int)+(u7:Int)))∧(∃ x4,(IsW x4 (x3+1))∧(((decide (x4 > 40))=true→(CallOK Tryz.prog 90 [vhp u0 u1,vi 2] h fun v5 h6=>v5=(vtup [])∧R (vsl u3 u4 u5) h6))∧((decide (x4 > 40))=false→(SemOK Tryz.prog (Builtin.append_ #[26,26] 26 #[vsl none 0 0,vsl u3 u4 u5]) h fun v8 h9=>∃ a10 n10 c10,v8=(vsl a10 n10 c10)∧(∃(I12:List Value→Hp→Prop) (m13:List Value→Hp→Nat),I12 [vsl a10 n10 c10,vi 0] h9∧∀ vs14 h15,I12 vs14 h15→∃ a16 n16 c16 x17,vs14=[vsl a16 n16 c16,vi x17]∧(((decide (x17 < (u7:Int)))=true→(∃ b20 o21,(u6=some ⟨b20,o21,none⟩∧(0:Int)≤x17∧x17 < (u7:Int))∧(∃ x22 x23 x24 x25 x26 x27,(Hp.row h15 b20 (o21+x17.toNat*6) 6=some [vi x22,vi x23,vi x24,vi x25,vi x26,vi x27])∧(CallOK Tryz.prog 169 [vi x22] h15 fun v28 h29=>∃ x30,v28=(vi x30)∧(let J34:Int→Prop:=fun x41=>(let J45:Int→Prop:=fun x48=>(∀ b49,h29 b49=none→let h50:= Hp.set h29 b49 (cellsO [vi x22,vi x41,vi x48,vi x25,vi x26,vi x27] 83);(SemOK Tryz.prog (Builtin.append_ #[26,26] 26 #[vsl a16 n16 c16,(vsl (some (⟨b49,0,none⟩:Addr)) 1 1)]) h50 fun v51 h52=>∃ a53 n53 c53,v51=(vsl a53 n53 c53)∧(∃ x55,(IsW x55 (x17+1))∧(I12 [vsl a53 n53 c53,vi x55] h52∧m13 [vsl a53 n53 c53,vi x55] h52 < m13 vs14 h15))));(((decide (x30 > 1))=true→(∃ x42,(IsW x42 (x24+(u4:Int)))∧(J45 x42)))∧((decide (x30 > 1))=false→(J45 x24))));(((decide (x30 > 0))=true→(∃ x31,(IsW x31 (x23+(u4:Int)))∧(J34 x31)))∧((decide (x30 > 0))=false→(J34 x23))))))))∧((decide (x17 < (u7:Int)))=false→(∃ x56,(IsW x56 ((u4:Int) - 1))∧(let J60:Int→Prop:=fun x63=>(∀ b64,h15 b64=none→let h65:= Hp.set h15 b64 (cellsO [vi u2,vi x56,vi x63,vi 0,vi 0,vi 0] 83);(SemOK Tryz.prog (Builtin.append_ #[26,26] 26 #[vsl a16 n16 c16,(vsl (some (⟨b64,0,none⟩:Addr)) 1 1)]) h65 fun v66 h67=>∃ a68 n68 c68,v66=(vsl a68 n68 c68)∧R (vsl a68 n68 c68) h67));(((decide ((u7:Int) > 0))=true→(∃ x57,(IsW x57 ((n16:Int) - 1))∧(J60 x57)))∧((decide ((u7:Int) > 0))=false→(J60 0))))))))))))))))
theorem ok_R_rd_put {u0 u1 u2 u3 u4 u5 u6 u7 u8 h R}(H:VC_R_rd_put u0 u1 u2 u3 u4 u5 u6 u7 u8 h R):CallOK Tryz.prog 137 [vhp u0 u1,vi u2,vsl u3 u4 u5,vsl u6 u7 u8] h R:=
 call_of (cfg:=⟨[],[(8,([9,10],[.one (.slice),.one (.int .i64)],[]))],[]⟩) noNG mixed Tryz.func137 [.one (.hp u0 u1),.one (.v (vi u2)),.one (.v (vsl u3 u4 u5)),.one (.v (vsl u6 u7 u8))] (by kernel_rfl) rfl (by kernel_rfl) H
def VC_R_rd_in (u0 u1:Nat)(h:Hp)(R:Value→Hp→Prop):Prop:=
 (∃ x1,(Hp.cell h u0 (u1+2)=some (vi x1))∧(∃ x2,(IsW x2 (x1+1))∧(Hp.store h u0 (u1+2) [vi x2] fun h3=>(∃ x4,(Hp.cell h3 u0 (u1+2)=some (vi x4))∧(((decide (x4 > 12))=true→(CallOK Tryz.prog 90 [vhp u0 u1,vi 2] h3 fun v5 h6=>v5=(vtup [])∧R (vtup []) h6))∧((decide (x4 > 12))=false→R (vtup []) h3))))))
theorem ok_R_rd_in {u0 u1 h R}(H:VC_R_rd_in u0 u1 h R):CallOK Tryz.prog 136 [vhp u0 u1] h R:=
 call_of (cfg:=⟨[],[],[]⟩) noNG mixed Tryz.func136 [.one (.hp u0 u1)] (by kernel_rfl) rfl (by kernel_rfl) H
def VC_R_rd_level (u0 u1:Nat)(u2:Int)(h:Hp)(R:Value→Hp→Prop):Prop:=
 (∃ x1,(Hp.cell h u0 (u1+3)=some (vi x1))∧(((decide (x1 > 0))=true→R (vsl none 0 0) h)∧((decide (x1 > 0))=false→(let J7:Bool→Prop:=fun p8=>((p8=true→(CallOK Tryz.prog 135 [vhp u0 u1,vi u2] h fun v9 h10=>∃ a11 n11 c11,v9=(vsl a11 n11 c11)∧R (vsl a11 n11 c11) h10))∧(p8=false→(let J14:Bool→Prop:=fun p15=>((p15=true→(let J18:ByteArray→Int→Prop:=fun s36 x37=>(CallOK Tryz.prog 89 [vhp u0 u1,vs s36] h fun v38 h39=>∃ p40,v38=(vb p40)∧(((!p40)=true→(∃ x41,(IsW x41 (u2+1))∧(CallOK Tryz.prog 91 [vhp u0 u1,vi x41] h39 fun v42 h43=>∃ a44 n44 c44,v42=(vsl a44 n44 c44)∧R (vsl a44 n44 c44) h43)))∧((!p40)=false→(CallOK Tryz.prog 136 [vhp u0 u1] h39 fun v46 h47=>v46=(vtup [])∧(CallOK Tryz.prog 91 [vhp u0 u1,vi u2] h47 fun v48 h49=>∃ a50 n50 c50,v48=(vsl a50 n50 c50)∧(∃ x51,(Hp.cell h49 u0 (u1+2)=some (vi x51))∧(∃ x52,(IsW x52 (x51 - 1))∧(Hp.store h49 u0 (u1+2) [vi x52] fun h53=>(CallOK Tryz.prog 137 [vhp u0 u1,vi x37,vsl a50 n50 c50,vsl none 0 0] h53 fun v54 h55=>∃ a56 n56 c56,v54=(vsl a56 n56 c56)∧R (vsl a56 n56 c56) h55)))))))));(((decide (u2=6))=true→(J18 ⟨#[45]⟩ 3))∧((decide (u2=6))=false→(J18 ⟨#[110,111,116]⟩ 4)))))∧(p15=false→(((decide (u2=3))=true→(CallOK Tryz.prog 138 [vhp u0 u1] h fun v57 h58=>∃ a59 n59 c59,v57=(vsl a59 n59 c59)∧R (vsl a59 n59 c59) h58))∧((decide (u2=3))=false→(CallOK Tryz.prog 139 [vhp u0 u1] h fun v61 h62=>∃ a63 n63 c63,v61=(vsl a63 n63 c63)∧R (vsl a63 n63 c63) h62)))));(((decide (u2=2))=true→(J14 (decide (u2=2))))∧((decide (u2=2))=false→(J14 (decide (u2=6))))))));(((decide (u2=0))=true→(J7 (decide (u2=0))))∧((decide (u2=0))=false→(((decide (u2=1))=true→(J7 (decide (u2=1))))∧((decide (u2=1))=false→(((decide (u2=4))=true→(J7 (decide (u2=4))))∧((decide (u2=4))=false→(J7 (decide (u2=5)))))))))))))
theorem ok_R_rd_level {u0 u1 u2 h R}(H:VC_R_rd_level u0 u1 u2 h R):CallOK Tryz.prog 91 [vhp u0 u1,vi u2] h R:=
 call_of (cfg:=⟨[],[],[]⟩) noNG mixed Tryz.func91 [.one (.hp u0 u1),.one (.v (vi u2))] (by kernel_rfl) rfl (by kernel_rfl) H
def VC_R_rd_rows (u0 u1:Nat)(u2:Int)(h:Hp)(R:Value→Hp→Prop):Prop:=
 (∃ x1,(IsW x1 (u2+1))∧(CallOK Tryz.prog 91 [vhp u0 u1,vi x1] h fun v2 h3=>∃ a4 n4 c4,v2=(vsl a4 n4 c4)∧(let J47:Option Addr→Nat→Nat→Hp→Prop:=fun a49 n49 c49 h50=>R (vsl a49 n49 c49) h50;(∃(I6:List Value→Hp→Prop) (m7:List Value→Hp→Nat),I6 [vsl a4 n4 c4] h3∧∀ vs8 h9,I6 vs8 h9→∃ a10 n10 c10,vs8=[vsl a10 n10 c10]∧(∃ x11,(Hp.cell h9 u0 (u1+3)=some (vi x11))∧(((decide (x11=0))=true→(CallOK Tryz.prog 134 [vhp u0 u1] h9 fun v14 h15=>∃ s16,v14=(vs s16)∧(let J33:Int→Prop:=fun x34=>(((decide (x34=0))=true→(J47 a10 n10 c10 h15))∧((decide (x34=0))=false→(∃ x37,(Hp.cell h15 u0 (u1+1)=some (vi x37))∧(∃ x38,(IsW x38 (x37+1))∧(Hp.store h15 u0 (u1+1) [vi x38] fun h39=>(∃ x40,(IsW x40 (u2+1))∧(CallOK Tryz.prog 91 [vhp u0 u1,vi x40] h39 fun v41 h42=>∃ a43 n43 c43,v41=(vsl a43 n43 c43)∧(CallOK Tryz.prog 137 [vhp u0 u1,vi x34,vsl a10 n10 c10,vsl a43 n43 c43] h42 fun v44 h45=>∃ a46 n46 c46,v44=(vsl a46 n46 c46)∧(I6 [vsl a46 n46 c46] h45∧m7 [vsl a46 n46 c46] h45 < m7 vs8 h9)))))))));(∃ p17,(Rd Tryz.prog ((eqGuard .eql 9 (.tmp 18) (.const (vs ⟨#[111,114]⟩)) (vs s16) (vs ⟨#[111,114]⟩) >>= fun _=>binOp .eql 9 (vs s16) (vs ⟨#[111,114]⟩))) h15 (vb p17))∧((p17=true→(((decide (u2=0))=true→(J33 10))∧((decide (u2=0))=false→(J33 0))))∧(p17=false→(∃ p20,(Rd Tryz.prog ((eqGuard .eql 9 (.tmp 18) (.const (vs ⟨#[97,110,100]⟩)) (vs s16) (vs ⟨#[97,110,100]⟩) >>= fun _=>binOp .eql 9 (vs s16) (vs ⟨#[97,110,100]⟩))) h15 (vb p20))∧((p20=true→(((decide (u2=1))=true→(J33 9))∧((decide (u2=1))=false→(J33 0))))∧(p20=false→(∃ p23,(Rd Tryz.prog ((eqGuard .eql 9 (.tmp 18) (.const (vs ⟨#[43]⟩)) (vs s16) (vs ⟨#[43]⟩) >>= fun _=>binOp .eql 9 (vs s16) (vs ⟨#[43]⟩))) h15 (vb p23))∧((p23=true→(((decide (u2=4))=true→(J33 6))∧((decide (u2=4))=false→(J33 0))))∧(p23=false→(∃ p26,(Rd Tryz.prog ((eqGuard .eql 9 (.tmp 18) (.const (vs ⟨#[45]⟩)) (vs s16) (vs ⟨#[45]⟩) >>= fun _=>binOp .eql 9 (vs s16) (vs ⟨#[45]⟩))) h15 (vb p26))∧((p26=true→(((decide (u2=4))=true→(J33 7))∧((decide (u2=4))=false→(J33 0))))∧(p26=false→(∃ p29,(Rd Tryz.prog ((eqGuard .eql 9 (.tmp 18) (.const (vs ⟨#[42]⟩)) (vs s16) (vs ⟨#[42]⟩) >>= fun _=>binOp .eql 9 (vs s16) (vs ⟨#[42]⟩))) h15 (vb p29))∧((p29=true→(((decide (u2=5))=true→(J33 8))∧((decide (u2=5))=false→(J33 0))))∧(p29=false→(J33 0)))))))))))))))))))∧((decide (x11=0))=false→(J47 a10 n10 c10 h9))))))))
theorem ok_R_rd_rows {u0 u1 u2 h R}(H:VC_R_rd_rows u0 u1 u2 h R):CallOK Tryz.prog 135 [vhp u0 u1,vi u2] h R:=
 call_of (cfg:=⟨[],[(2,([5],[.one (.slice)],[]))],[]⟩) noNG mixed Tryz.func135 [.one (.hp u0 u1),.one (.v (vi u2))] (by kernel_rfl) rfl (by kernel_rfl) H
def VC_R_rd_compared (u0 u1:Nat)(h:Hp)(R:Value→Hp→Prop):Prop:=
 (CallOK Tryz.prog 91 [vhp u0 u1,vi 4] h fun v1 h2=>∃ a3 n3 c3,v1=(vsl a3 n3 c3)∧(CallOK Tryz.prog 134 [vhp u0 u1] h2 fun v4 h5=>∃ s6,v4=(vs s6)∧(∃ p7,(Rd Tryz.prog ((eqGuard .neq 9 (.tmp 14) (.const (vs ⟨#[60]⟩)) (vs s6) (vs ⟨#[60]⟩) >>= fun _=>binOp .neq 9 (vs s6) (vs ⟨#[60]⟩))) h5 (vb p7))∧(∃ p8,(p7=true→Rd Tryz.prog ((eqGuard .neq 9 (.tmp 17) (.const (vs ⟨#[62]⟩)) (vs s6) (vs ⟨#[62]⟩) >>= fun _=>binOp .neq 9 (vs s6) (vs ⟨#[62]⟩))) h5 (vb p8))∧(∃ p9,((bif p7 then p8 else false)=true→Rd Tryz.prog ((eqGuard .neq 9 (.tmp 21) (.const (vs ⟨#[60,61]⟩)) (vs s6) (vs ⟨#[60,61]⟩) >>= fun _=>binOp .neq 9 (vs s6) (vs ⟨#[60,61]⟩))) h5 (vb p9))∧(∃ p10,((bif (bif p7 then p8 else false) then p9 else false)=true→Rd Tryz.prog ((eqGuard .neq 9 (.tmp 25) (.const (vs ⟨#[62,61]⟩)) (vs s6) (vs ⟨#[62,61]⟩) >>= fun _=>binOp .neq 9 (vs s6) (vs ⟨#[62,61]⟩))) h5 (vb p10))∧(∃ p11,((bif (bif (bif p7 then p8 else false) then p9 else false) then p10 else false)=true→Rd Tryz.prog ((eqGuard .neq 9 (.tmp 29) (.const (vs ⟨#[61]⟩)) (vs s6) (vs ⟨#[61]⟩) >>= fun _=>binOp .neq 9 (vs s6) (vs ⟨#[61]⟩))) h5 (vb p11))∧(∃ p12,((bif (bif (bif (bif p7 then p8 else false) then p9 else false) then p10 else false) then p11 else false)=true→Rd Tryz.prog ((eqGuard .neq 9 (.tmp 33) (.const (vs ⟨#[60,62]⟩)) (vs s6) (vs ⟨#[60,62]⟩) >>= fun _=>binOp .neq 9 (vs s6) (vs ⟨#[60,62]⟩))) h5 (vb p12))∧(∃ p13,((bif (bif (bif (bif (bif p7 then p8 else false) then p9 else false) then p10 else false) then p11 else false) then p12 else false)=true→Rd Tryz.prog ((eqGuard .neq 9 (.tmp 37) (.const (vs ⟨#[105,115]⟩)) (vs s6) (vs ⟨#[105,115]⟩) >>= fun _=>binOp .neq 9 (vs s6) (vs ⟨#[105,115]⟩))) h5 (vb p13))∧(((bif (bif (bif (bif (bif (bif p7 then p8 else false) then p9 else false) then p10 else false) then p11 else false) then p12 else false) then p13 else false)=true→R (vsl a3 n3 c3) h5)∧((bif (bif (bif (bif (bif (bif p7 then p8 else false) then p9 else false) then p10 else false) then p11 else false) then p12 else false) then p13 else false)=false→(∃ x15,(Hp.cell h5 u0 (u1+1)=some (vi x15))∧(∃ x16,(IsW x16 (x15+1))∧(Hp.store h5 u0 (u1+1) [vi x16] fun h17=>(∃ p18,(Rd Tryz.prog ((eqGuard .eql 9 (.tmp 48) (.const (vs ⟨#[105,115]⟩)) (vs s6) (vs ⟨#[105,115]⟩) >>= fun _=>binOp .eql 9 (vs s6) (vs ⟨#[105,115]⟩))) h17 (vb p18))∧((p18=true→(CallOK Tryz.prog 89 [vhp u0 u1,(vs ⟨#[110,111,116]⟩)] h17 fun v19 h20=>∃ p21,v19=(vb p21)∧(CallOK Tryz.prog 88 [vhp u0 u1,(vs ⟨#[110,117,108,108]⟩)] h20 fun v22 h23=>v22=(vtup [])∧(CallOK Tryz.prog 137 [vhp u0 u1,vi 5,vsl a3 n3 c3,vsl none 0 0] h23 fun v24 h25=>∃ a26 n26 c26,v24=(vsl a26 n26 c26)∧(let J32:Option Addr→Nat→Nat→Hp→Prop:=fun a34 n34 c34 h35=>R (vsl a34 n34 c34) h35;((p21=true→(CallOK Tryz.prog 137 [vhp u0 u1,vi 4,vsl a26 n26 c26,vsl none 0 0] h25 fun v27 h28=>∃ a29 n29 c29,v27=(vsl a29 n29 c29)∧(J32 a29 n29 c29 h28)))∧(p21=false→(J32 a26 n26 c26 h25))))))))∧(p18=false→(CallOK Tryz.prog 91 [vhp u0 u1,vi 4] h17 fun v37 h38=>∃ a39 n39 c39,v37=(vsl a39 n39 c39)∧(∃ p40,(Rd Tryz.prog ((eqGuard .eql 9 (.tmp 64) (.const (vs ⟨#[60]⟩)) (vs s6) (vs ⟨#[60]⟩) >>= fun _=>binOp .eql 9 (vs s6) (vs ⟨#[60]⟩))) h38 (vb p40))∧((p40=true→(CallOK Tryz.prog 137 [vhp u0 u1,vi 11,vsl a3 n3 c3,vsl a39 n39 c39] h38 fun v41 h42=>∃ a43 n43 c43,v41=(vsl a43 n43 c43)∧R (vsl a43 n43 c43) h42))∧(p40=false→(∃ p44,(Rd Tryz.prog ((eqGuard .eql 9 (.tmp 64) (.const (vs ⟨#[62]⟩)) (vs s6) (vs ⟨#[62]⟩) >>= fun _=>binOp .eql 9 (vs s6) (vs ⟨#[62]⟩))) h38 (vb p44))∧((p44=true→(CallOK Tryz.prog 137 [vhp u0 u1,vi 11,vsl a39 n39 c39,vsl a3 n3 c3] h38 fun v45 h46=>∃ a47 n47 c47,v45=(vsl a47 n47 c47)∧R (vsl a47 n47 c47) h46))∧(p44=false→(∃ p48,(Rd Tryz.prog ((eqGuard .eql 9 (.tmp 64) (.const (vs ⟨#[60,61]⟩)) (vs s6) (vs ⟨#[60,61]⟩) >>= fun _=>binOp .eql 9 (vs s6) (vs ⟨#[60,61]⟩))) h38 (vb p48))∧((p48=true→(CallOK Tryz.prog 137 [vhp u0 u1,vi 11,vsl a39 n39 c39,vsl a3 n3 c3] h38 fun v49 h50=>∃ a51 n51 c51,v49=(vsl a51 n51 c51)∧(CallOK Tryz.prog 137 [vhp u0 u1,vi 4,vsl a51 n51 c51,vsl none 0 0] h50 fun v52 h53=>∃ a54 n54 c54,v52=(vsl a54 n54 c54)∧R (vsl a54 n54 c54) h53)))∧(p48=false→(∃ p55,(Rd Tryz.prog ((eqGuard .eql 9 (.tmp 64) (.const (vs ⟨#[62,61]⟩)) (vs s6) (vs ⟨#[62,61]⟩) >>= fun _=>binOp .eql 9 (vs s6) (vs ⟨#[62,61]⟩))) h38 (vb p55))∧((p55=true→(CallOK Tryz.prog 137 [vhp u0 u1,vi 11,vsl a3 n3 c3,vsl a39 n39 c39] h38 fun v56 h57=>∃ a58 n58 c58,v56=(vsl a58 n58 c58)∧(CallOK Tryz.prog 137 [vhp u0 u1,vi 4,vsl a58 n58 c58,vsl none 0 0] h57 fun v59 h60=>∃ a61 n61 c61,v59=(vsl a61 n61 c61)∧R (vsl a61 n61 c61) h60)))∧(p55=false→(∃ p62,(Rd Tryz.prog ((eqGuard .eql 9 (.tmp 64) (.const (vs ⟨#[61]⟩)) (vs s6) (vs ⟨#[61]⟩) >>= fun _=>binOp .eql 9 (vs s6) (vs ⟨#[61]⟩))) h38 (vb p62))∧((p62=true→(CallOK Tryz.prog 137 [vhp u0 u1,vi 12,vsl a3 n3 c3,vsl a39 n39 c39] h38 fun v63 h64=>∃ a65 n65 c65,v63=(vsl a65 n65 c65)∧R (vsl a65 n65 c65) h64))∧(p62=false→(CallOK Tryz.prog 137 [vhp u0 u1,vi 12,vsl a3 n3 c3,vsl a39 n39 c39] h38 fun v67 h68=>∃ a69 n69 c69,v67=(vsl a69 n69 c69)∧(CallOK Tryz.prog 137 [vhp u0 u1,vi 4,vsl a69 n69 c69,vsl none 0 0] h68 fun v70 h71=>∃ a72 n72 c72,v70=(vsl a72 n72 c72)∧R (vsl a72 n72 c72) h71)))))))))))))))))))))))))))))))))))
theorem ok_R_rd_compared {u0 u1 h R}(H:VC_R_rd_compared u0 u1 h R):CallOK Tryz.prog 138 [vhp u0 u1] h R:=
 call_of (cfg:=⟨[],[],[]⟩) noNG mixed Tryz.func138 [.one (.hp u0 u1)] (by kernel_rfl) rfl (by kernel_rfl) H
def VC_R_rd_rest (u0 u1:Nat)(h:Hp)(R:Value→Hp→Prop):Prop:=
 (CallOK Tryz.prog 134 [vhp u0 u1] h fun v1 h2=>∃ s3,v1=(vs s3)∧(CallOK Tryz.prog 89 [vhp u0 u1,(vs ⟨#[40]⟩)] h2 fun v4 h5=>∃ p6,v4=(vb p6)∧((p6=true→(CallOK Tryz.prog 136 [vhp u0 u1] h5 fun v7 h8=>v7=(vtup [])∧(CallOK Tryz.prog 91 [vhp u0 u1,vi 0] h8 fun v9 h10=>∃ a11 n11 c11,v9=(vsl a11 n11 c11)∧(∃ x12,(Hp.cell h10 u0 (u1+2)=some (vi x12))∧(∃ x13,(IsW x13 (x12 - 1))∧(Hp.store h10 u0 (u1+2) [vi x13] fun h14=>(CallOK Tryz.prog 88 [vhp u0 u1,(vs ⟨#[41]⟩)] h14 fun v15 h16=>v15=(vtup [])∧R (vsl a11 n11 c11) h16)))))))∧(p6=false→(∀ b18,h5 b18=none→let h19:= Hp.set h5 b18 (cellsO [(vs ⟨#[116]⟩),(vs ⟨#[107]⟩),(vs ⟨#[97]⟩),(vs ⟨#[98]⟩)] 9);(∃(I21:List Value→Hp→Prop) (m22:List Value→Hp→Nat),I21 [vi 0] h19∧∀ vs23 h24,I21 vs23 h24→∃ x25,vs23=[vi x25]∧(((decide (x25 < 4))=true→(∃ b28 o29,((some (⟨b18,0,none⟩:Addr))=some ⟨b28,o29,none⟩∧(0:Int)≤x25∧x25 < ((4:Nat):Int))∧(∃ s30,(Hp.cell h24 b28 (o29+x25.toNat*1)=some (vs s30))∧(∃ p31,(Rd Tryz.prog ((eqGuard .eql 9 (.tmp 34) (.tmp 38) (vs s3) (vs s30) >>= fun _=>binOp .eql 9 (vs s3) (vs s30))) h24 (vb p31))∧((p31=true→(∃ x32,(Hp.cell h24 u0 (u1+1)=some (vi x32))∧(∃ x33,(IsW x33 (x32+1))∧(Hp.store h24 u0 (u1+1) [vi x33] fun h34=>(∀ b35,h34 b35=none→let h36:= Hp.set h34 b35 (cellsO [vi 2,vi 0,vi 0,vi x25,vi 0,vi 0] 83);R (vsl (some (⟨b35,0,none⟩:Addr)) 1 1) h36)))))∧(p31=false→(∃ x38,(IsW x38 (x25+1))∧(I21 [vi x38] h24∧m22 [vi x38] h24 < m22 vs23 h24))))))))∧((decide (x25 < 4))=false→(∃ p39,(Rd Tryz.prog ((eqGuard .eql 9 (.tmp 50) (.const (vs ⟨#[110,117,108,108]⟩)) (vs s3) (vs ⟨#[110,117,108,108]⟩) >>= fun _=>binOp .eql 9 (vs s3) (vs ⟨#[110,117,108,108]⟩))) h24 (vb p39))∧(∃ p40,(p39=false→Rd Tryz.prog ((eqGuard .eql 9 (.tmp 53) (.const (vs ⟨#[116,114,117,101]⟩)) (vs s3) (vs ⟨#[116,114,117,101]⟩) >>= fun _=>binOp .eql 9 (vs s3) (vs ⟨#[116,114,117,101]⟩))) h24 (vb p40))∧(∃ p41,((bif p39 then true else p40)=false→Rd Tryz.prog ((eqGuard .eql 9 (.tmp 57) (.const (vs ⟨#[102,97,108,115,101]⟩)) (vs s3) (vs ⟨#[102,97,108,115,101]⟩) >>= fun _=>binOp .eql 9 (vs s3) (vs ⟨#[102,97,108,115,101]⟩))) h24 (vb p41))∧(((bif (bif p39 then true else p40) then true else p41)=true→(∃ x42,(Hp.cell h24 u0 (u1+1)=some (vi x42))∧(∃ x43,(IsW x43 (x42+1))∧(Hp.store h24 u0 (u1+1) [vi x43] fun h44=>(CallOK Tryz.prog 170 [vs s3] h44 fun v45 h46=>∃ x47 x48 x49,v45=(vtup [vag [vi x47,vi x48],vi x49])∧(∀ b50,h46 b50=none→let h51:= Hp.set h46 b50 (cellsO [vi 1,vi 0,vi 0,vi 0,vi x47,vi x48] 83);R (vsl (some (⟨b50,0,none⟩:Addr)) 1 1) h51))))))∧((bif (bif p39 then true else p40) then true else p41)=false→(CallOK Tryz.prog 92 [vhp u0 u1,vi 1000000000] h24 fun v53 h54=>∃ x55,v53=(vi x55)∧(CallOK Tryz.prog 149 [vi x55] h54 fun v56 h57=>∃ x58 x59,v56=(vag [vi x58,vi x59])∧(∀ b60,h57 b60=none→let h61:= Hp.set h57 b60 (cellsO [vi 1,vi 0,vi 0,vi 0,vi x58,vi x59] 83);R (vsl (some (⟨b60,0,none⟩:Addr)) 1 1) h61))))))))))))))))
theorem ok_R_rd_rest {u0 u1 h R}(H:VC_R_rd_rest u0 u1 h R):CallOK Tryz.prog 139 [vhp u0 u1] h R:=
 call_of (cfg:=⟨[],[(11,([7],[.one (.int .i64)],[]))],[]⟩) noNG mixed Tryz.func139 [.one (.hp u0 u1)] (by kernel_rfl) rfl (by kernel_rfl) H
def VC_R_QueryOf (u0:ByteArray)(h:Hp)(R:Value→Hp→Prop):Prop:=
 (CallOK Tryz.prog 87 [vs u0] h fun v1 h2=>∃ a3 n3 c3 x4,v1=(vtup [vsl a3 n3 c3,vi x4])∧(((decide (x4 > 0))=true→R (vtup [vag [vsl none 0 0,vsl none 0 0,vsl none 0 0,vi 0,vi 0,vi 0,vi 0],vi x4]) h2)∧((decide (x4 > 0))=false→(∀ b6,h2 b6=none→let h7:= Hp.set h2 b6 (cellsO [vsl a3 n3 c3,vi 0,vi 0,vi 0] 160);(CallOK Tryz.prog 88 [vhp b6 0,(vs ⟨#[115,101,108,101,99,116]⟩)] h7 fun v8 h9=>v8=(vtup [])∧(let J145:Option Addr→Nat→Nat→Option Addr→Nat→Nat→Option Addr→Nat→Nat→Int→Int→Hp→Prop:=fun a860 n860 c860 a861 n861 c861 a862 n862 c862 x863 x864 h865=>(CallOK Tryz.prog 88 [vhp b6 0,(vs ⟨#[102,114,111,109]⟩)] h865 fun v866 h867=>v866=(vtup [])∧(CallOK Tryz.prog 88 [vhp b6 0,(vs ⟨#[101,118,101,110,116,115]⟩)] h867 fun v868 h869=>v868=(vtup [])∧(CallOK Tryz.prog 89 [vhp b6 0,(vs ⟨#[119,104,101,114,101]⟩)] h869 fun v870 h871=>∃ p872,v870=(vb p872)∧(let J878:Option Addr→Nat→Nat→Hp→Prop:=fun a936 n936 c936 h937=>(CallOK Tryz.prog 89 [vhp b6 0,(vs ⟨#[103,114,111,117,112]⟩)] h937 fun v938 h939=>∃ p940,v938=(vb p940)∧(let J948:Option Addr→Nat→Nat→Hp→Prop:=fun a994 n994 c994 h995=>(CallOK Tryz.prog 88 [vhp b6 0,(vs ⟨#[119,105,110,100,111,119]⟩)] h995 fun v996 h997=>v996=(vtup [])∧(CallOK Tryz.prog 92 [vhp b6 0,vi 1000] h997 fun v998 h999=>∃ x1000,v998=(vi x1000)∧(CallOK Tryz.prog 89 [vhp b6 0,(vs ⟨#[115,108,105,100,101]⟩)] h999 fun v1001 h1002=>∃ p1003,v1001=(vb p1003)∧(let J1009:Int→Hp→Prop:=fun x1040 h1041=>(CallOK Tryz.prog 89 [vhp b6 0,(vs ⟨#[100,101,108,97,121]⟩)] h1041 fun v1042 h1043=>∃ p1044,v1042=(vb p1044)∧(let J1050:Int→Hp→Prop:=fun x1071 h1072=>(CallOK Tryz.prog 89 [vhp b6 0,(vs ⟨#[108,97,116,101]⟩)] h1072 fun v1073 h1074=>∃ p1075,v1073=(vb p1075)∧(let J1081:Int→Hp→Prop:=fun x1092 h1093=>(∃ x1094,(Hp.cell h1093 b6 (0+3)=some (vi x1094))∧(∃ x1095,((decide (x1094=0))=true→Hp.cell h1093 b6 (0+1)=some (vi x1095))∧(∃ a1096 n1096 c1096,((decide (x1094=0))=true→Hp.cell h1093 b6 0=some (vsl a1096 n1096 c1096))∧(let J1100:Hp→Prop:=fun h1101=>(∃ x1102,(Hp.cell h1101 b6 (0+3)=some (vi x1102))∧(let J1109:Hp→Prop:=fun h1110=>(∃ x1111,(Hp.cell h1110 b6 (0+3)=some (vi x1111))∧(((decide (x1111 > 0))=true→(∃ x1112,(Hp.cell h1110 b6 (0+3)=some (vi x1112))∧((Hp.cell h1110 b6 (0+3)=some (vi x1112))∧R (vtup [vag [vsl none 0 0,vsl none 0 0,vsl none 0 0,vi 0,vi 0,vi 0,vi 0],vi x1112]) h1110)))∧((decide (x1111 > 0))=false→R (vtup [vag [vsl a860 n860 c860,vsl a936 n936 c936,vsl a994 n994 c994,vi x1000,vi x1040,vi x1071,vi x1092],vi 0]) h1110)));(((decide (x1102=0))=true→(CallOK Tryz.prog 93 [vag [vsl a860 n860 c860,vsl a936 n936 c936,vsl a994 n994 c994,vi x1000,vi x1040,vi x1071,vi x1092]] h1101 fun v1103 h1104=>∃ x1105,v1103=(vi x1105)∧(Hp.store h1104 b6 (0+3) [vi x1105] fun h1106=>(J1109 h1106))))∧((decide (x1102=0))=false→(J1109 h1101)))));(((bif (decide (x1094=0)) then(decide (x1095 < (n1096:Int))) else false)=true→(Hp.store h1093 b6 (0+3) [vi 4] fun h1097=>(J1100 h1097)))∧((bif (decide (x1094=0)) then(decide (x1095 < (n1096:Int))) else false)=false→(J1100 h1093)))))));((p1075=true→(CallOK Tryz.prog 92 [vhp b6 0,vi 1000] h1074 fun v1076 h1077=>∃ x1078,v1076=(vi x1078)∧(J1081 x1078 h1077)))∧(p1075=false→(J1081 x864 h1074)))));((p1044=true→(CallOK Tryz.prog 92 [vhp b6 0,vi 1000] h1043 fun v1045 h1046=>∃ x1047,v1045=(vi x1047)∧(J1050 x1047 h1046)))∧(p1044=false→(J1050 x863 h1043)))));((p1003=true→(CallOK Tryz.prog 92 [vhp b6 0,vi 1000] h1002 fun v1004 h1005=>∃ x1006,v1004=(vi x1006)∧(J1009 x1006 h1005)))∧(p1003=false→(J1009 x1000 h1002)))))));((p940=true→(CallOK Tryz.prog 88 [vhp b6 0,(vs ⟨#[98,121]⟩)] h939 fun v941 h942=>v941=(vtup [])∧(CallOK Tryz.prog 91 [vhp b6 0,vi 0] h942 fun v943 h944=>∃ a945 n945 c945,v943=(vsl a945 n945 c945)∧(J948 a945 n945 c945 h944))))∧(p940=false→(J948 a862 n862 c862 h939)))));((p872=true→(CallOK Tryz.prog 91 [vhp b6 0,vi 0] h871 fun v873 h874=>∃ a875 n875 c875,v873=(vsl a875 n875 c875)∧(J878 a875 n875 c875 h874)))∧(p872=false→(J878 a861 n861 c861 h871)))))));(∃(I11:List Value→Hp→Prop) (m12:List Value→Hp→Nat),I11 [vb true,vsl none 0 0,vsl none 0 0,vsl none 0 0,vi 0,vi 0,vi 0,vi 0] h9∧∀ vs13 h14,I11 vs13 h14→∃ p15 a16 n16 c16 a17 n17 c17 a18 n18 c18 x19 x20 x21 x22,vs13=[vb p15,vsl a16 n16 c16,vsl a17 n17 c17,vsl a18 n18 c18,vi x19,vi x20,vi x21,vi x22]∧((p15=true→(∀ b25,h14 b25=none→let h26:= Hp.set h14 b25 (cellsO [(vs ⟨#[99,111,117,110,116]⟩),(vs ⟨#[115,117,109]⟩),(vs ⟨#[109,105,110]⟩),(vs ⟨#[109,97,120]⟩)] 9);(∀ b27,h26 b27=none→let h28:= Hp.set h26 b27 (cellsO [vi 2,vi 3,vi 4,vi 5] 3);(let J56:Int→Option Addr→Nat→Nat→Hp→Prop:=fun x95 a96 n96 c96 h97=>(let J102:Hp→Prop:=fun h103=>(CallOK Tryz.prog 88 [vhp b6 0,(vs ⟨#[40]⟩)] h103 fun v104 h105=>v104=(vtup [])∧(let J111:Bool→Hp→Prop:=fun p113 h114=>(let J120:Int→Option Addr→Nat→Nat→Hp→Prop:=fun x132 a133 n133 c133 h134=>(CallOK Tryz.prog 88 [vhp b6 0,(vs ⟨#[41]⟩)] h134 fun v135 h136=>v135=(vtup [])∧(∀ b137,h136 b137=none→let h138:= Hp.set h136 b137 (cellsO [vi x132,vsl a133 n133 c133] 86);(SemOK Tryz.prog (Builtin.append_ #[25,25] 25 #[vsl a16 n16 c16,(vsl (some (⟨b137,0,none⟩:Addr)) 1 1)]) h138 fun v139 h140=>∃ a141 n141 c141,v139=(vsl a141 n141 c141)∧(CallOK Tryz.prog 89 [vhp b6 0,(vs ⟨#[44]⟩)] h140 fun v142 h143=>∃ p144,v142=(vb p144)∧(I11 [vb p144,vsl a141 n141 c141,vsl a17 n17 c17,vsl a18 n18 c18,vi x19,vi x20,vi x21,vi x22] h143∧m12 [vb p144,vsl a141 n141 c141,vsl a17 n17 c17,vsl a18 n18 c18,vi x19,vi x20,vi x21,vi x22] h143 < m12 vs13 h14)))));((p113=true→(J120 1 a96 n96 c96 h114))∧(p113=false→(CallOK Tryz.prog 91 [vhp b6 0,vi 0] h114 fun v116 h117=>∃ a118 n118 c118,v116=(vsl a118 n118 c118)∧(J120 x95 a118 n118 c118 h117)))));(((decide (x95=2))=true→(CallOK Tryz.prog 89 [vhp b6 0,(vs ⟨#[42]⟩)] h105 fun v106 h107=>∃ p108,v106=(vb p108)∧(J111 p108 h107)))∧((decide (x95=2))=false→(J111 false h105)))));(((decide (x95=0))=true→(CallOK Tryz.prog 90 [vhp b6 0,vi 4] h97 fun v98 h99=>v98=(vtup [])∧(J102 h99)))∧((decide (x95=0))=false→(J102 h97))));(∃(I30:List Value→Hp→Prop) (m31:List Value→Hp→Nat),I30 [vi 0,vi 0,vsl none 0 0] h28∧∀ vs32 h33,I30 vs32 h33→∃ x34 x35 a36 n36 c36,vs32=[vi x34,vi x35,vsl a36 n36 c36]∧(((bif (decide (x34 < 4)) then(decide (x35=0)) else false)=true→(let J50:Int→Hp→Prop:=fun x53 h54=>(∃ x55,(IsW x55 (x34+1))∧(I30 [vi x55,vi x53,vsl a36 n36 c36] h54∧m31 [vi x55,vi x53,vsl a36 n36 c36] h54 < m31 vs32 h33));(∃ b39 o40,((some (⟨b25,0,none⟩:Addr))=some ⟨b39,o40,none⟩∧(0:Int)≤x34∧x34 < ((4:Nat):Int))∧(∃ s41,(Hp.cell h33 b39 (o40+x34.toNat*1)=some (vs s41))∧(CallOK Tryz.prog 89 [vhp b6 0,vs s41] h33 fun v42 h43=>∃ p44,v42=(vb p44)∧((p44=true→(∃ b45 o46,((some (⟨b27,0,none⟩:Addr))=some ⟨b45,o46,none⟩∧(0:Int)≤x34∧x34 < ((4:Nat):Int))∧(∃ x47,(Hp.cell h43 b45 (o46+x34.toNat*1)=some (vi x47))∧(J50 x47 h43))))∧(p44=false→(J50 x35 h43))))))))∧((bif (decide (x34 < 4)) then(decide (x35=0)) else false)=false→(J56 x35 a36 n36 c36 h33))))))))∧(p15=false→(J145 a16 n16 c16 a17 n17 c17 a18 n18 c18 x21 x22 h14))))))))))
theorem ok_R_QueryOf {u0 h R}(H:VC_R_QueryOf u0 h R):CallOK Tryz.prog 41 [vs u0] h R:=
 call_of (cfg:=⟨[27],[(13,([12],[.one (.int .i64)],[(2,[.int .i64,.slice])])),(8,([8],[.one (.bool)],[(1,[.slice,.slice,.slice,.int .i64,.int .i64,.int .i64,.int .i64])]))],[(51,[0,1,2,3,4,5,6,7,8,9,10,11,12,13,14,15,16]),(56,[0,1,2,3,4,5,6])]⟩) noNG mixed Tryz.func41 [.one (.v (vs u0))] (by kernel_rfl) rfl (by kernel_rfl) H
open Go.Txt
structure RrAt (h0 h:Hp)(g:Nat)(W:List Wd)(s:RS):Prop where
 b:∃(a:Option Addr) (c i:Nat),h g=some (cellsO [vsl a W.length c,vi i,vi s.deep,vi s.f] 160)∧SlB h0 a W.length W∧i≤W.length∧s.ws=(if s.f=0 then W.drop i else [])
 l:h0.le h
 z:h0 g=none
 f0:0≤s.f
 n:W.length≤1000
 w:∀ x ∈ W,x.length≤1000000
theorem RrAt.al {h0 h:Hp}{g:Nat}{W:List Wd}{s:RS}(D:RrAt h0 h g W s):h g≠none:=by
 obtain⟨a,c,i,hb,_⟩:=D.b
 rw [hb];simp
theorem RrAt.le {h0 h h':Hp}{g:Nat}{W:List Wd}{s:RS}(D:RrAt h0 h g W s)(l:h.le h'):RrAt h0 h' g W s:=by
 obtain⟨a,c,i,hb,hS,hi,hw⟩:=D.b
 exact⟨⟨a,c,i,l g _ hb,hS,hi,hw⟩,Hp.le_trans D.l l,D.z,D.f0,D.n,D.w⟩
theorem RrAt.good {h0 h:Hp}{g:Nat}{W:List Wd}{s:RS}(D:RrAt h0 h g W s):s.good:=by
 obtain⟨a,c,i,hb,hS,hi,hw⟩:=D.b
 intro hf
 rw [hw,if_neg hf]
theorem RrAt.c2 {h0 h:Hp}{g:Nat}{W:List Wd}{s:RS}(D:RrAt h0 h g W s):h.cell g (0+2)=some (vi s.deep):=by
 obtain⟨a,c,i,hb,_⟩:=D.b
 exact cell_cells hb rfl
theorem RrAt.c3 {h0 h:Hp}{g:Nat}{W:List Wd}{s:RS}(D:RrAt h0 h g W s):h.cell g (0+3)=some (vi s.f):=by
 obtain⟨a,c,i,hb,_⟩:=D.b
 exact cell_cells hb rfl
theorem RrAt.adv {h0 h:Hp}{g:Nat}{W:List Wd}{s:RS}(D:RrAt h0 h g W s){w:Wd}{r:List Wd}(hs:s.ws=w :: r):∃ i:Nat,h.cell g (0+1)=some (vi i)∧(i:Int)+1≤1001∧∀{K:Hp→Prop},(∀ h',RrAt h0 h' g W ⟨r,s.deep,s.f⟩→Mut (At g) h (At g) h'→K h')→h.store g (0+1) [vi ((i:Int)+1)] K:=by
 obtain⟨a,c,i,hb,hS,hi,hw⟩:=D.b
 have hf:s.f=0:=by
  rcases Decidable.em (s.f=0) with q|q
  ·exact q
  ·rw [hs,if_neg q] at hw;cases hw
 rw [hs,if_pos hf] at hw
 have hlt:i < W.length:=by
  rcases Nat.lt_or_ge i W.length with q|q
  ·exact q
  ·rw [List.drop_eq_nil_of_le q] at hw;cases hw
 have hr:r=W.drop (i+1):=by
  rw [List.drop_eq_getElem_cons hlt] at hw
  exact(List.cons.inj hw).2
 refine⟨i,cell_cells hb rfl,by have:=D.n;omega,fun hK=>?_⟩
 refine store_cells hb (by simp) (hK _ ⟨⟨a,c,i+1,Hp.set_same _ _ _,hS,by omega,?_⟩,le_put D.l D.z _,D.z,D.f0,D.n,D.w⟩ (mut_set _ _ _))
 show r=if s.f=0 then W.drop (i+1) else []
 rw [if_pos hf,hr]
theorem RrAt.put2 {h0 h:Hp}{g:Nat}{W:List Wd}{s:RS}(D:RrAt h0 h g W s){d:Int}{K:Hp→Prop}(hK:∀ h',RrAt h0 h' g W ⟨s.ws,d,s.f⟩→Mut (At g) h (At g) h'→K h'):h.store g (0+2) [vi d] K:=by
 obtain⟨a,c,i,hb,hS,hi,hw⟩:=D.b
 exact store_cells hb (by simp) (hK _ ⟨⟨a,c,i,Hp.set_same _ _ _,hS,hi,hw⟩,le_put D.l D.z _,D.z,D.f0,D.n,D.w⟩ (mut_set _ _ _))
theorem rd_fail_ok {h0 h:Hp}{g:Nat}{W:List Wd}{s:RS}(D:RrAt h0 h g W s){f:Int}(hf:0 < f){R:Value→Hp→Prop}(hK:∀ h',RrAt h0 h' g W (s.fail f)→Mut (At g) h (At g) h'→R (vtup []) h'):CallOK Tryz.prog 90 [vhp g 0,vi f] h R:=by
 refine ok_R_rd_fail ?_
 unfold VC_R_rd_fail
 have gd:=D.good
 refine⟨_,D.c3,fun e=>?_,fun e=>?_⟩
 ·have e:s.f=0:=of_decide_eq_true e
  obtain⟨a,c,i,hb,hS,hi,hw⟩:=D.b
  have ef:s.fail f=⟨[],s.deep,f⟩:=by unfold RS.fail;rw [if_pos e]
  rw [ef] at hK
  refine store_cells hb (by simp) (hK _ ⟨⟨a,c,i,Hp.set_same _ _ _,hS,hi,?_⟩,le_put D.l D.z _,D.z,by show 0≤f;omega,D.n,D.w⟩ (mut_set _ _ _))
  show []=if f=0 then W.drop i else []
  rw [if_neg (by omega)]
 ·have e:s.f≠0:=of_decide_eq_false e
  have ef:s.fail f=s:=by
   unfold RS.fail
   rw [if_neg e,←gd e]
  rw [ef] at hK
  exact hK h D (Mut.of_le (Hp.le_refl _))
def nextW (s:RS):Wd:=s.ws.headD []
theorem rd_next_ok {h0 h:Hp}{g:Nat}{W:List Wd}{s:RS}(D:RrAt h0 h g W s){R:Value→Hp→Prop}(hK:R (vs (bs (nextW s))) h):CallOK Tryz.prog 134 [vhp g 0] h R:=by
 refine ok_R_rd_next ?_
 unfold VC_R_rd_next
 have f0:=D.f0
 unfold nextW at hK
 obtain⟨a,c,i,hb,hS,hi,hw⟩:=D.b
 have c0:h.cell g 0=some (vsl a W.length c):=cell_cells hb rfl
 have c1:h.cell g (0+1)=some (vi i):=cell_cells hb rfl
 have c3:h.cell g (0+3)=some (vi s.f):=cell_cells hb rfl
 refine⟨_,c3,_,fun _=>c1,_,_,_,fun _=>c0,?_⟩
 rw [cor]
 refine⟨fun e=>?_,fun e=>?_⟩
 ·have e:=of_decide_eq_true e
  have:s.ws=[]:=by
   rw [hw]
   split
   ·exact List.drop_eq_nil_of_le (by omega)
   ·rfl
  rw [this] at hK
  exact hK
 ·have e:=of_decide_eq_false e
  have hlt:i < W.length:=by omega
  obtain⟨b,o,ha,hc⟩:=SlP.get1 (SlP.le D.l hS) hlt
  refine⟨_,_,_,c0,_,c1,b,o,⟨ha,by omega,by omega⟩,_,hc,?_⟩
  rw [hw,if_pos (by omega),List.drop_eq_getElem_cons hlt] at hK
  rw [List.getD_eq_getElem?_getD,List.getElem?_eq_getElem hlt]
  exact hK
theorem next_one {s:RS}{w:Wd}(hw:w≠[]):((s.is [w]).1≠[]↔nextW s=w)∧(nextW s=w→∃ r,s.ws=w :: r∧(s.is [w]).2=⟨r,s.deep,s.f⟩)∧(nextW s≠w→(s.is [w]).2=s):=by
 unfold nextW RS.is
 cases h:s.ws with
 | nil=>exact⟨⟨fun q=>absurd rfl q,fun q=>absurd q.symm hw⟩,fun q=>absurd q.symm hw,fun _=>rfl⟩
 | cons v r=>
  by_cases e:v=w
  ·subst e
   refine⟨⟨fun _=>rfl,fun _=>?_⟩,fun _=>⟨r,rfl,?_⟩,fun q=>absurd rfl q⟩
   ·simpa using hw
   ·simp
  ·refine⟨⟨fun q=>?_,fun q=>absurd q e⟩,fun q=>absurd q e,fun _=>?_⟩
   ·simp [e] at q
   ·simp [e]
theorem rd_take_ok {h0 h:Hp}{g:Nat}{W:List Wd}{s:RS}(D:RrAt h0 h g W s){w:Wd}(hw:w≠[]){R:Value→Hp→Prop}(hK:∀ h',RrAt h0 h' g W (s.is [w]).2→Mut (At g) h (At g) h'→R (vb (decide ((s.is [w]).1≠[]))) h'):CallOK Tryz.prog 89 [vhp g 0,vs (bs w)] h R:=by
 refine ok_R_rd_take ?_
 unfold VC_R_rd_take
 obtain⟨n1,n2,n3⟩:=next_one (s:=s) hw
 refine rd_next_ok D ⟨_,rfl,_,rd_eqBs (b:=[]),_,fun _=>rd_neBs,?_⟩
 have hc:(bif decide (nextW s=[]) then true else(!decide (nextW s=w)))=!decide (nextW s=w):=by
  by_cases e:nextW s=[]
  ·rw [decide_eq_true e,decide_eq_false (by rw [e];exact fun h=>hw h.symm)];rfl
  ·rw [decide_eq_false e];rfl
 rw [hc]
 refine⟨fun e=>?_,fun e=>?_⟩
 ·have e:nextW s≠w:=by simpa using e
  have:=hK h (by rw [n3 e];exact D) (Mut.of_le (Hp.le_refl _))
  rw [decide_eq_false (fun q=>e (n1.1 q))] at this
  exact this
 ·have e:nextW s=w:=by simpa using e
  obtain⟨r,hr,hr2⟩:=n2 e
  obtain⟨i,hc,hi,hst⟩:=D.adv hr
  refine⟨_,hc,_,isW (by unfold InR;omega),hst fun h' D' M'=>?_⟩
  have:=hK h' (by rw [hr2];exact D') M'
  rw [decide_eq_true (n1.2 e)] at this
  exact this
theorem rd_must_ok {h0 h:Hp}{g:Nat}{W:List Wd}{s:RS}(D:RrAt h0 h g W s){w:Wd}(hw:w≠[]){R:Value→Hp→Prop}(hK:∀ h',RrAt h0 h' g W (s.must w)→Mut (At g) h (At g) h'→R (vtup []) h'):CallOK Tryz.prog 88 [vhp g 0,vs (bs w)] h R:=by
 refine ok_R_rd_must ?_
 unfold VC_R_rd_must
 unfold RS.must at hK
 refine rd_take_ok D hw fun h2 D2 M2=>⟨_,rfl,fun e=>?_,fun e=>?_⟩
 ·have e:(s.is [w]).1=[]:=by simpa using e
  rw [if_pos e] at hK
  exact rd_fail_ok D2 (by decide) fun h5 D5 M5=>⟨rfl,hK h5 D5 (M2.trans M5)⟩
 ·have e:(s.is [w]).1≠[]:=by simpa using e
  rw [if_neg e] at hK
  exact hK h2 D2 M2
theorem rd_number_ok {h0 h:Hp}{g:Nat}{W:List Wd}{s:RS}(D:RrAt h0 h g W s){most:Int}(hm:0≤most)(hm2:most≤1000000000000){R:Value→Hp→Prop}(hK:∀ h',RrAt h0 h' g W (s.number most).2→Mut (At g) h (At g) h'→R (vi (s.number most).1) h'):CallOK Tryz.prog 92 [vhp g 0,vi most] h R:=by
 refine ok_R_rd_number ?_
 unfold VC_R_rd_number
 have hlen:(nextW s).length≤1000000:=by
  unfold nextW
  cases h:s.ws with
  | nil=>decide
  | cons w r=>
   obtain⟨a,c,i,hb,hS,hi,hw⟩:=D.b
   refine D.w w (List.mem_of_mem_drop (i:=i) ?_)
   rw [h] at hw
   split at hw
   ·rw [←hw];exact List.mem_cons_self ..
   ·cases hw
 have hfail:s.number most=(0,s.fail 4)→CallOK Tryz.prog 90 [vhp g 0,vi 4] h fun v7 h8=>v7=vtup []∧R (vi 0) h8:=by
  intro e
  rw [e] at hK
  exact rd_fail_ok D (by decide) fun h' D' M=>⟨rfl,hK h' D' M⟩
 refine rd_next_ok D ⟨_,rfl,R_natural_ok hlen hm hm2 ⟨_,rfl,fun e=>?_,fun e=>?_⟩⟩
 ·have e:=of_decide_eq_true e
  refine hfail ?_
  unfold RS.number
  unfold nextW at e
  cases h:s.ws with
  | nil=>rfl
  | cons w r=>rw [h] at e;exact if_pos e
 ·have e:=of_decide_eq_false e
  unfold nextW at e ⊢
  cases hws:s.ws with
  | nil=>
   rw [hws] at e
   exact absurd (show natF [] most false < 0 by unfold natF;simp) e
  | cons w r=>
   rw [hws] at e
   have hn:s.number most=(natF w most false,⟨r,s.deep,s.f⟩):=by
    unfold RS.number
    rw [hws]
    exact if_neg e
   rw [hn] at hK
   obtain⟨i,hc,hi,hst⟩:=D.adv hws
   exact⟨_,hc,_,isW (by unfold InR;omega),hst fun h' D' M'=>hK h' D' M'⟩
def inS (s:RS):RS:=if s.deep+1 > 12 then(⟨s.ws,s.deep+1,s.f⟩:RS).fail 2 else⟨s.ws,s.deep+1,s.f⟩
theorem downP_in (p:Ps)(s:RS):downP p s=((p (inS s)).1,⟨(p (inS s)).2.ws,(p (inS s)).2.deep - 1,(p (inS s)).2.f⟩):=rfl
theorem rd_in_ok {h0 h:Hp}{g:Nat}{W:List Wd}{s:RS}(D:RrAt h0 h g W s)(hd0:0≤s.deep)(hd1:s.deep≤1000000){R:Value→Hp→Prop}(hK:∀ h',RrAt h0 h' g W (inS s)→Mut (At g) h (At g) h'→R (vtup []) h'):CallOK Tryz.prog 136 [vhp g 0] h R:=by
 refine ok_R_rd_in ?_
 unfold VC_R_rd_in
 unfold inS at hK
 refine⟨_,D.c2,_,isW (by unfold InR;omega),D.put2 fun h3 D3 M3=>⟨_,D3.c2,fun e=>?_,fun e=>?_⟩⟩
 ·have e:s.deep+1 > 12:=of_decide_eq_true e
  rw [if_pos e] at hK
  exact rd_fail_ok D3 (by decide) fun h' D' M'=>⟨rfl,hK h' D' (M3.trans M')⟩
 ·have e:¬ s.deep+1 > 12:=of_decide_eq_false e
  rw [if_neg e] at hK
  exact hK h3 D3 M3
theorem stuck_fail {s:RS}(hg:s.good)(hf:s.f≠0)(f:Int):s.fail f=s:=by
 unfold RS.fail
 rw [if_neg hf,←hg hf]
theorem stuck_join {s:RS}(hg:s.good)(hf:s.f≠0)(op:Int)(x y:List Nd):(joinP op x y s).2=s:=by
 unfold joinP
 split
 ·exact stuck_fail hg hf 2
 ·rfl
theorem rd_put_ok {h0 h:Hp}{g:Nat}{W:List Wd}{s:RS}(D:RrAt h0 h g W s){op:Int}{ax ay:Option Addr}{nx ny cx cy:Nat}{x y:List Nd}(X:s.f=0→SlP encN h ax nx x∧x.length≤40)(Y:s.f=0→SlP encN h ay ny y∧WfL y∧y.length≤40∧(0 < y.length↔1 < arI op))
  {R:Value→Hp→Prop} (hK:∀ a n c h',RrAt h0 h' g W (joinP op x y s).2→((joinP op x y s).2.f=0→NdAt h h' a n (joinP op x y s).1)→Mut (At g) h (At g) h'→R (vsl a n c) h'):CallOK Tryz.prog 137 [vhp g 0,vi op,vsl ax nx cx,vsl ay ny cy] h R:=by
 refine ok_R_rd_put ?_
 unfold VC_R_rd_put
 have f0:=D.f0
 refine⟨_,D.c3,fun e=>?_,fun e=>?_⟩
 ·have e:s.f≠0:=by have:=of_decide_eq_true e;omega
  rw [stuck_join D.good e] at hK
  exact hK ax nx cx h D (fun q=>absurd q e) (Mut.of_le (Hp.le_refl _))
 have hf:s.f=0:=by have:=of_decide_eq_false e;omega
 obtain⟨SX,hx⟩:=X hf
 obtain⟨SY,WY,hy,hyo⟩:=Y hf
 clear X Y
 obtain rfl:=SX.1
 obtain rfl:=SY.1
 unfold joinP at hK
 refine⟨_,isW (by unfold InR;omega),_,isW (by unfold InR;omega),fun e=>?_,fun e=>?_⟩
 ·have e:=of_decide_eq_true e
  rw [if_pos (by omega)] at hK
  refine rd_fail_ok D (by decide) fun h6 D6 M6=>⟨rfl,hK _ _ _ h6 D6 (fun q=>?_) M6⟩
  unfold RS.fail at q
  rw [if_pos hf] at q
  exact absurd q (by show (2:Int)≠0;decide)
 have e:=of_decide_eq_false e
 rw [if_neg (by omega)] at hK
 simp only at hK
 refine sem_clone elNd SX.2 (flatMap_length encN_len x) (one_nds x) (by omega) (by omega) fun a3 c3 h2 V2=>⟨_,_,_,rfl,?_⟩
 refine⟨fun vs hh=>∃(i:Nat) (a:Option Addr) (c:Nat),vs=[vsl a (x++(y.take i).map (shN x.length)).length c,vi i]∧i≤y.length∧NdVec h hh a c (x++(y.take i).map (shN x.length)),fun vs hh=>y.length - (vint vs 1).toNat,
  ⟨0,a3,c3,by simp,Nat.zero_le _,by have V3:NdVec h h2 a3 c3 x:=V2;simpa using V3⟩,?_⟩
 rintro vs hh ⟨i,a4,c4,rfl,hi,V⟩
 have hlen:(x++(y.take i).map (shN x.length)).length=x.length+i:=by simp;omega
 refine⟨_,_,_,_,rfl,fun g'=>?_,fun g'=>?_⟩
 ·have hlt:i < y.length:=by have:=of_decide_eq_true g';omega
  have hxx:y[i]?=some y[i]:=List.getElem?_eq_getElem hlt
  have wn:=WY _ _ hxx
  obtain⟨b,o,ha,hr⟩:=(SY.le V.le0).get encN_len (by decide) hxx
  have tk:(y.take (i+1)).map (shN x.length)=(y.take i).map (shN x.length)++[shN x.length y[i]]:=by
   rw [List.take_succ_eq_append_getElem hlt,List.map_append];rfl
  generalize y[i]=z at *
  refine⟨b,o,⟨ha,by omega,by omega⟩,_,_,_,_,_,_,hr,R_Arity_ok ⟨_,rfl,?_⟩⟩
  intro J34
  have hJ:∀ x',x'=(shN (x.length:Int) z).x→J34 x':=by
   intro x' hx'
   unfold J34
   intro J45
   have h45:∀ y',y'=(shN (x.length:Int) z).y→J45 y':=by
    rintro y' rfl
    subst hx'
    intro b49 hb49 h50
    refine V.app (x:=shN (x.length:Int) z) elNd encN_len one_encN (by omega) (by omega) hb49 fun a' c' h' V'=>⟨_,_,_,rfl,_,isW (by unfold InR;omega),⟨i+1,a',c',?_,by omega,?_⟩,by simp [vint];omega⟩
    ·rw [tk,←List.append_assoc];rfl
    ·rw [tk,←List.append_assoc];exact V'
   clear_value J45
   refine⟨fun q=>?_,fun q=>?_⟩
   ·have q:=of_decide_eq_true q
    have hy2:=wn.y (by omega)
    refine⟨_,isW (by unfold InR;omega),h45 _ ?_⟩
    unfold shN
    simp only
    rw [if_pos (show 1 < arI z.op by omega)]
   ·have q:=of_decide_eq_false q
    refine h45 _ ?_
    unfold shN
    simp only
    rw [if_neg (show ¬ 1 < arI z.op by omega)]
  clear_value J34
  refine⟨fun q=>?_,fun q=>?_⟩
  ·have q:=of_decide_eq_true q
   have hX:=wn.x (by omega)
   refine⟨_,isW (by unfold InR;omega),hJ _ ?_⟩
   unfold shN
   simp only
   rw [if_pos (show 0 < arI z.op by omega)]
  ·have q:=of_decide_eq_false q
   refine hJ _ ?_
   unfold shN
   simp only
   rw [if_neg (show ¬ 0 < arI z.op by omega)]
 ·have hge:i=y.length:=by have:=of_decide_eq_false g';omega
  subst hge
  rw [List.take_of_length_le (Nat.le_refl _)] at V hlen ⊢
  refine⟨_,isW (by unfold InR;omega),?_⟩
  intro J60
  have hJ:∀ y',y'=(if 1 < arI op then((x.length+y.length:Nat):Int) - 1 else 0)→J60 y':=by
   rintro y' rfl b66 hb66
   intro h67
   refine V.app (x:=⟨op,(x.length:Int) - 1,if 1 < arI op then((x.length+y.length:Nat):Int) - 1 else 0,0,(0,0)⟩) elNd encN_len one_encN (by omega) (by omega) hb66 fun a' c' h' V'=>⟨_,_,_,rfl,?_⟩
   have V'':NdVec h h' a' c' (joinL op x y):=V'
   refine hK a' _ c' h' (D.le V''.le0) (fun _=>⟨V''.slp encN_len (by decide),fun b o e=>?_⟩) (Mut.of_le V''.le0)
   obtain rfl:=(OwnV.own V'').at0 b o e
   exact OwnV.new V'' b e
  clear_value J60
  refine⟨fun q=>?_,fun q=>?_⟩
  ·have q:=of_decide_eq_true q
   refine⟨_,isW (by unfold InR;omega),hJ _ ?_⟩
   rw [if_pos (hyo.1 (by omega)),hlen]
  ·have q:=of_decide_eq_false q
   refine hJ _ ?_
   rw [if_neg (fun h=>by have:=hyo.2 h;omega)]
def RReads (k:Int)(P:Ps)(n:Nat):Prop:=∀{h0 h:Hp} {g:Nat} {W:List Wd} {s:RS},RrAt h0 h g W s→SOk n s→∀{R:Value→Hp→Prop},(∀ a m c h',RrAt h0 h' g W (P s).2→((P s).2.f=0→NdAt h h' a m (P s).1)→Mut (At g) h (At g) h'→R (vsl a m c) h')→CallOK Tryz.prog 91 [vhp g 0,vi k] h R
theorem stuck {P:Ps}{n:Nat}(kp:KP P n){s:RS}(S:SOk n s)(hf:s.f≠0):(P s).2=s:=by
 have k:=kp s S.good (Nat.le_of_lt S.len)
 have h1:=S.good hf
 have h2:=k.len
 have h3:=k.deep
 have h4:=k.fst hf
 obtain⟨ws,d,f⟩:=s
 simp only at h1 h2 h3 h4 hf ⊢
 subst h1
 have h5:(P ⟨[],d,f⟩).2.ws=[]:=List.length_eq_zero_iff.1 (by simpa using h2)
 generalize (P ⟨[],d,f⟩).2=t at *
 obtain⟨ws,d',f'⟩:=t
 simp only at h3 h4 h5
 rw [h3,h4,h5]
theorem level_rows_ok {k:Int}(hk:k=0∨k=1∨k=4∨k=5){P:Ps}{n:Nat}(kp:KP P n)(H:∀{h0 h:Hp} {g:Nat} {W:List Wd} {s:RS},RrAt h0 h g W s→SOk n s→∀{R:Value→Hp→Prop},(∀ a m c h',RrAt h0 h' g W (P s).2→((P s).2.f=0→NdAt h h' a m (P s).1)→Mut (At g) h (At g) h'→R (vsl a m c) h')→CallOK Tryz.prog 135 [vhp g 0,vi k] h R):RReads k P n:=by
 intro h0 h g W s D S R hK
 refine ok_R_rd_level ?_
 unfold VC_R_rd_level
 have f0:=D.f0
 refine⟨_,D.c3,fun e=>?_,fun e=>?_⟩
 ·have e:s.f≠0:=by have:=of_decide_eq_true e;omega
  rw [stuck kp S e] at hK
  exact hK _ _ _ h D (fun q=>absurd q e) (Mut.of_le (Hp.le_refl _))
 intro J7
 have h7:J7 true:=⟨fun _=>H D S fun a m c h' D' N' M'=>⟨_,_,_,rfl,hK a m c h' D' N' M'⟩,fun q=>by cases q⟩
 clear_value J7
 refine⟨fun e=>by rw [e];exact h7,fun e1=>⟨fun e=>by rw [e];exact h7,fun e2=>⟨fun e=>by rw [e];exact h7,fun e3=>?_⟩⟩⟩
 have e1:=of_decide_eq_false e1
 have e2:=of_decide_eq_false e2
 have e3:=of_decide_eq_false e3
 rw [decide_eq_true (show k=5 by omega)]
 exact h7
theorem level_cmp_ok {P:Ps}{n:Nat}(kp:KP P n)(H:∀{h0 h:Hp} {g:Nat} {W:List Wd} {s:RS},RrAt h0 h g W s→SOk n s→∀{R:Value→Hp→Prop},(∀ a m c h',RrAt h0 h' g W (P s).2→((P s).2.f=0→NdAt h h' a m (P s).1)→Mut (At g) h (At g) h'→R (vsl a m c) h')→CallOK Tryz.prog 138 [vhp g 0] h R):RReads 3 P n:=by
 intro h0 h g W s D S R hK
 refine ok_R_rd_level ?_
 unfold VC_R_rd_level
 have f0:=D.f0
 refine⟨_,D.c3,fun e=>?_,fun e=>?_⟩
 ·have e:s.f≠0:=by have:=of_decide_eq_true e;omega
  rw [stuck kp S e] at hK
  exact hK _ _ _ h D (fun q=>absurd q e) (Mut.of_le (Hp.le_refl _))
 refine⟨fun e=>absurd e (by decide),fun _=>⟨fun e=>absurd e (by decide),fun _=>⟨fun e=>absurd e (by decide),fun _=>⟨fun e=>absurd e (by decide),fun _=>?_⟩⟩⟩⟩
 refine⟨fun e=>absurd e (by decide),fun _=>⟨fun e=>absurd e (by decide),fun _=>⟨fun _=>H D S fun a m c h' D' N' M'=>⟨_,_,_,rfl,hK a m c h' D' N' M'⟩,fun e=>absurd e (by decide)⟩⟩⟩
theorem level_rest_ok {P:Ps}{n:Nat}(kp:KP P n)(H:∀{h0 h:Hp} {g:Nat} {W:List Wd} {s:RS},RrAt h0 h g W s→SOk n s→s.f=0→∀{R:Value→Hp→Prop},(∀ a m c h',RrAt h0 h' g W (P s).2→((P s).2.f=0→NdAt h h' a m (P s).1)→Mut (At g) h (At g) h'→R (vsl a m c) h')→CallOK Tryz.prog 139 [vhp g 0] h R):RReads 7 P n:=by
 intro h0 h g W s D S R hK
 refine ok_R_rd_level ?_
 unfold VC_R_rd_level
 have f0:=D.f0
 refine⟨_,D.c3,fun e=>?_,fun e=>?_⟩
 ·have e:s.f≠0:=by have:=of_decide_eq_true e;omega
  rw [stuck kp S e] at hK
  exact hK _ _ _ h D (fun q=>absurd q e) (Mut.of_le (Hp.le_refl _))
 have hf:s.f=0:=by have:=of_decide_eq_false e;omega
 refine⟨fun e=>absurd e (by decide),fun _=>⟨fun e=>absurd e (by decide),fun _=>⟨fun e=>absurd e (by decide),fun _=>⟨fun e=>absurd e (by decide),fun _=>?_⟩⟩⟩⟩
 refine⟨fun e=>absurd e (by decide),fun _=>⟨fun e=>absurd e (by decide),fun _=>⟨fun e=>absurd e (by decide),fun _=>H D S hf fun a m c h' D' N' M'=>⟨_,_,_,rfl,hK a m c h' D' N' M'⟩⟩⟩⟩
theorem is_oneR {s:RS}{w:Wd}(hw:w≠[])(h:(s.is [w]).1=[]):(s.is [w]).2=s:=by
 obtain⟨n1,n2,n3⟩:=next_one (s:=s) hw
 exact n3 fun q=>absurd h (n1.2 q)
def signP (w:Wd)(op:Int)(U A:Ps):Ps:=fun s=>if (s.is [w]).1=[] then A s else joinP op (downP U (s.is [w]).2).1 [] (downP U (s.is [w]).2).2
theorem level_sign_ok {k:Int}{w:Wd}{op:Int}(hk:(k=2∧w=wNot∧op=4)∨(k=6∧w=wMinus∧op=3)){U A:Ps}{n:Nat}(ku:KP U n)(kp:KP (signP w op U A) (n+1))(FU:RReads k U n)(FA:RReads (k+1) A (n+1)):RReads k (signP w op U A) (n+1):=by
 intro h0 h g W s D S R hK
 refine ok_R_rd_level ?_
 unfold VC_R_rd_level
 have f0:=D.f0
 refine⟨_,D.c3,fun e=>?_,fun e=>?_⟩
 ·have e:s.f≠0:=by have:=of_decide_eq_true e;omega
  rw [stuck kp S e] at hK
  exact hK _ _ _ h D (fun q=>absurd q e) (Mut.of_le (Hp.le_refl _))
 have hw:w≠[]:=by rcases hk with ⟨_,rfl,_⟩|⟨_,rfl,_⟩<;>decide
 have hop:arI op=1:=by rcases hk with ⟨_,_,rfl⟩|⟨_,_,rfl⟩<;>decide
 have hk2:k=2∨k=6:=by rcases hk with ⟨h,_⟩|⟨h,_⟩<;>omega
 have io:=@is_oneR s w hw
 have gi:=goes_is S.good [w]
 have tk:=@taken s [w]
 unfold signP at hK
 refine⟨fun e=>absurd (of_decide_eq_true e) (by omega),fun _=>⟨fun e=>absurd (of_decide_eq_true e) (by omega),fun _=>⟨fun e=>absurd (of_decide_eq_true e) (by omega),fun _=>⟨fun e=>absurd (of_decide_eq_true e) (by omega),fun _=>?_⟩⟩⟩⟩
 intro J14
 have h14:J14 true:=by
  refine⟨fun _=>?_,fun q=>by cases q⟩
  intro J18
  have h18:J18 (bs w) op:=by
   refine rd_take_ok D hw fun h39 D39 M39=>⟨_,rfl,fun e=>?_,fun e=>?_⟩
   ·have e:(s.is [w]).1=[]:=by simpa using e
    rw [if_pos e] at hK
    rw [io e] at D39
    exact⟨_,isW (by unfold InR;omega),FA D39 S fun a m c h' D' N' M'=>⟨_,_,_,rfl,hK a m c h' D' (fun q=>(N' q).base (M39.up D39.al)) (M39.trans M')⟩⟩
   ·have e:(s.is [w]).1≠[]:=by simpa using e
    rw [if_neg e] at hK
    have tk:=tk e
    have S1:=S.goes gi
    have d0:=S1.d0
    have d1:=S1.d1
    have Sn:SOk n (s.is [w]).2:=⟨S1.good,by have:=S.len;omega,S1.big,d0,d1⟩
    generalize (s.is [w]).2=s1 at *
    have hdp:=gi.deep
    have sd1:=S.d1
    refine rd_in_ok D39 d0 (by omega) fun h47 D47 M47=>⟨rfl,?_⟩
    have Gin:(inS s1).ws.length≤s1.ws.length∧(inS s1).good∧(inS s1).deep=s1.deep+1:=by
     unfold inS
     split
     ·exact⟨Nat.zero_le _,RS.fail_good _ _,rfl⟩
     ·exact⟨Nat.le_refl _,Sn.good,rfl⟩
    have Si:SOk n (inS s1):=⟨Gin.2.1,Nat.lt_of_le_of_lt Gin.1 Sn.len,Nat.le_trans Gin.1 Sn.big,by rw [Gin.2.2];omega,by rw [Gin.2.2];have:=Gin.1;omega⟩
    have ki:=ku _ Si.good (Nat.le_of_lt Si.len)
    rw [downP_in] at hK
    refine FU D47 Si fun a m c h49 D49 N49 M49=>⟨_,_,_,rfl,?_⟩
    have hdd:=ki.deep
    have hm:m=m:=rfl
    refine⟨_,D49.c2,_,isW (by unfold InR;omega),D49.put2 fun h53 D53 M53=>?_⟩
    have M53':=(M39.trans M47).trans (M49.trans M53)
    refine rd_put_ok D53 (x:=(U (inS s1)).1) (y:=[]) (fun q=>⟨((N49 q).mut D47.al M53).s,ki.le⟩) (fun q=>⟨(nd_nil h53 h53).s,wf_nil,by simp,by simp [hop]⟩) fun a m c h' D' N' M'=>⟨_,_,_,rfl,?_⟩
    exact hK a m c h' D' (fun q=>(N' q).base (M53'.up D53.al)) (M53'.trans M')
  clear_value J18
  rcases hk with ⟨rfl,rfl,rfl⟩|⟨rfl,rfl,rfl⟩
  ·exact⟨fun e=>absurd e (by decide),fun _=>h18⟩
  ·exact⟨fun _=>h18,fun e=>absurd e (by decide)⟩
 clear_value J14
 refine⟨fun e=>by rw [e];exact h14,fun e=>?_⟩
 rw [decide_eq_true (show k=6 by have:=of_decide_eq_false e;omega)]
 exact h14
theorem next_any {s:RS}{L:List Wd}(hL:[] ∉ L):(nextW s ∈ L→∃ r,s.ws=nextW s :: r∧s.is L=(nextW s,⟨r,s.deep,s.f⟩))∧(nextW s ∉ L→s.is L=([],s)):=by
 unfold nextW RS.is
 cases h:s.ws with
 | nil=>exact⟨fun q=>absurd q hL,fun _=>rfl⟩
 | cons v r=>exact⟨fun q=>⟨r,rfl,if_pos q⟩,fun q=>if_neg q⟩
def rrN (h:Hp)(g:Nat):Nat:=match h.cell g (0+3),h.cell g 0,h.cell g (0+1) with
 | some (.int _ f),some (.slice _ n _),some (.int _ i)=>if f=0 then 1+(n - i.toNat) else 0
 | _,_,_=>0
theorem RrAt.rn {h0 h:Hp}{g:Nat}{W:List Wd}{s:RS}(D:RrAt h0 h g W s):rrN h g=if s.f=0 then 1+s.ws.length else 0:=by
 obtain⟨a,c,i,hb,hS,hi,hw⟩:=D.b
 have c0:h.cell g 0=some (vsl a W.length c):=cell_cells hb rfl
 have c1:h.cell g (0+1)=some (vi i):=cell_cells hb rfl
 have c3:h.cell g (0+3)=some (vi s.f):=cell_cells hb rfl
 unfold rrN
 rw [c0,c1,c3]
 simp only
 split
 ·rename_i hf
  rw [hw,if_pos hf,List.length_drop,Int.toNat_natCast]
 ·rfl
theorem nd_one {hB h:Hp}{b:Nat}(hb:hB b=none)(n:Nd):NdAt hB (h.set b (cellsO (encN n) 83)) (some ⟨b,0,none⟩) 1 [n]:=
 ⟨⟨rfl,(OwnS.new h b 83 (sz:=6) (n:=1) (encN n) rfl (by decide)).row⟩,fun b' o e=>by cases e;exact hb⟩
def refOp (k:Int)(w:Wd):Int:=if w=wOr then(if k=0 then 10 else 0) else if w=wAnd then(if k=1 then 9 else 0) else if w=wPlus then(if k=4 then 6 else 0) else if w=wMinus then(if k=4 then 7 else 0) else if w=wStar then(if k=5 then 8 else 0) else 0
def RowK (k:Int)(ops:List (Wd × Int)):Prop:=(k=0∧ops=[(wOr,10)])∨(k=1∧ops=[(wAnd,9)])∨(k=4∧ops=[(wPlus,6),(wMinus,7)])∨(k=5∧ops=[(wStar,8)])
theorem refOp_eq {k:Int}{ops:List (Wd × Int)}(hk:RowK k ops)(w:Wd):refOp k w=if w ∈ ops.map (·.1) then opOf ops w else 0:=by
 by_cases h1:w=wOr
 ·subst h1;rcases hk with ⟨rfl,rfl⟩|⟨rfl,rfl⟩|⟨rfl,rfl⟩|⟨rfl,rfl⟩<;>decide
 by_cases h2:w=wAnd
 ·subst h2;rcases hk with ⟨rfl,rfl⟩|⟨rfl,rfl⟩|⟨rfl,rfl⟩|⟨rfl,rfl⟩<;>decide
 by_cases h3:w=wPlus
 ·subst h3;rcases hk with ⟨rfl,rfl⟩|⟨rfl,rfl⟩|⟨rfl,rfl⟩|⟨rfl,rfl⟩<;>decide
 by_cases h4:w=wMinus
 ·subst h4;rcases hk with ⟨rfl,rfl⟩|⟨rfl,rfl⟩|⟨rfl,rfl⟩|⟨rfl,rfl⟩<;>decide
 by_cases h5:w=wStar
 ·subst h5;rcases hk with ⟨rfl,rfl⟩|⟨rfl,rfl⟩|⟨rfl,rfl⟩|⟨rfl,rfl⟩<;>decide
 have e:refOp k w=0:=by unfold refOp;rw [if_neg h1,if_neg h2,if_neg h3,if_neg h4,if_neg h5]
 rw [e,if_neg]
 intro hm
 rcases hk with ⟨_,rfl⟩|⟨_,rfl⟩|⟨_,rfl⟩|⟨_,rfl⟩
 ·exact h1 (by simpa using hm)
 ·exact h2 (by simpa using hm)
 ·have:w=wPlus∨w=wMinus:=by simpa using hm
  rcases this with q|q
  ·exact h3 q
  ·exact h4 q
 ·exact h5 (by simpa using hm)
theorem RowK.opr {k:Int}{ops:List (Wd × Int)}(hk:RowK k ops):(∀ q ∈ ops,Opr q.2)∧(∀ q ∈ ops,1 < arI q.2∧q.2≠0)∧([]:Wd) ∉ ops.map (·.1)∧(k=0∨k=1∨k=4∨k=5):=by
 rcases hk with ⟨rfl,rfl⟩|⟨rfl,rfl⟩|⟨rfl,rfl⟩|⟨rfl,rfl⟩<;>exact⟨by decide,by decide,by decide,by decide⟩
theorem opOf_in {ops:List (Wd × Int)}{Q:Int→Prop}(ho:∀ q ∈ ops,Q q.2){w:Wd}(hw:w ∈ ops.map (·.1)):Q (opOf ops w):=by
 unfold opOf
 cases h:ops.find? (fun p=>p.1=w) with
 | none=>
  obtain⟨q,hq,rfl⟩:=List.mem_map.1 hw
  have:=List.find?_eq_none.1 h q hq
  simp at this
 | some q=>exact ho q (List.mem_of_find?_eq_some h)
theorem rd_rows_ok {k:Int}{ops:List (Wd × Int)}(hk:RowK k ops){P:Ps}{n:Nat}(F:RReads (k+1) P n)(kp:KP P n){h0 h:Hp}{g:Nat}{W:List Wd}{s:RS}(D:RrAt h0 h g W s)(S:SOk n s){R:Value→Hp→Prop}
  (hK:∀ a m c h',RrAt h0 h' g W (rowP P ops s).2→((rowP P ops s).2.f=0→NdAt h h' a m (rowP P ops s).1)→Mut (At g) h (At g) h'→R (vsl a m c) h'):CallOK Tryz.prog 135 [vhp g 0,vi k] h R:=by
 refine ok_R_rd_rows ?_
 unfold VC_R_rd_rows
 obtain⟨ho,ho2,hnil,hk4⟩:=hk.opr
 have kk:=kp s S.good (Nat.le_of_lt S.len)
 have Sx:=S.goes kk.goes
 have kx:=kk.wf
 have kl:=kk.le
 have kp1:=kk.pos
 unfold rowP at hK
 refine⟨_,isW (by unfold InR;omega),F D S fun a4 m4 c4 h3 D3 N3 M3=>⟨_,_,_,rfl,?_⟩⟩
 generalize P s=X at *
 obtain⟨x0,s0⟩:=X
 simp -zeta only at hK D3 N3 Sx kx kl kp1 ⊢
 intro J47
 refine⟨fun vs' hh=>∃(j:Nat) (x:List Nd) (t:RS) (a:Option Addr) (m c:Nat),vs'=[vsl a m c]∧RrAt h0 hh g W t∧(t.f=0→NdAt h hh a m x)∧Mut (At g) h (At g) hh∧SOk n t∧1≤x.length∧x.length≤40∧WfL x∧t.ws.length < j∧rowL P ops j x t=rowL P ops (s0.ws.length+1) x0 s0,fun _ hh=>rrN hh g,⟨_,x0,s0,a4,m4,c4,rfl,D3,N3,M3,Sx,kp1,kl,kx,Nat.lt_succ_self _,rfl⟩,?_⟩
 rintro vs' hh ⟨j,x,t,a,m,c,rfl,Dt,Nt,Mt,St,hx1,hx,Wx,hj,hrow⟩
 obtain⟨j,rfl⟩:∃ j',j=j'+1:=⟨j - 1,by omega⟩
 have hst:rowL P ops (j+1) x t=if t.f≠0 then(x,t) else if (t.is (ops.map (·.1))).1=[] then(x,(t.is (ops.map (·.1))).2) else rowL P ops j (joinP (opOf ops (t.is (ops.map (·.1))).1) x (P (t.is (ops.map (·.1))).2).1 (P (t.is (ops.map (·.1))).2).2).1 (joinP (opOf ops (t.is (ops.map (·.1))).1) x (P (t.is (ops.map (·.1))).2).1 (P (t.is (ops.map (·.1))).2).2).2:=rfl
 rw [hst] at hrow
 clear hst
 refine⟨_,_,_,rfl,_,Dt.c3,fun e=>?_,fun e=>?_⟩
 ·have f0:¬ t.f≠0:=fun h=>h (of_decide_eq_true e)
  rw [if_neg f0] at hrow
  have Nt:=Nt (Decidable.not_not.1 f0)
  have hrt:=Dt.rn
  rw [if_pos (Decidable.not_not.1 f0)] at hrt
  obtain⟨ny,nn⟩:=next_any (s:=t) hnil
  refine rd_next_ok Dt ⟨_,rfl,?_⟩
  intro J33
  have key:J33 (refOp k (nextW t)):=by
   have hr:=refOp_eq hk (nextW t)
   by_cases hm:nextW t ∈ ops.map (·.1)
   ·rw [if_pos hm] at hr
    obtain⟨r,hws,his⟩:=ny hm
    have h2:=opOf_in (Q:=fun o=>1 < arI o∧o≠0) ho2 hm
    have hop:=opOf_opr ho hm
    rw [his] at hrow
    simp only at hrow
    have hne:nextW t≠[]:=fun q=>hnil (by rw [←q];exact hm)
    rw [if_neg hne] at hrow
    rw [hr]
    have gi:=goes_is St.good (ops.map (·.1))
    rw [his] at gi
    simp only at gi
    have S1:=St.goes gi
    generalize opOf ops (nextW t)=op at *
    refine⟨fun q=>absurd (of_decide_eq_true q) h2.2,fun _=>?_⟩
    obtain⟨i,hc,hi,hsto⟩:=Dt.adv hws
    have kn:=kp _ S1.good (Nat.le_of_lt S1.len)
    refine⟨_,hc,_,isW (by unfold InR;omega),hsto fun h39 D39 M39=>⟨_,isW (by unfold InR;omega),F D39 S1 fun a43 m43 c43 h42 D42 N42 M42=>⟨_,_,_,rfl,?_⟩⟩⟩
    have kj:Keeps (joinP op x (P ⟨r,t.deep,t.f⟩).1 (P ⟨r,t.deep,t.f⟩).2) t:=keeps_join hop (gi.trans kn.goes) Wx kn.wf hx1 (fun _=>kn.pos)
    have kn1:=kn.wf
    have kn2:=kn.le
    have kn3:=kn.len
    have kn4:=kn.pos
    have kj2:(joinP op x (P ⟨r,t.deep,t.f⟩).1 (P ⟨r,t.deep,t.f⟩).2).2.ws.length≤(P ⟨r,t.deep,t.f⟩).2.ws.length:=by
     unfold joinP
     split
     ·exact Nat.zero_le _
     ·exact Nat.le_refl _
    simp only at kn3
    generalize P ⟨r,t.deep,t.f⟩=Y at *
    obtain⟨y1,s2⟩:=Y
    simp only at hrow D42 N42 kj kn1 kn2 kn3 kn4 kj2 ⊢
    have M42':=Mt.trans M39
    refine rd_put_ok D42 (x:=x) (y:=y1) (fun q=>⟨((Nt.mut D.al M39).mut D.al M42).s,hx⟩) (fun q=>⟨(N42 q).s,kn1,kn2,⟨fun _=>h2.1,fun _=>kn4⟩⟩) fun a46 m46 c46 h45 D45 N45 M45=>⟨_,_,_,rfl,⟨j,_,_,a46,m46,c46,rfl,D45,fun q=>(N45 q).base ((M42'.trans M42).up D42.al),(M42'.trans M42).trans M45,St.goes kj.goes,kj.pos,kj.le,kj.wf,?_,hrow⟩,?_⟩
    ·rw [hws] at hj
     simp at hj
     omega
    ·have h45n:=D45.rn
     show rrN h45 g < rrN hh g
     rw [hrt,h45n,hws]
     simp
     split<;>omega
   ·rw [if_neg hm] at hr
    rw [nn hm] at hrow
    simp only at hrow
    rw [if_pos trivial] at hrow
    rw [hr]
    refine⟨fun _=>?_,fun q=>absurd q (by decide)⟩
    rw [←hrow] at hK
    exact hK a m c hh Dt (fun _=>Nt) Mt
  clear_value J33
  unfold refOp at key
  refine⟨_,rd_eqBs (b:=wOr),fun e1=>?_,fun e1=>⟨_,rd_eqBs (b:=wAnd),fun e2=>?_,fun e2=>⟨_,rd_eqBs (b:=wPlus),fun e3=>?_,fun e3=>⟨_,rd_eqBs (b:=wMinus),fun e4=>?_,fun e4=>⟨_,rd_eqBs (b:=wStar),fun e5=>?_,fun e5=>?_⟩⟩⟩⟩⟩
  ·rw [if_pos (of_decide_eq_true e1)] at key
   exact⟨fun q=>by rw [if_pos (of_decide_eq_true q)] at key;exact key,fun q=>by rw [if_neg (of_decide_eq_false q)] at key;exact key⟩
  ·rw [if_neg (of_decide_eq_false e1),if_pos (of_decide_eq_true e2)] at key
   exact⟨fun q=>by rw [if_pos (of_decide_eq_true q)] at key;exact key,fun q=>by rw [if_neg (of_decide_eq_false q)] at key;exact key⟩
  ·rw [if_neg (of_decide_eq_false e1),if_neg (of_decide_eq_false e2),if_pos (of_decide_eq_true e3)] at key
   exact⟨fun q=>by rw [if_pos (of_decide_eq_true q)] at key;exact key,fun q=>by rw [if_neg (of_decide_eq_false q)] at key;exact key⟩
  ·rw [if_neg (of_decide_eq_false e1),if_neg (of_decide_eq_false e2),if_neg (of_decide_eq_false e3),if_pos (of_decide_eq_true e4)] at key
   exact⟨fun q=>by rw [if_pos (of_decide_eq_true q)] at key;exact key,fun q=>by rw [if_neg (of_decide_eq_false q)] at key;exact key⟩
  ·rw [if_neg (of_decide_eq_false e1),if_neg (of_decide_eq_false e2),if_neg (of_decide_eq_false e3),if_neg (of_decide_eq_false e4),if_pos (of_decide_eq_true e5)] at key
   exact⟨fun q=>by rw [if_pos (of_decide_eq_true q)] at key;exact key,fun q=>by rw [if_neg (of_decide_eq_false q)] at key;exact key⟩
  ·rw [if_neg (of_decide_eq_false e1),if_neg (of_decide_eq_false e2),if_neg (of_decide_eq_false e3),if_neg (of_decide_eq_false e4),if_neg (of_decide_eq_false e5)] at key
   exact key
 ·have f0:t.f≠0:=of_decide_eq_false e
  rw [if_pos f0] at hrow
  rw [←hrow] at hK
  exact hK a m c hh Dt Nt Mt
def cmpW:List Wd:=[wLt,wGt,wLe,wGe,wEq,wNe,wIs]
theorem rd_compared_ok {P:Ps}{n:Nat}(F:RReads 4 P n)(kp:KP P n){h0 h:Hp}{g:Nat}{W:List Wd}{s:RS}(D:RrAt h0 h g W s)(S:SOk n s){R:Value→Hp→Prop}
  (hK:∀ a m c h',RrAt h0 h' g W (cmpP P s).2→((cmpP P s).2.f=0→NdAt h h' a m (cmpP P s).1)→Mut (At g) h (At g) h'→R (vsl a m c) h'):CallOK Tryz.prog 138 [vhp g 0] h R:=by
 refine ok_R_rd_compared ?_
 unfold VC_R_rd_compared
 have kk:=kp s S.good (Nat.le_of_lt S.len)
 have Sx:=S.goes kk.goes
 have kx:=kk.wf
 have kl:=kk.le
 have kp1:=kk.pos
 unfold cmpP at hK
 simp only at hK
 refine F D S fun a3 m3 c3 h2 D2 N2 M2=>⟨_,_,_,rfl,?_⟩
 generalize P s=X at *
 obtain⟨x,s0⟩:=X
 simp -zeta only at hK D2 N2 Sx kx kl kp1 ⊢
 have hnil:([]:Wd) ∉ cmpW:=by decide
 have hcw:[wLt,wGt,wLe,wGe,wEq,wNe,wIs]=cmpW:=rfl
 rw [hcw] at hK
 obtain⟨ny,nn⟩:=next_any (s:=s0) hnil
 refine rd_next_ok D2 ⟨_,rfl,_,rd_neBs (b:=wLt),_,fun _=>rd_neBs (b:=wGt),_,fun _=>rd_neBs (b:=wLe),_,fun _=>rd_neBs (b:=wGe),_,fun _=>rd_neBs (b:=wEq),_,fun _=>rd_neBs (b:=wNe),_,fun _=>rd_neBs (b:=wIs),?_⟩
 have hmem:nextW s0 ∈ cmpW↔¬((((((nextW s0≠wLt∧nextW s0≠wGt)∧nextW s0≠wLe)∧nextW s0≠wGe)∧nextW s0≠wEq)∧nextW s0≠wNe)∧nextW s0≠wIs):=by
  generalize nextW s0=w
  unfold cmpW
  constructor
  ·intro hm
   have:w=wLt∨w=wGt∨w=wLe∨w=wGe∨w=wEq∨w=wNe∨w=wIs:=by simpa using hm
   rintro⟨⟨⟨⟨⟨⟨q1,q2⟩,q3⟩,q4⟩,q5⟩,q6⟩,q7⟩
   rcases this with q|q|q|q|q|q|q
   ·exact q1 q
   ·exact q2 q
   ·exact q3 q
   ·exact q4 q
   ·exact q5 q
   ·exact q6 q
   ·exact q7 q
  ·intro hm
   refine Decidable.byContradiction fun q=>hm ?_
   have:¬(w=wLt∨w=wGt∨w=wLe∨w=wGe∨w=wEq∨w=wNe∨w=wIs):=fun r=>q (by simpa using r)
   simp only [not_or] at this
   obtain⟨q1,q2,q3,q4,q5,q6,q7⟩:=this
   exact⟨⟨⟨⟨⟨⟨q1,q2⟩,q3⟩,q4⟩,q5⟩,q6⟩,q7⟩
 simp -zeta only [cnot,cand]
 refine⟨fun e=>?_,fun e=>?_⟩
 ·have hm:nextW s0 ∉ cmpW:=fun q=>hmem.1 q (of_decide_eq_true e)
  rw [nn hm] at hK
  simp only at hK
  rw [if_neg (by decide),if_neg (by decide),if_neg (by decide),if_neg (by decide),if_neg (by decide),if_neg (by decide),if_neg (by decide)] at hK
  exact hK a3 m3 c3 h2 D2 N2 M2
 have hm:nextW s0 ∈ cmpW:=hmem.2 (of_decide_eq_false e)
 obtain⟨r,hws,his⟩:=ny hm
 have gi:=goes_is Sx.good cmpW
 rw [his] at gi hK
 simp only at hK gi
 have S1:=Sx.goes gi
 have hf0:s0.f=0:=by
  rcases Decidable.em (s0.f=0) with q|q
  ·exact q
  ·rw [Sx.good q] at hws;cases hws
 have N2:=N2 hf0
 obtain⟨i,hc,hi,hsto⟩:=D2.adv hws
 have k2:=kp _ S1.good (Nat.le_of_lt S1.len)
 have kw:=k2.wf
 have kl2:=k2.le
 have kq2:=k2.pos
 refine⟨_,hc,_,isW (by unfold InR;omega),hsto fun h17 D17 M17=>?_⟩
 have N17:=N2.mut D.al M17
 have M17':=M2.trans M17
 generalize nextW s0=w at *
 generalize (⟨r,s0.deep,s0.f⟩:RS)=s1 at *
 have hm2:w=wLt∨w=wGt∨w=wLe∨w=wGe∨w=wEq∨w=wNe∨w=wIs:=by simpa [cmpW] using hm
 refine⟨_,rd_eqBs (b:=wIs),fun e=>?_,fun e=>?_⟩
 ·have ew:w=wIs:=of_decide_eq_true e
  rw [if_neg (by rw [ew];decide),if_neg (by rw [ew];decide),if_neg (by rw [ew];decide),if_neg (by rw [ew];decide),if_neg (by rw [ew];decide),if_neg (by rw [ew];decide),if_pos ew] at hK
  have g3:=goes_is S1.good [wNot]
  refine rd_take_ok (w:=wNot) D17 (by decide) fun h20 D20 M20=>⟨_,rfl,?_⟩
  generalize s1.is [wNot]=C at *
  obtain⟨v,s3⟩:=C
  simp -zeta only at hK D20 g3 ⊢
  refine rd_must_ok (w:=wNull) D20 (by decide) fun h23 D23 M23=>⟨rfl,?_⟩
  generalize s3.must wNull=s4 at *
  refine rd_put_ok D23 (x:=x) (y:=[]) (fun q=>⟨((N17.mut D.al M20).mut D.al M23).s,kl⟩) (fun q=>⟨(nd_nil h23 h23).s,wf_nil,by simp,by decide⟩) fun a26 m26 c26 h25 D25 N25 M25=>⟨_,_,_,rfl,?_⟩
  have M25':=(M17'.trans M20).trans M23
  have jl:=joinP_le 5 x [] s4
  intro J32
  refine⟨fun q=>?_,fun q=>?_⟩
  ·have q:=of_decide_eq_true q
   rw [if_pos q] at hK
   refine rd_put_ok D25 (x:=(joinP 5 x [] s4).1) (y:=[]) (fun q=>⟨(N25 q).s,jl⟩) (fun q=>⟨(nd_nil h25 h25).s,wf_nil,by simp,by decide⟩) fun a29 m29 c29 h28 D28 N28 M28=>⟨_,_,_,rfl,?_⟩
   exact hK a29 m29 c29 h28 D28 (fun q=>(N28 q).base ((M25'.trans M25).up D25.al)) ((M25'.trans M25).trans M28)
  ·have q:=of_decide_eq_false q
   rw [if_neg q] at hK
   exact hK a26 m26 c26 h25 D25 (fun q=>(N25 q).base (M25'.up D23.al)) (M25'.trans M25)
 have ew:¬ w=wIs:=of_decide_eq_false e
 refine F D17 S1 fun a39 m39 c39 h38 D38 N38 M38=>⟨_,_,_,rfl,?_⟩
 have M38':=M17'.trans M38
 have Nx:=N17.mut D.al M38
 generalize P s1=Y at *
 obtain⟨y,s2⟩:=Y
 simp -zeta only at hK D38 N38 kw kl2 kq2 ⊢
 refine⟨_,rd_eqBs (b:=wLt),fun e=>?_,fun e1=>⟨_,rd_eqBs (b:=wGt),fun e=>?_,fun e2=>⟨_,rd_eqBs (b:=wLe),fun e=>?_,fun e3=>⟨_,rd_eqBs (b:=wGe),fun e=>?_,fun e4=>⟨_,rd_eqBs (b:=wEq),fun e=>?_,fun e5=>?_⟩⟩⟩⟩⟩
 ·rw [if_pos (of_decide_eq_true e)] at hK
  exact rd_put_ok D38 (x:=x) (y:=y) (fun q=>⟨Nx.s,kl⟩) (fun q=>⟨(N38 q).s,kw,kl2,⟨fun _=>by decide,fun _=>kq2⟩⟩) fun a m c h42 D42 N42 M42=>⟨_,_,_,rfl,hK a m c h42 D42 (fun q=>(N42 q).base (M38'.up D38.al)) (M38'.trans M42)⟩
 ·rw [if_neg (of_decide_eq_false e1),if_pos (of_decide_eq_true e)] at hK
  exact rd_put_ok D38 (x:=y) (y:=x) (fun q=>⟨(N38 q).s,kl2⟩) (fun q=>⟨Nx.s,kx,kl,⟨fun _=>by decide,fun _=>kp1⟩⟩) fun a m c h42 D42 N42 M42=>⟨_,_,_,rfl,hK a m c h42 D42 (fun q=>(N42 q).base (M38'.up D38.al)) (M38'.trans M42)⟩
 ·rw [if_neg (of_decide_eq_false e1),if_neg (of_decide_eq_false e2),if_pos (of_decide_eq_true e)] at hK
  have jl:=joinP_le 11 y x s2
  exact rd_put_ok D38 (x:=y) (y:=x) (fun q=>⟨(N38 q).s,kl2⟩) (fun q=>⟨Nx.s,kx,kl,⟨fun _=>by decide,fun _=>kp1⟩⟩) fun a m c h42 D42 N42 M42=>⟨_,_,_,rfl,rd_put_ok D42 (x:=(joinP 11 y x s2).1) (y:=[]) (fun q=>⟨(N42 q).s,jl⟩) (fun q=>⟨(nd_nil h42 h42).s,wf_nil,by simp,by decide⟩) fun a m c h45 D45 N45 M45=>⟨_,_,_,rfl,hK a m c h45 D45 (fun q=>(N45 q).base ((M38'.trans M42).up D42.al)) ((M38'.trans M42).trans M45)⟩⟩
 ·rw [if_neg (of_decide_eq_false e1),if_neg (of_decide_eq_false e2),if_neg (of_decide_eq_false e3),if_pos (of_decide_eq_true e)] at hK
  have jl:=joinP_le 11 x y s2
  exact rd_put_ok D38 (x:=x) (y:=y) (fun q=>⟨Nx.s,kl⟩) (fun q=>⟨(N38 q).s,kw,kl2,⟨fun _=>by decide,fun _=>kq2⟩⟩) fun a m c h42 D42 N42 M42=>⟨_,_,_,rfl,rd_put_ok D42 (x:=(joinP 11 x y s2).1) (y:=[]) (fun q=>⟨(N42 q).s,jl⟩) (fun q=>⟨(nd_nil h42 h42).s,wf_nil,by simp,by decide⟩) fun a m c h45 D45 N45 M45=>⟨_,_,_,rfl,hK a m c h45 D45 (fun q=>(N45 q).base ((M38'.trans M42).up D42.al)) ((M38'.trans M42).trans M45)⟩⟩
 ·rw [if_neg (of_decide_eq_false e1),if_neg (of_decide_eq_false e2),if_neg (of_decide_eq_false e3),if_neg (of_decide_eq_false e4),if_pos (of_decide_eq_true e)] at hK
  exact rd_put_ok D38 (x:=x) (y:=y) (fun q=>⟨Nx.s,kl⟩) (fun q=>⟨(N38 q).s,kw,kl2,⟨fun _=>by decide,fun _=>kq2⟩⟩) fun a m c h42 D42 N42 M42=>⟨_,_,_,rfl,hK a m c h42 D42 (fun q=>(N42 q).base (M38'.up D38.al)) (M38'.trans M42)⟩
 ·have e6:w=wNe:=by
   rcases hm2 with q|q|q|q|q|q|q
   ·exact absurd q (of_decide_eq_false e1)
   ·exact absurd q (of_decide_eq_false e2)
   ·exact absurd q (of_decide_eq_false e3)
   ·exact absurd q (of_decide_eq_false e4)
   ·exact absurd q (of_decide_eq_false e5)
   ·exact q
   ·exact absurd q ew
  rw [if_neg (of_decide_eq_false e1),if_neg (of_decide_eq_false e2),if_neg (of_decide_eq_false e3),if_neg (of_decide_eq_false e4),if_neg (of_decide_eq_false e5),if_pos e6] at hK
  have jl:=joinP_le 12 x y s2
  exact rd_put_ok D38 (x:=x) (y:=y) (fun q=>⟨Nx.s,kl⟩) (fun q=>⟨(N38 q).s,kw,kl2,⟨fun _=>by decide,fun _=>kq2⟩⟩) fun a m c h42 D42 N42 M42=>⟨_,_,_,rfl,rd_put_ok D42 (x:=(joinP 12 x y s2).1) (y:=[]) (fun q=>⟨(N42 q).s,jl⟩) (fun q=>⟨(nd_nil h42 h42).s,wf_nil,by simp,by decide⟩) fun a m c h45 D45 N45 M45=>⟨_,_,_,rfl,hK a m c h45 D45 (fun q=>(N45 q).base ((M38'.trans M42).up D42.al)) ((M38'.trans M42).trans M45)⟩⟩
theorem fieldW_idx {i:Nat}(hi:i < 4):fieldW.getD i [] ∈ fieldW∧fieldW.idxOf (fieldW.getD i [])=i:=by
 match i,hi with
 | 0,_=>decide
 | 1,_=>decide
 | 2,_=>decide
 | 3,_=>decide
theorem atom_stuck {P:Ps}{s:RS}{w:Wd}(h:s.is ([wOpen]++constW++fieldW)=([],s)):atomP P s=([⟨1,0,0,0,(1,(s.number 1000000000).1)⟩],(s.number 1000000000).2):=by
 unfold atomP
 rw [h]
 rfl
theorem rd_rest_ok {P:Ps}{n:Nat}(F:RReads 0 P n)(kp:KP P n){h0 h:Hp}{g:Nat}{W:List Wd}{s:RS}(D:RrAt h0 h g W s)(S:SOk (n+1) s)(hf:s.f=0){R:Value→Hp→Prop}
  (hK:∀ a m c h',RrAt h0 h' g W (atomP P s).2→((atomP P s).2.f=0→NdAt h h' a m (atomP P s).1)→Mut (At g) h (At g) h'→R (vsl a m c) h'):CallOK Tryz.prog 139 [vhp g 0] h R:=by
 refine ok_R_rd_rest ?_
 unfold VC_R_rd_rest
 have hnil:([]:Wd) ∉ ([wOpen]++constW++fieldW):=by decide
 obtain⟨ny,nn⟩:=next_any (s:=s) hnil
 obtain⟨o1,o2,o3⟩:=next_one (s:=s) (w:=wOpen) (by decide)
 have gi:=goes_is S.good ([wOpen]++constW++fieldW)
 refine rd_next_ok D ⟨_,rfl,rd_take_ok (w:=wOpen) D (by decide) fun h5 D5 M5=>⟨_,rfl,fun e=>?_,fun e=>?_⟩⟩
 ·have e:nextW s=wOpen:=o1.1 (of_decide_eq_true e)
  obtain⟨r,hws,his⟩:=ny (by rw [e];decide)
  obtain⟨r',hws',his'⟩:=o2 e
  have er:r'=r:=by rw [hws] at hws';exact((List.cons.inj hws').2).symm
  subst er
  rw [his'] at D5
  have hat:atomP P s=((downP P ⟨r',s.deep,s.f⟩).1,(downP P ⟨r',s.deep,s.f⟩).2.must wClose):=by
   unfold atomP
   rw [his,e]
   rfl
  rw [hat] at hK
  rw [his] at gi
  simp only at gi hK
  have S1:=S.goes gi
  have d0:=S1.d0
  have d1:=S1.d1
  have hlen:r'.length < n:=by
   have h1:=S.len
   rw [hws] at h1
   simp at h1
   omega
  have Sn:SOk n ⟨r',s.deep,s.f⟩:=⟨S1.good,hlen,S1.big,d0,d1⟩
  have hl2:(⟨r',s.deep,s.f⟩:RS).ws.length+1=s.ws.length:=by rw [hws];rfl
  generalize (⟨r',s.deep,s.f⟩:RS)=s1 at *
  have sd1:=S.d1
  have hdp:=gi.deep
  refine rd_in_ok D5 d0 (by omega) fun h8 D8 M8=>⟨rfl,?_⟩
  have Gin:(inS s1).ws.length≤s1.ws.length∧(inS s1).good∧(inS s1).deep=s1.deep+1:=by
   unfold inS
   split
   ·exact⟨Nat.zero_le _,RS.fail_good _ _,rfl⟩
   ·exact⟨Nat.le_refl _,Sn.good,rfl⟩
  have hl3:(s1.ws.length:Int)+1≤(s.ws.length:Int):=by omega
  have Si:SOk n (inS s1):=⟨Gin.2.1,Nat.lt_of_le_of_lt Gin.1 Sn.len,Nat.le_trans Gin.1 Sn.big,by rw [Gin.2.2];omega,by rw [Gin.2.2];have:=Gin.1;omega⟩
  have ki:=kp _ Si.good (Nat.le_of_lt Si.len)
  have kd:=keeps_down kp (Goes.refl Sn.good) (Nat.le_of_lt Sn.len)
  rw [downP_in] at hK kd
  refine F D8 Si fun a m c h10 D10 N10 M10=>⟨_,_,_,rfl,?_⟩
  have hdd:=ki.deep
  refine⟨_,D10.c2,_,isW (by unfold InR;omega),D10.put2 fun h14 D14 M14=>?_⟩
  refine rd_must_ok (w:=wClose) D14 (by decide) fun h16 D16 M16=>⟨rfl,?_⟩
  have M8':=M5.trans M8
  refine hK a m c h16 D16 (fun q=>?_) (((M8'.trans M10).trans M14).trans M16)
  have q2:(P (inS s1)).2.f=0:=by
   refine Decidable.byContradiction fun hne=>?_
   have:=(goes_must (s:=⟨(P (inS s1)).2.ws,(P (inS s1)).2.deep - 1,(P (inS s1)).2.f⟩) kd.ok wClose).fst hne
   exact hne (this.symm.trans q)
  exact(((N10 q2).base (M8'.up D8.al)).mut D.al M14).mut D.al M16
 have e:nextW s≠wOpen:=fun q=>of_decide_eq_false e (o1.2 q)
 rw [o3 e] at D5
 intro b18 hb18 h19
 have l19:h5.le h19:=Hp.le_set (Hp.le_refl h5) hb18 _
 have D19:=D5.le l19
 have M19:=M5.trans (Mut.of_le l19)
 have hlit:=slb_lit h5 b18 fieldW (by decide)
 refine⟨fun vs' hh=>hh=h19∧∃ i:Nat,vs'=[vi i]∧i≤4∧∀ j,j < i→nextW s≠fieldW.getD j [],fun vs' hh=>4 - (vint vs' 0).toNat,⟨rfl,0,rfl,by omega,by omega⟩,?_⟩
 rintro vs' hh ⟨rfl,i,rfl,hi,hno⟩
 refine⟨i,rfl,fun e1=>?_,fun e1=>?_⟩
 ·have hlt:i < 4:=by have:=of_decide_eq_true e1;omega
  obtain⟨b,o,ha,hc⟩:=SlP.get1 hlit (i:=i) (by show i < 4;exact hlt)
  refine⟨b,o,⟨ha,by omega,by omega⟩,_,hc,_,rd_eqBs,fun q=>?_,fun q=>?_⟩
  ·have q:nextW s=fieldW.getD i []:=of_decide_eq_true q
   obtain⟨hmf,hix⟩:=fieldW_idx hlt
   rw [←q] at hmf hix
   obtain⟨r,hws,his⟩:=ny (List.mem_append_right _ hmf)
   have hnc:nextW s ∉ constW:=by
    intro hc
    have h1:nextW s=wNull∨nextW s=wTrue∨nextW s=wFalse:=by simpa [constW] using hc
    rcases h1 with h1|h1|h1<;>rw [h1] at hmf<;>exact absurd hmf (by decide)
   have hne:nextW s≠[]:=by
    intro h1;rw [h1] at hmf;exact absurd hmf (by decide)
   have hat:atomP P s=([⟨2,0,0,i,(0,0)⟩],⟨r,s.deep,s.f⟩):=by
    unfold atomP
    rw [his]
    simp only
    rw [if_neg e,if_neg hnc,if_neg hne,hix]
   rw [hat] at hK
   obtain⟨i',hc',hi',hsto⟩:=D19.adv hws
   refine⟨_,hc',_,isW (by unfold InR;omega),hsto fun h34 D34 M34=>?_⟩
   intro b35 hb35 h36
   have l36:h34.le h36:=Hp.le_set (Hp.le_refl h34) hb35 _
   have M34':=M19.trans M34
   exact hK _ _ _ h36 (D34.le l36) (fun _=>nd_one (M34'.up D34.al b35 hb35) ⟨2,0,0,i,(0,0)⟩) (M34'.trans (Mut.of_le l36))
  ·have q:nextW s≠fieldW.getD i []:=of_decide_eq_false q
   refine⟨_,isW (by unfold InR;omega),⟨rfl,i+1,rfl,by omega,fun j hj=>?_⟩,by simp [vint];omega⟩
   rcases Nat.lt_or_ge j i with h1|h1
   ·exact hno j h1
   ·have:j=i:=by omega
    rw [this];exact q
 ·have hge:i=4:=by have:=of_decide_eq_false e1;omega
  subst hge
  have hnf:nextW s ∉ fieldW:=by
   intro hm
   have h1:nextW s=[116]∨nextW s=[107]∨nextW s=[97]∨nextW s=[98]:=by simpa [fieldW] using hm
   rcases h1 with h1|h1|h1|h1
   ·exact hno 0 (by omega) h1
   ·exact hno 1 (by omega) h1
   ·exact hno 2 (by omega) h1
   ·exact hno 3 (by omega) h1
  have hwc:nextW s ∈ constW↔(nextW s=wNull∨nextW s=wTrue)∨nextW s=wFalse:=by simp [constW,or_assoc]
  refine⟨_,rd_eqBs (b:=wNull),_,fun _=>rd_eqBs (b:=wTrue),_,fun _=>rd_eqBs (b:=wFalse),?_⟩
  simp -zeta only [cor]
  refine⟨fun q=>?_,fun q=>?_⟩
  ·have hc:nextW s ∈ constW:=hwc.2 (of_decide_eq_true q)
   obtain⟨r,hws,his⟩:=ny (List.mem_append_left _ (List.mem_append_right _ hc))
   have hat:atomP P s=([⟨1,0,0,0,constV (nextW s)⟩],⟨r,s.deep,s.f⟩):=by
    unfold atomP
    rw [his]
    simp only
    rw [if_neg e,if_pos hc]
   rw [hat] at hK
   obtain⟨i',hc',hi',hsto⟩:=D19.adv hws
   have hwl:(nextW s).length≤1000000:=by
    have:nextW s=wNull∨nextW s=wTrue∨nextW s=wFalse:=by simpa [constW] using hc
    rcases this with h1|h1|h1<;>rw [h1]<;>decide
   refine⟨_,hc',_,isW (by unfold InR;omega),hsto fun h44 D44 M44=>R_ValueOf_ok hwl ⟨_,_,_,rfl,?_⟩⟩
   rw [←read_same,read_const hc]
   intro b50 hb50 h51
   have l51:h44.le h51:=Hp.le_set (Hp.le_refl h44) hb50 _
   have M44':=M19.trans M44
   exact hK _ _ _ h51 (D44.le l51) (fun _=>nd_one (M44'.up D44.al b50 hb50) ⟨1,0,0,0,constV (nextW s)⟩) (M44'.trans (Mut.of_le l51))
  ·have hc:nextW s ∉ constW:=fun h1=>of_decide_eq_false q (hwc.1 h1)
   have hno2:nextW s ∉ ([wOpen]++constW++fieldW):=by
    intro hm
    rcases List.mem_append.1 hm with h4|h4
    ·rcases List.mem_append.1 h4 with h5|h5
     ·exact e (by simpa using h5)
     ·exact hc h5
    ·exact hnf h4
   have hat:=atom_stuck (P:=P) (w:=[]) (nn hno2)
   rw [hat] at hK
   have nr1:=number_range (s:=s) (most:=1000000000) (by decide)
   refine rd_number_ok D19 (by decide) (by decide) fun h54 D54 M54=>⟨_,rfl,R_Num_ok ⟨_,_,rfl,?_⟩⟩
   have en:numV (s.number 1000000000).1=(1,(s.number 1000000000).1):=by unfold numV;rw [if_neg (by omega)]
   rw [en]
   intro b60 hb60 h61
   have l61:h54.le h61:=Hp.le_set (Hp.le_refl h54) hb60 _
   have M54':=M19.trans M54
   exact hK _ _ _ h61 (D54.le l61) (fun _=>nd_one (M54'.up D54.al b60 hb60) ⟨1,0,0,0,(1,(s.number 1000000000).1)⟩) (M54'.trans (Mut.of_le l61))
theorem rr_cast {k k':Int}(e:k=k'){P:Ps}{n:Nat}(H:RReads k P n):RReads k' P n:=by
 subst e
 exact fun D S _ hK=>H D S hK
theorem h6k {P:Ps}{n:Nat}(H:RReads 7 P n):RReads (6+1) P n:=rr_cast (by decide) H
theorem h5k {P:Ps}{n:Nat}(H:RReads 6 P n):RReads (5+1) P n:=rr_cast (by decide) H
theorem h4k {P:Ps}{n:Nat}(H:RReads 5 P n):RReads (4+1) P n:=rr_cast (by decide) H
theorem h2k {P:Ps}{n:Nat}(H:RReads 3 P n):RReads (2+1) P n:=rr_cast (by decide) H
theorem h1k {P:Ps}{n:Nat}(H:RReads 2 P n):RReads (1+1) P n:=rr_cast (by decide) H
theorem h0k {P:Ps}{n:Nat}(H:RReads 1 P n):RReads (0+1) P n:=rr_cast (by decide) H
theorem rreads_step {t:Three}{n:Nat}(h:KP t.o n∧KP t.n n∧KP t.u n)(H:RReads 0 t.o n∧RReads 2 t.n n∧RReads 6 t.u n):RReads 0 (orS t) (n+1)∧RReads 2 (notS t) (n+1)∧RReads 6 (unS t) (n+1):=by
 obtain⟨k1,k2,k3,k4,k5,k6,k7⟩:=keeps_S h
 have h7:RReads 7 (atomP t.o) (n+1):=level_rest_ok (keeps_atom h.1) fun D S hf _ hK=>rd_rest_ok H.1 h.1 D S hf hK
 have e6:unS t=signP wMinus 3 t.u (atomP t.o):=rfl
 have h6:RReads 6 (unS t) (n+1):=by
  rw [e6] at k3 ⊢
  exact level_sign_ok (w:=wMinus) (op:=3) (.inr ⟨rfl,rfl,rfl⟩) h.2.2 k3 H.2.2 (h6k h7)
 have h5:RReads 5 (prodS t) (n+1):=level_rows_ok (by decide) k4 fun D S _ hK=>rd_rows_ok (ops:=[(wStar,8)]) (by unfold RowK;simp) (h5k h6) k3 D S hK
 have h4:RReads 4 (sumS t) (n+1):=level_rows_ok (by decide) k5 fun D S _ hK=>rd_rows_ok (ops:=[(wPlus,6),(wMinus,7)]) (by unfold RowK;simp) (h4k h5) k4 D S hK
 have h3:RReads 3 (cmpS t) (n+1):=level_cmp_ok k6 fun D S _ hK=>rd_compared_ok h4 k5 D S hK
 have e2:notS t=signP wNot 4 t.n (cmpS t):=rfl
 have h2:RReads 2 (notS t) (n+1):=by
  rw [e2] at k2 ⊢
  exact level_sign_ok (w:=wNot) (op:=4) (.inl ⟨rfl,rfl,rfl⟩) h.2.1 k2 H.2.1 (h2k h3)
 have h1:RReads 1 (andS t) (n+1):=level_rows_ok (by decide) k7 fun D S _ hK=>rd_rows_ok (ops:=[(wAnd,9)]) (by unfold RowK;simp) (h1k h2) k2 D S hK
 have h0:RReads 0 (orS t) (n+1):=level_rows_ok (by decide) k1 fun D S _ hK=>rd_rows_ok (ops:=[(wOr,10)]) (by unfold RowK;simp) (h0k h1) k7 D S hK
 exact⟨h0,h2,h6⟩
theorem rreads_none (k:Int)(P:Ps):RReads k P 0:=by
 intro h0 h g W s D S R hK
 exact absurd S.len (Nat.not_lt_zero _)
theorem rreads_all (n:Nat):RReads 0 (allP n).o n∧RReads 2 (allP n).n n∧RReads 6 (allP n).u n:=by
 induction n with
 | zero=>exact⟨rreads_none _ _,rreads_none _ _,rreads_none _ _⟩
 | succ n ih=>rw [allP_succ];exact rreads_step (keeps_all n) ih
end Go.Proofs.YtiflgceoamkmnaaGreatDoor
namespace Go.Proofs.YtiflgceoamkmnaaGreatDoor
open Go Go.Vc
def VC_R_QueryFault (u0:Option Addr)(u1 u2:Nat)(u3:Option Addr)(u4 u5:Nat)(u6:Option Addr)(u7 u8:Nat)(u9:Int)(u10:Int)(u11:Int)(u12:Int)(h:Hp)(R:Value→Hp→Prop):Prop:=
 (((bif (decide ((u1:Int) < 1)) then true else(decide ((u1:Int) > 4)))=true→R (vi 2) h)∧((bif (decide ((u1:Int) < 1)) then true else(decide ((u1:Int) > 4)))=false→(∃(I3:List Value→Hp→Prop) (m4:List Value→Hp→Nat),I3 [vi 0] h∧∀ vs5 h6,I3 vs5 h6→∃ x7,vs5=[vi x7]∧(((decide (x7 < (u1:Int)))=true→(let J24:Hp→Prop:=fun h25=>(∃ x26,(IsW x26 (x7+1))∧(I3 [vi x26] h25∧m4 [vi x26] h25 < m4 vs5 h6));(∃ b10 o11,(u0=some ⟨b10,o11,none⟩∧(0:Int)≤x7∧x7 < (u1:Int))∧(∃ x12 a13 n13 c13,(Hp.row h6 b10 (o11+x7.toNat*2) 2=some [vi x12,vsl a13 n13 c13])∧(((bif (bif (decide (x12 < 1)) then true else(decide (x12 > 5))) then true else(bif (decide (x12=1)) then(decide ((n13:Int) > 0)) else false))=true→R (vi 3) h6)∧((bif (bif (decide (x12 < 1)) then true else(decide (x12 > 5))) then true else(bif (decide (x12=1)) then(decide ((n13:Int) > 0)) else false))=false→(let J17:Int→Prop:=fun x18=>(((decide (x12 > 1))=true→(CallOK Tryz.prog 141 [vsl a13 n13 c13,vi x18] h6 fun v19 h20=>∃ x21,v19=(vi x21)∧(((decide (x21 > 0))=true→R (vi x21) h20)∧((decide (x21 > 0))=false→(J24 h20)))))∧((decide (x12 > 1))=false→(J24 h6)));(((decide (x12=2))=true→(J17 0))∧((decide (x12=2))=false→(J17 1))))))))))∧((decide (x7 < (u1:Int)))=false→(let J32:Hp→Prop:=fun h33=>(let J39:Hp→Prop:=fun h40=>(((bif (bif (bif (bif (bif (bif (bif (decide (u9 < 1)) then true else(decide (u9 > 1000))) then true else(decide (u10 < 1))) then true else(decide (u10 > 1000))) then true else(decide (u11 < 0))) then true else(decide (u11 > 1000))) then true else(decide (u12 < 0))) then true else(decide (u12 > 1000)))=true→R (vi 1) h40)∧((bif (bif (bif (bif (bif (bif (bif (decide (u9 < 1)) then true else(decide (u9 > 1000))) then true else(decide (u10 < 1))) then true else(decide (u10 > 1000))) then true else(decide (u11 < 0))) then true else(decide (u11 > 1000))) then true else(decide (u12 < 0))) then true else(decide (u12 > 1000)))=false→(∃ x42,((decide (u10 > u9))=false→IsW x42 (4*u10))∧(((bif (decide (u10 > u9)) then true else(decide (u9 > x42)))=true→R (vi 3) h40)∧((bif (decide (u10 > u9)) then true else(decide (u9 > x42)))=false→R (vi 0) h40)))));(((decide ((u7:Int) > 0))=true→(CallOK Tryz.prog 141 [vsl u6 u7 u8,vi 0] h33 fun v34 h35=>∃ x36,v34=(vi x36)∧(((decide (x36 > 0))=true→R (vi x36) h35)∧((decide (x36 > 0))=false→(J39 h35)))))∧((decide ((u7:Int) > 0))=false→(J39 h33))));(((decide ((u4:Int) > 0))=true→(CallOK Tryz.prog 141 [vsl u3 u4 u5,vi 2] h6 fun v27 h28=>∃ x29,v27=(vi x29)∧(((decide (x29 > 0))=true→R (vi x29) h28)∧((decide (x29 > 0))=false→(J32 h28)))))∧((decide ((u4:Int) > 0))=false→(J32 h6)))))))))
theorem ok_R_QueryFault {u0 u1 u2 u3 u4 u5 u6 u7 u8 u9 u10 u11 u12 h R}(H:VC_R_QueryFault u0 u1 u2 u3 u4 u5 u6 u7 u8 u9 u10 u11 u12 h R):CallOK Tryz.prog 93 [vag [vsl u0 u1 u2,vsl u3 u4 u5,vsl u6 u7 u8,vi u9,vi u10,vi u11,vi u12]] h R:=
 call_of (cfg:=⟨[],[(4,([3],[.one (.int .i64)],[]))],[]⟩) noNG mixed Tryz.func93 [.ag [.v (vsl u0 u1 u2),.v (vsl u3 u4 u5),.v (vsl u6 u7 u8),.v (vi u9),.v (vi u10),.v (vi u11),.v (vi u12)]] (by kernel_rfl) rfl (by kernel_rfl) H
def VC_R_typed (u0:Option Addr)(u1 u2:Nat)(u3:Int)(h:Hp)(R:Value→Hp→Prop):Prop:=
 (CallOK Tryz.prog 171 [vsl u0 u1 u2] h fun v1 h2=>∃ x3,v1=(vi x3)∧(((decide (x3 > 0))=true→R (vi x3) h2)∧((decide (x3 > 0))=false→(CallOK Tryz.prog 172 [vsl u0 u1 u2] h2 fun v5 h6=>∃ x7 x8,v5=(vtup [vi x7,vi x8])∧(((decide (x8 > 0))=true→R (vi x8) h6)∧((decide (x8 > 0))=false→(((bif (bif (decide (u3 > 0)) then(decide (x7≠u3)) else false) then(decide (x7 > 0)) else false)=true→R (vi 3) h6)∧((bif (bif (decide (u3 > 0)) then(decide (x7≠u3)) else false) then(decide (x7 > 0)) else false)=false→R (vi 0) h6))))))))
theorem ok_R_typed {u0 u1 u2 u3 h R}(H:VC_R_typed u0 u1 u2 u3 h R):CallOK Tryz.prog 141 [vsl u0 u1 u2,vi u3] h R:=
 call_of (cfg:=⟨[],[],[]⟩) noNG mixed Tryz.func141 [.one (.v (vsl u0 u1 u2)),.one (.v (vi u3))] (by kernel_rfl) rfl (by kernel_rfl) H
open Go.Txt
theorem typE_2 (l:List Nd):0≤(typE l).2:=by
 unfold typE
 split
 ·exact Int.le_refl _
 ·show (0:Int)≤3
  decide
theorem R_typed_ok {a:Option Addr}{k c:Nat}{l:List Nd}{kind:Int}(h0:0≤kind){h:Hp}{R:Value→Hp→Prop}(S:SlP encN h a k l)(hl:l.length≤1000000)(hK:∀ h',h.le h'→R (vi (typedF l kind)) h'):CallOK Tryz.prog 141 [vsl a k c,vi kind] h R:=by
 refine ok_R_typed ?_
 unfold VC_R_typed
 unfold typedF at hK
 have e2:=exprF_2 l
 have t2:=typE_2 l
 refine R_ExprFault_ok S fun h2 l2=>⟨_,rfl,fun e=>?_,fun e=>?_⟩
 ·have e:=of_decide_eq_true e
  rw [if_pos (by omega)] at hK
  exact hK h2 l2
 ·have e:=of_decide_eq_false e
  have ez:exprF l=0:=by omega
  rw [if_neg (by omega)] at hK
  have O:=(exprF_ok ez).1
  have tn:=typE_nat O
  refine R_Type_ok (S.le l2) O.wf O.pos hl ⟨_,_,rfl,fun q=>?_,fun q=>?_⟩
  ·have q:=of_decide_eq_true q
   rw [if_pos (by omega)] at hK
   exact hK h2 l2
  ·have q:=of_decide_eq_false q
   rw [if_neg (by omega)] at hK
   rw [cand,cand]
   refine⟨fun q2=>?_,fun q2=>?_⟩
   ·have q2:=of_decide_eq_true q2
    rw [if_pos (by omega)] at hK
    exact hK h2 l2
   ·have q2:=of_decide_eq_false q2
    rw [if_neg (by omega)] at hK
    exact hK h2 l2
theorem typedF_2 (l:List Nd)(k:Int):0≤typedF l k:=by
 have e2:=exprF_2 l
 have t2:=typE_2 l
 unfold typedF
 split
 ·exact e2
 ·split
  ·exact t2
  ·split<;>decide
theorem R_QueryFault_ok {q:Qy}{a1:Option Addr}{n1 c1:Nat}{a2:Option Addr}{n2 c2:Nat}{a3:Option Addr}{n3 c3:Nat}{h:Hp}{R:Value→Hp→Prop}(Q:QAt h q a1 n1 a2 n2 a3 n3)(B:QBig q)(hK:∀ h',h.le h'→R (vi (qryF q)) h'):CallOK Tryz.prog 93 [qV a1 n1 c1 a2 n2 c2 a3 n3 c3 q] h R:=by
 refine ok_R_QueryFault ?_
 unfold VC_R_QueryFault
 have hn1:=Q.g.len
 have hn2:=Q.w.1
 have hn3:=Q.b.1
 have hB:=B.n
 rw [cor]
 refine⟨fun e=>?_,fun e=>?_⟩
 ·have e:=of_decide_eq_true e
  have:qryF q=2:=by unfold qryF;rw [if_pos (by omega)]
  rw [this] at hK
  exact hK h (Hp.le_refl h)
 have e:=of_decide_eq_false e
 have hq:qryF q=if firstF (q.aggs.map aggF)≠0 then firstF (q.aggs.map aggF) else tailF q:=by unfold qryF;rw [if_neg (by omega)]
 rw [hq] at hK
 clear hq
 refine⟨fun vs' hh=>h.le hh∧∃ i:Nat,vs'=[vi i]∧i≤n1∧∀ y ∈ q.aggs.take i,aggF y=0,fun vs' hh=>n1 - (vint vs' 0).toNat,⟨Hp.le_refl h,0,rfl,Nat.zero_le _,by simp⟩,?_⟩
 rintro vs' hh ⟨lh,i,rfl,hi,hz⟩
 refine⟨i,rfl,fun g=>?_,fun g=>?_⟩
 ·have hlt:i < n1:=by have:=of_decide_eq_true g;omega
  have hlt2:i < q.aggs.length:=by omega
  have hx:q.aggs[i]?=some q.aggs[i]:=List.getElem?_eq_getElem hlt2
  have hbig:=B.g _ (List.mem_of_getElem? hx)
  have hall:=@take_all _ q.aggs aggF i hlt2 hz
  generalize q.aggs[i]=y at hx hbig hall
  obtain⟨k,l⟩:=y
  obtain⟨b,o,a',c',ha,hrow,hS⟩:=(Q.g.le lh).row aggRw_len (by decide) hx
  have bad:∀ f,f≠0→aggF (k,l)=f→∀ h',h.le h'→R (vi f) h':=by
   intro f hf hk h' l'
   have h1:=firstF_at (g:=aggF) hz hx (by rw [hk];exact hf)
   rw [h1,hk,if_pos hf] at hK
   exact hK h' l'
  intro J25
  refine⟨b,o,⟨ha,by omega,by omega⟩,k,a',l.length,c',by rw [Int.toNat_natCast];exact hrow,?_⟩
  have good:aggF (k,l)=0→∀ h',h.le h'→J25 h':=fun hk h' l'=>⟨_,isW (by unfold InR;omega),⟨l',i+1,rfl,by omega,hall hk⟩,by simp [vint];omega⟩
  clear_value J25
  rw [cor,cand,cor]
  have hnil:l≠[]↔(l.length:Int) > 0:=by rw [ne_eq,nil_len];omega
  refine⟨fun g2=>?_,fun g2=>?_⟩
  ·have g2:=of_decide_eq_true g2
   refine bad 3 (by decide) ?_ hh lh
   unfold aggF
   rw [if_pos (by simp only [hnil];omega)]
  ·have g2:=of_decide_eq_false g2
   intro J17
   have hJ:J17 (if k=2 then 0 else 1):=by
    refine⟨fun g3=>?_,fun g3=>?_⟩
    ·have g3:=of_decide_eq_true g3
     have hf:aggF (k,l)=typedF l (if k=2 then 0 else 1):=by
      unfold aggF
      rw [if_neg (by simp only [hnil];omega),if_neg (by show ¬ k=1;omega)]
     have t2:=typedF_2 l (if k=2 then 0 else 1)
     refine R_typed_ok (by split<;>decide) hS hbig fun h' l'=>⟨_,rfl,fun g4=>?_,fun g4=>?_⟩
     ·have g4:=of_decide_eq_true g4
      exact bad _ (by omega) hf h' (Hp.le_trans lh l')
     ·have g4:=of_decide_eq_false g4
      exact good (by rw [hf];omega) h' (Hp.le_trans lh l')
    ·have g3:=of_decide_eq_false g3
     refine good ?_ hh lh
     unfold aggF
     rw [if_neg (by simp only [hnil];omega),if_pos (by show k=1;omega)]
   clear_value J17
   refine⟨fun g4=>?_,fun g4=>?_⟩
   ·rw [if_pos (of_decide_eq_true g4)] at hJ;exact hJ
   ·rw [if_neg (of_decide_eq_false g4)] at hJ;exact hJ
 ·have hge:i=n1:=by have:=of_decide_eq_false g;omega
  have hz0:firstF (q.aggs.map aggF)=0:=firstF_zero (by
   intro x hx
   obtain⟨y,hy,rfl⟩:=List.mem_map.1 hx
   exact hz y (by rw [List.take_of_length_le (by omega)];exact hy))
  rw [hz0,if_neg (fun h=>h rfl)] at hK
  unfold tailF at hK
  have Q:=Q.le lh
  intro J33
  have hJ33:∀ h',hh.le h'→(if q.wh=[] then 0 else typedF q.wh 2)=0→J33 h':=by
   intro h' l' hw
   rw [hw,firstF,if_neg (fun h=>h rfl)] at hK
   unfold J33
   intro J40
   have hJ40:∀ h2,h'.le h2→(if q.by_=[] then 0 else typedF q.by_ 0)=0→J40 h2:=by
    intro h2 l2 hb
    rw [hb,firstF,if_neg (fun h=>h rfl)] at hK
    have hK:=hK h2 (Hp.le_trans lh (Hp.le_trans l' l2))
    rw [firstF,firstF] at hK
    have hnum:numsF q=if ((((((q.size < 1∨q.size > 1000)∨q.slide < 1)∨q.slide > 1000)∨q.delay < 0)∨q.delay > 1000)∨q.late < 0)∨q.late > 1000 then 1 else if q.slide > q.size∨q.size > 4*q.slide then 3 else 0:=by
     unfold numsF
     simp only [or_assoc]
    show (_∧_)
    simp only [cor]
    refine⟨fun g2=>?_,fun g2=>?_⟩
    ·rw [if_pos (of_decide_eq_true g2)] at hnum
     rw [hnum,if_pos (by decide)] at hK
     exact hK
    ·have g3:=of_decide_eq_false g2
     rw [if_neg g3] at hnum
     refine⟨4*q.slide,fun _=>isW (by unfold InR;omega),fun g4=>?_,fun g4=>?_⟩
     ·rw [if_pos (of_decide_eq_true g4)] at hnum
      rw [hnum,if_pos (by decide)] at hK
      exact hK
     ·rw [if_neg (of_decide_eq_false g4)] at hnum
      rw [hnum,if_neg (by decide)] at hK
      exact hK
   clear_value J40
   refine⟨fun g2=>?_,fun g2=>?_⟩
   ·have hne:¬ q.by_=[]:=by have:=of_decide_eq_true g2;rw [nil_len];omega
    rw [if_neg hne] at hJ40 hK
    have t2:=typedF_2 q.by_ 0
    refine R_typed_ok (by decide) (Q.le l').b B.b fun h2 l2=>⟨_,rfl,fun g4=>?_,fun g4=>?_⟩
    ·have g4:=of_decide_eq_true g4
     rw [firstF,if_pos (by omega)] at hK
     exact hK h2 (Hp.le_trans lh (Hp.le_trans l' l2))
    ·have g4:=of_decide_eq_false g4
     exact hJ40 h2 l2 (by omega)
   ·have hnil:q.by_=[]:=by have:=of_decide_eq_false g2;rw [nil_len];omega
    exact hJ40 h' (Hp.le_refl h') (if_pos hnil)
  clear_value J33
  refine⟨fun g2=>?_,fun g2=>?_⟩
  ·have hne:¬ q.wh=[]:=by have:=of_decide_eq_true g2;rw [nil_len];omega
   rw [if_neg hne] at hJ33 hK
   have t2:=typedF_2 q.wh 2
   refine R_typed_ok (by decide) Q.w B.w fun h2 l2=>⟨_,rfl,fun g4=>?_,fun g4=>?_⟩
   ·have g4:=of_decide_eq_true g4
    rw [firstF,if_pos (by omega)] at hK
    exact hK h2 (Hp.le_trans lh l2)
   ·have g4:=of_decide_eq_false g4
    exact hJ33 h2 l2 (by omega)
  ·have hnil:q.wh=[]:=by have:=of_decide_eq_false g2;rw [nil_len];omega
   exact hJ33 hh (Hp.le_refl hh) (if_pos hnil)
end Go.Proofs.YtiflgceoamkmnaaGreatDoor
namespace Go.Proofs.YtiflgceoamkmnaaGreatDoor
open Go Go.Vc
def VC_R_WordsOf (u0:ByteArray)(h:Hp)(R:Value→Hp→Prop):Prop:=
 (((decide ((((ByteArray.size u0:Nat):Int):Int) > 240))=true→R (vtup [vsl none 0 0,vi 2]) h)∧((decide ((((ByteArray.size u0:Nat):Int):Int) > 240))=false→(∃(I3:List Value→Hp→Prop) (m4:List Value→Hp→Nat),I3 [vsl none 0 0,vi 0] h∧∀ vs5 h6,I3 vs5 h6→∃ a7 n7 c7 x8,vs5=[vsl a7 n7 c7,vi x8]∧(((decide (x8 < ((ByteArray.size u0:Nat):Int)))=true→(∃ x11,(Rd Tryz.prog (Instr.index 9 (vs u0) (vi x8)) h6 (vk .u8 x11))∧(((decide (x11=32))=true→(∃ x12,(IsW x12 (x8+1))∧(I3 [vsl a7 n7 c7,vi x12] h6∧m4 [vsl a7 n7 c7,vi x12] h6 < m4 vs5 h6)))∧((decide (x11=32))=false→(∃(I15:List Value→Hp→Prop) (m16:List Value→Hp→Nat),I15 [vi x8] h6∧∀ vs17 h18,I15 vs17 h18→∃ x19,vs17=[vi x19]∧(∃ x20,((decide (x19 < ((ByteArray.size u0:Nat):Int)))=true→Rd Tryz.prog (Instr.index 9 (vs u0) (vi x19)) h18 (vk .u8 x20))∧(∃ x21,((bif (decide (x19 < ((ByteArray.size u0:Nat):Int))) then(decide (x20≥97)) else false)=true→Rd Tryz.prog (Instr.index 9 (vs u0) (vi x19)) h18 (vk .u8 x21))∧(((bif (bif (decide (x19 < ((ByteArray.size u0:Nat):Int))) then(decide (x20≥97)) else false) then(decide (x21≤122)) else false)=true→(∃ x24,(IsW x24 (x19+1))∧(I15 [vi x24] h18∧m16 [vi x24] h18 < m16 vs17 h18)))∧((bif (bif (decide (x19 < ((ByteArray.size u0:Nat):Int))) then(decide (x20≥97)) else false) then(decide (x21≤122)) else false)=false→(let J37:Int→Hp→Prop:=fun x39 h40=>(∃ x41,((decide (x39=x8))=true→IsW x41 (x39+1))∧(∃ x42,((bif (decide (x39=x8)) then(decide (x41 < ((ByteArray.size u0:Nat):Int))) else false)=true→IsW x42 (x39+2))∧(∃ s43,((bif (decide (x39=x8)) then(decide (x41 < ((ByteArray.size u0:Nat):Int))) else false)=true→Rd Tryz.prog (Instr.sliceAt 9 (vs u0) (some (vi x39)) (some (vi x42)) none) h40 (vs s43))∧(∃ p44,((bif (decide (x39=x8)) then(decide (x41 < ((ByteArray.size u0:Nat):Int))) else false)=true→Rd Tryz.prog ((eqGuard .eql 9 (.tmp 77) (.const (vs ⟨#[60,61]⟩)) (vs s43) (vs ⟨#[60,61]⟩) >>= fun _=>binOp .eql 9 (vs s43) (vs ⟨#[60,61]⟩))) h40 (vb p44))∧(∃ x45,(((bif (decide (x39=x8)) then(decide (x41 < ((ByteArray.size u0:Nat):Int))) else false)=true∧p44=false)→IsW x45 (x39+2))∧(∃ s46,(((bif (decide (x39=x8)) then(decide (x41 < ((ByteArray.size u0:Nat):Int))) else false)=true∧p44=false)→Rd Tryz.prog (Instr.sliceAt 9 (vs u0) (some (vi x39)) (some (vi x45)) none) h40 (vs s46))∧(∃ p47,(((bif (decide (x39=x8)) then(decide (x41 < ((ByteArray.size u0:Nat):Int))) else false)=true∧p44=false)→Rd Tryz.prog ((eqGuard .eql 9 (.tmp 84) (.const (vs ⟨#[62,61]⟩)) (vs s46) (vs ⟨#[62,61]⟩) >>= fun _=>binOp .eql 9 (vs s46) (vs ⟨#[62,61]⟩))) h40 (vb p47))∧(∃ x48,(((bif (decide (x39=x8)) then(decide (x41 < ((ByteArray.size u0:Nat):Int))) else false)=true∧(bif p44 then true else p47)=false)→IsW x48 (x39+2))∧(∃ s49,(((bif (decide (x39=x8)) then(decide (x41 < ((ByteArray.size u0:Nat):Int))) else false)=true∧(bif p44 then true else p47)=false)→Rd Tryz.prog (Instr.sliceAt 9 (vs u0) (some (vi x39)) (some (vi x48)) none) h40 (vs s49))∧(∃ p50,(((bif (decide (x39=x8)) then(decide (x41 < ((ByteArray.size u0:Nat):Int))) else false)=true∧(bif p44 then true else p47)=false)→Rd Tryz.prog ((eqGuard .eql 9 (.tmp 92) (.const (vs ⟨#[60,62]⟩)) (vs s49) (vs ⟨#[60,62]⟩) >>= fun _=>binOp .eql 9 (vs s49) (vs ⟨#[60,62]⟩))) h40 (vb p50))∧(let J54:Int→Prop:=fun x55=>(let J59:Int→Prop:=fun x60=>(((decide (x60=x8))=true→R (vtup [vsl none 0 0,vi 4]) h40)∧((decide (x60=x8))=false→(∃ s62,(Rd Tryz.prog (Instr.sliceAt 9 (vs u0) (some (vi x8)) (some (vi x60)) none) h40 (vs s62))∧(∀ b63,h40 b63=none→let h64:= Hp.set h40 b63 (cellsO [vs s62] 9);(SemOK Tryz.prog (Builtin.append_ #[145,145] 145 #[vsl a7 n7 c7,(vsl (some (⟨b63,0,none⟩:Addr)) 1 1)]) h64 fun v65 h66=>∃ a67 n67 c67,v65=(vsl a67 n67 c67)∧(((decide ((n67:Int) > 80))=true→R (vtup [vsl none 0 0,vi 2]) h66)∧((decide ((n67:Int) > 80))=false→(I3 [vsl a67 n67 c67,vi x60] h66∧m4 [vsl a67 n67 c67,vi x60] h66 < m4 vs5 h6))))))));(((bif (decide (x55=x8)) then(bif (bif (bif (bif (bif (bif (bif (bif (decide (x11=40)) then true else(decide (x11=41))) then true else(decide (x11=44))) then true else(decide (x11=42))) then true else(decide (x11=43))) then true else(decide (x11=45))) then true else(decide (x11=60))) then true else(decide (x11=62))) then true else(decide (x11=61))) else false)=true→(∃ x56,(IsW x56 (x55+1))∧(J59 x56)))∧((bif (decide (x55=x8)) then(bif (bif (bif (bif (bif (bif (bif (bif (decide (x11=40)) then true else(decide (x11=41))) then true else(decide (x11=44))) then true else(decide (x11=42))) then true else(decide (x11=43))) then true else(decide (x11=45))) then true else(decide (x11=60))) then true else(decide (x11=62))) then true else(decide (x11=61))) else false)=false→(J59 x55))));(((bif (bif (decide (x39=x8)) then(decide (x41 < ((ByteArray.size u0:Nat):Int))) else false) then(bif (bif p44 then true else p47) then true else p50) else false)=true→(∃ x51,(IsW x51 (x39+2))∧(J54 x51)))∧((bif (bif (decide (x39=x8)) then(decide (x41 < ((ByteArray.size u0:Nat):Int))) else false) then(bif (bif p44 then true else p47) then true else p50) else false)=false→(J54 x39))))))))))))));(((decide (x19=x8))=true→(∃(I26:List Value→Hp→Prop) (m27:List Value→Hp→Nat),I26 [vi x19] h18∧∀ vs28 h29,I26 vs28 h29→∃ x30,vs28=[vi x30]∧(∃ x31,((decide (x30 < ((ByteArray.size u0:Nat):Int)))=true→Rd Tryz.prog (Instr.index 9 (vs u0) (vi x30)) h29 (vk .u8 x31))∧(∃ x32,((bif (decide (x30 < ((ByteArray.size u0:Nat):Int))) then(decide (x31≥48)) else false)=true→Rd Tryz.prog (Instr.index 9 (vs u0) (vi x30)) h29 (vk .u8 x32))∧(((bif (bif (decide (x30 < ((ByteArray.size u0:Nat):Int))) then(decide (x31≥48)) else false) then(decide (x32≤57)) else false)=true→(∃ x35,(IsW x35 (x30+1))∧(I26 [vi x35] h29∧m27 [vi x35] h29 < m27 vs28 h29)))∧((bif (bif (decide (x30 < ((ByteArray.size u0:Nat):Int))) then(decide (x31≥48)) else false) then(decide (x32≤57)) else false)=false→(J37 x30 h29)))))))∧((decide (x19=x8))=false→(J37 x19 h18)))))))))))))∧((decide (x8 < ((ByteArray.size u0:Nat):Int)))=false→R (vtup [vsl a7 n7 c7,vi 0]) h6)))))
theorem ok_R_WordsOf {u0 h R}(H:VC_R_WordsOf u0 h R):CallOK Tryz.prog 87 [vs u0] h R:=
 call_of (cfg:=⟨[],[(10,([7],[.one (.int .i64)],[])),(13,([7],[.one (.int .i64)],[])),(5,([4,5],[.one (.slice),.one (.int .i64)],[]))],[]⟩) noNG mixed Tryz.func87 [.one (.v (vs u0))] (by kernel_rfl) rfl (by kernel_rfl) H
theorem kind_letter {c:UInt8}:kindB c=97↔isL c=true:=by
 unfold kindB
 cases isL c<;>cases isDg c<;>cases isS c<;>simp
theorem kind_digit {c:UInt8}:kindB c=48↔isL c=false∧isDg c=true:=by
 unfold kindB
 cases isL c<;>cases isDg c<;>cases isS c<;>simp
theorem kind_sign {c:UInt8}:kindB c=40↔isL c=false∧isDg c=false∧isS c=true:=by
 unfold kindB
 cases isL c<;>cases isDg c<;>cases isS c<;>simp
theorem kind_none {c:UInt8}:kindB c=32↔isL c=false∧isDg c=false∧isS c=false:=by
 unfold kindB
 cases isL c<;>cases isDg c<;>cases isS c<;>simp
theorem isL_isDg {c:UInt8}(h:isDg c=true):isL c=false:=by
 unfold isDg at h
 unfold isL
 simp at h ⊢
 omega
theorem letter_fun:(fun c=>kindB c == 97)=isL:=by
 funext c
 cases h:isL c with
 | true=>simp [kind_letter.2 h]
 | false=>simp only [beq_eq_false_iff_ne,ne_eq];intro h';rw [kind_letter.1 h'] at h;cases h
theorem digit_fun:(fun c=>kindB c == 48)=isDg:=by
 funext c
 cases h:isDg c with
 | true=>simp [kind_digit.2 ⟨isL_isDg h,h⟩]
 | false=>simp only [beq_eq_false_iff_ne,ne_eq];intro h';rw [(kind_digit.1 h').2] at h;cases h
theorem dec_isL (c:UInt8):(decide (((c.toNat:Nat):Int)≥97)&&decide (((c.toNat:Nat):Int)≤122))=isL c:=by
 unfold isL
 congr 1<;>exact decide_eq_decide.2 (by omega)
theorem dec_isDg (c:UInt8):(decide (((c.toNat:Nat):Int)≥48)&&decide (((c.toNat:Nat):Int)≤57))=isDg c:=by
 unfold isDg
 congr 1<;>exact decide_eq_decide.2 (by omega)
theorem dec_c (c d:UInt8):decide (((c.toNat:Nat):Int)=((d.toNat:Nat):Int))=(c == d):=by
 by_cases h:c=d
 ·subst h;simp
 ·have:¬((c.toNat:Nat):Int)=(d.toNat:Nat):=fun e=>h (u8_eq.1 e)
  rw [decide_eq_false this]
  symm
  simpa using h
theorem two_bytes {l:List UInt8}{i:Nat}(h:i+1 < l.length):(l.drop i).take 2=[l.getD i 0,l.getD (i+1) 0]:=by
 rw [drop_getB (by omega),drop_getB (n:=i+1) h]
 rfl
theorem R_WordsOf_ok {l:List UInt8}{h:Hp}{R:Value→Hp→Prop}(hK:∀ a n c h',OwnV h h' 9 1 a n c ((wordsL l).1.flatMap encB)→R (vtup [vsl a n c,vi (wordsL l).2]) h') :
  CallOK Tryz.prog 87 [vs (bs l)] h R:=by
 refine ok_R_WordsOf ?_
 unfold VC_R_WordsOf
 rw [bs_size]
 refine⟨fun e=>?_,fun e=>?_⟩
 ·have:wordsL l=([],2):=by unfold wordsL;rw [if_pos (by simp at e;omega)]
  rw [this] at hK
  exact hK none 0 0 h (OwnV.nil (Hp.le_refl h) _ _)
 have hl:l.length≤240:=by simp at e;omega
 have hw:wordsL l=lexF l (l.length+1) 0 []:=by unfold wordsL;rw [if_neg (by omega)]
 refine⟨fun vs hh=>∃(k i:Nat) (acc:List (List UInt8)) (a:Option Addr) (n c:Nat),vs=[vsl a n c,vi i]∧l.length < i+k∧i≤l.length∧lexF l k i acc=wordsL l∧OwnV h hh 9 1 a n c (acc.flatMap encB)∧acc.length≤80,
  fun vs hh=>l.length - (vint vs 1).toNat,⟨l.length+1,0,[],none,0,0,rfl,by omega,by omega,hw.symm,OwnV.nil (Hp.le_refl h) _ _,by simp⟩,?_⟩
 rintro vs hh ⟨k,i,acc,a,n,c,rfl,hk,hi,hf,O,hacc⟩
 have hn:n=acc.length:=(O.slp encB_len (by decide)).1
 refine⟨a,n,c,i,rfl,fun e=>?_,fun e=>?_⟩
 ·have hlt:i < l.length:=by simpa using e
  obtain⟨k,rfl⟩:∃ k',k=k'+1:=⟨k - 1,by omega⟩
  rw [lexF,if_neg (by omega)] at hf
  refine⟨_,rd_idx (by kernel_rfl) (by omega) (by omega),?_⟩
  rw [Int.toNat_natCast]
  generalize hc0:l.getD i 0=c0 at *
  have h32:decide (((c0.toNat:Nat):Int)=32)=(c0 == 32):=dec_c c0 32
  rw [h32]
  refine⟨fun e=>?_,fun e=>?_⟩
  ·rw [if_pos (by simpa using e)] at hf
   exact⟨_,isW (by unfold InR;omega),⟨k,i+1,acc,a,n,c,rfl,by omega,by omega,hf,O,hacc⟩,by simp [vint];omega⟩
  rw [if_neg (by simpa using e)] at hf
  have gidx:∀{h':Hp} (m:Nat),m < l.length→Rd Tryz.prog (Instr.index 9 (vs (bs l)) (vi (m:Nat))) h' (vk .u8 ((l.getD m 0).toNat:Nat)):=by
   intro h' m hm
   have:=rd_idx (P:=Tryz.prog) (h:=h') (t:=9) (by kernel_rfl) (l:=l) (i:=(m:Nat)) (by omega) (by omega)
   rwa [Int.toNat_natCast] at this
  have g1:=endW_gt l i
  have g2:=endW_le hlt
  refine⟨fun vs h'=>h'=hh∧∃ m:Nat,vs=[vi m]∧i≤m∧m≤l.length∧m+runP isL (l.drop m)=i+runP isL (l.drop i),fun vs hh=>l.length - (vint vs 0).toNat,⟨rfl,i,rfl,Nat.le_refl _,hi,rfl⟩,?_⟩
  rintro vs hh2 ⟨rfl,m,rfl,him,hml,hrun⟩
  -- what is read at m
  refine⟨m,rfl,((l.getD m 0).toNat:Nat),fun e=>gidx m (by have:=of_decide_eq_true e;omega),((l.getD m 0).toNat:Nat),fun e=>gidx m (by
   by_cases q:m < l.length
   ·exact q
   ·have:decide (((m:Nat):Int) < (l.length:Nat))=false:=decide_eq_false (by omega)
    rw [this] at e;simp at e),?_⟩
  have hcond:(bif (bif (decide (((m:Nat):Int) < (l.length:Nat))) then(decide ((((l.getD m 0).toNat:Nat):Int)≥97)) else false) then(decide ((((l.getD m 0).toNat:Nat):Int)≤122)) else false)=(decide (m < l.length)&&isL (l.getD m 0)):=by
   rw [←dec_isL]
   by_cases q:m < l.length
   ·rw [decide_eq_true (show ((m:Nat):Int) < (l.length:Nat) by omega),decide_eq_true q,cond_true,Bool.true_and,Bool.and_eq_decide,Bool.cond_eq_ite]
    by_cases q2:((l.getD m 0).toNat:Int)≥97<;>by_cases q3:((l.getD m 0).toNat:Int)≤122<;>simp only [decide_eq_true,decide_eq_false,q2,q3,if_true,if_false,not_false_eq_true,and_self,and_true,true_and,false_and,and_false,decide_true,decide_false,Bool.false_eq_true]
   ·rw [decide_eq_false (show ¬((m:Nat):Int) < (l.length:Nat) by omega),decide_eq_false q]
    rfl
  rw [hcond]
  refine⟨fun e=>?_,fun e=>?_⟩
  ·have hm:m < l.length∧isL (l.getD m 0)=true:=by rw [Bool.and_eq_true,decide_eq_true_eq] at e;exact e
   rw [runP_yes hm.1 hm.2] at hrun
   exact⟨_,isW (by unfold InR;omega),⟨rfl,m+1,rfl,by omega,by omega,by omega⟩,by simp [vint];omega⟩
  have hrun0:runP isL (l.drop m)=0:=runP_no fun q=>by rw [decide_eq_true q,Bool.true_and] at e;exact e
  rw [hrun0] at hrun
  clear hcond e
  intro J37
  -- the end, where the word's end is known
  have tail:∀ J59:Int→Prop,(J59=fun(x60:Int)=>(((decide ((x60:Int)=(i:Nat)))=true→R (vtup [(vsl none 0 0),(vi 4)]) hh2)∧((decide ((x60:Int)=(i:Nat)))=false→(∃(s62:ByteArray),(Rd Tryz.prog (Instr.sliceAt 9 (vs (bs l)) (some (vi (i:Nat))) (some (vi x60)) none) hh2 (vs s62))∧(∀(b63:Nat),hh2 b63=none→let h64:Hp:=Hp.set hh2 b63 (cellsO [(vs s62)] 9);(SemOK Tryz.prog (Builtin.append_ #[145,145] 145 #[(vsl a n c),(vsl (some (⟨b63,0,none⟩:Addr)) 1 1)]) h64 fun v65 h66=>∃(a67:Option Addr) (n67 c67:Nat),v65=(vsl a67 n67 c67)∧(((decide ((((n67:Nat):Int):Int) > 80))=true→R (vtup [(vsl none 0 0),(vi 2)]) h66)∧((decide ((((n67:Nat):Int):Int) > 80))=false→((∃(k i:Nat) (acc:List (List UInt8)) (a:Option Addr) (n c:Nat),[(vsl a67 n67 c67),(vi x60)]=[vsl a n c,vi i]∧l.length < i+k∧i≤l.length∧lexF l k i acc=wordsL l∧OwnV h h66 9 1 a n c (acc.flatMap encB)∧acc.length≤80)∧l.length - (vint [(vsl a67 n67 c67),(vi x60)] 1).toNat < l.length - (vint [vsl a n c,vi (i:Nat)] 1).toNat))))))))) →
    (kindB c0=32→J59 ((i:Nat):Int))∧(kindB c0≠32→J59 ((endW l i:Nat):Int)):=by
   rintro J59 rfl
   refine⟨fun hk32=>⟨fun _=>?_,fun e=>by simp at e⟩,fun hk32=>⟨fun e=>?_,fun _=>?_⟩⟩
   ·rw [if_pos hk32] at hf
    rw [←hf] at hK
    exact hK none 0 0 hh2 (OwnV.nil O.le _ _)
   ·have:=of_decide_eq_true e;omega
   ·rw [if_neg hk32] at hf
    refine⟨_,rd_cut (by kernel_rfl) (by omega) (by omega) (by omega),?_⟩
    rw [Int.toNat_natCast,Int.toNat_natCast]
    intro b hb h24
    refine OwnV.append elStr (OwnV.set hb _ O) (HasRow.new _ _ [vs (bs ((l.drop i).take (endW l i - i)))] _) (m:=1) rfl (by simp [Value.oneCell']) (by omega) (by omega) fun a' c' h' O' _ _=>⟨_,_,_,rfl,fun e=>?_,fun e=>?_⟩
    ·rw [if_pos (by simp at e;omega)] at hf
     rw [←hf] at hK
     exact hK none 0 0 h' (OwnV.nil O'.le _ _)
    ·have h80:¬ acc.length+1 > 80:=by simp at e;omega
     rw [if_neg h80] at hf
     refine⟨⟨k,endW l i,acc++[(l.drop i).take (endW l i - i)],a',_,c',rfl,by omega,g2,hf,?_,by simp;omega⟩,by simp [vint];omega⟩
     rw [List.flatMap_append]
     exact O'
  have big:∀ m':Nat,i < m'→m'=endW l i→kindB c0≠32→J37 (m':Nat) hh2:=by
   intro m' h1 h2 h3
   have hd:decide (((m':Nat):Int)=(i:Nat))=false:=decide_eq_false (by omega)
   refine⟨0,fun e=>by simp [hd] at e,0,fun e=>by simp [hd] at e,bs [],fun e=>by simp [hd] at e,false,fun e=>by simp [hd] at e,0,fun e=>by simp [hd] at e,bs [],fun e=>by simp [hd] at e,false,fun e=>by simp [hd] at e,0,fun e=>by simp [hd] at e,bs [],fun e=>by simp [hd] at e,false,fun e=>by simp [hd] at e,?_⟩
   intro J54
   refine⟨fun e=>by simp [hd] at e,fun _=>?_⟩
   refine⟨fun e=>by simp [hd] at e,fun _=>?_⟩
   rw [h2]
   exact(tail _ rfl).2 h3
  have small:isL c0=false→isDg c0=false→J37 (i:Nat) hh2:=by
   intro hL hD
   have hd:decide (((i:Nat):Int)=(i:Nat))=true:=decide_eq_true rfl
   have e1:((i:Nat):Int)+1=((i+1:Nat):Int):=by omega
   have e2:((i:Nat):Int)+2=((i+2:Nat):Int):=by omega
   have cut:∀{b:Prop},(b→i+1 < l.length)→b→Rd Tryz.prog (Instr.sliceAt 9 (vs (bs l)) (some (vi (i:Nat))) (some (vi ((i+2:Nat):Int))) none) hh2 (vs (bs [c0,l.getD (i+1) 0])):=by
    intro b hb hb'
    have q:=hb hb'
    have:=rd_cut (P:=Tryz.prog) (h:=hh2) (t:=9) (by kernel_rfl) (l:=l) (i:=(i:Nat)) (j:=((i+2:Nat):Int)) (by omega) (by omega) (by omega)
    rw [Int.toNat_natCast,Int.toNat_natCast,show i+2 - i=2 by omega,two_bytes q,hc0] at this
    exact this
   have lt:∀{e:Bool},(bif decide (((i:Nat):Int)=(i:Nat)) then decide (((i+1:Nat):Int) < (l.length:Nat)) else false)=true→i+1 < l.length:=by
    intro _ e
    rw [hd,cond_true] at e
    have:=of_decide_eq_true e
    omega
   have w2:IsW ((i+2:Nat):Int) (((i:Nat):Int)+2):=by rw [e2];exact isW (by unfold InR;omega)
   refine⟨((i+1:Nat):Int),fun _=>by rw [e1];exact isW (by unfold InR;omega),((i+2:Nat):Int),fun _=>w2,_,cut (lt (e:=true)),_,fun _=>rd_eqBs (b:=[60,61]),((i+2:Nat):Int),fun _=>w2,_,cut (fun e=>lt (e:=true) e.1),_,fun _=>rd_eqBs (b:=[62,61]),
    ((i+2:Nat):Int),fun _=>w2,_,cut (fun e=>lt (e:=true) e.1),_,fun _=>rd_eqBs (b:=[60,62]),?_⟩
   intro J54
   have hlen:decide (((i+1:Nat):Int) < (l.length:Nat))=decide (i+1 < l.length):=decide_eq_decide.2 (by omega)
   rw [hd,cond_true,hlen]
   have d40:decide (((c0.toNat:Nat):Int)=40)=(c0 == 40):=dec_c c0 40
   have d41:decide (((c0.toNat:Nat):Int)=41)=(c0 == 41):=dec_c c0 41
   have d44:decide (((c0.toNat:Nat):Int)=44)=(c0 == 44):=dec_c c0 44
   have d42:decide (((c0.toNat:Nat):Int)=42)=(c0 == 42):=dec_c c0 42
   have d43:decide (((c0.toNat:Nat):Int)=43)=(c0 == 43):=dec_c c0 43
   have d45:decide (((c0.toNat:Nat):Int)=45)=(c0 == 45):=dec_c c0 45
   have d60:decide (((c0.toNat:Nat):Int)=60)=(c0 == 60):=dec_c c0 60
   have d62:decide (((c0.toNat:Nat):Int)=62)=(c0 == 62):=dec_c c0 62
   have d61:decide (((c0.toNat:Nat):Int)=61)=(c0 == 61):=dec_c c0 61
   have hsign:(bif (bif (bif (bif (bif (bif (bif (bif (c0 == 40) then true else(c0 == 41)) then true else(c0 == 44)) then true else(c0 == 42)) then true else(c0 == 43)) then true else(c0 == 45)) then true else(c0 == 60)) then true else(c0 == 62)) then true else(c0 == 61))=isS c0:=by
    unfold isS
    cases c0 == 40<;>cases c0 == 41<;>cases c0 == 44<;>cases c0 == 42<;>cases c0 == 43<;>cases c0 == 45<;>cases c0 == 60<;>cases c0 == 62<;>cases c0 == 61<;>rfl
   by_cases hS:isS c0=true
   ·have hk40:kindB c0=40:=kind_sign.2 ⟨hL,hD,hS⟩
    have hne:kindB c0≠32:=by omega
    refine⟨fun e=>?_,fun e=>?_⟩
    ·have he:endW l i=i+2:=by
      unfold endW
      rw [hc0,if_pos hk40,if_pos ?_]
      by_cases q:i+1 < l.length
      ·refine⟨q,?_⟩
       generalize l.getD (i+1) 0=c1 at e ⊢
       by_cases q1:c0=60<;>by_cases q2:c1=61<;>by_cases q3:c1=62<;>by_cases q4:c0=62<;>simp [q,q1,q2,q3,q4] at e ⊢
      ·simp [q] at e
     refine⟨((i+2:Nat):Int),w2,?_⟩
     have hd2:decide (((i+2:Nat):Int)=(i:Nat))=false:=decide_eq_false (by omega)
     refine⟨fun e=>absurd e (by rw [hd2,cond_false];simp),fun _=>?_⟩
     have:=(tail _ rfl).2 hne
     rw [he] at this
     exact this
    ·have he:endW l i=i+1:=by
      unfold endW
      rw [hc0,if_pos hk40,if_neg ?_]
      rintro⟨q,q0⟩
      generalize l.getD (i+1) 0=c1 at e q0
      by_cases q1:c0=60<;>by_cases q2:c1=61<;>by_cases q3:c1=62<;>by_cases q4:c0=62<;>simp [q,q1,q2,q3,q4] at e q0
     refine⟨fun _=>⟨((i+1:Nat):Int),by rw [e1];exact isW (by unfold InR;omega),?_⟩,fun e=>?_⟩
     ·have:=(tail _ rfl).2 hne
      rw [he] at this
      exact this
     ·rw [hd,cond_true,d40,d41,d44,d42,d43,d45,d60,d62,d61,hsign,hS] at e
      cases e
   ·have hS':isS c0=false:=by simpa using hS
    have hk32:kindB c0=32:=kind_none.2 ⟨hL,hD,hS'⟩
    refine⟨fun e=>?_,fun e=>?_⟩
    ·exfalso
     have h60:¬ c0=60:=fun h=>by rw [h] at hS';revert hS';decide
     have h62:¬ c0=62:=fun h=>by rw [h] at hS';revert hS';decide
     simp [h60,h62] at e
    ·refine⟨fun e=>?_,fun e=>(tail _ rfl).1 hk32⟩
     rw [hd,cond_true,d40,d41,d44,d42,d43,d45,d60,d62,d61,hsign,hS'] at e
     cases e
  -- letters, digits, or neither
  by_cases hL:isL c0=true
  ·have hk97:kindB c0=97:=kind_letter.2 hL
   have he:endW l i=i+runP isL (l.drop i):=by
    unfold endW
    rw [hc0,hk97,if_neg (by decide),letter_fun,runP_yes hlt (by rw [hc0];exact hL)]
    omega
   have hme:m=endW l i:=by omega
   have hd:decide (((m:Nat):Int)=(i:Nat))=false:=decide_eq_false (by omega)
   refine⟨fun e=>?_,fun _=>big m (by omega) hme (by omega)⟩
   rw [hd] at e;cases e
  ·have hL':isL c0=false:=by simpa using hL
   have hr0:runP isL (l.drop i)=0:=runP_no fun _=>by rw [hc0];exact hL'
   have hmi:m=i:=by omega
   subst hmi
   have hd:decide (((m:Nat):Int)=(m:Nat))=true:=decide_eq_true rfl
   refine⟨fun _=>?_,fun e=>by rw [hd] at e;cases e⟩
   refine⟨fun vs h'=>h'=hh2∧∃ d:Nat,vs=[vi d]∧m≤d∧d≤l.length∧d+runP isDg (l.drop d)=m+runP isDg (l.drop m),fun vs hh=>l.length - (vint vs 0).toNat,⟨rfl,m,rfl,Nat.le_refl _,hi,rfl⟩,?_⟩
   rintro vs hh3 ⟨rfl,d,rfl,hmd,hdl,hrund⟩
   refine⟨d,rfl,((l.getD d 0).toNat:Nat),fun e=>gidx d (by have:=of_decide_eq_true e;omega),((l.getD d 0).toNat:Nat),fun e=>gidx d (by
    by_cases q:d < l.length
    ·exact q
    ·have:decide (((d:Nat):Int) < (l.length:Nat))=false:=decide_eq_false (by omega)
     rw [this] at e;simp at e),?_⟩
   have hcond:(bif (bif (decide (((d:Nat):Int) < (l.length:Nat))) then(decide ((((l.getD d 0).toNat:Nat):Int)≥48)) else false) then(decide ((((l.getD d 0).toNat:Nat):Int)≤57)) else false)=(decide (d < l.length)&&isDg (l.getD d 0)):=by
    rw [←dec_isDg]
    by_cases q:d < l.length
    ·rw [decide_eq_true (show ((d:Nat):Int) < (l.length:Nat) by omega),decide_eq_true q,cond_true,Bool.true_and,Bool.and_eq_decide,Bool.cond_eq_ite]
     by_cases q2:((l.getD d 0).toNat:Int)≥48<;>by_cases q3:((l.getD d 0).toNat:Int)≤57<;>simp only [decide_eq_true,decide_eq_false,q2,q3,if_true,if_false,not_false_eq_true,and_self,and_true,true_and,false_and,and_false,decide_true,decide_false,Bool.false_eq_true]
    ·rw [decide_eq_false (show ¬((d:Nat):Int) < (l.length:Nat) by omega),decide_eq_false q]
     rfl
   rw [hcond]
   refine⟨fun e=>?_,fun e=>?_⟩
   ·have hm:d < l.length∧isDg (l.getD d 0)=true:=by rw [Bool.and_eq_true,decide_eq_true_eq] at e;exact e
    rw [runP_yes hm.1 hm.2] at hrund
    exact⟨_,isW (by unfold InR;omega),⟨rfl,d+1,rfl,by omega,by omega,by omega⟩,by simp [vint];omega⟩
   have hrund0:runP isDg (l.drop d)=0:=runP_no fun q=>by rw [decide_eq_true q,Bool.true_and] at e;exact e
   rw [hrund0] at hrund
   by_cases hD:isDg c0=true
   ·have hk48:kindB c0=48:=kind_digit.2 ⟨hL',hD⟩
    have he:endW l m=m+runP isDg (l.drop m):=by
     unfold endW
     rw [hc0,hk48,if_neg (by decide),digit_fun,runP_yes hlt (by rw [hc0];exact hD)]
     omega
    exact big d (by omega) (by omega) (by omega)
   ·have hD':isDg c0=false:=by simpa using hD
    have hr1:runP isDg (l.drop m)=0:=runP_no fun _=>by rw [hc0];exact hD'
    have hdm:d=m:=by omega
    subst hdm
    exact small hL' hD'
 ·have hge:i=l.length:=by simp at e;omega
  have:lexF l k i acc=(acc,0):=by
   cases k with
   | zero=>rfl
   | succ k=>rw [lexF,if_pos (by omega)]
  rw [this] at hf
  rw [←hf] at hK
  exact hK a n c hh O
open Go.Txt
def aggL:List Wd:=[wCount,wSum,wMin,wMax]
def refKind (w:Wd):Int:=if w=wCount then 2 else aggKind w
theorem aggL_at {i:Nat}(hi:i < 4):aggL.getD i [] ∈ aggL∧aggL.getD i []≠[]∧refKind (aggL.getD i [])=(i:Int)+2:=by
 match i,hi with
 | 0,_=>decide
 | 1,_=>decide
 | 2,_=>decide
 | 3,_=>decide
theorem ints_at (h:Hp)(b:Nat){i:Nat}(hi:i < 4):(h.set b (cellsO [vi 2,vi 3,vi 4,vi 5] 3)).cell b (0+(i:Int).toNat*1)=some (vi ((i:Int)+2)):=by
 match i,hi with
 | 0,_=>exact cell_cells (Hp.set_same _ _ _) rfl
 | 1,_=>exact cell_cells (Hp.set_same _ _ _) rfl
 | 2,_=>exact cell_cells (Hp.set_same _ _ _) rfl
 | 3,_=>exact cell_cells (Hp.set_same _ _ _) rfl
theorem RrAt.keep {h0 h h':Hp}{g:Nat}{W:List Wd}{s:RS}(D:RrAt h0 h g W s)(hb:h' g=h g)(l:h0.le h'):RrAt h0 h' g W s:=by
 obtain⟨a,c,i,hb',hS,hi,hw⟩:=D.b
 exact⟨⟨a,c,i,hb.trans hb',hS,hi,hw⟩,l,D.z,D.f0,D.n,D.w⟩
structure AgW (h0 h:Hp)(g:Nat)(a:Option Addr)(m c:Nat)(s:RS)(L:List Ag):Prop where
 own:∃ xs,OwnV h0 h 86 2 a m c xs
 ne:a≠some ⟨g,0,none⟩
 ok:s.f=0→AggB (At g) h0 h a c L∧m=L.length
theorem AgW.mut {h0 h h':Hp}{g:Nat}{a:Option Addr}{m c:Nat}{s:RS}{L:List Ag}(A:AgW h0 h g a m c s L)(hg:h0 g=none)(M:Mut (At g) h (At g) h'):AgW h0 h' g a m c s L:=by
 have hG2:∀ b,At g b→h0 b=none:=fun b e=>by rw [show b=g from e];exact hg
 obtain⟨xs,O⟩:=A.own
 refine⟨⟨xs,⟨fun b o hb=>M.keep b o (fun q=>by rw [hG2 b q] at hb;cases hb) (O.le b o hb),O.own.keep fun b o ha hb=>M.keep b o (fun q=>A.ne (by rw [ha,show b=g from q])) hb,O.new⟩⟩,A.ne,fun hf=>⟨(A.ok hf).1.keep hG2 M.keep,(A.ok hf).2⟩⟩
theorem AgW.state {h0 h:Hp}{g:Nat}{a:Option Addr}{m c:Nat}{s t:RS}{L:List Ag}(A:AgW h0 h g a m c s L)(hh:t.f=0→s.f=0):AgW h0 h g a m c t L:=⟨A.own,A.ne,fun hf=>A.ok (hh hf)⟩
theorem AgW.al {h0 h:Hp}{g:Nat}{a:Option Addr}{m c:Nat}{s:RS}{L:List Ag}(A:AgW h0 h g a m c s L){b:Nat}(ha:a=some ⟨b,0,none⟩):h b≠none:=by
 obtain⟨xs,O⟩:=A.own
 rcases O.own.2 with ⟨q1,_⟩|⟨g',cur,q1,q2,_⟩
 ·rw [q1] at ha;cases ha
 ·rw [q1] at ha;cases ha;rw [q2];simp
theorem agw_app {h0 hB h1:Hp}{g:Nat}{a:Option Addr}{m c:Nat}{L:List Ag}{W:List Wd}{s:RS}(A:AgW h0 h1 g a m c s L)(D:RrAt h0 h1 g W s)(hBg:hB g≠none)(hBa:∀ b,a=some ⟨b,0,none⟩→hB b≠none){k:Int}{a2:Option Addr}{m2 c2:Nat}{l:List Nd}(N:s.f=0→NdAt hB h1 a2 m2 l)(hL:m≤1000)
  {b:Nat} (hb:h1 b=none) {K:Value→Hp→Prop} (hK:∀ a' c' h',AgW h0 h' g a' (m+1) c' s (L++[(k,l)])→RrAt h0 h' g W s→K (vsl a' (m+1) c') h') :
  SemOK Tryz.prog (Builtin.append_ #[25,25] 25 #[vsl a m c,vsl (some ⟨b,0,none⟩) 1 1]) (h1.set b (cellsO [vi k,vsl a2 m2 c2] 86)) K:=by
 obtain⟨o,ho⟩:∃ o,h1 g=some o:=by
  cases e:h1 g with
  | none=>exact absurd e D.al
  | some o=>exact⟨o,rfl⟩
 by_cases hf:s.f=0
 ·obtain⟨B,hm⟩:=A.ok hf
  have N:=N hf
  obtain rfl:=N.s.1
  subst hm
  refine B.app (x:=k) (c2:=c2) elAgg (Hp.le_refl h1) (fun b' e=>by rw [show b'=g from e];exact hBg) hBa N.s.2 N.nw ?_ rfl (fun b' e=>by rw [show b'=g from e];exact D.al) (by omega) (by omega) hb fun a' c' h' B' hk=>hK a' c' h' ⟨?_,B'.ne rfl,fun _=>⟨B',by simp⟩⟩ (D.keep ((hk g o ho (B.ne rfl)).trans ho.symm) B'.le0)
  ·intro u hu
   have:u=vi k∨u=vsl a2 l.length c2:=by simpa [aggRw] using hu
   rcases this with rfl|rfl<;>rfl
  ·have:=B'.own
   simpa using this
 ·obtain⟨xs,O⟩:=A.own
  have l2:h1.le (h1.set b (cellsO [vi k,vsl a2 m2 c2] 86)):=Hp.le_set (Hp.le_refl h1) hb _
  refine OwnV.append elAgg (O.mono l2) (HasRow.new _ _ [vi k,vsl a2 m2 c2] _) (m:=1) rfl (by simp [Value.oneCell']) (by omega) (by omega) fun a' c' h' O' k1 k2=>hK a' c' h' ⟨⟨_,O'⟩,fun e=>?_,fun q=>absurd q hf⟩ (D.keep ((k1 g o (l2 g o ho) A.ne).trans ho.symm) O'.le)
  rcases k2 g e with q|q
  ·exact A.ne (q.trans e)
  ·rw [l2 g o ho] at q;cases q
theorem opt_split {h0 h h2:Hp}{g:Nat}{W:List Wd}{s:RS}{w:Wd}(hw:w≠[]){d:Int}{J:Int→Hp→Prop}(hJ:∀ h',RrAt h0 h' g W (optN w d s).2→Mut (At g) h (At g) h'→J (optN w d s).1 h')(D:RrAt h0 h2 g W (s.is [w]).2)(M:Mut (At g) h (At g) h2) :
  (decide ((s.is [w]).1≠[])=true→CallOK Tryz.prog 92 [vhp g 0,vi 1000] h2 fun v1 h3=>∃(x:Int),v1=vi x∧J x h3)∧(decide ((s.is [w]).1≠[])=false→J d h2):=by
 unfold optN at hJ
 refine⟨fun e=>?_,fun e=>?_⟩
 ·have e:(s.is [w]).1≠[]:=of_decide_eq_true e
  rw [if_neg e] at hJ
  exact rd_number_ok D (by decide) (by decide) fun h3 D3 M3=>⟨_,rfl,hJ h3 D3 (M.trans M3)⟩
 ·have e:(s.is [w]).1=[]:=by simpa using e
  rw [if_pos e] at hJ
  rw [is_oneR hw e] at D
  exact hJ h2 D M
theorem RrAt.c01 {h0 h:Hp}{g:Nat}{W:List Wd}{s:RS}(D:RrAt h0 h g W s):∃(a:Option Addr) (c i:Nat),h.cell g 0=some (vsl a W.length c)∧h.cell g (0+1)=some (vi i)∧(s.f=0→(i < W.length↔s.ws≠[])):=by
 obtain⟨a,c,i,hb,hS,hi,hw⟩:=D.b
 refine⟨a,c,i,cell_cells hb rfl,cell_cells hb rfl,fun hf=>?_⟩
 rw [hw,if_pos hf,ne_eq,nil_len,List.length_drop]
 omega
theorem RrAt.put3 {h0 h:Hp}{g:Nat}{W:List Wd}{s:RS}(D:RrAt h0 h g W s){f:Int}(hf:0≤f){K:Hp→Prop}(hK:∀ h' t,t.f=f→RrAt h0 h' g W t→Mut (At g) h (At g) h'→K h'):h.store g (0+3) [vi f] K:=by
 obtain⟨a,c,i,hb,hS,hi,hw⟩:=D.b
 exact store_cells hb (by simp) (hK _ ⟨if f=0 then W.drop i else [],s.deep,f⟩ rfl ⟨⟨a,c,i,Hp.set_same _ _ _,hS,hi,rfl⟩,le_put D.l D.z _,D.z,hf,D.n,D.w⟩ (mut_set _ _ _))
theorem firstF_2:∀(l:List Int),(∀ x ∈ l,0≤x)→0≤firstF l
 | [],_=>Int.le_refl _
 | x :: l,h=>by
  rw [firstF]
  split
  ·exact h x (List.mem_cons_self ..)
  ·exact firstF_2 l fun y hy=>h y (List.mem_cons_of_mem _ hy)
theorem qryF_2 (q:Qy):0≤qryF q:=by
 unfold qryF
 split
 ·decide
 ·have h1:=firstF_2 (q.aggs.map aggF) (fun x hx=>by
   obtain⟨y,_,rfl⟩:=List.mem_map.1 hx
   unfold aggF
   split
   ·decide
   ·split
    ·decide
    ·exact typedF_2 _ _)
  split
  ·exact h1
  ·refine firstF_2 _ fun x hx=>?_
   have h2:x=(if q.wh=[] then 0 else typedF q.wh 2)∨x=(if q.by_=[] then 0 else typedF q.by_ 0)∨x=numsF q:=by simpa using hx
   rcases h2 with rfl|rfl|rfl
   ·split
    ·decide
    ·exact typedF_2 _ _
   ·split
    ·decide
    ·exact typedF_2 _ _
   ·unfold numsF
    split
    ·decide
    ·split<;>decide
theorem noQ_big:QBig noQ:=⟨Nat.zero_le _,Nat.zero_le _,(fun a ha=>by cases ha),Nat.zero_le _⟩
def vbool (l:List Value)(i:Nat):Bool:=match l[i]? with|some (.bool x)=>x|_=>false
set_option maxHeartbeats 1000000 in
theorem R_QueryOf_ok {l:List UInt8}{h:Hp}{R:Value→Hp→Prop}(hK:∀ a1 n1 c1 a2 n2 c2 a3 n3 c3 h',h.le h'→0≤(parseQ l).2→QBig (parseQ l).1→QAt h' (parseQ l).1 a1 n1 a2 n2 a3 n3→R (vtup [qV a1 n1 c1 a2 n2 c2 a3 n3 c3 (parseQ l).1,vi (parseQ l).2]) h'):CallOK Tryz.prog 41 [vs (bs l)] h R:=by
 refine ok_R_QueryOf ?_
 unfold VC_R_QueryOf
 refine R_WordsOf_ok fun wa wn wc h2 O=>⟨_,_,_,_,rfl,?_⟩
 have lw:=wordsL_words l
 have lf:=wordsL_f l
 have l02:=O.le
 unfold parseQ at hK
 generalize wordsL l=WW at *
 obtain⟨W,fw⟩:=WW
 simp only at hK lw O lf
 refine⟨fun e=>?_,fun e=>?_⟩
 ·have e2:fw≠0:=by have:=of_decide_eq_true e;omega
  rw [if_pos e2] at hK
  exact hK none 0 0 none 0 0 none 0 0 h2 l02 (by show 0≤fw;omega) noQ_big (noQ_at h2)
 have e2:¬ fw≠0:=by have:¬ fw > 0:=of_decide_eq_false e;omega
 rw [if_neg e2] at hK
 clear e e2
 have hS:=O.slp encB_len (by decide)
 obtain rfl:=hS.1
 intro b6 hb6 h7
 have l7:h2.le h7:=Hp.le_set (Hp.le_refl h2) hb6 _
 have D7:RrAt h2 h7 b6 W ⟨W,0,0⟩:=⟨⟨wa,wc,0,Hp.set_same _ _ _,hS,Nat.zero_le _,rfl⟩,l7,hb6,Int.le_refl _,by omega,fun x hx=>Nat.le_trans (lw.2 x hx) (by decide)⟩
 have F:RReads 0 (allP (W.length+1)).o (W.length+1):=(rreads_all (W.length+1)).1
 have kp:=(keeps_all (W.length+1)).1
 have g0:(⟨W,0,0⟩:RS).good:=fun h=>absurd rfl h
 have S7:SOk (W.length+1) ⟨W,0,0⟩:=⟨g0,Nat.lt_succ_self _,by show W.length≤1000;omega,Int.le_refl _,by show (0:Int)+(W.length:Int)≤1000000;omega⟩
 have hAll:=allA_ok W
 unfold parseW at hK
 rw [readQ_eq] at hK
 unfold allA firstA at hK hAll
 generalize (allP (W.length+1)).o=o at *
 have G1:=goes_must g0 wSelect
 refine rd_must_ok (w:=wSelect) D7 (by decide) fun h9 D9 M9=>⟨rfl,?_⟩
 generalize (⟨W,0,0⟩:RS).must wSelect=s1 at *
 have S9:=S7.goes G1
 have hs1:s1.ws.length≤80:=Nat.le_trans G1.len lw.1
 intro J145
 -- the rest, behind what is gathered
 have hRest:∀(L:List Ag) (t:RS) (a:Option Addr) (m c:Nat) (hE:Hp),AgW h2 hE b6 a m c t L→RrAt h2 hE b6 W t→SOk (W.length+1) t→aggsP o ((aggP o s1).2.ws.length+1) [(aggP o s1).1] (aggP o s1).2=(L,t)→L.length≤1000→J145 a m c none 0 0 none 0 0 0 0 hE:=by
  intro L t a m c hE AE DE SE hL hLn
  rw [hL] at hK hAll
  simp only at hK hAll
  have hgE:=DE.al
  have G3:=goes_must SE.good wFrom
  refine rd_must_ok (w:=wFrom) DE (by decide) fun h867 D867 M867=>⟨rfl,?_⟩
  have S867:=SE.goes G3
  have G4:=G3.trans (goes_must G3.ok wEvents)
  refine rd_must_ok (w:=wEvents) D867 (by decide) fun h869 D869 M869=>⟨rfl,?_⟩
  have ME:=M867.trans M869
  have S869:=SE.goes G4
  unfold restQ at hK
  generalize (t.must wFrom).must wEvents=t2 at *
  have gi:=goes_is S869.good [wWhere]
  have io:=@is_oneR t2 wWhere (by decide)
  refine rd_take_ok (w:=wWhere) D869 (by decide) fun h871 D871 M871=>⟨_,rfl,?_⟩
  have M871':=ME.trans M871
  intro J878
  have h878:∀(wh:List Nd) (aw:Option Addr) (mw cw:Nat) (u:RS) (hX:Hp),optP wWhere o t2=(wh,u)→RrAt h2 hX b6 W u→SOk (W.length+1) u→Goes u t→(u.f=0→NdAt hE hX aw mw wh)→NdsOK wh→Mut (At b6) hE (At b6) hX→J878 aw mw cw hX:=by
   intro wh aw mw cw u hX hw DX SX GX NX Kw MX
   rw [hw] at hK
   simp only at hK
   unfold byQ at hK
   have gi:=goes_is SX.good [wGroup]
   have io:=@is_oneR u wGroup (by decide)
   refine rd_take_ok (w:=wGroup) DX (by decide) fun h939 D939 M939=>⟨_,rfl,?_⟩
   have M939':=MX.trans M939
   intro J948
   have h948:∀(by_:List Nd) (ab:Option Addr) (mb cb:Nat) (v:RS) (hY:Hp),optP wGroup (fun s=>o (s.must wBy)) u=(by_,v)→RrAt h2 hY b6 W v→SOk (W.length+1) v→Goes v t→(v.f=0→NdAt hE hY aw mw wh)→(v.f=0→NdAt hE hY ab mb by_)→NdsOK by_→Mut (At b6) hE (At b6) hY→J948 ab mb cb hY:=by
    intro by_ ab mb cb v hY hv DY SY GY Nw Nb Kb MY
    rw [hv] at hK
    simp only at hK
    unfold endQ at hK
    simp only at hK
    have Ga:=goes_must SY.good wWindow
    refine rd_must_ok (w:=wWindow) DY (by decide) fun h997 D997 M997=>⟨rfl,?_⟩
    have Sa:=SY.goes Ga
    generalize v.must wWindow=v1 at *
    have Gb:=goes_number Sa.good 1000
    refine rd_number_ok D997 (by decide) (by decide) fun h999 D999 M999=>⟨_,rfl,?_⟩
    have Sb:=Sa.goes Gb
    generalize v1.number 1000=Z at *
    obtain⟨z,v2⟩:=Z
    simp -zeta only at hK D999 Sb Gb ⊢
    have M2:=(M997.trans M999)
    refine rd_take_ok (w:=wSlide) D999 (by decide) fun h1002 D1002 M1002=>⟨_,rfl,?_⟩
    intro J1009
    have Gc:=goes_optN Sb.good wSlide z
    refine opt_split (h:=hY) (d:=z) (by decide) (fun hA DA MA=>?_) D1002 (M2.trans M1002)
    have Sc:=Sb.goes Gc
    generalize optN wSlide z v2=Z at *
    obtain⟨sl,v3⟩:=Z
    simp -zeta only at hK DA Sc Gc ⊢
    unfold J1009
    refine rd_take_ok (w:=wDelay) DA (by decide) fun h1043 D1043 M1043=>⟨_,rfl,?_⟩
    intro J1050
    have Gd:=goes_optN Sc.good wDelay 0
    refine opt_split (h:=hY) (d:=0) (by decide) (fun hB DB MB=>?_) D1043 (MA.trans M1043)
    have Sd:=Sc.goes Gd
    generalize optN wDelay 0 v3=Z at *
    obtain⟨d,v4⟩:=Z
    simp -zeta only at hK DB Sd Gd ⊢
    unfold J1050
    refine rd_take_ok (w:=wLate) DB (by decide) fun h1074 D1074 M1074=>⟨_,rfl,?_⟩
    intro J1081
    have Ge:=goes_optN Sd.good wLate 0
    refine opt_split (h:=hY) (d:=0) (by decide) (fun hC DC MC=>?_) D1074 (MB.trans M1074)
    have Se:=Sd.goes Ge
    generalize optN wLate 0 v4=Z at *
    obtain⟨lt,v5⟩:=Z
    simp -zeta only at hK DC Se Ge ⊢
    unfold J1081
    have GZ:Goes v5 v:=((((Ga.trans Gb).trans Gc).trans Gd).trans Ge)
    have GT:Goes v5 t:=GY.trans GZ
    have MC':=MY.trans MC
    obtain⟨qa,qc,qi,hq0,hq1,hqw⟩:=DC.c01
    refine⟨_,DC.c3,_,fun _=>hq1,_,_,_,fun _=>hq0,?_⟩
    intro J1100
    have h1100:∀(hD:Hp) (y:RS),y.f=(if v5.f=0∧v5.ws≠[] then v5.fail 4 else v5).f→(y.f=0→v5.f=0)→RrAt h2 hD b6 W y→Mut (At b6) hC (At b6) hD→J1100 hD:=by
     intro hD y hy hy0 DD MD
     rw [←hy] at hK
     have MD':=MC'.trans MD
     refine⟨_,DD.c3,?_⟩
     intro J1109
     have h1109:∀(hF:Hp) (f:Int),0≤f→hF.cell b6 (0+3)=some (vi f)→h.le hF→(f≠0→∀ h',h.le h'→R (vtup [qV none 0 0 none 0 0 none 0 0 noQ,vi f]) h')→(f=0→R (vtup [qV a m c aw mw cw ab mb cb ⟨L,wh,by_,z,sl,d,lt⟩,vi 0]) hF)→J1109 hF:=by
      intro hF f hf hc lh hb hg
      refine⟨_,hc,fun e=>⟨_,hc,hc,?_⟩,fun e=>?_⟩
      ·have e:=of_decide_eq_true e
       exact hb (by omega) hF lh
      ·have e:=of_decide_eq_false e
       exact hg (by omega)
     clear_value J1109
     refine⟨fun e=>?_,fun e=>?_⟩
     ·have e:y.f=0:=of_decide_eq_true e
      have hv5:=hy0 e
      rw [e,if_neg (fun h=>h rfl)] at hK
      have hvf:v.f=0:=Decidable.byContradiction fun q=>q ((GZ.fst q).symm.trans hv5)
      have htf:t.f=0:=Decidable.byContradiction fun q=>q ((GT.fst q).symm.trans hv5)
      have AD:=AE.mut hb6 MD'
      obtain⟨BE,hm⟩:=AD.ok htf
      have Nw2:=(Nw hvf).mut hgE (MC.trans MD)
      have Nb2:=(Nb hvf).mut hgE (MC.trans MD)
      subst hm
      have QE:QAt hD ⟨L,wh,by_,z,sl,d,lt⟩ a L.length aw mw ab mb:=⟨BE.tab,Nw2.s,Nb2.s⟩
      have hbig:QBig ⟨L,wh,by_,z,sl,d,lt⟩:=⟨Nat.le_trans Kw.1 (by decide),Nat.le_trans Kb.1 (by decide),fun x hx=>Nat.le_trans (hAll x hx).1 (by decide),by show L.length≤1000000;omega⟩
      refine R_QueryFault_ok (q:=⟨L,wh,by_,z,sl,d,lt⟩) (c1:=c) (c2:=cw) (c3:=cb) QE hbig fun hG lG=>⟨qryF ⟨L,wh,by_,z,sl,d,lt⟩,rfl,?_⟩
      refine(DD.le lG).put3 (qryF_2 _) fun hH y2 hy2 DH MH=>?_
      have lh:h.le hH:=Hp.le_trans l02 DH.l
      have hc3:=DH.c3
      rw [hy2] at hc3
      refine h1109 hH _ (qryF_2 _) hc3 lh (fun hf h' l'=>?_) fun hf=>?_
      ·rw [if_pos hf] at hK
       exact hK none 0 0 none 0 0 none 0 0 h' l' (qryF_2 _) noQ_big (noQ_at h')
      ·rw [if_neg (fun h=>h hf)] at hK
       have M2:=(Mut.of_le lG).trans MH
       have AD2:=(AD.mut hb6 M2).ok htf
       exact hK _ _ c _ _ cw _ _ cb hH lh (Int.le_refl _) hbig ⟨AD2.1.tab,(Nw2.mut hgE M2).s,(Nb2.mut hgE M2).s⟩
     ·have e:y.f≠0:=of_decide_eq_false e
      rw [if_pos e] at hK
      refine h1109 hD y.f DD.f0 DD.c3 (Hp.le_trans l02 DD.l) (fun hf h' l'=>?_) fun hf=>absurd hf e
      exact hK none 0 0 none 0 0 none 0 0 h' l' DD.f0 noQ_big (noQ_at h')
    clear_value J1100
    rw [cand]
    refine⟨fun e=>?_,fun e=>?_⟩
    ·have e:=of_decide_eq_true e
     have e2:v5.f=0∧v5.ws≠[]:=⟨e.1,(hqw e.1).1 (by omega)⟩
     refine DC.put3 (f:=4) (by decide) fun hD y hy DD MD=>h1100 hD y ?_ (fun q=>by rw [hy] at q;cases q) DD MD
     rw [if_pos e2,hy]
     unfold RS.fail
     rw [if_pos e2.1]
    ·have e:=of_decide_eq_false e
     refine h1100 hC v5 ?_ id DC (Mut.of_le (Hp.le_refl _))
     rw [if_neg]
     rintro⟨q1,q2⟩
     exact e ⟨q1,by have:=(hqw q1).2 q2;omega⟩
   clear_value J948
   refine⟨fun e=>?_,fun e=>?_⟩
   ·have e:(u.is [wGroup]).1≠[]:=of_decide_eq_true e
    have hop:optP wGroup (fun s=>o (s.must wBy)) u=o ((u.is [wGroup]).2.must wBy):=by unfold optP;rw [if_neg e]
    rw [hop] at h948
    have Su:=SX.goes gi
    have Gy:=goes_must Su.good wBy
    refine rd_must_ok (w:=wBy) D939 (by decide) fun h942 D942 M942=>⟨rfl,?_⟩
    have S942:=Su.goes Gy
    have k2:=kp _ S942.good (Nat.le_of_lt S942.len)
    have M942':=M939'.trans M942
    refine F D942 S942 fun a m c hY DY NY MY=>⟨_,_,_,rfl,?_⟩
    have Gall:=(gi.trans Gy).trans k2.goes
    refine h948 _ _ _ _ _ hY rfl DY (S942.goes k2.goes) (GX.trans Gall) (fun q=>?_) (fun q=>(NY q).base (M942'.up D942.al)) k2.nds (M942'.trans MY)
    have huf:u.f=0:=Decidable.byContradiction fun q2=>q2 ((Gall.fst q2).symm.trans q)
    exact(((NX huf).mut hgE M939).mut hgE M942).mut hgE MY
   ·have e:(u.is [wGroup]).1=[]:=by simpa using e
    have hop:optP wGroup (fun s=>o (s.must wBy)) u=([],u):=by unfold optP;rw [if_pos e]
    rw [io e] at D939
    exact h948 [] none 0 0 u h939 hop D939 SX GX (fun q=>(NX q).mut hgE M939) (fun _=>nd_nil _ _) nds_nil M939'
  clear_value J878
  refine⟨fun e=>?_,fun e=>?_⟩
  ·have e:(t2.is [wWhere]).1≠[]:=of_decide_eq_true e
   have hop:optP wWhere o t2=o (t2.is [wWhere]).2:=by unfold optP;rw [if_neg e]
   rw [hop] at h878
   have Su:=S869.goes gi
   have k2:=kp _ Su.good (Nat.le_of_lt Su.len)
   refine F D871 Su fun a m c hX DX NX MX=>⟨_,_,_,rfl,?_⟩
   exact h878 _ _ _ _ _ hX rfl DX (Su.goes k2.goes) ((G4.trans gi).trans k2.goes) (fun q=>(NX q).base (M871'.up D871.al)) k2.nds (M871'.trans MX)
  ·have e:(t2.is [wWhere]).1=[]:=by simpa using e
   have hop:optP wWhere o t2=([],t2):=by unfold optP;rw [if_pos e]
   rw [io e] at D871
   exact h878 [] none 0 0 t2 h871 hop D871 S869 G4 (fun _=>nd_nil _ _) nds_nil M871'
 clear_value J145
 -- what is gathered, one behind the other
 refine⟨fun vs' hh=>∃(p:Bool) (k:Nat) (L:List Ag) (t:RS) (a:Option Addr) (m c:Nat),vs'=[vb p,vsl a m c,vsl none 0 0,vsl none 0 0,vi 0,vi 0,vi 0,vi 0]∧AgW h2 hh b6 a m c t L∧RrAt h2 hh b6 W t∧SOk (W.length+1) t∧aggsP o ((aggP o s1).2.ws.length+1) [(aggP o s1).1] (aggP o s1).2=(if p=true then aggsP o k (L++[(aggP o t).1]) (aggP o t).2 else(L,t))∧(p=true→(aggP o t).2.ws.length < k)∧L.length+t.ws.length≤100+(if p=true then 0 else 1)∧m+t.ws.length≤100+(if p=true then 0 else 1),fun vs' hh=>(if vbool vs' 0=true then 1 else 0)+rrN hh b6,⟨true,_,[],s1,none,0,0,rfl,⟨⟨[],OwnV.nil D9.l _ _⟩,(fun e=>by cases e),fun _=>⟨GTabB.nil D9.l,rfl⟩⟩,D9,S9,rfl,fun _=>Nat.lt_succ_self _,by show 0+s1.ws.length≤100;omega,by show 0+s1.ws.length≤100;omega⟩,?_⟩
 rintro vs' h14 ⟨p,k,L,t,a,m,c,rfl,A,D,S,hrow,hk,hL,hm⟩
 refine⟨_,_,_,_,_,_,_,_,_,_,_,_,_,_,rfl,fun e=>?_,fun e=>?_⟩
 ·rw [e] at hrow hk hm
  rw [e] at hL
  rw [if_pos rfl] at hrow hm hL
  have hk:=hk rfl
  have hrn:=D.rn
  have Ga:=goes_agg kp S.good (Nat.le_of_lt S.len)
  intro b25 hb25 h26 b27 hb27 h28
  have l26:h14.le h26:=Hp.le_set (Hp.le_refl h14) hb25 _
  have l28:h26.le h28:=Hp.le_set (Hp.le_refl h26) hb27 _
  have l14:=Hp.le_trans l26 l28
  have hg:=D.al
  have W25:ElAt encB h28 b6 (some ⟨b25,0,none⟩) 4 aggL:=⟨SlP.le l28 (slb_lit h14 b25 aggL (by decide)),fun b o q=>by cases q;exact fun q2=>hg (by rw [←q2];exact hb25)⟩
  have I27:∀{i:Nat},i < 4→∀ hh,Mut (At b6) h28 (At b6) hh→hh.cell b27 (0+(i:Int).toNat*1)=some (vi ((i:Int)+2)):=by
   intro i hi hh M
   have hne:b27≠b6:=fun q=>hg (by rw [←q];exact Hp.none_of_le l26 hb27)
   have:=ints_at h26 b27 hi
   unfold Hp.cell at this ⊢
   rw [Hp.set_same] at this
   rw [M.keep b27 _ (fun q=>hne q) (Hp.set_same _ _ _)]
   exact this
  have D28:=D.le l14
  intro J56
  -- one that is gathered
  have h56:∀(x95:Int) (hh:Hp),x95=(if (t.is aggL).1=[] then 0 else refKind (t.is aggL).1)→RrAt h2 hh b6 W (t.is aggL).2→Mut (At b6) h14 (At b6) hh→J56 x95 none 0 0 hh:=by
   intro x95 hh hx DD MM
   have hcw:[wCount,wSum,wMin,wMax]=aggL:=rfl
   have hagg:aggP o t=(if (t.is aggL).1=wCount∧((((if (t.is aggL).1=[] then(t.is aggL).2.fail 4 else(t.is aggL).2).must wOpen).is [wStar]).1≠[]) then((1,[]),((((if (t.is aggL).1=[] then(t.is aggL).2.fail 4 else(t.is aggL).2).must wOpen).is [wStar]).2.must wClose)) else((if (t.is aggL).1=wCount then 2 else aggKind (t.is aggL).1,(o ((if (t.is aggL).1=[] then(t.is aggL).2.fail 4 else(t.is aggL).2).must wOpen)).1),(o ((if (t.is aggL).1=[] then(t.is aggL).2.fail 4 else(t.is aggL).2).must wOpen)).2.must wClose)):=rfl
   have gi:=goes_is S.good aggL
   have hwm:(t.is aggL).1 ∈ [[],wCount,wSum,wMin,wMax]:=by
    by_cases q:(t.is aggL).1=[]
    ·rw [q];simp
    ·exact List.mem_cons_of_mem _ (is_mem q)
   generalize t.is aggL=B at *
   obtain⟨w,u⟩:=B
   simp -zeta only at hx DD hagg gi hwm
   have hkind:x95=0↔w=[]:=by
    have h5:w=[]∨w=wCount∨w=wSum∨w=wMin∨w=wMax:=by simpa using hwm
    rw [hx]
    rcases h5 with rfl|rfl|rfl|rfl|rfl<;>decide
   have hkind2:x95=2↔w=wCount:=by
    have h5:w=[]∨w=wCount∨w=wSum∨w=wMin∨w=wMax:=by simpa using hwm
    rw [hx]
    rcases h5 with rfl|rfl|rfl|rfl|rfl<;>decide
   have hkind3:x95=(if w=wCount then 2 else aggKind w):=by
    have h5:w=[]∨w=wCount∨w=wSum∨w=wMin∨w=wMax:=by simpa using hwm
    rw [hx]
    rcases h5 with rfl|rfl|rfl|rfl|rfl<;>decide
   clear hx hwm
   unfold J56
   intro J102
   have h102:∀(hA:Hp) (u2:RS),u2=(if w=[] then u.fail 4 else u)→RrAt h2 hA b6 W u2→Goes u2 t→Mut (At b6) h14 (At b6) hA→J102 hA:=by
    intro hA u2 hu DA GA MA
    rw [←hu] at hagg
    clear hu
    have Sa:=S.goes GA
    refine rd_must_ok (w:=wOpen) DA (by decide) fun h105 D105 M105=>⟨rfl,?_⟩
    have G5:=GA.trans (goes_must GA.ok wOpen)
    have M105':=MA.trans M105
    generalize u2.must wOpen=s2 at *
    have S2:=S.goes G5
    intro J111
    -- behind what it is gathered of
    have fin:∀(x132:Int) (a133:Option Addr) (m133 c133:Nat) (nl:List Nd) (v:RS) (hB:Hp),aggP o t=((x132,nl),v.must wClose)→RrAt h2 hB b6 W v→Goes v t→(v.f=0→NdAt h14 hB a133 m133 nl)→Mut (At b6) h14 (At b6) hB →
      CallOK Tryz.prog 88 [vhp b6 0,vs ⟨#[41]⟩] hB fun v135 h136=>v135=(vtup [])∧(∀(b137:Nat),h136 b137=none→let h138:Hp:=Hp.set h136 b137 (cellsO [(vi x132),(vsl a133 m133 c133)] 86);(SemOK Tryz.prog (Builtin.append_ #[25,25] 25 #[(vsl a m c),(vsl (some (⟨b137,0,none⟩:Addr)) 1 1)]) h138 fun v139 h140=>∃(a141:Option Addr) (n141 c141:Nat),v139=(vsl a141 n141 c141)∧(CallOK Tryz.prog 89 [(vhp b6 0),(vs ⟨#[44]⟩)] h140 fun v142 h143=>∃(p144:Bool),v142=(vb p144)∧((∃(p:Bool) (k:Nat) (L:List Ag) (t:RS) (a:Option Addr) (m c:Nat),[(vb p144),(vsl a141 n141 c141),(vsl none 0 0),(vsl none 0 0),(vi 0),(vi 0),(vi 0),(vi 0)]=[vb p,vsl a m c,vsl none 0 0,vsl none 0 0,vi 0,vi 0,vi 0,vi 0]∧AgW h2 h143 b6 a m c t L∧RrAt h2 h143 b6 W t∧SOk (W.length+1) t∧aggsP o ((aggP o s1).2.ws.length+1) [(aggP o s1).1] (aggP o s1).2=(if p=true then aggsP o k (L++[(aggP o t).1]) (aggP o t).2 else(L,t))∧(p=true→(aggP o t).2.ws.length < k)∧L.length+t.ws.length≤100+(if p=true then 0 else 1)∧m+t.ws.length≤100+(if p=true then 0 else 1))∧(if vbool [(vb p144),(vsl a141 n141 c141),(vsl none 0 0),(vsl none 0 0),(vi 0),(vi 0),(vi 0),(vi 0)] 0=true then 1 else 0)+rrN h143 b6 < (if vbool [vb p,vsl a m c,vsl none 0 0,vsl none 0 0,vi 0,vi 0,vi 0,vi 0] 0=true then 1 else 0)+rrN h14 b6)))):=by
     intro x132 a133 m133 c133 nl v hB hag DB GB NB MB
     have Gv:=goes_must GB.ok wClose
     have GV:=GB.trans Gv
     refine rd_must_ok (w:=wClose) DB (by decide) fun h136 D136 M136=>⟨rfl,?_⟩
     have M136':=MB.trans M136
     rw [hag] at hrow hk
     simp only at hrow hk
     intro b137 hb137 h138
     have A136:AgW h2 h136 b6 a m c (v.must wClose) L:=(A.mut hb6 M136').state fun q=>Decidable.byContradiction fun q2=>q2 ((GV.fst q2).symm.trans q)
     refine agw_app (hB:=h14) (k:=x132) A136 D136 hg (fun b q=>A.al q) (fun q=>(NB (Decidable.byContradiction fun q2=>q2 ((Gv.fst q2).symm.trans q))).mut hg M136) (by omega) hb137 fun a141 c141 h140 A140 D140=>⟨_,_,_,rfl,?_⟩
     have S140:=S.goes GV
     have hlen:=GV.len
     have hfm:v.must wClose=v.must wClose:=rfl
     have hmono:(v.must wClose).f=0→t.f=0:=fun q=>Decidable.byContradiction fun q2=>q2 ((GV.fst q2).symm.trans q)
     generalize v.must wClose=t2 at *
     obtain⟨k,rfl⟩:∃ j,k=j+1:=⟨k - 1,by omega⟩
     have hst:aggsP o (k+1) (L++[(x132,nl)]) t2=if (t2.is [wComma]).1=[] then(L++[(x132,nl)],t2) else aggsP o k (L++[(x132,nl)]++[(aggP o (t2.is [wComma]).2).1]) (aggP o (t2.is [wComma]).2).2:=rfl
     rw [hst] at hrow
     clear hst
     have gi2:=goes_is S140.good [wComma]
     have io2:=@is_oneR t2 wComma (by decide)
     have tk2:=@taken t2 [wComma]
     obtain⟨nx1,nx2,nx3⟩:=next_one (s:=t2) (w:=wComma) (by decide)
     refine rd_take_ok (w:=wComma) D140 (by decide) fun h143 D143 M143=>⟨_,rfl,?_⟩
     have A143:=A140.mut hb6 M143
     have hrn3:=D143.rn
     have hv1:vbool [vb p,vsl a m c,vsl none 0 0,vsl none 0 0,vi 0,vi 0,vi 0,vi 0] 0=true:=e
     rw [if_pos hv1,hrn]
     by_cases q:(t2.is [wComma]).1=[]
     ·rw [if_pos q] at hrow
      rw [io2 q] at D143 hrn3
      rw [decide_eq_false (fun h=>h q)]
      refine⟨⟨false,0,_,t2,a141,m+1,c141,rfl,A143,D143,S140,by rw [hrow];rfl,(fun q=>by cases q),by rw [List.length_append,if_neg (by decide)];show L.length+1+_≤100+1;omega,by rw [if_neg (by decide)];omega⟩,?_⟩
      show 0+rrN h143 b6 < _
      rw [hrn3]
      split
      ·rename_i q3
       rw [if_pos (hmono q3)]
       omega
      ·split<;>omega
     ·rw [if_neg q] at hrow
      have tk2:=tk2 q
      have hf2:t2.f=0:=Decidable.byContradiction fun q2=>by
       have:=S140.good q2
       rw [this] at tk2
       simp at tk2
      rw [decide_eq_true q]
      have St:=S140.goes gi2
      have Gn:=goes_agg kp St.good (Nat.le_of_lt St.len)
      have hgn:=Gn.1.len
      refine⟨⟨true,k,L++[(x132,nl)],(t2.is [wComma]).2,a141,m+1,c141,rfl,A143.state (fun _=>hf2),D143,St,by rw [hrow];rfl,fun _=>by omega,by rw [List.length_append,if_pos rfl];show L.length+1+_≤100;omega,by rw [if_pos rfl];omega⟩,?_⟩
      show 1+rrN h143 b6 < _
      rw [hrn3,if_pos (hmono hf2)]
      split<;>omega
    have h111:∀(p113:Bool) (hB:Hp) (v:RS),aggP o t=(if p113=true then((1,[]),v.must wClose) else((x95,(o v).1),(o v).2.must wClose))→RrAt h2 hB b6 W v→Goes v t→Mut (At b6) h14 (At b6) hB→J111 p113 hB:=by
     intro p113 hB v hag DB GB MB
     have Sv:=S.goes GB
     unfold J111
     intro J120
     refine⟨fun q=>?_,fun q=>?_⟩
     ·rw [if_pos q] at hag
      exact fin 1 none 0 0 [] v hB hag DB GB (fun _=>nd_nil _ _) MB
     ·rw [if_neg (by rw [q];decide)] at hag
      have k2:=kp v Sv.good (Nat.le_of_lt Sv.len)
      refine F DB Sv fun a118 m118 c118 h117 D117 N117 M117=>⟨_,_,_,rfl,?_⟩
      exact fin x95 a118 m118 c118 _ _ h117 hag D117 (GB.trans k2.goes) (fun q=>(N117 q).base (MB.up DB.al)) (MB.trans M117)
    clear_value J111
    have gs:=goes_is S2.good [wStar]
    have ios:=@is_oneR s2 wStar (by decide)
    refine⟨fun q=>?_,fun q=>?_⟩
    ·have hw:w=wCount:=hkind2.1 (of_decide_eq_true q)
     refine rd_take_ok (w:=wStar) D105 (by decide) fun h107 D107 M107=>⟨_,rfl,?_⟩
     by_cases q2:(s2.is [wStar]).1=[]
     ·rw [if_neg (fun h=>h.2 q2)] at hagg
      rw [ios q2] at D107
      rw [decide_eq_false (fun h=>h q2)]
      refine h111 false h107 s2 ?_ D107 G5 (M105'.trans M107)
      rw [if_neg (by decide),hagg,←hkind3]
     ·rw [if_pos ⟨hw,q2⟩] at hagg
      rw [decide_eq_true q2]
      refine h111 true h107 _ ?_ D107 (G5.trans gs) (M105'.trans M107)
      rw [if_pos rfl,hagg]
    ·have hw:¬ w=wCount:=fun h=>of_decide_eq_false q (hkind2.2 h)
     rw [if_neg (fun h=>hw h.1)] at hagg
     refine h111 false h105 s2 ?_ D105 G5 M105'
     rw [if_neg (by decide),hagg,←hkind3]
   clear_value J102
   refine⟨fun q=>?_,fun q=>?_⟩
   ·have q:=hkind.1 (of_decide_eq_true q)
    exact rd_fail_ok DD (by decide) fun hA DA MA=>⟨rfl,h102 hA _ (by rw [if_pos q]) DA (gi.trans (goes_fail _ _)) (MM.trans MA)⟩
   ·have q:¬ w=[]:=fun h=>of_decide_eq_false q (hkind.2 h)
    exact h102 hh u (by rw [if_neg q]) DD gi MM
  clear_value J56
  -- which it is
  have hnil:([]:Wd) ∉ aggL:=by decide
  obtain⟨ny,nn⟩:=next_any (s:=t) hnil
  refine⟨fun vs' hh=>∃(i:Nat) (x:Int),vs'=[vi i,vi x,vsl none 0 0]∧i≤4∧Mut (At b6) h28 (At b6) hh∧((x=0∧(∀ j,j < i→nextW t≠aggL.getD j [])∧RrAt h2 hh b6 W t)∨(nextW t ∈ aggL∧x=refKind (nextW t)∧x≠0∧RrAt h2 hh b6 W (t.is aggL).2)),fun vs' hh=>4 - (vint vs' 0).toNat,⟨0,0,rfl,by omega,Mut.of_le (Hp.le_refl _),.inl ⟨rfl,(fun j hj=>by omega),D28⟩⟩,?_⟩
  rintro vs' hh ⟨i,x,rfl,hi,Mi,hst⟩
  refine⟨_,_,_,_,_,rfl,fun q=>?_,fun q=>?_⟩
  ·rw [cand] at q
   obtain⟨q1,q2⟩:=of_decide_eq_true q
   have hlt:i < 4:=by omega
   rcases hst with ⟨hx0,hno,Di⟩|⟨_,_,hx,_⟩
   ·intro J50
    obtain⟨b,o',ha,hc⟩:=SlP.get1 (W25.mut Mi).s hlt
    refine⟨b,o',⟨ha,by omega,by omega⟩,_,hc,?_⟩
    obtain⟨ha1,ha2,ha3⟩:=aggL_at hlt
    obtain⟨o1,o2,o3⟩:=next_one (s:=t) ha2
    refine rd_take_ok Di ha2 fun h43 D43 M43=>⟨_,rfl,fun q3=>?_,fun q3=>?_⟩
    ·have q3:=o1.1 (of_decide_eq_true q3)
     obtain⟨r',hr1,hr2⟩:=o2 q3
     rw [←q3] at ha1 ha3
     obtain⟨r,hr3,hr4⟩:=ny ha1
     have er:r'=r:=by rw [hr3,q3] at hr1;exact((List.cons.inj hr1).2).symm
     refine⟨b27,0,⟨rfl,by omega,by omega⟩,_,I27 hlt h43 (Mi.trans M43),_,isW (by unfold InR;omega),⟨i+1,(i:Int)+2,rfl,by omega,Mi.trans M43,.inr ⟨ha1,ha3.symm,by omega,?_⟩⟩,by simp [vint];omega⟩
     rw [hr4]
     rw [hr2,er] at D43
     exact D43
    ·have q3:nextW t≠aggL.getD i []:=fun h=>of_decide_eq_false q3 (o1.2 h)
     rw [o3 q3] at D43
     refine⟨_,isW (by unfold InR;omega),⟨i+1,x,rfl,by omega,Mi.trans M43,.inl ⟨hx0,fun j hj=>?_,D43⟩⟩,by simp [vint];omega⟩
     rcases Nat.lt_or_ge j i with h1|h1
     ·exact hno j h1
     ·have:j=i:=by omega
      rw [this];exact q3
   ·exact absurd q2 hx
  ·rw [cand] at q
   have q:=of_decide_eq_false q
   have ML:=(Mut.of_le l14:Mut (At b6) h14 (At b6) h28).trans Mi
   rcases hst with ⟨hx0,hno,Di⟩|⟨hmm,hx,hx0,Di⟩
   ·have hge:i=4:=by omega
    subst hge
    have hmm:nextW t ∉ aggL:=by
     intro hm
     have h1:nextW t=wCount∨nextW t=wSum∨nextW t=wMin∨nextW t=wMax:=by simpa [aggL] using hm
     rcases h1 with h1|h1|h1|h1
     ·exact hno 0 (by omega) h1
     ·exact hno 1 (by omega) h1
     ·exact hno 2 (by omega) h1
     ·exact hno 3 (by omega) h1
    refine h56 x hh ?_ (by rw [nn hmm];exact Di) ML
    rw [nn hmm,if_pos rfl,hx0]
   ·obtain⟨r,hr3,hr4⟩:=ny hmm
    refine h56 x hh ?_ Di ML
    rw [hr4]
    simp only
    rw [if_neg (fun h=>hnil (by rw [←h];exact hmm)),hx]
 ·rw [e] at hrow hL
  rw [if_neg (by decide)] at hrow hL
  exact hRest L t a m c h14 A D S hrow (by omega)
end Go.Proofs.YtiflgceoamkmnaaGreatDoor
namespace Go.Proofs.YtiflgceoamkmnaaGreatDoor
open Go Go.Vc
def VC_R_EventFault (u0:Int)(u1:Int)(u2:Int)(u3:Int)(u4:Int)(u5:Int)(u6:Int)(h:Hp)(R:Value→Hp→Prop):Prop:=
 (((bif (decide (u0 < 0)) then true else(decide (u0 > 9999)))=true→R (vi 1) h)∧((bif (decide (u0 < 0)) then true else(decide (u0 > 9999)))=false→(∀ b2,h b2=none→let h3:= Hp.set h b2 (cellsO [vi u1,vi u2,vi u3,vi u4,vi u5,vi u6] 41);(∃(I5:List Value→Hp→Prop) (m6:List Value→Hp→Nat),I5 [vi 0] h3∧∀ vs7 h8,I5 vs7 h8→∃ x9,vs7=[vi x9]∧(((decide (x9 < 3))=true→(∃ b12 o13,((some (⟨b2,0,none⟩:Addr))=some ⟨b12,o13,none⟩∧(0:Int)≤x9∧x9 < ((3:Nat):Int))∧(∃ x14 x15,(Hp.row h8 b12 (o13+x9.toNat*2) 2=some [vi x14,vi x15])∧(CallOK Tryz.prog 43 [vag [vi x14,vi x15]] h8 fun v16 h17=>∃ x18,v16=(vi x18)∧(∃ b19 o20,((decide (x18 > 0))=false→((some (⟨b2,0,none⟩:Addr))=some ⟨b19,o20,none⟩∧(0:Int)≤x9∧x9 < ((3:Nat):Int)))∧(∃ x21,((decide (x18 > 0))=false→Hp.cell h17 b19 (o20+x9.toNat*2)=some (vi x21))∧(((bif (decide (x18 > 0)) then true else(decide (x21=2)))=true→R (vi 3) h17)∧((bif (decide (x18 > 0)) then true else(decide (x21=2)))=false→(∃ b23 o24,((some (⟨b2,0,none⟩:Addr))=some ⟨b23,o24,none⟩∧(0:Int)≤x9∧x9 < ((3:Nat):Int))∧(∃ x25,(Hp.cell h17 b23 ((o24+x9.toNat*2)+1)=some (vi x25))∧(∃ b26 o27,((decide (x25 < (-1000)))=false→((some (⟨b2,0,none⟩:Addr))=some ⟨b26,o27,none⟩∧(0:Int)≤x9∧x9 < ((3:Nat):Int)))∧(∃ x28,((decide (x25 < (-1000)))=false→Hp.cell h17 b26 ((o27+x9.toNat*2)+1)=some (vi x28))∧(((bif (decide (x25 < (-1000))) then true else(decide (x28 > 1000)))=true→R (vi 1) h17)∧((bif (decide (x25 < (-1000))) then true else(decide (x28 > 1000)))=false→(∃ x30,(IsW x30 (x9+1))∧(I5 [vi x30] h17∧m6 [vi x30] h17 < m6 vs7 h8))))))))))))))))∧((decide (x9 < 3))=false→R (vi 0) h8))))))
theorem ok_R_EventFault {u0 u1 u2 u3 u4 u5 u6 h R}(H:VC_R_EventFault u0 u1 u2 u3 u4 u5 u6 h R):CallOK Tryz.prog 16 [vag [vi u0,vi u1,vi u2,vi u3,vi u4,vi u5,vi u6]] h R:=
 call_of (cfg:=⟨[],[(5,([4],[.one (.int .i64)],[]))],[]⟩) noNG mixed Tryz.func16 [.ag [.v (vi u0),.v (vi u1),.v (vi u2),.v (vi u3),.v (vi u4),.v (vi u5),.v (vi u6)]] (by kernel_rfl) rfl (by kernel_rfl) H
theorem R_EventFault_ok {e:EvL}{h:Hp}{R:Value→Hp→Prop}(hK:∀ h',h.le h'→R (vi (chkE e)) h'):CallOK Tryz.prog 16 [vag (encE e)] h R:=by
 refine ok_R_EventFault ?_
 unfold VC_R_EventFault
 refine⟨fun q=>?_,fun q=>?_⟩
 ·have:chkE e=1:=by unfold chkE;rw [if_pos (by simp [Bool.cond_eq_ite] at q;omega)]
  rw [this] at hK;exact hK h (Hp.le_refl h)
 have e1:chkE e=chkL [e.2.1,e.2.2.1,e.2.2.2]:=by unfold chkE;rw [if_neg (by simp [Bool.cond_eq_ite] at q;omega)]
 rw [e1] at hK
 clear e1 q
 intro b2 hb2 h3
 have l3:h.le h3:=Hp.le_set (Hp.le_refl h) hb2 _
 have S:SlP encV h3 (some ⟨b2,0,none⟩) 3 [e.2.1,e.2.2.1,e.2.2.2]:=⟨rfl,HasRow.new _ _ [vi e.2.1.1,vi e.2.1.2,vi e.2.2.1.1,vi e.2.2.1.2,vi e.2.2.2.1,vi e.2.2.2.2] _⟩
 clear_value h3
 have hl:[e.2.1,e.2.2.1,e.2.2.2].length=3:=rfl
 generalize [e.2.1,e.2.2.1,e.2.2.2]=l at *
 refine⟨fun vs hh=>hh=h3∧∃ i:Nat,vs=[vi i]∧i≤3∧chkL l=chkL (l.drop i),fun vs hh=>3 - (vint vs 0).toNat,⟨rfl,0,rfl,by decide,rfl⟩,?_⟩
 rintro vs hh ⟨rfl,i,rfl,hi,hc⟩
 refine⟨i,rfl,fun q=>?_,fun q=>?_⟩
 ·have hlt:i < 3:=by have:=of_decide_eq_true q;omega
  have hx:l[i]?=some (l[i]'(by omega)):=List.getElem?_eq_getElem (by omega)
  rw [drop_get (by omega:i < l.length),chkL] at hc
  obtain⟨b,o,ha,hr⟩:=S.get encV_len (by decide) hx
  generalize l[i]'(by omega)=v at *
  have A:(some ⟨b2,0,none⟩:Option Addr)=some ⟨b,o,none⟩∧(0:Int)≤i∧(i:Int) < (3:Nat):=⟨ha,by omega,by omega⟩
  refine⟨b,o,A,_,_,hr,R_ValueFault_ok (v:=v) ⟨_,rfl,b,o,fun _=>A,_,fun _=>Hp.row_cell hr (i:=0) rfl,fun q2=>?_,fun q2=>⟨b,o,A,_,Hp.row_cell hr (i:=1) rfl,b,o,fun _=>A,_,fun _=>Hp.row_cell hr (i:=1) rfl,fun q3=>?_,fun q3=>?_⟩⟩⟩
  ·have:chkV v=3:=by
    unfold chkV;rw [if_pos]
    by_cases hg:goodV v
    ·right;simp [hg] at q2;exact q2
    ·exact .inl hg
   rw [this,if_neg (by decide)] at hc
   rw [hc] at hK;exact hK hh l3
  ·have:chkV v=1:=by
    unfold chkV;rw [if_neg,if_pos]
    ·simp [Bool.cond_eq_ite] at q3;omega
    ·by_cases hg:goodV v
     ·simp [hg] at q2 ⊢;exact q2
     ·simp [hg] at q2
   rw [this,if_neg (by decide)] at hc
   rw [hc] at hK;exact hK hh l3
  ·have:chkV v=0:=by
    unfold chkV;rw [if_neg,if_neg]
    ·simp [Bool.cond_eq_ite] at q3;omega
    ·by_cases hg:goodV v
     ·simp [hg] at q2 ⊢;exact q2
     ·simp [hg] at q2
   rw [this,if_pos rfl] at hc
   exact⟨_,isW (by unfold InR;omega),⟨rfl,i+1,rfl,by omega,hc⟩,by simp [vint];omega⟩
 ·have hge:i=3:=by have:=of_decide_eq_false q;omega
  subst hge
  rw [List.drop_eq_nil_of_le (by omega)] at hc
  rw [hc] at hK;exact hK hh l3
open Go.Txt
def PosL (l:List Nd):Prop:=∀ n ∈ l,0≤n.v.2
def PP (P:Ps):Prop:=∀ s,PosL (P s).1
theorem pos_one {n:Nd}(h:0≤n.v.2):PosL [n]:=fun m hm=>by rw [List.mem_singleton.1 hm];exact h
theorem pos_join {op:Int}{x y:List Nd}(hx:PosL x)(hy:PosL y):PosL (joinL op x y):=by
 intro n hn
 unfold joinL at hn
 rcases List.mem_append.1 hn with h|h
 ·rcases List.mem_append.1 h with h|h
  ·exact hx n h
  ·obtain⟨m,hm,rfl⟩:=List.mem_map.1 h
   exact hy m hm
 ·rw [List.mem_singleton.1 h]
  exact Int.le_refl _
theorem pos_joinP {op:Int}{x y:List Nd}{s:RS}(hx:PosL x)(hy:PosL y):PosL (joinP op x y s).1:=by
 unfold joinP
 split
 ·exact pos_one (by decide)
 ·exact pos_join hx hy
theorem pos_nil:PosL []:=fun n h=>by cases h
theorem number_pos (s:RS)(m:Int):0≤(s.number m).1:=by
 unfold RS.number
 split
 ·exact Int.le_refl _
 ·split
  ·exact Int.le_refl _
  ·rename_i h;simp only;omega
theorem pp_down {P:Ps}(h:PP P):PP (downP P):=by
 intro s
 unfold downP
 exact h _
theorem pp_atom {o:Ps}(h:PP o):PP (atomP o):=by
 intro s
 unfold atomP
 simp only
 split
 ·exact pp_down h _
 ·split
  ·refine pos_one ?_
   simp only
   unfold constV
   split
   ·decide
   ·simp only
    split<;>decide
  ·split
   ·exact pos_one (number_pos _ _)
   ·exact pos_one (Int.le_refl _)
theorem pp_unary {u a:Ps}(hu:PP u)(ha:PP a):PP (unaryP u a):=by
 intro s
 unfold unaryP
 split
 ·exact ha s
 ·exact pos_joinP (pp_down hu _) pos_nil
theorem pp_not {u a:Ps}(hu:PP u)(ha:PP a):PP (notP u a):=by
 intro s
 unfold notP
 split
 ·exact ha s
 ·exact pos_joinP (pp_down hu _) pos_nil
theorem pp_rowL {P:Ps}(h:PP P){ops:List (Wd × Int)}:∀(k:Nat) (x:List Nd) (s:RS),PosL x→PosL (rowL P ops k x s).1
 | 0,x,s,hx=>hx
 | k+1,x,s,hx=>by
  rw [rowL]
  split
  ·exact hx
  ·simp only
   split
   ·exact hx
   ·exact pp_rowL h k _ _ (pos_joinP hx (h _))
theorem pp_row {P:Ps}(h:PP P){ops:List (Wd × Int)}:PP (rowP P ops):=fun s=>pp_rowL h _ _ _ (h s)
theorem pp_cmp {P:Ps}(h:PP P):PP (cmpP P):=by
 intro s
 unfold cmpP
 simp only
 split
 ·exact pos_joinP (h _) (h _)
 ·split
  ·exact pos_joinP (h _) (h _)
  ·split
   ·exact pos_joinP (pos_joinP (h _) (h _)) pos_nil
   ·split
    ·exact pos_joinP (pos_joinP (h _) (h _)) pos_nil
    ·split
     ·exact pos_joinP (h _) (h _)
     ·split
      ·exact pos_joinP (pos_joinP (h _) (h _)) pos_nil
      ·split
       ·split
        ·exact pos_joinP (pos_joinP (h _) pos_nil) pos_nil
        ·exact pos_joinP (h _) pos_nil
       ·exact h _
theorem pp_S {t:Three}(ho:PP t.o)(hn:PP t.n)(hu:PP t.u):PP (orS t)∧PP (notS t)∧PP (unS t):=by
 have h1:PP (unS t):=pp_unary hu (pp_atom ho)
 have h3:PP (sumS t):=pp_row (pp_row h1)
 have h5:PP (notS t):=pp_not hn (pp_cmp h3)
 exact⟨pp_row (pp_row h5),h5,h1⟩
theorem pp_noP:PP noP:=fun s=>pos_one (by decide)
theorem pp_all (n:Nat):PP (allP n).o∧PP (allP n).n∧PP (allP n).u:=by
 induction n with
 | zero=>exact⟨pp_noP,pp_noP,pp_noP⟩
 | succ n ih=>
  rw [allP_succ]
  exact pp_S ih.1 ih.2.1 ih.2.2
structure PosQ (q:Qy):Prop where
 g:∀ a ∈ q.aggs,PosL a.2
 w:PosL q.wh
 b:PosL q.by_
theorem pos_ite {c:Prop}[Decidable c]{x y:Ag × RS}(hx:PosL x.1.2)(hy:PosL y.1.2):PosL (if c then x else y).1.2:=by
 split
 ·exact hx
 ·exact hy
theorem pp_agg {o:Ps}(h:PP o)(s:RS):PosL (aggP o s).1.2:=by
 unfold aggP
 exact pos_ite pos_nil (h _)
theorem pp_aggs {o:Ps}(h:PP o):∀(k:Nat) (l:List Ag) (s:RS),(∀ a ∈ l,PosL a.2)→∀ a ∈ (aggsP o k l s).1,PosL a.2
 | 0,l,s,hl=>hl
 | k+1,l,s,hl=>by
  rw [aggsP]
  split
  ·exact hl
  ·refine pp_aggs h k _ _ fun a ha=>?_
   rcases List.mem_append.1 ha with h1|h1
   ·exact hl a h1
   ·rw [List.mem_singleton.1 h1];exact pp_agg h _
theorem pp_opt {P:Ps}(h:PP P){w:Wd}{s:RS}:PosL (optP w P s).1:=by
 unfold optP
 split
 ·exact pos_nil
 ·exact h _
theorem posQ_read (ws:List Wd):PosQ (readQ ws).1:=by
 have ho:=(pp_all (ws.length+1)).1
 rw [readQ_eq]
 generalize (allP (ws.length+1)).o=o at ho ⊢
 refine⟨pp_aggs ho _ _ _ fun a ha=>?_,pp_opt ho,pp_opt (fun s=>ho _)⟩
 rw [List.mem_singleton.1 ha];exact pp_agg ho _
theorem posQ_parse {s:List UInt8}(h:(parseQ s).2=0):QOk (parseQ s).1∧PosQ (parseQ s).1:=by
 unfold parseQ at h ⊢
 split at h
 ·rename_i h1;exact absurd h h1
 ·rename_i h1
  rw [if_neg h1]
  unfold parseW at h ⊢
  split at h
  ·rename_i h2;exact absurd h h2
  ·rename_i h2
   rw [if_neg h2]
   split at h
   ·rename_i h3;exact absurd h h3
   ·rename_i h3
    rw [if_neg h3]
    exact⟨qok_of (Decidable.not_not.1 h3),posQ_read _⟩
end Go.Proofs.YtiflgceoamkmnaaGreatDoor
namespace Go.Proofs.YtiflgceoamkmnaaGreatDoor
open Go Go.Vc
def VC_law_Asked (u0:ByteArray)(h:Hp)(R:Value→Hp→Prop):Prop:=
 (((decide ((((ByteArray.size u0:Nat):Int):Int) > 400))=true→R (vtup [vag [vsl none 0 0,vsl none 0 0,vsl none 0 0,vi 0,vi 0,vi 0,vi 0],vb false]) h)∧((decide ((((ByteArray.size u0:Nat):Int):Int) > 400))=false→(CallOK Tryz.prog 41 [vs u0] h fun v2 h3=>∃ a4 n4 c4 a5 n5 c5 a6 n6 c6 x7 x8 x9 x10 x11,v2=(vtup [vag [vsl a4 n4 c4,vsl a5 n5 c5,vsl a6 n6 c6,vi x7,vi x8,vi x9,vi x10],vi x11])∧R (vtup [vag [vsl a4 n4 c4,vsl a5 n5 c5,vsl a6 n6 c6,vi x7,vi x8,vi x9,vi x10],(vb (decide (x11=0)))]) h3)))
theorem ok_law_Asked {u0 h R}(H:VC_law_Asked u0 h R):CallOK Tryz.prog 12 [vs u0] h R:=
 call_of (cfg:=⟨[],[],[]⟩) noNG mixed Tryz.func12 [.one (.v (vs u0))] (by kernel_rfl) rfl (by kernel_rfl) H
open Go.RowKit Go.Txt
def tEng:Wd:=[115,101,108,101,99,116,32,99,111,117,110,116,40,42,41,32,102,114,111,109,32,101,118,101,110,116,115,32,119,105,110,100,111,119,32,49,48]
def evE (t:Int):EvL:=(t,(0,0),(0,0),(0,0))
theorem tEng_read:(parseQ tEng).2=0∧(stepE (parseQ tEng).1 0 (evE 12) (stepE (parseQ tEng).1 0 (evE 3) (newE 1))).rows=[(false,(0,(0,0)),[(1,1)])]:=by decide +kernel
theorem law_engines_ok {h:Hp}(T:TabQ h){R:Value→Hp→Prop}(hK:∀ h',h.le h'→R (vb true) h'):CallOK Tryz.prog 10 [] h R:=by
 refine ok_law_engines ?_
 unfold VC_law_engines
 obtain⟨e0,e1⟩:=tEng_read
 have Qk:=(posQ_parse e0).1
 refine query_Parse_ok (l:=tEng) T fun a1 n1 c1 a2 n2 c2 a3 n3 c3 h2 l2 Q=>⟨_,_,_,_,_,_,_,_,_,_,_,_,_,_,rfl,?_⟩
 rw [errV_some,decide_eq_true e0]
 refine⟨fun e=>(by cases e),fun _=>?_⟩
 generalize (parseQ tEng).1=q at *
 refine engine_New_ok Q Qk (fun e=>absurd ⟨by decide,by decide⟩ e) fun _ _ g h13 l13 X=>⟨some ⟨g,0,none⟩,none,rfl,_,fun _=>rd_eqNilP (e:=64) (by kernel_rfl),fun e=>(by cases e),fun _=>?_⟩
 have hB:=newE_ok q 1
 have E1:EvOK (evE 3):=chkE_ok (by decide)
 have E2:EvOK (evE 12):=chkE_ok (by decide)
 have hB1:=stepE_ok Qk hB (p:=0) (by decide) E1
 refine engine_Step_ok (p:=0) (e:=evE 3) X Qk E1 hB (by decide) (by decide) (by decide) fun h19 l19 X1=>⟨rfl,?_⟩
 refine engine_Step_ok (p:=0) (e:=evE 12) X1 Qk E2 hB1 (by decide) (by decide) (by decide) fun h21 l21 X2=>⟨rfl,?_⟩
 obtain⟨a1,n1,c1,a2,n2,c2,a3,n3,c3,qf,ak,nk,ck,ar,cr,ac,cc,tb,tc,aw,cw,k1,s1,s2,g1⟩:=X2.see
 have e1:(stepE q 0 (evE 12) (stepE q 0 (evE 3) (newE 1))).rows=[(false,(0,(0,0)),[(1,1)])]:=e1
 rw [show (newE (1:Int).toNat)=newE 1 from rfl] at *
 rw [e1] at k1 g1
 obtain⟨b,o,a',c',ea,hr,hS⟩:=g1.row rwRow_len (by decide) (j:=0) (x:=(false,(0,(0,0)))) (l:=[(1,1)]) rfl
 obtain⟨b2,o2,ea2,hr2⟩:=hS.get (sz:=2) (fun _=>rfl) (by decide) (i:=0) (x:=(1,1)) rfl
 refine⟨g,0,rfl,_,_,_,cell_cells k1 rfl,g,0,fun _=>rfl,_,_,_,fun _=>cell_cells k1 rfl,b,o,fun _=>⟨ea,by decide,by decide⟩,a',_,c',fun _=>Hp.row_cell hr (i:=4) rfl,b2,o2,fun _=>⟨ea2,by decide,by decide⟩,1,fun _=>Hp.row_cell hr2 (i:=1) rfl,?_⟩
 exact hK h21 (Hp.le_trans l2 l21)
theorem law_AskedE_ok {s:Wd}{h:Hp}{R:Value→Hp→Prop}(hK:∀ a1 n1 c1 a2 n2 c2 a3 n3 c3 x4 x5 x6 x7 (p:Bool) h',h.le h'→(p=true→∃ q,QOk q∧QAt h' q a1 n1 a2 n2 a3 n3∧x4=q.size∧x5=q.slide∧x6=q.delay∧x7=q.late)→R (vtup [vag [vsl a1 n1 c1,vsl a2 n2 c2,vsl a3 n3 c3,vi x4,vi x5,vi x6,vi x7],vb p]) h'):CallOK Tryz.prog 12 [vs (bs s)] h R:=by
 refine ok_law_Asked ?_
 unfold VC_law_Asked
 refine⟨fun e=>hK none 0 0 none 0 0 none 0 0 0 0 0 0 false h (Hp.le_refl h) (fun q=>by cases q),fun _=>?_⟩
 refine R_QueryOf_ok fun b1 m1 d1 b2 m2 d2 b3 m3 d3 h' l' hpf hpb Q=>⟨_,_,_,_,_,_,_,_,_,_,_,_,_,_,rfl,?_⟩
 refine hK b1 m1 d1 b2 m2 d2 b3 m3 d3 _ _ _ _ _ h' l' fun q=>⟨(parseQ s).1,(posQ_parse (of_decide_eq_true q)).1,Q,rfl,rfl,rfl,rfl⟩
def encU (y:Int × EvL):List Value:=vi y.1 :: encE y.2
theorem encU_len (y:Int × EvL):(encU y).length=8:=rfl
theorem SlP.evU {h:Hp}{a:Option Addr}{n:Nat}{l:List (Int × EvL)}(S:SlP encU h a n l){i:Nat}{y:Int × EvL}(hx:l[i]?=some y):∃ b o,a=some ⟨b,o,none⟩∧h.cell b (o+i*8)=some (vi y.1)∧h.row b (o+i*8+1) 7=some (encE y.2):=by
 obtain⟨b,o,ea,hr⟩:=S.get encU_len (by decide) hx
 exact⟨b,o,ea,Hp.row_cell hr (i:=0) rfl,Hp.row_sub hr (i:=1) (k:=7) (by decide)⟩
theorem part_of {parts:Nat}(hp:1≤parts)(x:Int):∃ p:Nat,Int.tmod (x % 1024) (parts:Int)=(p:Int)∧p < parts:=by
 have h1:0≤x % 1024:=Int.emod_nonneg _ (by decide)
 obtain⟨y,hy⟩:=Int.eq_ofNat_of_zero_le h1
 rw [hy]
 exact⟨y % parts,by rw [←Int.ofNat_tmod],Nat.mod_lt _ hp⟩
theorem law_EngineSays_ok {s:Wd}{parts:Int}{a:Option Addr}{n c:Nat}{l:List (Int × EvL)}{h:Hp}(S:SlP encU h a n l)(T:TabQ h):CallOK Tryz.prog 3 [vs (bs s),vi parts,vsl a n c] h fun v h'=>v=vb true∧h.le h':=by
 refine ok_law_EngineSays ?_
 unfold VC_law_EngineSays
 have hn:=S.1
 refine law_engines_ok T fun h2 l2=>⟨_,rfl,?_⟩
 refine⟨fun x h'=>h'=h2∧x=.t (.one (.v (vb (bif (decide ((((n:Nat):Int):Int)≤130)) then true else false)))),fun _=>?_,fun e=>absurd rfl e,?_⟩
 ·refine ok_law_Light ?_
  unfold VC_law_Light
  exact⟨_,rfl,rfl,rfl⟩
 rintro h8 p9 ⟨rfl,e9⟩
 cases e9
 refine⟨fun _=>⟨rfl,l2⟩,fun e=>?_⟩
 have hn130:n≤130:=by
  by_cases q:((n:Nat):Int)≤130
  ·omega
  ·rw [decide_eq_false q] at e
   cases e
 clear e
 refine law_AskedE_ok fun a1 n1 c1 a2 n2 c2 a3 n3 c3 x4 x5 x6 x7 p0 h12 l12 hq=>⟨_,_,_,_,_,_,_,_,_,_,_,_,_,_,rfl,?_⟩
 have l012:=Hp.le_trans l2 l12
 refine⟨fun _=>⟨rfl,l012⟩,fun e=>?_⟩
 have hpt:p0=true:=by simpa using e
 obtain⟨q,B,Q,rfl,rfl,rfl,rfl⟩:=hq hpt
 clear hq e hpt
 refine engine_New_ok Q B (fun hbad h23 l23=>?_) fun hp1 hp3 g h23 l23 X=>?_
 ·refine⟨none,some (99,vi 1),rfl,fun _=>?_,fun e=>?_⟩
  ·exact law_same_ok (f:=1) (by decide) ⟨true,rfl,_,fun _=>rd_eqNilP (e:=64) (by kernel_rfl),rfl,Hp.le_trans l012 l23⟩
  ·exfalso
   apply hbad
   by_cases q1:parts < 1
   ·rw [decide_eq_true q1] at e;cases e
   ·by_cases q2:parts > 3
    ·rw [decide_eq_false q1,decide_eq_true q2] at e;cases e
    ·exact⟨by omega,by omega⟩
 ·refine⟨some ⟨g,0,none⟩,none,rfl,fun e=>?_,fun _=>?_⟩
  ·rw [decide_eq_false (by omega),decide_eq_false (by omega)] at e
   cases e
  obtain⟨k,rfl⟩:=Int.eq_ofNat_of_zero_le (show 0≤parts by omega)
  rw [Int.toNat_natCast] at X
  refine⟨_,fun _=>rd_eqNilP (e:=64) (by kernel_rfl),fun e=>(by cases e),fun _=>?_⟩
  refine(Duo.new l23).right (R_NewEngineM_ok Q (by omega) fun m h1 l1 Y=>⟨l1,fun h34 D=>⟨some ⟨m,0,none⟩,rfl,?_⟩⟩)
  refine⟨fun vs hh=>∃(i:Nat) (hA hM:Hp) (st:En),vs=[vi i]∧i≤n∧Duo h12 hA hM hh∧EngX q h12 hA g st∧MEng q h12 hM m st∧EnB q k (1001*i) st,fun vs hh=>n - (vint vs 0).toNat,⟨0,h23,h1,newE k,rfl,Nat.zero_le _,D,X,Y,newE_ok q k⟩,?_⟩
  clear D X Y l1 l23
  clear h1 h34 h23
  rintro vs hh ⟨i,hA,hM,st,rfl,hi,D,X,Y,HB⟩
  have lhh:=Hp.le_trans l012 D.le0
  refine⟨i,rfl,fun e=>?_,fun e=>⟨rfl,lhh⟩⟩
  have hlt:i < l.length:=by have:=of_decide_eq_true e;omega
  have hx:l[i]?=some l[i]:=List.getElem?_eq_getElem hlt
  generalize l[i]=y at hx
  obtain⟨r,ev⟩:=y
  obtain⟨b,o,ea,hc,hr⟩:=SlP.evU (S.le lhh) hx
  have hbd:a=some ⟨b,o,none⟩∧(0:Int)≤(i:Int)∧(i:Int) < ((n:Nat):Int):=⟨ea,by omega,by omega⟩
  intro J88
  have hJ:∀ h',(∃(hA hM:Hp) (st:En),Duo h12 hA hM h'∧EngX q h12 hA g st∧MEng q h12 hM m st∧EnB q k (1001*(i+1)) st)→J88 h':=by
   rintro h' ⟨hA,hM,st,q1,q2,q3,q4⟩
   exact⟨_,isW (by unfold InR;omega),⟨i+1,hA,hM,st,rfl,by omega,q1,q2,q3,q4⟩,by simp [vint];omega⟩
  clear_value J88
  refine⟨b,o,hbd,_,_,_,_,_,_,_,hr,?_⟩
  refine R_EventFault_ok (e:=ev) fun h54 l54=>⟨_,rfl,fun e1=>?_,fun e1=>?_⟩
  ·exact hJ h54 ⟨hA,hM,st,D.grow l54,X,Y,HB.mono (by omega)⟩
  ·have E:EvOK ev:=chkE_ok (by have:=of_decide_eq_false e1;have:=chkE_2 ev;omega)
   obtain⟨p,ep,hp⟩:=part_of (parts:=k) (by omega) r
   have HB2:=stepE_ok B HB hp E
   refine⟨b,o,hbd,r,cell_le l54 hc,_,rd_and1023,by omega,b,o,hbd,_,_,_,_,_,_,_,Hp.row_le l54 hr,?_⟩
   rw [ep]
   refine(D.grow l54).left (engine_Step_ok X B E HB (by omega) hp (by omega) fun h1 l1 X1=>⟨l1,fun h72 D72=>⟨rfl,?_⟩⟩)
   have l72:=Hp.le_trans l012 D72.le0
   obtain⟨b',o',ea',hc',hr'⟩:=SlP.evU (S.le l72) hx
   refine⟨b',o',⟨ea',by omega,by omega⟩,_,_,_,_,_,_,_,hr',?_⟩
   refine D72.right (R_Step_ok Y B E HB (by omega) hp (by omega) fun h2 l2 Y1=>⟨l2,fun h83 D83=>⟨rfl,?_⟩⟩)
   refine law_asEngine_ok (X1.le D83.lA) (Y1.le D83.lM) B HB2 (by omega) (by omega) ⟨_,rfl,fun e=>(by cases e),fun _=>?_⟩
   exact hJ h83 ⟨h1,h2,_,D83,X1,Y1,HB2.mono (by omega)⟩
end Go.Proofs.YtiflgceoamkmnaaGreatDoor
namespace Go.Proofs.YtiflgceoamkmnaaGreatDoor.engineSays
open Go.ChangeShapes Go.WideShapes Go.ChangeAt Go.RowKit Go.Vc
theorem own:ownKnob Tryz.prog.godebug=none:=by kernel_rfl
theorem open0 {H:Type}{enc:TypeId × Value→H}{W:World}{cs:List Value}(L:LeafL Tryz.prog enc W (fun _=>True) (flatIds Tryz.prog 4 45) cs):∃(x0:Int) (x1:Int) (x2:Int) (x3:Int) (x4:Int) (x5:Int) (x6:Int) (x7:Int),cs=encU (x0,(x1,(x2,x3),(x4,x5),(x6,x7)))∧InR x0∧InR x1∧InR x2∧InR x3∧InR x4∧InR x5∧InR x6∧InR x7:=by
 have e:flatIds Tryz.prog 4 45=[3,3,3,3,3,3,3,3]:=by kernel_rfl
 rw [e] at L
 match cs,L with
 | [v0,v1,v2,v3,v4,v5,v6,v7],L=>
  obtain⟨x0,h0,g0⟩:=leaf_i64 Tryz.underlying3 (L.1)
  cases h0
  obtain⟨x1,h1,g1⟩:=leaf_i64 Tryz.underlying3 (L.2.1)
  cases h1
  obtain⟨x2,h2,g2⟩:=leaf_i64 Tryz.underlying3 (L.2.2.1)
  cases h2
  obtain⟨x3,h3,g3⟩:=leaf_i64 Tryz.underlying3 (L.2.2.2.1)
  cases h3
  obtain⟨x4,h4,g4⟩:=leaf_i64 Tryz.underlying3 (L.2.2.2.2.1)
  cases h4
  obtain⟨x5,h5,g5⟩:=leaf_i64 Tryz.underlying3 (L.2.2.2.2.2.1)
  cases h5
  obtain⟨x6,h6,g6⟩:=leaf_i64 Tryz.underlying3 (L.2.2.2.2.2.2.1)
  cases h6
  obtain⟨x7,h7,g7⟩:=leaf_i64 Tryz.underlying3 (L.2.2.2.2.2.2.2.1)
  cases h7
  exact⟨x0,x1,x2,x3,x4,x5,x6,x7,rfl,g0,g1,g2,g3,g4,g5,g6,g7⟩
abbrev lay:=Rows.engineSaysRow.laid
theorem tabs {W:World}(hL:laidMetH Tryz.prog lay W):TabP (hpOf W):=by
 rw [MakeChecks.laidMetH_plain _ _ _ (by kernel_rfl)] at hL
 have h3:laidMet Tryz.prog (("internal/strconv.uint64pow10",Lib.tabData .u64 Lib.pow10Tab) :: lay.drop 3) W:=hL.tail.tail
 have hT:=Lib.tabIs_of_head (g:=5) (n:=20) (by kernel_rfl) (t:=274) (by kernel_rfl) (e:=223) (by kernel_rfl) (by kernel_rfl) (by kernel_rfl) (by kernel_rfl) h3
 intro w hs
 exact var_sub hT hs
theorem star: "*"++ "errors.errorString"= "*errors.errorString":=by decide
theorem rowE (u:TypeId)(h:Tryz.prog.typeName? 3 u=some "*errors.errorString"):u=263:=
 typeName_ptr_named (nm:= "errors.errorString") (by rw [star];kernel_rfl) (by kernel_rfl) (by decide) u (by rw [star];exact h)
theorem errs {W:World}(hL:laidMetH Tryz.prog lay W):TabE (hpOf W):=by
 rw [MakeChecks.laidMetH_plain _ _ _ (by kernel_rfl)] at hL
 have h4:laidMet Tryz.prog (("strconv.ErrRange",_) :: ("strconv.ErrSyntax",_) :: lay.drop 5) W:=hL.tail.tail.tail
 obtain⟨a0,s0,hv0,_⟩:=laid_sentinel (g:=2) (ti:=33) h4 (by kernel_rfl) (by kernel_rfl) Tryz.underlying33 rowE Tryz.underlying263 Tryz.underlying265 rfl rfl Tryz.underlying9 (by kernel_rfl) (by kernel_rfl)
 obtain⟨a1,s1,hv1,_⟩:=laid_sentinel (g:=1) (ti:=33) h4.tail (by kernel_rfl) (by kernel_rfl) Tryz.underlying33 rowE Tryz.underlying263 Tryz.underlying265 rfl rfl Tryz.underlying9 (by kernel_rfl) (by kernel_rfl)
 exact⟨⟨_,_,fun w hs=>vars_sub hv1 hs⟩,⟨_,_,fun w hs=>vars_sub hv0 hs⟩⟩
theorem names {W:World}(hL:laidMetH Tryz.prog lay W):TabQ (hpOf W):=by
 have T:=tabs hL
 have E:=errs hL
 rw [MakeChecks.laidMetH_plain _ _ _ (by kernel_rfl)] at hL
 have h6:laidMet Tryz.prog (("penstock/query.fields",_) :: ("penstock/query.aggs",_) :: lay.drop 7) W:=hL.tail.tail.tail.tail.tail
 exact⟨T,E,laid_texts (texts:=fieldW) (g:=4) (t:=145) (e:=9) h6 (by kernel_rfl) (by kernel_rfl) (by kernel_rfl) (by kernel_rfl) (by kernel_rfl) (by decide),laid_texts (texts:=aggsW) (g:=0) (t:=145) (e:=9) h6.tail (by kernel_rfl) (by kernel_rfl) (by kernel_rfl) (by kernel_rfl) (by kernel_rfl) (by decide)⟩
theorem door_met (os:Os)(args:Array Value):laidMetH Tryz.prog lay ((World.doorLaid Tryz.prog 400 os).forCall (fun _ _=>0) ⟨#[],args,[]⟩).memory:=
 laidMetH_of_parts3 (fuel:=8) (laidMet_of_run' 8 (by kernel_rfl) (by kernel_rfl)) (by kernel_rfl) (by kernel_rfl)
set_option maxRecDepth 100000 in
theorem lifted (os:Os)(started:os.Started)(H:Type)(enc:TypeId × Value→H) :
  ReturnsInHanded {} Tryz.checked os 3 .any (fun w args=>(Rows.engineSaysSpec.pre enc Tryz.prog Tryz.f3 Rows.engineSaysRow.domain false w args∧laidMetH Tryz.prog lay w)∧sizedMet enc Tryz.prog Tryz.f3 (OpenSpec.ofChange Rows.engineSaysSpec) false w args) (Rows.engineSaysSpec.post enc Tryz.prog Tryz.f3 false true false false):=by
 refine returnsInHanded_of_change_and (C:=Tryz.checked) (X:=fun w _=>laidMetH Tryz.prog lay w) (fun _ _ _ hh h=>h.of_heap hh) own started (by kernel_rfl) Tryz.func3
  (ChangeSpec.witness_shaped (enc:=enc) (C:=Tryz.checked) (os:=os) (X:=fun w _=>laidMetH Tryz.prog lay w) false (World.doorLaid Tryz.prog 400 os) #[.string ⟨#[]⟩,.int .i64 0,.slice none 0 0] 8 rfl (World.shaped_of_RefB (by kernel_rfl) (by kernel_rfl)) (by kernel_rfl) (by kernel_rfl) (by kernel_rfl) (door_met os _)) ?_
 intro W base args ds gs before hval0 hW hcnd _ hL _
 have T:=tabs hL
 have E:=errs hL
 have TQ:=names hL
 have hval:∀(j:Nat) t v,Tryz.f3.params[j]?=some t→args[j]?=some v→Value.okWide Tryz.prog W .any base t v:=hval0
 have hW':=hW
 obtain⟨p,q,hA0,hV,rfl,hfz,hnd⟩:=hW
 have hA:DataW.TrodAll enc Tryz.prog W 0 (fun _=>true) true Tryz.f3.params.toList args.toList ds p:=hA0
 rw [Tryz.params3] at hA hval
 obtain⟨v0,vs0,d0,ds0,p0,q0,hargs,rfl,rfl,h0,r0⟩:=trodAll_cons hA
 obtain⟨v1,vs1,d1,ds1,p1,q1,rfl,rfl,rfl,h1,r1⟩:=trodAll_cons r0
 obtain⟨v2,vs2,d2,ds2,p2,q2,rfl,rfl,rfl,h2,r2⟩:=trodAll_cons r1
 obtain⟨rfl,rfl,rfl⟩:=trodAll_nil r2
 obtain rfl:args=#[v0,v1,v2]:=by cases args;simp_all
 obtain⟨rfl,rfl⟩:=trodVars_none hV
 obtain⟨s0,rfl⟩:=okWide_string Tryz.underlying9 (hval 0 9 v0 rfl rfl)
 obtain⟨b0,e0,_,z0⟩:=leaf_string smTrue Tryz.underlying9 (leafC_of (Sm:=fun _=>True) h0 trivial)
 cases e0
 obtain⟨a1,rfl⟩:=okWide_int Tryz.underlying3 (hval 1 3 v1 rfl rfl)
 obtain⟨b1,e1,ga1⟩:=leaf_i64 Tryz.underlying3 (leafC_of (Sm:=fun _=>True) h1 trivial)
 cases e1
 obtain⟨w1,w2,w3,rfl⟩:=okWide_slice (e:=45) (by kernel_rfl) (hval 2 22 v2 rfl rfl)
 obtain⟨p2,n2,c2,l2,e2,S2,hc2,hm2,_,g2⟩:=leaf_slice (enc:=encU) (sz:=8) (good:=fun y=>True) smTrue (e:=45) (by kernel_rfl) (by kernel_rfl) (by decide) (fun _=>rfl)
  (fun cs L=>by
   have hf:=leaf_flat smTrue 4 (by kernel_rfl) L
   obtain⟨x0,x1,x2,x3,x4,x5,x6,x7,hy,hg⟩:=open0 hf
   exact⟨(x0,(x1,(x2,x3),(x4,x5),(x6,x7))),hy,trivial⟩) (leafC_of (Sm:=fun _=>True) h2 trivial)
 cases e2
 refine(calls_law (law_EngineSays_ok (s:=s0.data.toList) S2 TQ)).mono fun e W' ⟨he,hg⟩=>?_
 subst he
 exact⟨_,rfl,law_post big hW' hg (by kernel_rfl) (tb:=4) (by kernel_rfl) (by kernel_rfl) rfl⟩
theorem over:Rows.engineSaysRow.holds Tryz.pinned (OpenSpec.ofChange Rows.engineSaysSpec):=
 OpenClaim.holds_of_wide 3 Tryz.f3 rfl rfl rfl rfl rfl rfl rfl ⟨rfl,rfl,rfl,rfl,rfl⟩ rfl rfl rfl rfl rfl (by kernel_rfl) Tryz.func3 (by kernel_rfl)
  (of_decide_eq_true (by kernel_rfl)) (by unfold Func.isWrapper;first|(rw [if_pos (by decide +kernel)];kernel_rfl)|(rw [if_neg (by decide +kernel)];exact⟨rfl,rfl⟩))
  (fun os started H enc _=>lifted os started H enc)
theorem proved:Rows.EngineSaysCardSaid:=
 Claim7.holds_tied_plain_at .later [] _ true _ true
  over (fun _ h=>by cases h) (by kernel_rfl) (fun _ h=>by cases h) engineSays_row_tie rfl ⟨rfl,rfl⟩ (by kernel_rfl) rfl
  (fun f fn hf hfn=>by
   obtain rfl:f=3:=Option.some.inj ((show Tryz.prog.funcNamed "penstock/penstocklaw.EngineSays"=some 3 by kernel_rfl).symm.trans hf) |>.symm
   obtain rfl:fn=Tryz.f3:=(Option.some.inj (Tryz.func3.symm.trans hfn)).symm
   exact⟨by kernel_rfl,fun j t ht=>by
    rw [Tryz.params3] at ht
    have hm:t ∈ [9,3,22]:=by simpa using Array.mem_of_getElem? ht
    have hall:([9,3,22].all fun u=>!Tryz.prog.wantsStandIn u)=true:=by kernel_rfl
    exact(show Tryz.prog.wantsStandIn t=false by simpa using List.all_eq_true.1 hall t hm)⟩)
  (by kernel_rfl)
end Go.Proofs.YtiflgceoamkmnaaGreatDoor.engineSays
