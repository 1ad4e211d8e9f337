/-
  Laws and contracts on which the statement's proof stands, part 5. Conditions: those stated at each.
-/
import Derived.Test.YthicpjafcpfjoaaGreatDoorSy4
set_option linter.unusedVariables false
set_option maxRecDepth 100000
namespace Go.Proofs.YthicpjafcpfjoaaGreatDoor
open Go Go.Vc Go.Txt Go.RowKit
def ShE (q:Qy)(h h':Hp)(g:Nat)(X:ShX):Prop:=∀ st:En,st.rd=X.rd->st.far=X.far->st.late=X.late->st.pn.map (pnT (Qd q))=X.pn->st.rows=X.rows->Wr q h h' g st
abbrev Qmv (a:OaT)(n c:Nat)(xs:List Value):Ow:=⟨150,5,a,n,c,xs⟩
abbrev Ql3 (a:OaT)(n c:Nat)(xs:List Value):Ow:=⟨95,5,a,n,c,xs⟩
theorem Qlb {hi h:Hp}{a:OaT}{n c:Nat}{xs:List Value}{L:List Ow}(O:QC hi h L)(hs:owI a n c xs ∈ L)(hn:0<n):∃ b,a=some ⟨b,0,none⟩:=by
 have O1:=O.ownV hs;have:=O1.own.cap;obtain⟨b,_,e,_⟩:=O1.blk (by simp only at this ⊢;omega) (show 0<1 by decide)
 exact⟨b,e⟩
theorem Qlp {α β:Type}(f:α->β)(l:List α)(x y:α)(k:Nat):QJ ((l++List.replicate (k+1) x).map f) l.length [f y]=((l++[y])++List.replicate k x).map f:=by
 have h1:l.length<((l++List.replicate (k+1) x).map f).length:=by simp
 rw [Kf _ _ _ h1,<-gB];congr 1
 rw [gF _ _ (cJ _),fT,fY,cZ,cG];rfl
theorem Qqz (s:RdW):0<=(rfR s).1.1/\(rfR s).1.1<=40/\-1<=(rfR s).1.2/\(rfR s).1.2<=9999:=
 ⟨(Ny (by decide) s).1,(Ny (by decide) s).2,(Ny (by decide) _).1,(Ny (by decide) _).2⟩
section
variable {h:Hp}{q:Qy}{a1:OaT}{n1 c1:Nat}{a2:OaT}{n2 c2:Nat}{a3:OaT}{n3 c3:Nat}
set_option maxHeartbeats 4000000 in
theorem Qfa {s:Wds}{parts:Nat}{R':RtT}(Q:QAt h q a1 n1 a2 n2 a3 n3)(B:QOk q)(T:UV h)(E:N9 h)(M:Qd4 h)(hs:s.length<=1000000)(h1:1<=parts)(h3:parts<=3)
  (hN:∀ h',h.le h'->QeZ (Qd q) parts (Yw s)=none->R' (Qe [vp none,ifv (some (119,vi 4))]) h')
  (hY:∀ X g h',h.le h'->QeZ (Qd q) parts (Yw s)=some X->ShE q h h' g X->R' (Qe [vhp g 0,ifv none]) h') :
  Qa Pg 61 [vs (bs s),vag [vsl a1 n1 c1,vsl a2 n2 c2,vsl a3 n3 c3,vi q.size,vi q.slide,vi q.delay,vi q.late],vi parts] h R':=by
 refine Qfu ?_
 refine VG Q B (fun hbad=>absurd ⟨by omega,by omega⟩ hbad) fun _ _ g h2 l2 X=>⟨some ⟨g,0,none⟩,none,rfl,fun e=>(by cases e),fun _=>?_⟩
 rw [bG] at X;obtain⟨qf,hi,b1,m1,d1,b2,m2,d2,b3,m3,d3,ak,nk,ck,ar,cr,ac,cc,l0,O,F,QF,K⟩:=X;obtain⟨w1,w2,w3⟩:=Qjc s;refine O.frame (Qa9 (by omega) (M.le l0) fun a8 hk O8 h7 l7 O7=>⟨_,_,_,rfl,?_⟩)
 have lk:=O8.le;have S8:SlB hk a8 (Yw s).length (Yw s):=O8.slp ZM (by decide)
 have O9:=(O7.push (Hp.le_refl h7) (s:=Qmv none 0 0 []) (Qw.nil _ _ _) (fun b hb=>by cases hb)).push (Hp.le_refl h7) (s:=Ql3 none 0 0 []) (Qw.nil _ _ _) (fun b hb=>by cases hb)
 simp only [dN,dC] at O9;clear O O7;intro b9 hb9 h10;have l10:h7.le h10:=Hp.le_set (Hp.le_refl _) hb9 _;have X0:RdO hk h10 b9 _ (Yw s,false):=⟨a8,_,_,O9.cons l10 (s:=Zz b9 219 [vsl a8 (Yw s).length (Yw s).length,vb false]) (GR (Hp.set_same _ _ _)) (fun b hb=>by cases hb;exact hb9),S8,cJ _,fun w hw=>dJ (w3 w hw) hs⟩
 clear_value h10;have Tk:=T.le (Hp.le_trans l0 lk);have Ek:=E.le (Hp.le_trans l0 lk);have Qk:=Q.le (Hp.le_trans l0 lk);have Fk:=F;have QFk:=QF.le lk;have Kk:=K.le lk;have l0k:=Hp.le_trans l0 lk;clear O9 S8 O8 l10 hb9 Q QF K T E M l0 lk l2 l7;refine Q3 X0 Tk Ek fun h12 X12=>⟨_,rfl,?_⟩
 refine Q3 X12 Tk Ek fun h15 X15=>⟨_,rfl,?_⟩
 have eh:hdR (Yw s,false)=(((nmR 1 3 (Yw s,false)).1,(nmR 0 1099511627776 (nmR 1 3 (Yw s,false)).2).1,(nmR 0 10000 (nmR 0 1099511627776 (nmR 1 3 (Yw s,false)).2).2).1,(nmR 0 10000 (nmR 0 10000 (nmR 0 1099511627776 (nmR 1 3 (Yw s,false)).2).2).2).1),(nmR 0 10000 (nmR 0 10000 (nmR 0 1099511627776 (nmR 1 3 (Yw s,false)).2).2).2).2):=rfl;have bA:=Ny (lo:=0) (hi:=1099511627776) (by decide) (nmR 1 3 (Yw s,false)).2
 have bM:=Ny (lo:=0) (hi:=10000) (by decide) (nmR 0 1099511627776 (nmR 1 3 (Yw s,false)).2).2
 have bW:=Ny (lo:=0) (hi:=10000) (by decide) (nmR 0 10000 (nmR 0 1099511627776 (nmR 1 3 (Yw s,false)).2).2).2
 have hSh:∀ X,QeZ (Qd q) parts (Yw s)=X->QeZ (Qd q) parts (Yw s)=X:=fun _ e=>e
 unfold QeZ at hN hY;simp only [eh] at hN hY;generalize nmR 1 3 (Yw s,false)=yK at *
 generalize nmR 0 1099511627776 yK.2=yA at *
 obtain⟨late,hlate⟩:∃ n:Nat,yA.1=(n:Int):=⟨yA.1.toNat,by omega⟩
 obtain⟨aR,nR,cR,OR,SR,hcR,hwR⟩:=X15;refine⟨g,0,rfl,OR.put (j:=3) rfl (i:=11) (bP rfl) fun h19 O19 _=>?_⟩
 simp only [dQ,cZ,Kg] at O19;have X19:RdO hk h19 b9 _ yA.2:=⟨aR,nR,cR,O19,SR,hcR,hwR⟩;clear O19 OR SR hcR hwR X0 X12;refine Q3 X19 Tk Ek fun h21 X21=>⟨_,rfl,?_⟩
 refine Q3 X21 Tk Ek fun h24 X24=>⟨_,rfl,?_⟩
 generalize nmR 0 10000 yA.2=yM at *
 generalize nmR 0 10000 yM.2=yW at *
 clear X19 X21 eh hSh;obtain⟨many,hmany⟩:∃ n:Nat,yM.1=(n:Int):=⟨yM.1.toNat,by omega⟩
 obtain⟨rows,hrows⟩:∃ n:Nat,yW.1=(n:Int):=⟨yW.1.toNat,by omega⟩
 have rdL:∀{hi h:Hp} {L:List Ow} {s:RdW},RdO hi h b9 L s->∃(a:OaT) (n c:Nat),Hp.cell h b9 0=some (vsl a n c)/\Hp.cell h b9 (0+1)=some (vb s.2)/\n=s.1.length:=by intro hi h L s X;obtain⟨a,n,c,O,S,_⟩:=X;have hb:=O.blk (bS ..);exact⟨a,n,c,Qc hb rfl,Qc hb rfl,S.1⟩
 obtain⟨a27,n27,c27,k27,_,e27⟩:=rdL X24;have l024:=Hp.le_trans l0k X24.le;refine⟨_,fun _=>iW,a27,n27,c27,fun _=>k27,fun e1=>?_,fun e1=>?_⟩
 ·refine hN h24 l024 ?_
  rw [bH];by_cases h9:yK.1=(parts:Int)
  ·refine .inr ?_
   rw [cE (fun q1=>q1 h9)] at e1
   have:=bC (show decide (yM.1+yW.1>((n27:Nat):Int))=true from e1)
   omega
  ·exact .inl h9
 obtain⟨e2,e3⟩:=ZV e1;have hk9:yK.1=(parts:Int):=fS.1 (bB e2);have hmw:yM.1+yW.1<=((n27:Nat):Int):=by have:=bB e3;omega
 have hc0:¬(yK.1≠(parts:Int)\/yM.1+yW.1>(yW.2.1.length:Int)):=by
  rintro(q1|q1)
  ·exact q1 hk9
  ·omega
 simp only [bE hc0] at hN hY;simp only [hmany,hrows,hlate,bG] at hN hY;have hX9:RdO hk h24 b9 [owI ac parts cc ((((QZ (fun _:Unit=>rfR) (List.replicate 0 ()) yW.2).1.map (·.2))++List.replicate parts (-1:Int)).map vi),owI ar parts cr ((((QZ (fun _:Unit=>rfR) (List.replicate 0 ()) yW.2).1.map (·.1))++List.replicate parts (0:Int)).map vi),Zz g 132 (Kg b1 m1 d1 b2 m2 d2 b3 m3 d3 qf ak nk ck ar parts cr ac parts cc none 0 0 late none 0 0),Qmv none 0 0 [],Ql3 none 0 0 []] yW.2:=by
  have e:(List.replicate parts (0:Nat)).map (fun n:Nat=>vi n)=(List.replicate parts (0:Int)).map vi:=by rw [gI,gI];rfl
  rw [hlate,e] at X24;exact X24
 clear X24 k27 rdL;refine⟨fun vs hh=>∃ i:Nat,vs=[vi i]/\i<=parts/\RdO hk hh b9 [owI ac parts cc ((((QZ (fun _:Unit=>rfR) (List.replicate i ()) yW.2).1.map (·.2))++List.replicate (parts-i) (-1:Int)).map vi),owI ar parts cr ((((QZ (fun _:Unit=>rfR) (List.replicate i ()) yW.2).1.map (·.1))++List.replicate (parts-i) (0:Int)).map vi),Zz g 132 (Kg b1 m1 d1 b2 m2 d2 b3 m3 d3 qf ak nk ck ar parts cr ac parts cc none 0 0 late none 0 0),Qmv none 0 0 [],Ql3 none 0 0 []] (QZ (fun _:Unit=>rfR) (List.replicate i ()) yW.2).2,
  fun vs hh=>parts-(Qm vs 0).toNat,⟨0,rfl,cH _,hX9⟩,?_⟩
 clear hX9;rintro vs hh ⟨i,rfl,hi',X⟩;refine⟨i,rfl,fun e4=>?_,fun e4=>?_⟩
 ·have hlt:i<parts:=by have:=bC e4;omega
  have eS:=WG (fun _:Unit=>rfR) () (List.replicate i ()) yW.2
  rw [<-gV] at eS;have hl:=JV (fun _:Unit=>rfR) (List.replicate i ()) yW.2
  rw [dK] at hl;generalize QZ (fun _:Unit=>rfR) (List.replicate i ()) yW.2=G at *
  have eR:rfR G.2=(((nmR 0 40 G.2).1,(nmR (-1) 9999 (nmR 0 40 G.2).2).1),(nmR (-1) 9999 (nmR 0 40 G.2).2).2):=rfl;obtain⟨k,hkk⟩:∃ k,parts-i=k+1:=⟨parts-i-1,by omega⟩
  have hk2:parts-(i+1)=k:=by omega
  rw [hkk] at X;have X':=X;obtain⟨aR,nR,cR,O,SR,hcR,hwR⟩:=X';obtain⟨br,er⟩:=Qlb (n:=parts) (c:=cr) (a:=ar) O (bY _ (bY _ (bS ..))) (by omega)
  obtain⟨bc,ec⟩:=Qlb (n:=parts) (c:=cc) (a:=ac) O (bY _ (bS ..)) (by omega)
  have blkOf:∀{hk h:Hp} {s:RdW} {c1 c2:Ow},RdO hk h b9 (c1 :: c2 :: Zz g 132 (Kg b1 m1 d1 b2 m2 d2 b3 m3 d3 qf ak nk ck ar parts cr ac parts cc none 0 0 late none 0 0) :: [Qmv none 0 0 [],Ql3 none 0 0 []]) s->h g=some (Qb (Kg b1 m1 d1 b2 m2 d2 b3 m3 d3 qf ak nk ck ar parts cr ac parts cc none 0 0 late none 0 0) 132):=by rintro hk h s c1 c2 ⟨a,n,c,O,_⟩;exact O.blk (by simp)
  refine⟨g,0,rfl,_,_,_,Qc (blkOf X) rfl,?_⟩
  refine Q3 X Tk Ek fun h41 X41=>⟨_,rfl,Qc (blkOf X41) rfl,br,0,⟨er,by omega,by omega⟩,?_⟩
  obtain⟨aR,nR,cR,O,SR,hcR,hwR⟩:=X41;rw [bG,f8];refine O.store (j:=2) rfl (i:=i) (by simp) (by simp only [fG];omega) er fun h45 O45 _=>?_
  simp only [dQ,cZ] at O45;have hl1:(G.1.map (·.1)).length=i:=by rw [bU];exact hl
  have hl2:(G.1.map (·.2)).length=i:=by rw [bU];exact hl
  have es1:=Qlp vi (G.1.map (·.1)) (0:Int) (nmR 0 40 G.2).1 k
  rw [hl1] at es1;rw [es1] at O45;have X45:RdO hk h45 b9 _ (nmR 0 40 G.2).2:=⟨aR,nR,cR,O45,SR,hcR,hwR⟩;refine⟨g,0,rfl,_,_,_,Qc (blkOf X45) rfl,?_⟩
  refine Q3 X45 Tk Ek fun h50 X50=>⟨_,rfl,Qc (blkOf X50) rfl,bc,0,⟨ec,by omega,by omega⟩,?_⟩
  obtain⟨aR2,nR2,cR2,O2,SR2,hcR2,hwR2⟩:=X50;refine O2.store (j:=1) rfl (i:=i) (by simp) (by simp only [fG];omega) ec fun h54 O54 _=>?_
  simp only [dQ,cZ] at O54;have es2:=Qlp vi (G.1.map (·.2)) (-1:Int) (nmR (-1) 9999 (nmR 0 40 G.2).2).1 k
  rw [hl2] at es2;rw [es2] at O54;refine⟨_,iW,⟨i+1,rfl,by omega,?_⟩,by simp [Qm];omega⟩
  rw [eS,hk2,eR];simp only [cD,dE,kV] at O54 ⊢;exact⟨aR2,nR2,cR2,O54,SR2,hcR2,hwR2⟩
 ·have hge:i=parts:=by have:=bB e4;omega
  subst hge;rw [fT] at X;simp only [List.replicate_zero,d8] at X;have hlf:=JV (fun _:Unit=>rfR) (List.replicate i ()) yW.2
  rw [dK] at hlf;have hbf:=QfX (f:=fun _:Unit=>rfR) (Q:=fun x=>0<=x.1/\x.1<=40/\-1<=x.2/\x.2<=9999) (fun _ s=>Qqz s) (List.replicate i ()) yW.2
  generalize QZ (fun _:Unit=>rfR) (List.replicate i ()) yW.2=G at *
  refine⟨fun vs hh=>∃(j:Nat) (hj:Hp) (tb:OaT) (tc:Nat) (R:List PR),vs=[vi j]/\j<=many/\hk.le hj/\R.length=j/\RdO hj hh b9 [owI ac i cc ((G.1.map (·.2)).map vi),owI ar i cr ((G.1.map (·.1)).map vi),Zz g 132 (Kg b1 m1 d1 b2 m2 d2 b3 m3 d3 qf ak nk ck ar i cr ac i cc tb j tc late none 0 0),Qmv tb j tc (R.flatMap Ql),Ql3 none 0 0 []] (QZ (fun _:Unit=>pnR (Qd q)) (List.replicate j ()) G.2).2/\R.map prT=(QZ (fun _:Unit=>pnR (Qd q)) (List.replicate j ()) G.2).1/\∀ r ∈ R,Qf hj r.a (r.acs.flatMap YP),
   fun vs hh=>many-(Qm vs 0).toNat,⟨0,hk,none,0,[],rfl,cH _,Hp.le_refl _,rfl,X,rfl,fun r hr=>by cases hr⟩,?_⟩
  clear X;rintro vs hh ⟨j,hj,tb,tc,R,rfl,hj',lj,hRl,X,eRt,hRi⟩;refine⟨j,rfl,fun e5=>?_,fun e5=>?_⟩
  ·have hlt:j<many:=by have:=bC e5;omega
   have eS:=WG (fun _:Unit=>pnR (Qd q)) () (List.replicate j ()) G.2
   rw [<-gV] at eS;generalize QZ (fun _:Unit=>pnR (Qd q)) (List.replicate j ()) G.2=H at *
   have blkOf:∀{hk h:Hp} {s:RdW} {c1 c2:Ow} {L:List Ow},RdO hk h b9 (c1 :: c2 :: Zz g 132 (Kg b1 m1 d1 b2 m2 d2 b3 m3 d3 qf ak nk ck ar i cr ac i cc tb j tc late none 0 0) :: L) s->h g=some (Qb (Kg b1 m1 d1 b2 m2 d2 b3 m3 d3 qf ak nk ck ar i cr ac i cc tb j tc late none 0 0) 132):=by rintro hk h s c1 c2 L ⟨a,n,c,O,_⟩;exact O.blk (by simp)
   refine⟨g,0,rfl,_,_,_,Qc (blkOf X) rfl,?_⟩
   refine Qj5 X (Qk.le lj) B (Tk.le lj) (Ek.le lj) fun a73 c73 hj2 h69 l69 X69 H69=>⟨_,_,_,_,_,_,_,rfl,Qc (blkOf X69) rfl,?_⟩
   generalize pnR (Qd q) H.2=Z at *
   intro b75 hb75 h76;obtain⟨aR,nR,cR,O,SR,hcR,hwR⟩:=X69;refine O.app (j:=4) rfl QbA (m:=1) (tn:=150) (news:=Ql ⟨Z.1.1,a73,c73,Z.1.2.1,Z.1.2.2⟩) hb75 rfl (KN _) (by simp only;omega) (by simp only;omega) fun tb' tc' h78 O78 _=>⟨_,_,_,rfl,g,0,rfl,?_⟩
   simp only [dQ,cZ] at O78;refine O78.put (j:=3) rfl (i:=10) (bP rfl) fun h82 O82 _=>?_
   simp only [dQ,cZ,Kg] at O82;refine⟨_,iW,⟨j+1,hj2,tb',tc',R++[⟨Z.1.1,a73,c73,Z.1.2.1,Z.1.2.2⟩],rfl,by omega,Hp.le_trans lj l69,by simp [hRl],?_,?_,fun r hr=>?_⟩,by simp [Qm];omega⟩
   ·rw [eS,cX,dW];exact⟨aR,nR,cR,O82,SR,hcR,hwR⟩
   ·rw [eS,cD,eRt];rfl
   ·rcases cP.1 hr with q1|q1
    ·exact(hRi r q1).le l69
    ·rw [cB.1 q1];exact H69
  ·have hge:j=many:=by have:=bB e5;omega
   rw [hge] at X eRt hRl;clear hge e5 hj';generalize QZ (fun _:Unit=>pnR (Qd q)) (List.replicate many ()) G.2=H at *
   have hkl:(Qd q).length=q.aggs.length:=QA q;rw [hkl] at hN hY;refine⟨fun vs hh=>∃(k:Nat) (hm:Hp) (aw:OaT) (cw:Nat) (RW:List (XA Vl (Bool × PK))),vs=[vi k]/\k<=rows/\hj.le hm/\RW.length=k/\RdO hm hh b9 [owI ac i cc ((G.1.map (·.2)).map vi),owI ar i cr ((G.1.map (·.1)).map vi),Zz g 132 (Kg b1 m1 d1 b2 m2 d2 b3 m3 d3 qf ak nk ck ar i cr ac i cc tb many tc late aw k cw),Qmv tb many tc (R.flatMap Ql),Ql3 aw k cw (RW.flatMap (Zc QT))] (QZ (fun _:Unit=>rwR q.aggs.length) (List.replicate k ()) H.2).2/\QO RW=(QZ (fun _:Unit=>rwR q.aggs.length) (List.replicate k ()) H.2).1.map ZI/\∀ r ∈ RW,Qf hm r.2.1.1 (r.2.2.flatMap Qq),
    fun vs hh=>rows-(Qm vs 0).toNat,⟨0,hj,none,0,[],rfl,cH _,Hp.le_refl _,rfl,X,rfl,fun r hr=>by cases hr⟩,?_⟩
   clear X;rintro vs hh ⟨k,hm,aw,cw,RW,rfl,hk',lm,hWl,X,eWt,hWi⟩;refine⟨k,rfl,fun e5=>?_,fun e5=>?_⟩
   ·have hlt:k<rows:=by have:=bC e5;omega
    have eS:=WG (fun _:Unit=>rwR q.aggs.length) () (List.replicate k ()) H.2
    rw [<-gV] at eS;generalize QZ (fun _:Unit=>rwR q.aggs.length) (List.replicate k ()) H.2=J at *
    have blkOf:∀{hk h:Hp} {s:RdW} {c1 c2:Ow} {L:List Ow},RdO hk h b9 (c1 :: c2 :: Zz g 132 (Kg b1 m1 d1 b2 m2 d2 b3 m3 d3 qf ak nk ck ar i cr ac i cc tb many tc late aw k cw) :: L) s->h g=some (Qb (Kg b1 m1 d1 b2 m2 d2 b3 m3 d3 qf ak nk ck ar i cr ac i cc tb many tc late aw k cw) 132):=by rintro hk h s c1 c2 L ⟨a,n,c,O,_⟩;exact O.blk (by simp)
    have ljm:=Hp.le_trans lj lm;refine⟨g,0,rfl,_,_,_,Qc (blkOf X) rfl,?_⟩
    refine Qm3 X (Qk.le ljm) B (Tk.le ljm) (Ek.le ljm) fun a73 c73 hj2 h69 l69 X69 H69=>⟨_,_,_,_,_,_,_,rfl,Qc (blkOf X69) rfl,?_⟩
    generalize rwR q.aggs.length J.2=Z at *
    intro b75 hb75 h76;obtain⟨aR,nR,cR,O,SR,hcR,hwR⟩:=X69;refine O.app (j:=5) rfl QkH (m:=1) (tn:=95) (news:=Zc QT ((Z.1.1,Z.1.2.1),(a73,c73),Z.1.2.2)) hb75 rfl (by
     intro u hu;simp only [Zc,QT,bX,dB,fZ] at hu;rcases hu with rfl|rfl|rfl|rfl|rfl<;>rfl) (by simp only;omega) (by simp only;omega) fun aw' cw' h78 O78 _=>⟨_,_,_,rfl,g,0,rfl,?_⟩
    simp only [dQ,cZ] at O78;refine O78.put (j:=3) rfl (i:=12) (bP rfl) fun h82 O82 _=>?_
    simp only [dQ,cZ,Kg] at O82;refine⟨_,iW,⟨k+1,hj2,aw',cw',RW++[((Z.1.1,Z.1.2.1),(a73,c73),Z.1.2.2)],rfl,by omega,Hp.le_trans lm l69,by simp [hWl],?_,?_,fun r hr=>?_⟩,by simp [Qm];omega⟩
    ·rw [eS,cX,dW];exact⟨aR,nR,cR,O82,SR,hcR,hwR⟩
    ·rw [eS,Qcr,eWt,cD];rfl
    ·rcases cP.1 hr with q1|q1
     ·exact(hWi r q1).le l69
     ·rw [cB.1 q1];exact H69
   ·have hge:k=rows:=by have:=bB e5;omega
    rw [hge] at X eWt hWl;clear hge e5 hk';generalize QZ (fun _:Unit=>rwR q.aggs.length) (List.replicate rows ()) H.2=J at *
    obtain⟨aR,nR,cR,O,SR,hcR,hwR⟩:=X;have hb:=O.blk (bS ..);have lend:=Hp.le_trans l0k (Hp.le_trans lj (Hp.le_trans lm O.le));refine⟨_,Qc hb rfl,_,_,_,fun _=>Qc hb rfl,fun e6=>?_,fun e6=>?_⟩
    ·refine hN hh lend ?_
     rw [bH];cases h9:J.2.2 with
     | true=>exact .inl rfl
     | false=>
      rw [h9] at e6;have:=bC (show decide (((nR:Nat):Int)>0)=true from e6)
      refine .inr fun q1=>?_
      have:=SR.1;rw [q1] at this;simp at this;omega
    ·obtain⟨e7,e8⟩:=ZV e6;have hnil:J.2.1=[]:=dS (by have:=bB e8;have:=SR.1;omega)
     refine hY _ g hh lend (by rw [bE (by rintro(q1|q1);(rw [e7] at q1;cases q1);exact q1 hnil)]) fun st s1 s2 s3 s4 s5=>?_
     have OE:=O.sub (gN _ _);have hrl:st.rd.length=i:=by rw [s1,bU,hlf]
     have hfl:st.far.length=i:=by rw [s2,bU,hlf]
     have erd:(G.1.map (·.1)).map vi=st.rd.map fun n:Nat=>vi n:=by
      rw [s1,fN,fN];refine kG fun x hx=>?_
      have:=hbf x hx;show vi x.1=vi ((x.1.toNat:Nat):Int);rw [Int.toNat_of_nonneg this.1]
     have s2':st.far=G.1.map (·.2):=s2
     have s3':st.late=late:=s3;rw [erd,<-s2'] at OE;refine Wr.of_owns (qf:=qf) (R:=R) (RW:=RW) (tb:=tb) (tc:=tc) (aw:=aw) (cw:=cw) (c1:=d1) (c2:=d2) (c3:=d3) (ck:=ck) (ar:=ar) (cr:=cr) (ac:=ac) (cc:=cc) (Hp.le_trans l0k (Hp.le_trans lj lm)) ?_ Fk (QFk.le (Hp.le_trans lj lm)) (Kk.le (Hp.le_trans lj lm)) (fun r hr=>(hRi r hr).le lm) hWi (by rw [s4];exact eRt) (by rw [s5];exact eWt)
     rw [hrl,hfl,s3',hRl,hWl];exact OE
end
theorem QlG (l:List Wds):∀ u ∈ l.flatMap YF,u.oneCell'=true:=by
 intro u hu;obtain⟨x,_,hx⟩:=fP.1 hu;have:u=vs (bs x):=by simpa [YF] using hx
 rw [this];rfl
theorem KW {n:Int}(h0:-1000000000000<=n)(h1:n<=1000000000000):InR n:=by unfold InR;omega
theorem Qjy {α β:Type}(f:α->List β)(m:Nat)(h:∀ x,(f x).length=m):∀ l:List α,(l.flatMap f).length=l.length*m
 | []=>by simp
 | x :: l=>by rw [dP,bO,h x,Qjy f m h l,cO,jV,mK]
theorem QhR {sep:Wds}(hs:sep.length<=1):∀ l:List Wds,(∀ w ∈ l,w.length<=14)->(Lib.join l sep).length<=15*l.length
 | [],_=>cJ _
 | x :: l,h=>by
  rw [Lib.join_length];have hl:∀ l:List Wds,(∀ w ∈ l,w.length<=14)->Lib.lens l<=14*l.length:=by
   intro l;induction l with
   | nil=>intro _;exact cJ _
   | cons y l ih=>
    intro h;have h1:=h y (bS ..);have h2:=ih fun w hw=>h w (bY _ hw)
    unfold Lib.lens at *
    simp only [dE,mX,cO] at *
    omega
  have:=hl (x :: l) h;have h3:sep.length*l.length<=l.length:=by
   rcases Nat.le_one_iff_eq_zero_or_eq_one.1 hs with e|e<;>rw [e]<;>omega
  rw [cO] at *
  omega
theorem QdR {ks:List Int}{parts:Nat}{st:En}(H:ShO ks parts st)(hk:ks.length<=4):(Xt ks st).length<=10+10000*15+10000*7/\∀ w ∈ Xt ks st,w.length<=14:=by
 have il:∀ n:Int,-1000000000000<=n->n<=1000000000000->(Lib.itoa n).length<=14:=fun n h0 h1=>Qi4 h0 h1
 have bl:∀ b,(Gw b).length<=14:=fun b=>by cases b<;>decide
 have fm:∀{α:Type} (f:α->List Wds) (l:List α) (m:Nat),(∀ x ∈ l,(f x).length<=m)->(l.flatMap f).length<=l.length*m:=by
  intro α f l m;induction l with
  | nil=>intro _;simp
  | cons y l ih=>
   intro h;have h1:=h y (bS ..);have h2:=ih fun w hw=>h w (bY _ hw)
   rw [dP,bO,cO,jV];omega
 have p3:=H.p3;have rl:=H.rl;have fl:=H.fl;have pl:=H.pl;have wl:=H.wl;have la:=H.la;refine⟨?_,?_⟩
 ·have f1:=fm rfW (st.rd.zip st.far) 2 fun x _=>cJ _
  have f2:=fm pnW (st.pn.map (pnT ks)) 15 fun x hx=>by
   obtain⟨p,hp,rfl⟩:=dI.1 hx;have h4:=congrArg List.length (H.pn p hp).2.2.2.1;rw [bU] at h4;have h5:=fm acW (pnT ks p).2.1 3 fun x _=>cJ _
   unfold pnW;simp only [bO,cO,fB];omega
  have f3:=fm rwW st.rows 7 fun w hw=>by
   have h4:=(H.rw w hw).2.2.2.1;unfold rwW;simp only [bO,cO,fB,bU];omega
  unfold Xt hdW;rw [jY] at f1;rw [bU] at f2;simp only [bO,cO,fB];have e1:Nat.min st.rd.length st.far.length<=3:=by rw [rl,fl];exact dJ (pX ..) p3
  have e1':min st.rd.length st.far.length<=3:=e1;omega
 ·intro w hw;unfold Xt hdW at hw;simp only [cP,fP,bX,dB,fZ] at hw;rcases hw with ((hw|⟨x,hx0,hx⟩)|⟨x,hx0,hx⟩)|⟨x,hx0,hx⟩
  ·rcases hw with rfl|rfl|rfl|rfl<;>exact il _ (by omega) (by omega)
  ·unfold rfW at hx;simp only [bX,dB,fZ] at hx;have h1:=H.rb _ (mI hx0).1;have h2:=H.fb _ (mI hx0).2;rcases hx with rfl|rfl<;>exact il _ (by omega) (by omega)
  ·obtain⟨p,hp,rfl⟩:=dI.1 hx0;obtain⟨k1,k2,k3,k4,k5⟩:=H.pn p hp;unfold pnW acW at hx;simp only [cP,fP,bX,dB,fZ] at hx;rcases hx with (rfl|rfl|rfl)|⟨a,ha0,ha⟩
   ·exact il _ (by omega) (by omega)
   ·exact Qdi k3
   ·exact bl _
   ·obtain⟨a1,a2,a3,a4,a5,a6⟩:=k5 a ha0;rcases ha with rfl|rfl|rfl<;>exact il _ (by omega) (by omega)
  ·obtain⟨k1,k2,k3,k4,k5⟩:=H.rw x hx0;unfold rwW at hx;simp only [cP,dI,bX,dB,fZ] at hx;rcases hx with (rfl|rfl|rfl)|⟨a,ha0,rfl⟩
   ·exact bl _
   ·exact il _ (by omega) (by omega)
   ·exact Qdi k3
   ·exact Qdi (k5 a ha0)
theorem Qb8 {ks:List Int}{parts:Nat}{st:En}(H:ShO ks parts st)(hk:ks.length<=4):(Xt ks st).length<=10+st.pn.length*15+st.rows.length*7:=by
 have fm:∀{α:Type} (f:α->List Wds) (l:List α) (m:Nat),(∀ x ∈ l,(f x).length<=m)->(l.flatMap f).length<=l.length*m:=by
  intro α f l m;induction l with
  | nil=>intro _;simp
  | cons y l ih=>
   intro h;have h1:=h y (bS ..);have h2:=ih fun w hw=>h w (bY _ hw)
   rw [dP,bO,cO,jV];omega
 have p3:=H.p3;have rl:=H.rl;have fl:=H.fl;have f1:=fm rfW (st.rd.zip st.far) 2 fun x _=>cJ _
 have f2:=fm pnW (st.pn.map (pnT ks)) 15 fun x hx=>by
  obtain⟨p,hp,rfl⟩:=dI.1 hx;have h4:=congrArg List.length (H.pn p hp).2.2.2.1;rw [bU] at h4;have h5:=fm acW (pnT ks p).2.1 3 fun x _=>cJ _
  unfold pnW;simp only [bO,cO,fB];omega
 have f3:=fm rwW st.rows 7 fun w hw=>by
  have h4:=(H.rw w hw).2.2.2.1;unfold rwW;simp only [bO,cO,fB,bU];omega
 unfold Xt hdW;rw [jY] at f1;rw [bU] at f2;simp only [bO,cO,fB];have e1':min st.rd.length st.far.length<=3:=by rw [rl,fl];exact dJ (pX ..) p3
 omega
section
variable {h:Hp}{R':RtT}
abbrev WdV (h hh:Hp)(a:OaT)(c:Nat)(l:List Wds):Prop:=Qg h hh 9 1 a l.length c (l.flatMap YF)
theorem WdV.app {hh:Hp}{a:OaT}{c:Nat}{l:List Wds}(O:WdV h hh a c l){b:Nat}(hb:hh b=none)(news:List Wds){tn ty:TypeId}{n m:Nat}(hn:n=l.length)(hm:m=news.length)(h1:l.length+news.length<=1000000){K:RtT}(hK:∀ a' c' h',WdV h h' a' c' (l++news)->K (vsl a' (l++news).length c') h') :
  Qh Pg (Builtin.append_ #[162,162] ty #[vsl a n c,vsl (some ⟨b,0,none⟩) m m]) (hh.set b (Qb (news.flatMap YF) tn)) K:=by
 subst hn;subst hm;refine Qg.append QoB (O.set hb _) (Qf.new _ _ _ _) (Qi ZM news) (QlG news) (by omega) (by omega) fun a' c' h' O' _ _=>?_
 have:=hK a' c' h' (by show Qg h h' _ 1 a' (l++news).length c' ((l++news).flatMap YF);rw [bO,cX];exact O')
 rw [bO] at this;exact this
set_option maxHeartbeats 2000000 in
theorem Qhi {q:Qy}{h0:Hp}{g parts:Nat}{st:En}(X:Wr q h0 h g st)(B:QOk q)(H:ShO (Qd q) parts st)(T:UV h)(hK:∀ h',h.le h'->R' (vs (bs (Kh (Qd q) st))) h'):Qa Pg 57 [vhp g 0] h R':=by
 refine Qht ?_
 obtain⟨a1,n1,c1,a2,n2,c2,a3,n3,c3,qf,ak,nk,ck,ar,cr,ac,cc,tb,tc,aw,cw,RP,k1,s1,s2,g1,tb1,eP⟩:=X.seen;have hk4:(Qd q).length<=4:=by rw [QA];exact B.n2
 obtain⟨sl,sw⟩:=QdR H hk4;have p3:=H.p3;have rl:=H.rl;have fl:=H.fl;have pl:=H.pl;have wl:=H.wl;have la:=H.la;have hgl:(st.rows.map ZI).length=st.rows.length:=bU _;have hRl:RP.length=st.pn.length:=by have:=congrArg List.length eP;simpa using this
 refine⟨_,_,_,Qc k1 rfl,_,Qc k1 rfl,_,_,_,Qc k1 rfl,_,_,_,Qc k1 rfl,?_⟩
 refine Wq (KW (by omega) (by omega)) T ⟨_,rfl,Qc k1 rfl,Qc k1 rfl,Qc k1 rfl,?_⟩
 refine Wq (KW (by omega) (by omega)) T ⟨_,rfl,Qc k1 rfl,Qc k1 rfl,?_⟩
 refine Wq (KW (by omega) (by omega)) T ⟨_,rfl,Qc k1 rfl,?_⟩
 refine Wq (KW (by omega) (by omega)) T ⟨_,rfl,?_⟩
 intro b17 hb17 h18;have V18:WdV h h18 (some ⟨b17,0,none⟩) 4 (hdW st):=by
  have e:hdW st=[Lib.itoa (st.rd.length:Nat),Lib.itoa (st.late:Nat),Lib.itoa (RP.length:Nat),Lib.itoa ((st.rows.map ZI).length:Nat)]:=by unfold hdW;rw [hRl,hgl]
  rw [e];exact Qg.mk_new (n:=4) (Hp.le_refl h) hb17 _ _ rfl (by decide)
 clear_value h18;have hfl:st.far.length=st.rd.length:=by omega
 refine⟨_,_,_,Qc (V18.le _ _ k1) rfl,?_⟩
 refine⟨fun vs hh=>∃(i:Nat) (a:OaT) (c:Nat),vs=[vsl a (hdW st++((st.rd.zip st.far).take i).flatMap rfW).length c,vi i]/\i<=st.rd.length/\WdV h hh a c (hdW st++((st.rd.zip st.far).take i).flatMap rfW),
  fun vs hh=>st.rd.length-(Qm vs 1).toNat,⟨0,some ⟨b17,0,none⟩,4,by simp [hdW],cH _,by simpa using V18⟩,?_⟩
 clear V18;rintro vs hh ⟨i,a,c,rfl,hi,V⟩;refine⟨_,_,_,_,rfl,fun e=>?_,fun e=>?_⟩
 ·have hlt:i<st.rd.length:=by have:=bC e;omega
  obtain⟨br,or_,er,hcr⟩:=(s1.le V.le).get hlt;obtain⟨bc,oc,ec,hcc⟩:=(s2.le V.le).get (i:=i) (by omega)
  have g1:(st.rd.map fun n:Nat=>(n:Int)).getD i 0=(st.rd[i]:Int):=by rw [bK,cU,bD hlt];rfl
  have g2:st.far.getD i 0=st.far[i]'(by omega):=by rw [bK,bD (by omega)];rfl
  rw [g1] at hcr;rw [g2] at hcc;have hz:i<(st.rd.zip st.far).length:=by rw [jY];omega
  have tk:(st.rd.zip st.far).take (i+1)=(st.rd.zip st.far).take i++[(st.rd[i],st.far[i]'(by omega))]:=by rw [bJ hz,List.getElem_zip]
  have hb1:=H.rb _ (cM hlt);have hb2:=H.fb _ (cM (show i<st.far.length by omega))
  have hlen:(hdW st++((st.rd.zip st.far).take i).flatMap rfW).length<=10:=by
   have:(((st.rd.zip st.far).take i).flatMap rfW).length=i*2:=by
    rw [Qjy rfW 2 (fun _=>rfl),bV,jY]
    congr 1
    rw [hfl,Nat.min_self];exact dX (by omega)
   rw [bO,this];simp only [hdW,cO,fB];omega
  generalize st.rd[i]=x at *
  generalize st.far[i]'(by omega)=y at *
  have k1':=V.le _ _ k1;refine⟨_,_,_,Qc k1' rfl,br,or_,⟨er,by omega,by omega⟩,_,by rw [bG];exact hcr,_,_,_,Qc k1' rfl,bc,oc,⟨ec,by omega,by omega⟩,_,by rw [bG];exact hcc,?_⟩
  refine Wq (KW (by omega) (by omega)) (T.le V.le) ⟨_,rfl,by rw [bG];exact hcc,Qc k1' rfl,?_⟩
  refine Wq (KW (by omega) (by omega)) (T.le V.le) ⟨_,rfl,?_⟩
  intro b43 hb43 h44;refine V.app hb43 (rfW (x,y)) rfl rfl (by simp only [rfW,cO,fB];omega) fun a' c' h' V'=>⟨_,_,_,rfl,_,iW,⟨i+1,a',c',?_,by omega,?_⟩,by simp [Qm];omega⟩
  ·rw [tk,cX,dW,<-cG];rfl
  ·rw [tk,cX,dW,<-cG];exact V'
 ·have hge:i=st.rd.length:=by have:=bB e;omega
  have htk:(st.rd.zip st.far).take i=st.rd.zip st.far:=cQ (by rw [jY];simp only [Nat.min_def];split<;>omega)
  rw [htk] at V ⊢;clear htk hge e hi;have e1:Xt (Qd q) st=(hdW st++(st.rd.zip st.far).flatMap rfW)++(st.pn.map (pnT (Qd q))).flatMap pnW++st.rows.flatMap rwW:=rfl;generalize hdW st++(st.rd.zip st.far).flatMap rfW=W0 at *
  refine⟨_,_,_,Qc (V.le _ _ k1) rfl,?_⟩
  refine⟨fun vs hh=>∃(i:Nat) (a:OaT) (c:Nat),vs=[vsl a (W0++((st.pn.map (pnT (Qd q))).take i).flatMap pnW).length c,vi i]/\i<=RP.length/\WdV h hh a c (W0++((st.pn.map (pnT (Qd q))).take i).flatMap pnW),
   fun vs hh=>RP.length-(Qm vs 1).toNat,⟨0,a,c,by simp,cH _,by simpa using V⟩,?_⟩
  clear V;rintro vs hh ⟨i,a,c,rfl,hi,V⟩;refine⟨_,_,_,_,rfl,fun e=>?_,fun e=>?_⟩
  ·have hlt:i<RP.length:=by have:=bC e;omega
   have hx:RP[i]?=some RP[i]:=bD hlt
   have hpm:(st.pn.map (pnT (Qd q)))[i]?=some (prT RP[i]):=by rw [<-eP,cU,hx];rfl
   have tk:(st.pn.map (pnT (Qd q))).take (i+1)=(st.pn.map (pnT (Qd q))).take i++[prT RP[i]]:=by
    obtain⟨h1,h2⟩:=bI.1 hpm
    rw [bJ h1,h2]
   have hO:PnO (Qd q) (prT RP[i]):=by have:=bZ hpm;obtain⟨p,hp,e9⟩:=dI.1 this;rw [<-e9];exact H.pn p hp
   have hlen:(W0++((st.pn.map (pnT (Qd q))).take (i+1)).flatMap pnW).length<=220010:=by
    have h1:((st.pn.map (pnT (Qd q))).take (i+1)).flatMap pnW++((st.pn.map (pnT (Qd q))).drop (i+1)).flatMap pnW=(st.pn.map (pnT (Qd q))).flatMap pnW:=by rw [<-cX,dV]
    rw [e1,<-h1] at sl;simp only [bO] at sl ⊢;omega
   rw [tk,cX,dW,<-cG] at hlen;obtain⟨b,o,ea,hr⟩:=(tb1.s.le V.le).get Qp (by decide) hx
   have hri:=(tb1.i _ (cM hlt)).le V.le;generalize RP[i]=r at *
   obtain⟨o1,o2,o3,o4,o5⟩:=hO;have o4':r.acs.length<=4:=by have:=congrArg List.length o4;rw [bU] at this;exact dJ (Nat.le_of_eq this) hk4
   have hr':Hp.row hh b (o+i*5) 5=some [vi r.k.1,vi r.k.2.1,vi r.k.2.2,vsl r.a r.acs.length r.c,vb r.t]:=hr;have o3':InR r.k.2.2:=by have:Qo r.k.2:=o3;unfold Qo at this;unfold InR;omega
   have o1':-1000<=r.k.1:=o1;have o2':r.k.1<=9999:=o2;refine⟨b,o,⟨ea,by omega,by omega⟩,_,_,_,_,_,_,_,by rw [bG];exact hr',?_⟩
   intro J69;have hJ:J69 (bs (Gw r.t)):=by
    refine Wq (KW (by omega) (by omega)) (T.le V.le) ⟨_,rfl,?_⟩
    refine JL (v:=r.k.2) o3' (T.le V.le) ⟨_,rfl,?_⟩
    intro b83 hb83 h84;have hlen2:(W0++((st.pn.map (pnT (Qd q))).take i).flatMap pnW).length+3+(r.acs.flatMap acW).length<=220010:=by
     simp only [pnW,prT,bO,cO,fB] at hlen ⊢;omega
    refine V.app hb83 [Lib.itoa r.k.1,Z9 r.k.2,Gw r.t] rfl rfl (by simp only [cO,fB];omega) fun a' c' h' V'=>⟨_,_,_,rfl,?_⟩
    have hex:(W0++((st.pn.map (pnT (Qd q))).take i).flatMap pnW++[Lib.itoa r.k.1,Z9 r.k.2,Gw r.t]).length=(W0++((st.pn.map (pnT (Qd q))).take i).flatMap pnW).length+3:=by rw [bO];rfl
    have tk2:∀ c:List Wds,c=r.acs.flatMap acW->W0++((st.pn.map (pnT (Qd q))).take i).flatMap pnW++[Lib.itoa r.k.1,Z9 r.k.2,Gw r.t]++c=W0++((st.pn.map (pnT (Qd q))).take (i+1)).flatMap pnW:=by rintro c rfl;rw [tk,cX,dW];simp only [pnW,prT,cG]
    rw [<-hex] at hlen2;generalize W0++((st.pn.map (pnT (Qd q))).take i).flatMap pnW++[Lib.itoa r.k.1,Z9 r.k.2,Gw r.t]=W1 at *
    refine⟨fun vs hh=>∃(j:Nat) (a:OaT) (c:Nat),vs=[vsl a (W1++(r.acs.take j).flatMap acW).length c,vi j]/\j<=r.acs.length/\WdV h hh a c (W1++(r.acs.take j).flatMap acW),
     fun vs hh=>r.acs.length-(Qm vs 1).toNat,⟨0,a',c',by simp,cH _,by simpa using V'⟩,?_⟩
    clear V';rintro vs h2 ⟨j,a2,c2,rfl,hj,V2⟩;refine⟨_,_,_,_,rfl,fun e5=>?_,fun e5=>?_⟩
    ·have hjl:j<r.acs.length:=by have:=bC e5;omega
     have hax:r.acs[j]?=some r.acs[j]:=bD hjl
     have tka:r.acs.take (j+1)=r.acs.take j++[r.acs[j]]:=bJ hjl;have hri2:Qf h2 r.a (r.acs.flatMap YP):=(Qf.le V2.le ((tb1.i r (bZ hx))));obtain⟨b97,o98,e97,r97⟩:=(show SlP YP h2 r.a r.acs.length r.acs from⟨rfl,hri2⟩).get YK (by decide) hax
     obtain⟨m1,m2,m3,m4,m5,m6⟩:=o5 _ (cM hjl);have hlj:(W1++(r.acs.take j).flatMap acW).length+3<=220010:=by
      have h1:((r.acs.take (j+1)).flatMap acW).length<=(r.acs.flatMap acW).length:=by
       have:(r.acs.take (j+1)).flatMap acW++(r.acs.drop (j+1)).flatMap acW=r.acs.flatMap acW:=by rw [<-cX,dV]
       rw [<-this,bO];omega
      rw [tka,cX,bO,dW] at h1;have h2:(acW r.acs[j]).length=3:=rfl;rw [bO];omega
     generalize r.acs[j]=ax at *
     refine⟨b97,o98,⟨e97,by omega,by omega⟩,_,_,_,_,by rw [bG];exact r97,?_⟩
     refine Wq (KW (by omega) (by omega)) (T.le V2.le) ⟨_,rfl,?_⟩
     refine Wq (KW (by omega) (by omega)) (T.le V2.le) ⟨_,rfl,?_⟩
     refine Wq (KW (by omega) (by omega)) (T.le V2.le) ⟨_,rfl,?_⟩
     intro b112 hb112 h113;refine V2.app hb112 (acW ax) rfl rfl (by simp only [acW,cO,fB];omega) fun a' c' h' V'=>⟨_,_,_,rfl,_,iW,⟨j+1,a',c',?_,by omega,?_⟩,by simp [Qm];omega⟩
     ·rw [tka,cX,dW,<-cG];rfl
     ·rw [tka,cX,dW,<-cG];exact V'
    ·have hge:j=r.acs.length:=by have:=bB e5;omega
     rw [hge,dR] at V2 ⊢;have ew:=tk2 _ rfl;rw [ew] at V2 ⊢;exact⟨_,iW,⟨i+1,a2,c2,rfl,by omega,V2⟩,by simp [Qm];omega⟩
   clear_value J69;refine⟨fun e6=>?_,fun e6=>?_⟩
   ·rw [e6] at hJ;exact hJ
   ·rw [e6] at hJ;exact hJ
  ·have hge:i=RP.length:=by have:=bB e;omega
   have htk:(st.pn.map (pnT (Qd q))).take i=st.pn.map (pnT (Qd q)):=cQ (by rw [bU];omega)
   rw [htk] at V ⊢;clear htk hge e hi;generalize W0++(st.pn.map (pnT (Qd q))).flatMap pnW=W1 at *
   refine⟨_,_,_,Qc (V.le _ _ k1) rfl,?_⟩
   refine⟨fun vs hh=>∃(i:Nat) (a:OaT) (c:Nat),vs=[vsl a (W1++(st.rows.take i).flatMap rwW).length c,vi i]/\i<=st.rows.length/\WdV h hh a c (W1++(st.rows.take i).flatMap rwW),
    fun vs hh=>st.rows.length-(Qm vs 1).toNat,⟨0,a,c,by simp,cH _,by simpa using V⟩,?_⟩
   clear V;rintro vs hh ⟨i,a,c,rfl,hi,V⟩;refine⟨_,_,_,_,rfl,fun e=>?_,fun e=>?_⟩
   ·have hlt:i<st.rows.length:=by have:=bC e;omega
    have hx:st.rows[i]?=some st.rows[i]:=bD hlt
    have tk:st.rows.take (i+1)=st.rows.take i++[st.rows[i]]:=bJ hlt;have hO:=H.rw _ (cM hlt);have hlen:(W1++(st.rows.take (i+1)).flatMap rwW).length<=220010:=by
     have h1:(st.rows.take (i+1)).flatMap rwW++(st.rows.drop (i+1)).flatMap rwW=st.rows.flatMap rwW:=by rw [<-cX,dV]
     rw [e1,<-h1] at sl;simp only [bO] at sl ⊢;omega
    rw [tk,cX,dW,<-cG] at hlen;generalize st.rows[i]=w at *
    obtain⟨gw,k,l⟩:=w;have hxg:(st.rows.map ZI)[i]?=some ((gw,k),l):=by rw [cU,hx];rfl
    obtain⟨b,o,av,cv,ea,hr,SV⟩:=(g1.le V.le).row JM (by decide) hxg
    obtain⟨o1,o2,o3,o4,o5⟩:=hO;have o4':l.length<=4:=dJ (Nat.le_of_eq o4) hk4;have hr':Hp.row hh b (o+i*5) 5=some [vb gw,vi k.1,vi k.2.1,vi k.2.2,vsl av l.length cv]:=hr;have o3':InR k.2.2:=by have:Qo k.2:=o3;unfold Qo at this;unfold InR;omega
    have o1':-1000<=k.1:=o1;have o2':k.1<=9999:=o2;refine⟨b,o,⟨ea,by omega,by omega⟩,_,_,_,_,_,_,_,by rw [bG];exact hr',?_⟩
    intro J69;have hJ:J69 (bs (Gw gw)):=by
     refine Wq (KW (by omega) (by omega)) (T.le V.le) ⟨_,rfl,?_⟩
     refine JL (v:=k.2) o3' (T.le V.le) ⟨_,rfl,?_⟩
     intro b83 hb83 h84;have hlen2:(W1++(st.rows.take i).flatMap rwW).length+3+(l.map Z9).length<=220010:=by
      simp only [rwW,bO,cO,fB] at hlen ⊢;omega
     refine V.app hb83 [Gw gw,Lib.itoa k.1,Z9 k.2] rfl rfl (by simp only [cO,fB];omega) fun a' c' h' V'=>⟨_,_,_,rfl,?_⟩
     have hex:(W1++(st.rows.take i).flatMap rwW++[Gw gw,Lib.itoa k.1,Z9 k.2]).length=(W1++(st.rows.take i).flatMap rwW).length+3:=by rw [bO];rfl
     have tk2:∀ c:List Wds,c=l.map Z9->W1++(st.rows.take i).flatMap rwW++[Gw gw,Lib.itoa k.1,Z9 k.2]++c=W1++(st.rows.take (i+1)).flatMap rwW:=by rintro c rfl;rw [tk,cX,dW];simp only [rwW,cG]
     rw [<-hex] at hlen2;have SVh:Qf h av (l.flatMap Qq)\/True:=.inr trivial;have l9:hh.le h'\/True:=.inr trivial;generalize W1++(st.rows.take i).flatMap rwW++[Gw gw,Lib.itoa k.1,Z9 k.2]=W2 at *
     refine⟨fun vs h2=>∃(j:Nat) (a:OaT) (c:Nat),vs=[vsl a (W2++(l.take j).map Z9).length c,vi j]/\j<=l.length/\WdV h h2 a c (W2++(l.take j).map Z9),
      fun vs h2=>l.length-(Qm vs 1).toNat,⟨0,a',c',by simp,cH _,by simpa using V'⟩,?_⟩
     clear V';rintro vs h2 ⟨j,a2,c2,rfl,hj,V2⟩;refine⟨_,_,_,_,rfl,fun e5=>?_,fun e5=>?_⟩
     ·have hjl:j<l.length:=by have:=bC e5;omega
      have hax:l[j]?=some l[j]:=bD hjl
      have tka:l.take (j+1)=l.take j++[l[j]]:=bJ hjl;have hv:=o5 _ (cM hjl);obtain⟨b0,o0,av0,cv0,ea0,hr0,SV0⟩:=g1.row JM (by decide) hxg
      have hr1:=Hp.row_le V.le hr0;rw [ea0] at ea;cases ea;rw [hr1] at hr';simp only [QT,bQ,jK,kI,mC] at hr';cases hr';obtain⟨b97,o98,e97,r97⟩:=(SV0.le V2.le).get (sz:=2) (fun _=>rfl) (by decide) hax
      have hlj:(W2++(l.take j).map Z9).length+1<=220010:=by rw [bU] at hlen2;rw [bO,bU,bV,dX hj];omega
      generalize l[j]=v at *
      refine⟨b97,o98,⟨e97,by omega,by omega⟩,_,_,by rw [bG];exact r97,?_⟩
      refine JL (v:=v) (by unfold Qo at hv;unfold InR;omega) (T.le V2.le) ⟨_,rfl,?_⟩
      intro b112 hb112 h113;refine V2.app hb112 [Z9 v] rfl rfl (by simp only [cO,fB];omega) fun a' c' h' V'=>⟨_,_,_,rfl,_,iW,⟨j+1,a',c',?_,by omega,?_⟩,by simp [Qm];omega⟩
      ·rw [tka,cD,<-cG];rfl
      ·rw [tka,cD,<-cG];exact V'
     ·have hge:j=l.length:=by have:=bB e5;omega
      rw [hge,dR] at V2 ⊢;have ew:=tk2 _ rfl;rw [ew] at V2 ⊢;exact⟨_,iW,⟨i+1,a2,c2,rfl,by omega,V2⟩,by simp [Qm];omega⟩
    clear_value J69;refine⟨fun e6=>?_,fun e6=>?_⟩
    ·rw [e6] at hJ;exact hJ
    ·rw [e6] at hJ;exact hJ
   ·have hge:i=st.rows.length:=by have:=bB e;omega
    rw [hge,dR,<-e1] at V ⊢;have S:=(show SlB hh a (Xt (Qd q) st).length (Xt (Qd q) st) from V.slp ZM (by decide))
    have hjl:=QhR (sep:=[32]) (by decide) _ sw
    refine QpX S (by unfold Xt hdW;simp) V.own.cap (by omega) (by omega) ⟨_,rfl,?_⟩
    exact hK hh V.le
end
theorem Qm1 {q:Qy}{h:Hp}{parts:Nat}{st:En}{a1:OaT}{n1 c1:Nat}{a2:OaT}{n2 c2:Nat}{a3:OaT}{n3 c3:Nat}(Q:QAt h q a1 n1 a2 n2 a3 n3)(B:QOk q)(Z:EnZ q parts st)(h1:1<=parts)(h3:parts<=3)(h40:∀ x ∈ st.rd,x<=40)(T:UV h)(E:N9 h)(M:Qd4 h){R':RtT}
  (hK:∀ g' h',h.le h'->Wr q h h' g' st->R' (Qe [vhp g' 0,ifv none]) h'):Qa Pg 61 [vs (bs (Kh (Qd q) st)),vag [vsl a1 n1 c1,vsl a2 n2 c2,vsl a3 n3 c3,vi q.size,vi q.slide,vi q.delay,vi q.late],vi parts] h R':=by
 have H:=Z.sho h1 h3 h40;obtain⟨sl,sw⟩:=QdR H (by rw [QA];exact B.n2)
 have hl:(Kh (Qd q) st).length<=15*(Xt (Qd q) st).length:=QhR (by decide) _ sw
 have hZl:=Z.b.pl;have hZw:=Z.b.wl;have hZs:st.rd.sum<=120:=by have:=U0 st.rd h40;rw [Z.b.rl] at this;omega
 have e:=Qms H;rw [<-Qis] at e;refine Qfa (s:=Kh (Qd q) st) Q B T E M ?_ h1 h3 (fun h' l' hn=>by rw [e] at hn;cases hn) fun Y g' h' l' hy hE=>?_
 ·refine dJ hl ?_
  have:=Qb8 H (by rw [QA];exact B.n2)
  omega
 ·rw [e] at hy;cases hy;exact hK g' h' l' (hE st rfl rfl rfl rfl rfl)
end Go.Proofs.YthicpjafcpfjoaaGreatDoor
namespace Go.Proofs.YthicpjafcpfjoaaGreatDoor
open Go Go.Vc
structure QS where
 a1:OaT
 n1:Nat
 c1:Nat
 a2:OaT
 n2:Nat
 c2:Nat
 a3:OaT
 n3:Nat
 c3:Nat
def QS.At (s:QS)(h:Hp)(q:Qy):Prop:=QAt h q s.a1 s.n1 s.a2 s.n2 s.a3 s.n3
def QS.l (s:QS)(q:Qy):List Value:=[vsl s.a1 s.n1 s.c1,vsl s.a2 s.n2 s.c2,vsl s.a3 s.n3 s.c3,vi q.size,vi q.slide,vi q.delay,vi q.late]
def StT (B p:Hp)(gt:Nat)(sv:List Rw)(pre:List Value):Prop:=∃(hN:Hp) (ar:OaT) (cr:Nat),B.le p/\p gt=some (Qb (pre++[vsl ar sv.length cr]) 123)/\B gt=none/\hN.le p/\hN gt=none/\Ky Qq QT hN ar sv.length (sv.map ZI)
def Kc (q:Qy)(B h:Hp)(s:QS)(gs gd gt ge:Nat)(D:HpT)(st:En)(sv:List Rw):Prop:=
 ∃ pT pE pD:Hp,Par B h [pT,pE,pD]/\StT B pT gt sv (s.l q++[vhp gs 0,vhp gd 0,vhp ge 0])/\Wr q B pE ge st/\D pD
section
variable {q:Qy}{B h:Hp}{s:QS}{gs gd gt ge:Nat}{D:HpT}{st:En}{sv:List Rw}
theorem Kc.le0 (X:Kc q B h s gs gd gt ge D st sv):B.le h:=by
 obtain⟨pT,pE,pD,P,_⟩:=X;exact P.z
theorem Kc.le {h':Hp}(X:Kc q B h s gs gd gt ge D st sv)(l:h.le h'):Kc q B h' s gs gd gt ge D st sv:=by
 obtain⟨pT,pE,pD,P,S,E,hD⟩:=X;exact⟨pT,pE,pD,P.grow l,S,E,hD⟩
theorem JS {α:Type}{l:List α}{i:Nat}{d:α}(h:i<l.length):l.getD i d ∈ l:=by
 rw [bK,bD h]
 exact cM h
theorem Qn4 {α:Type}{l:List α}{i:Nat}{d:α}(h:i<l.length):l[i]?=some (l.getD i d):=by
 rw [bK,bD h]
 rfl
theorem Qkk {L:List (List EvL)}{F:NpT}{h':Hp}(S:KT gs L h F)(l:h.le h'):KT gs L h' F:=(QnD gs L).keep S fun b hb o ho=>l b o ho
theorem Ux {parts:Nat}(Z:EnZ q parts st)(h3:parts<=3)(h40:∀ x ∈ st.rd,x<=40)(Bq:QOk q):(st.rows.map ZI).length<=1000000/\∀ x ∈ st.rows.map ZI,x.2.length<=1000:=by
 have hs:st.rd.sum<=120:=by have:=U0 st.rd h40;rw [Z.b.rl] at this;omega
 have hw:=Z.b.wl;refine⟨by rw [bU];omega,fun x hx=>?_⟩
 obtain⟨w,hw2,rfl⟩:=dI.1 hx;have:=Z.b.wo w hw2;have:=Bq.n2;show w.2.2.length<=1000;omega
theorem Qc5 {h0:Hp}{Ls:List Hp}{a:OaT}{n c:Nat}{W:List Rw}{R:RtT}(P:Par h0 h Ls)(G:Ky Qq QT h a n (W.map ZI))(hn:(W.map ZI).length<=1000000)(hx:∀ x ∈ W.map ZI,x.2.length<=1000)
  (hK:∀ a' c' h' hN p,h.le h'->Par h0 h' (p :: Ls)->hN.le p->(∀ b,h b≠none->hN b=none)->(∀ b o,h' b=some o->h b=none->p b=some o)->W.length<=c'->Ky Qq QT hN a' W.length (W.map ZI)->R (vsl a' W.length c') h'):Qa Pg 58 [vsl a n c] h R:=by
 have hnn:n=W.length:=by obtain⟨RW,_,hnl,_⟩:=G;rw [hnl,bU]
 refine Ud G hn hx fun a' c' h' hN l' lN hnew hcap G'=>?_
 rw [hnn] at G' hcap ⊢;obtain⟨p,lp,P',kp,_⟩:=P.fresh.adopt (i:=0) rfl l';refine hK a' c' h' hN p l' P' (fun b o ho=>?_) hnew kp hcap G'
 refine kp b o (lN b o ho) ?_
 cases hb:h b with
 | none=>rfl
 | some o'=>have:=hnew b (by rw [hb];simp);rw [this] at ho;cases ho
set_option maxHeartbeats 400000 in
theorem VX {F F0S:NpT}{sd:DK}{n e:Nat}{t:LuT}{L:List (List EvL)}{R:RtT}(V:W7 B h F gd sd n e t)(Q:s.At B q)(Qk:QOk q)(Sr:KT gs L B F0S)(T:UV B)(E:N9 B)(M:Qd4 B)(h1:1<=L.length)(h3:L.length<=3)
  (Z:EnZ q L.length st) (h40:∀ x ∈ st.rd,x<=40) (ht:(t=[]/\st=YZ L.length)\/(t≠[]/\t=Kh (Qd q) st))
  (hK:∀ gt ge h',Kc q B h' s gs gd gt ge (fun p=>W7 B p F gd sd n e t) st st.rows->R (Qe [vhp gt 0,ifv none]) h'):Qa Pg 18 [vag (s.l q),vhp gs 0,vhp gd 0] h R:=by
 refine QeE ?_
 refine Ko (Qkk Sr V.le) ⟨_,rfl,?_⟩
 refine(Par.one V.le).fresh.call (i:=0) rfl (Qfo Q Qk (fun hb=>absurd ⟨by omega,by omega⟩ hb) fun _ _ g h5 l5 X5=>⟨l5,fun h5' P5=>?_⟩)
 rw [bG] at X5;refine⟨some ⟨g,0,none⟩,none,rfl,fun e=>(by cases e),fun _=>?_⟩
 have l5':h.le h5':=P5.last (i:=1) rfl;refine(V.grow l5').read ⟨_,_,rfl,fun e=>(by cases e),fun _=>?_⟩
 refine⟨_,YE (b:=[]),?_⟩
 intro J24;have hJ:∀(g':Nat) (h' pE:Hp),Par B h' [pE,h]->Wr q B pE g' st->J24 (some ⟨g',0,none⟩) h':=by
  intro g' h' pE P' X';obtain⟨a1,n1,c1,a2,n2,c2,a3,n3,c3,qf,ak,nk,ck,ar,cr,ac,cc,tb,tc,aw,cw,RP,k1,s1,s2,g1,tb1,eP⟩:=(X'.le (P'.last (i:=0) rfl)).seen;obtain⟨r1,r2⟩:=Ux Z h3 h40 Qk;refine⟨g',0,rfl,_,_,_,Qc k1 rfl,?_⟩
  refine Qc5 P' g1 r1 r2 fun a4 c4 h32 hN p l32 P32 lN hnew kp _ G'=>⟨_,_,_,rfl,?_⟩
  intro b34 hb34 h35;have l35:h32.le h35:=Hp.le_set (Hp.le_refl h32) hb34 _;have hc:h35 b34=some (Qb (s.l q++[vhp gs 0,vhp gd 0,vhp g' 0]++[vsl a4 st.rows.length c4]) 123):=Hp.set_same _ _ _;clear_value h35;obtain⟨p2,lp2,P35,kp2,_⟩:=P32.adopt (i:=0) rfl l35;refine hK b34 g' h35 ⟨p2,pE,h,P35,⟨hN,a4,c4,(P35.at (i:=0) rfl).1,kp2 b34 _ hc hb34,?_,Hp.le_trans lN lp2,?_,G'⟩,X',V⟩
  ·exact Hp.none_of_le P32.z hb34
  ·exact Hp.none_of_le (Hp.le_trans lN (P32.at (i:=0) rfl).2) hb34
 clear_value J24;rcases ht with ⟨rfl,rfl⟩|⟨hne,rfl⟩
 ·refine⟨fun e=>(by cases e),fun _=>hJ g h5' h5 P5 X5⟩
 ·rw [cE hne];refine⟨fun _=>?_,fun e=>(by cases e)⟩
  refine Ko (Qkk Sr P5.z) ⟨_,rfl,?_⟩
  refine P5.fresh.call (i:=0) rfl (Qm1 Q Qk Z h1 h3 h40 T E M fun g' h19 l19 X19=>⟨l19,fun h' P'=>⟨some ⟨g',0,none⟩,none,rfl,fun e=>(by cases e),fun _=>?_⟩⟩)
  refine hJ g' h' h19 (P'.sub (L':=[h19,h]) ?_) X19
  exact List.Sublist.cons_cons _ (List.Sublist.cons _ (gY _))
theorem Kc.see (X:Kc q B h s gs gd gt ge D st sv):∃(ar:OaT) (cr:Nat),h gt=some (Qb (s.l q++[vhp gs 0,vhp gd 0,vhp ge 0]++[vsl ar sv.length cr]) 123)/\Ky Qq QT h ar sv.length (sv.map ZI)/\Wr q B h ge st:=by
 obtain⟨pT,pE,pD,P,⟨hN,ar,cr,z,k,_,lN,_,G⟩,X,_⟩:=X;have lT:=P.last (i:=0) rfl;exact⟨ar,cr,lT _ _ k,G.le (Hp.le_trans lN lT),X.le (P.last (i:=1) rfl)⟩
theorem VI {h0:Hp}{Ls:List Hp}{R:RtT}(X:Kc q B h s gs gd gt ge D st sv)(P:Par h0 h Ls)(hn:(sv.map ZI).length<=1000000)(hx:∀ x ∈ sv.map ZI,x.2.length<=1000)
  (hK:∀ a c h' hN p,h.le h'->Par h0 h' (p :: Ls)->hN.le p->sv.length<=c->Ky Qq QT hN a sv.length (sv.map ZI)->R (vsl a sv.length c) h'):Qa Pg 22 [vhp gt 0] h R:=by
 refine Vn ?_
 obtain⟨ar,cr,k,G,_⟩:=X.see;refine⟨_,_,_,Qc k rfl,?_⟩
 exact Qc5 P G hn hx fun a' c' h' hN p l' P' lN _ _ hc G'=>⟨_,_,_,rfl,hK a' c' h' hN p l' P' lN hc G'⟩
theorem Jn {R:RtT}(X:Kc q B h s gs gd gt ge D st sv)(hn:st.rows.length<=1000000)(hs:sv.length<=1000000)(hK:R (vi ((st.rows.length:Int)-sv.length)) h):Qa Pg 23 [vhp gt 0] h R:=by
 refine JA ?_
 obtain⟨ar,cr,k,G,X⟩:=X.see;obtain⟨a1,n1,c1,a2,n2,c2,a3,n3,c3,qf,ak,nk,ck,ar',cr',ac,cc,tb,tc,aw,cw,RP,k1,s1,s2,g1,tb1,eP⟩:=X.seen;have hl:(st.rows.map ZI).length=st.rows.length:=bU _;exact⟨_,Qc k rfl,ge,0,rfl,_,_,_,Qc k1 rfl,_,_,_,Qc k rfl,_,isW (by rw [hl];unfold InR;omega),by rw [hl];exact hK⟩
theorem QdZ {R:RtT}(X:Kc q B h s gs gd gt ge D st sv)(hK:R (vi (st.late:Nat)) h):Qa Pg 26 [vhp gt 0] h R:=by
 refine Vr ?_
 obtain⟨ar,cr,k,G,X⟩:=X.see;obtain⟨a1,n1,c1,a2,n2,c2,a3,n3,c3,qf,ak,nk,ck,ar',cr',ac,cc,tb,tc,aw,cw,RP,k1,s1,s2,g1,tb1,eP⟩:=X.seen;exact⟨_,Qc k rfl,ge,0,rfl,_,Qc k1 rfl,hK⟩
theorem QdT {R:RtT}(X:Kc q B h s gs gd gt ge D st sv)(hn:st.far.length<=1000)(hl:∀ x ∈ st.far,-1<=x/\x<=9999)(hd:0<=q.delay/\q.delay<=1000)(hK:R (Qe [vi (Wo q.delay st.far).1,vb (Wo q.delay st.far).2]) h):Qa Pg 19 [vhp gt 0] h R:=by
 refine Vm ?_
 obtain⟨ar,cr,k,G,X⟩:=X.see;obtain⟨a1,n1,c1,a2,n2,c2,a3,n3,c3,qf,ak,nk,ck,ar',cr',ac,cc,tb,tc,aw,cw,RP,k1,s1,s2,g1,tb1,eP⟩:=X.seen;exact⟨_,Qc k rfl,ge,0,rfl,_,_,_,Qx k1 (bP rfl),_,Qc k rfl,QaI s2 hn hl hd ⟨_,_,rfl,hK⟩⟩
theorem Y0 {F0S:NpT}{L:List (List EvL)}{parts:Nat}{p:Int}{R:RtT}(X:Kc q B h s gs gd gt ge D st sv)(Qk:QOk q)(Sr:KT gs L B F0S)(hL:L.length=parts)(h3:parts<=3)(Z:EnZ q parts st)(h40:∀ x ∈ st.rd,x<=40)(hE:∀ l ∈ L,∀ e ∈ l,YM e)
  (hNo:¬(0<=p/\p<parts)->R (ifv (QG 5)) h) (hEnd:0<=p->p<parts->¬ st.rd.getD p.toNat 0<(L.getD p.toNat []).length->R (ifv (QG 8)) h)
  (hK:∀ h',0<=p->p<parts->st.rd.getD p.toNat 0<(L.getD p.toNat []).length->Kc q B h' s gs gd gt ge D (Yl q p.toNat ((L.getD p.toNat []).getD (st.rd.getD p.toNat 0) (0,(0,0),(0,0),(0,0))) st) sv->R (ifv (QG 0)) h'):Qa Pg 16 [vhp gt 0,vi p] h R:=by
 refine Vj ?_
 obtain⟨ar,cr,k,G,X2⟩:=X.see;have Srh:=Qkk Sr X.le0;refine⟨some ⟨gs,0,none⟩,fun _=>Qc k rfl,fun x hh=>hh=h/\(decide (p<0)=false->x=.t (.one (.v (vi (L.length:Nat))))),fun _=>Ko Srh ⟨_,rfl,rfl,fun _=>rfl⟩,fun e=>⟨rfl,fun q'=>absurd q' e⟩,?_⟩
 rintro h6 x7 ⟨rfl,hx⟩;have hx':¬ p<0->x7=(parts:Nat):=fun hp=>by
  have:=hx (cE hp);cases this;rw [hL]
 refine⟨fun e=>?_,fun e=>?_⟩
 ·refine hNo fun⟨q1,q2⟩=>?_
  rw [hx' (by omega),cE (show ¬ p<0 by omega),cE (show ¬ p>=(parts:Nat) by omega)] at e
  cases e
 ·obtain⟨e1,e2⟩:=ZV e;have e1:=bB e1;have e2:=bB e2;rw [hx' e1] at e2;clear e hx hx';obtain⟨k',rfl⟩:=kO (show 0<=p by omega)
  have hk:k'<parts:=by omega
  obtain⟨a1,n1,c1,a2,n2,c2,a3,n3,c3,qf,ak,nk,ck,ar',cr',ac,cc,tb,tc,aw,cw,RP,k1,s1,s2,g1,tb1,eP⟩:=X2.seen;have hrl:=Z.b.rl;obtain⟨b,o,ea,hc⟩:=s1.get (i:=k') (by omega)
  have hg:(st.rd.map fun n:Nat=>(n:Int)).getD k' 0=((st.rd.getD k' 0:Nat):Int):=by rw [bK,bK,cU,bD (by omega)];rfl
  rw [hg] at hc;refine⟨_,Qc k rfl,_,Qc k rfl,ge,0,rfl,_,_,_,Qc k1 rfl,b,o,⟨ea,by omega,by omega⟩,_,by rw [bG];exact hc,?_⟩
  refine Qfs Srh ?_
  unfold Qh0;by_cases hlt:st.rd.getD k' 0<(L.getD k' []).length
  ·rw [bE (by rw [bG];omega)]
   rw [bG,bG];generalize hev:(L.getD k' []).getD (st.rd.getD k' 0) (0,(0,0),(0,0),(0,0))=ev;have hE':YM ev:=by
    rw [<-hev];exact hE _ (JS (by omega)) _ (JS hlt)
   refine⟨_,_,_,_,_,_,_,_,rfl,fun e=>(by cases e),fun _=>?_⟩
   refine⟨_,Qc k rfl,?_⟩
   obtain⟨pT,pE,pD,P,S,XE,hD⟩:=X;have hs:st.rd.sum<=120:=by
    have:=U0 st.rd h40;rw [Z.b.rl] at this;omega
   refine P.call (i:=1) rfl (Qeo (e:=ev) XE Qk hE' Z.b (by omega) hk (by omega) fun p' lp X'=>⟨lp,fun h' P'=>⟨rfl,?_⟩⟩)
   refine hK h' (by omega) (by omega) (by rw [bG];exact hlt) ?_
   rw [bG,hev];exact⟨pT,p',pD,P',S,X',hD⟩
  ·rw [bH (by simp only [bG];omega)]
   refine⟨_,_,_,_,_,_,_,_,rfl,fun _=>?_,fun e=>(by cases e)⟩
   exact hEnd (by omega) (by omega) (by rw [bG];exact hlt)
theorem Gj {F:NpT}{sd:DK}{n e parts:Nat}{t:LuT}{R:RtT}(X:Kc q B h s gs gd gt ge (fun p=>W7 B p F gd sd n e t) st sv)(Qk:QOk q)(T:UV B)(h1:1<=parts)(h3:parts<=3)(Z:EnZ q parts st)(h40:∀ x ∈ st.rd,x<=40)(he:e+1<4294967296)
  (hBig:¬(Kh (Qd q) st).length<=(n-2) / 2*256->∀ h' F',Kc q B h' s gs gd gt ge (fun p=>W7 B p F' gd sd n e t) st sv->R (ifv (QG 6)) h')
  (hK:∀ h' F' sd',Kc q B h' s gs gd gt ge (fun p=>W7 B p F' gd sd' n (e+1) (Kh (Qd q) st)) st st.rows->(sd.fuse=-1->sd'.fuse=-1)->R (ifv (QG 0)) h')
  (hF:∀ h' F' sd',Qrk B h' F' gd sd' n e t (Kh (Qd q) st)->sd'.wait.length<=900000->sd.fuse≠-1->R (ifv (QG 7)) h'):Qa Pg 17 [vhp gt 0] h R:=by
 refine Vo ?_
 obtain⟨ar,cr,k,G,X2⟩:=X.see;have H:=Z.sho h1 h3 h40;refine⟨_,Qc k rfl,_,Qc k rfl,?_⟩
 refine Qhi X2 Qk H (T.le X.le0) fun h4 l4=>⟨_,rfl,Qc (l4 _ _ k) rfl,?_⟩
 have X4:=X.le l4;clear k G X2 ar cr X;obtain⟨pT,pE,pD,P,⟨hN,ar,cr,z,k,kB,lN,kN,G⟩,XE,V⟩:=X4;obtain⟨sl,sw⟩:=QdR H (by rw [QA];exact Qk.n2)
 have hlt:(Kh (Qd q) st).length<=15*(Xt (Qd q) st).length:=QhR (by decide) _ sw
 have hsum:st.rd.sum<=120:=by have:=U0 st.rd h40;rw [Z.b.rl] at this;omega
 have hpl:=Z.b.pl;have hwl:=Z.b.wl;have hbig:(Kh (Qd q) st).length<=1000000:=by
  have:=Qb8 H (by rw [QA];exact Qk.n2)
  omega
 by_cases hr:(Kh (Qd q) st).length<=(n-2) / 2*256
 ·refine P.call (i:=2) rfl (V.write he hbig hr (fun p' F' sd' V' hf=>⟨V'.le,fun h7 P7=>?_⟩) fun p' F' sd' V' hw hf=>⟨V'.le,fun h7 P7=>?_⟩)
  ·refine⟨none,rfl,?_⟩
   intro J19;refine⟨fun _=>?_,fun e=>(by cases e)⟩
   have kT:=(P7.last (i:=0) rfl) _ _ k;have XE7:=XE.le (P7.last (i:=1) rfl);obtain⟨a1,n1,c1,a2,n2,c2,a3,n3,c3,qf,ak,nk,ck,ar',cr',ac,cc,tb,tc,aw,cw,RP,k1,s1,s2,g1,tb1,eP⟩:=XE7.seen;obtain⟨r1,r2⟩:=Ux Z h3 h40 Qk;refine⟨_,Qc kT rfl,ge,0,rfl,_,_,_,Qc k1 rfl,?_⟩
   refine Ud g1 r1 r2 fun a4 c4 h14 hN2 l14 lN2 hnew _ G'=>⟨_,_,_,rfl,?_⟩
   have hrl:(st.rows.map ZI).length=st.rows.length:=bU _;rw [hrl] at G' ⊢;obtain⟨pT',lT',P14,kp,_⟩:=P7.adopt (i:=0) rfl l14;have kT14:=lT' _ _ k;have hg14:h14 gt=some _:=l14 _ _ kT;have hNg:hN2 gt=none:=hnew gt (by rw [kT];simp)
   have lNT:hN2.le pT':=fun b o ho=>by
    refine kp b o (lN2 b o ho) ?_
    cases hb:h7 b with
    | none=>rfl
    | some o'=>have:=hnew b (by rw [hb];simp);rw [this] at ho;cases ho
   refine QR hg14 (by simp only [fG,bO,QS.l,cO,fB];omega) ?_
   have hset:QJ (s.l q++[vhp gs 0,vhp gd 0,vhp ge 0]++[vsl ar sv.length cr]) (0+10) [vsl a4 st.rows.length c4]=s.l q++[vhp gs 0,vhp gd 0,vhp ge 0]++[vsl a4 st.rows.length c4]:=rfl;rw [hset];have P16:=P14.store (i:=0) rfl (g:=gt) (by rw [kT14];simp) kB (Qb (s.l q++[vhp gs 0,vhp gd 0,vhp ge 0]++[vsl a4 st.rows.length c4]) 123)
   refine hK _ F' sd' ⟨_,pE,p',P16,⟨hN2,a4,c4,(P16.at (i:=0) rfl).1,Hp.set_same _ _ _,kB,fun b o ho=>?_,hNg,G'⟩,XE,V'⟩ hf
   have hb:b≠gt:=fun q=>by rw [q,hNg] at ho;cases ho
   rw [Hp.set_other _ _ hb];exact lNT b o ho
  ·refine⟨_,rfl,?_⟩
   intro J19;refine⟨fun e=>(by cases e),fun _=>?_⟩
   refine hF h7 F' sd' ⟨P7.z,V'.nw,V'.p.le (P7.last (i:=2) rfl),V'.D,V'.S⟩ hw hf
 ·refine P.call (i:=2) rfl (V.writeBig hbig hr fun p' F' V'=>⟨V'.le,fun h7 P7=>⟨_,rfl,?_⟩⟩)
  intro J19;refine⟨fun e=>(by cases e),fun _=>?_⟩
  exact hBig hr h7 F' ⟨pT,pE,p',P7,⟨hN,ar,cr,z,k,kB,lN,kN,G⟩,XE,V'⟩
end
def QjU (y:Int × EvL):List Value:=vi y.1 :: Xo y.2
theorem Qne (y:Int × EvL):(QjU y).length=8:=rfl
theorem SlP.evU {h:Hp}{a:OaT}{n:Nat}{l:List (Int × EvL)}(S:SlP QjU h a n l){i:Nat}{y:Int × EvL}(hx:l[i]?=some y):∃ b o,a=some ⟨b,o,none⟩/\h.cell b (o+i*8)=some (vi y.1)/\h.row b (o+i*8+1) 7=some (Xo y.2):=by
 obtain⟨b,o,ea,hr⟩:=S.get Qne (by decide) hx
 exact⟨b,o,ea,Hp.row_cell hr (i:=0) rfl,Hp.row_sub hr (i:=1) (k:=7) (by decide)⟩
theorem QcJ {u0:OaT}{u1 u2:Nat}{u3:OaT}{u4 u5:Nat}{u6:OaT}{u7 u8:Nat}{u9:Int}{u10:Int}{u11:Int}{u12:Int}{u13:Int}{u14:OaT}{u15 u16:Nat}{h:Hp}{R:RtT}(H:Qa Pg 41 [vi u13] h fun v1 h2=>∃ q3 e4,v1=Qe [vp q3,ifv e4]/\Qa Pg 42 [vi 160] h2 fun v5 h6=>∃ q7 e8,v5=Qe [vp q7,ifv e8]/\∃ p9,((cond (Option.isSome e4) true (Option.isSome e8))=false->RdG .eql 33 (.tmp 32) (.const (vp none)) (vp q3) (vp none) h6 (vb p9))/\∃ p10,((cond (cond (Option.isSome e4) true (Option.isSome e8)) true p9)=false->RdG .eql 34 (.tmp 36) (.const (vp none)) (vp q7) (vp none) h6 (vb p10))/\∃(J11:ShT),((cond (cond (cond (Option.isSome e4) true (Option.isSome e8)) true p9) true p10)=false->Qa Pg 43 [vp q7] h6 fun v12 h13=>∃ e14,v12=ifv e14/\J11 (.t (.one (.ifc e14))) h13)/\(¬((cond (cond (cond (Option.isSome e4) true (Option.isSome e8)) true p9) true p10)=false)->J11 (.t (.one (.ifc none))) h6)/\∀ h15 e16,J11 (.t (.one (.ifc e16))) h15->((cond (cond (cond (cond (Option.isSome e4) true (Option.isSome e8)) true p9) true p10) true (Option.isSome e16))=true->R (Qe [vp none,vp none,vp none,vb false]) h15)/\((cond (cond (cond (cond (Option.isSome e4) true (Option.isSome e8)) true p9) true p10) true (Option.isSome e16))=false->∃(I19:LtT) (m20:LmT),I19 [vi 0] h15/\∀ vs21 h22,I19 vs21 h22->∃ x23,vs21=[vi x23]/\((decide (x23<(u15:Int)))=true->∃ b26 o27,Ix u14 b26 o27 x23 u15/\∃ x28,Hp.cell h22 b26 (o27+x23.toNat*8)=some (vi x28)/\∃ b29 o30,Ix u14 b29 o30 x23 u15/\∃ x31 x32 x33 x34 x35 x36 x37,Hp.row h22 b29 ((o30+x23.toNat*8)+1) 7=some [vi x31,vi x32,vi x33,vi x34,vi x35,vi x36,vi x37]/\Qa Pg 44 [vp q3,vi x28,vag [vi x31,vi x32,vi x33,vi x34,vi x35,vi x36,vi x37]] h22 fun v38 h39=>∃ e40,v38=ifv e40/\∃ x42,IsW x42 (x23+1)/\I19 [vi x42] h39/\m20 [vi x42] h39<m20 vs21 h22)/\((decide (x23<(u15:Int)))=false->Qa Pg 18 [vag [vsl u0 u1 u2,vsl u3 u4 u5,vsl u6 u7 u8,vi u9,vi u10,vi u11,vi u12],vp q3,vp q7] h22 fun v43 h44=>∃ q45 e46,v43=Qe [vp q45,ifv e46]/\∃ p47,((Option.isNone e46)=true->RdG .neq 35 (.tmp 75) (.const (vp none)) (vp q45) (vp none) h44 (vb p47))/\R (Qe [vp q3,vp q7,vp q45,(vb (cond (Option.isNone e46) p47 false))]) h44))):Qa Pg 10 [vag [vsl u0 u1 u2,vsl u3 u4 u5,vsl u6 u7 u8,vi u9,vi u10,vi u11,vi u12],vi u13,vsl u14 u15 u16] h R:=callC ⟨[],[(6,([14],[.one (.int .i64)],[]))],[(8,[0,1,2,3,4,5,6,7,8,9,10,11])]⟩ Tryz.func10 [.ag [.v (vsl u0 u1 u2),.v (vsl u3 u4 u5),.v (vsl u6 u7 u8),.v (vi u9),.v (vi u10),.v (vi u11),.v (vi u12)],.one (.v (vi u13)),.one (.v (vsl u14 u15 u16))] H
theorem Qdy {h:Hp}{R:RtT}(H:Qa Pg 39 [(vs ⟨#[115,101,108,101,99,116,32,99,111,117,110,116,40,42,41,32,102,114,111,109,32,101,118,101,110,116,115,32,119,105,110,100,111,119,32,49,48]⟩)] h fun v1 h2=>∃ a3 n3 c3 a4 n4 c4 a5 n5 c5 x6 x7 x8 x9 e10,v1=Qe [vag [vsl a3 n3 c3,vsl a4 n4 c4,vsl a5 n5 c5,vi x6,vi x7,vi x8,vi x9],ifv e10]/\((Option.isSome e10)=true->R (vb false) h2)/\((Option.isSome e10)=false->∀ b12,h2 b12=none->let h13:=Hp.set h2 b12 (Qb [vi 0,vi 3,vi 0,vi 0,vi 0,vi 0,vi 0,vi 0,vi 0,vi 12,vi 0,vi 0,vi 0,vi 0,vi 0,vi 0] 90);Qa Pg 10 [vag [vsl a3 n3 c3,vsl a4 n4 c4,vsl a5 n5 c5,vi x6,vi x7,vi x8,vi x9],vi 1,(vsl (some (⟨b12,0,none⟩:Addr)) 2 2)] h13 fun v14 h15=>∃ q16 q17 q18 p19,v14=Qe [vp q16,vp q17,vp q18,vb p19]/\∃(J20:ShT),((!p19)=false->Qa Pg 16 [vp q18,vi 0] h15 fun v21 h22=>∃ e23,v21=ifv e23/\J20 (.t (.one (.ifc e23))) h22)/\(¬((!p19)=false)->J20 (.t (.one (.ifc none))) h15)/\∀ h24 e25,J20 (.t (.one (.ifc e25))) h24->∃(J26:ShT),((cond (!p19) true (Option.isSome e25))=false->Qa Pg 16 [vp q18,vi 0] h24 fun v27 h28=>∃ e29,v27=ifv e29/\J26 (.t (.one (.ifc e29))) h28)/\(¬((cond (!p19) true (Option.isSome e25))=false)->J26 (.t (.one (.ifc none))) h24)/\∀ h30 e31,J26 (.t (.one (.ifc e31))) h30->∃(J32:ShT),((cond (cond (!p19) true (Option.isSome e25)) true (Option.isSome e31))=false->Qa Pg 23 [vp q18] h30 fun v33 h34=>∃ x35,v33=vi x35/\J32 (.t (.one (.v (vi x35)))) h34)/\(¬((cond (cond (!p19) true (Option.isSome e25)) true (Option.isSome e31))=false)->J32 (.t (.one (.v (vi 0)))) h30)/\∀ h36 x37,J32 (.t (.one (.v (vi x37)))) h36->∃(J38:ShT),((cond (cond (cond (!p19) true (Option.isSome e25)) true (Option.isSome e31)) true (decide (x37≠1)))=false->Qa Pg 17 [vp q18] h36 fun v39 h40=>∃ e41,v39=ifv e41/\J38 (.t (.one (.ifc e41))) h40)/\(¬((cond (cond (cond (!p19) true (Option.isSome e25)) true (Option.isSome e31)) true (decide (x37≠1)))=false)->J38 (.t (.one (.ifc none))) h36)/\∀ h42 e43,J38 (.t (.one (.ifc e43))) h42->((cond (cond (cond (cond (!p19) true (Option.isSome e25)) true (Option.isSome e31)) true (decide (x37≠1))) true (Option.isSome e43))=true->R (vb false) h42)/\((cond (cond (cond (cond (!p19) true (Option.isSome e25)) true (Option.isSome e31)) true (decide (x37≠1))) true (Option.isSome e43))=false->Qa Pg 22 [vp q18] h42 fun v45 h46=>∃ a47 n47 c47,v45=vsl a47 n47 c47/\∃ b48 o49,((decide ((n47:Int)=1))=true->Ix a47 b48 o49 0 n47)/\∃ x50,((decide ((n47:Int)=1))=true->Hp.cell h46 b48 ((o49+(0:Int).toNat*5)+1)=some (vi x50))/\R (vb (cond (decide ((n47:Int)=1)) (decide (x50=0)) false)) h46))):Qa Pg 6 [] h R:=callO Tryz.func6 [] H
theorem Qa1 {u0:ByteArray}{u1:Int}{u2:OaT}{u3 u4:Nat}{u5:OaT}{u6 u7:Nat}{h:Hp}{R:RtT}(H:Qa Pg 6 [] h fun v1 h2=>∃ p3,v1=vb p3/\∃(J4:ShT),((!p3)=false->Qa Pg 7 [vsl u2 u3 u4,vsl none 0 0] h2 fun v5 h6=>∃ p7,v5=vb p7/\J4 (.t (.one (.v (vb p7)))) h6)/\(¬((!p3)=false)->J4 (.t (.one (.v (vb false)))) h2)/\∀ h8 p9,J4 (.t (.one (.v (vb p9)))) h8->∃(J10:ShT),((cond (!p3) true (!p9))=false->Qa Pg 8 [vsl u5 u6 u7,vi 150] h8 fun v11 h12=>∃ p13,v11=vb p13/\J10 (.t (.one (.v (vb p13)))) h12)/\(¬((cond (!p3) true (!p9))=false)->J10 (.t (.one (.v (vb false)))) h8)/\∀ h14 p15,J10 (.t (.one (.v (vb p15)))) h14->((cond (cond (!p3) true (!p9)) true (!p15))=true->R (vb p3) h14)/\((cond (cond (!p3) true (!p9)) true (!p15))=false->Qa Pg 9 [vs u0] h14 fun v17 h18=>∃ a19 n19 c19 a20 n20 c20 a21 n21 c21 x22 x23 x24 x25 p26,v17=Qe [vag [vsl a19 n19 c19,vsl a20 n20 c20,vsl a21 n21 c21,vi x22,vi x23,vi x24,vi x25],vb p26]/\((cond (cond (!p26) true (decide (u1<1))) true (decide (u1>3)))=true->R (vb true) h18)/\((cond (cond (!p26) true (decide (u1<1))) true (decide (u1>3)))=false->Qa Pg 10 [vag [vsl a19 n19 c19,vsl a20 n20 c20,vsl a21 n21 c21,vi x22,vi x23,vi x24,vi x25],vi u1,vsl u2 u3 u4] h18 fun v28 h29=>∃ q30 q31 q32 p33,v28=Qe [vp q30,vp q31,vp q32,vb p33]/\((!p33)=true->R (vb false) h29)/\((!p33)=false->Qa Pg 11 [vp q30] h29 fun v35 h36=>∃ a37 n37 c37,v35=vsl a37 n37 c37/\Qa Pg 12 [vag [vsl a19 n19 c19,vsl a20 n20 c20,vsl a21 n21 c21,vi x22,vi x23,vi x24,vi x25],vi u1] h36 fun v38 h39=>∃ q40,v38=vp q40/\Qa Pg 13 [vp q40] h39 fun v41 h42=>∃ q43,v41=vp q43/\let J223:HpT:=fun h224=>R (vb true) h224;∃(I45:LtT) (m46:LmT),I45 [vp q32,vp q40,vp q43,vi 0] h42/\∀ vs47 h48,I45 vs47 h48->∃ q49 q50 q51 x52,vs47=[vp q49,vp q50,vp q51,vi x52]/\((decide (x52<(u6:Int)))=true->∃ b55 o56,Ix u5 b55 o56 x52 u6/\∃ s57 x58 s59 x60,Hp.row h48 b55 (o56+x52.toNat*4) 4=some [vs s57,vi x58,vs s59,(vk .u64 x60)]/\let J131:OaT->OaT->OaT->Hp->Prop:=fun q150 q151 q152 h153=>(Qa Pg 19 [vp q150] h153 fun v154 h155=>∃ x156 p157,v154=Qe [vi x156,vb p157]/\Qa Pg 20 [vp q151] h155 fun v158 h159=>∃ x160 p161,v158=Qe [vi x160,vb p161]/\∃ b162 o163,q152=some ⟨b162,o163,none⟩/\∃ a164 n164 c164,Hp.cell h159 b162 (o163+11)=some (vsl a164 n164 c164)/\Qa Pg 22 [vp q150] h159 fun v165 h166=>∃ a167 n167 c167,v165=vsl a167 n167 c167/\Hp.cell h166 b162 (o163+11)=some (vsl a164 n164 c164)/\Qa Pg 21 [vsl a167 n167 c167,vsl a164 n164 c164] h166 fun v168 h169=>∃ p170,v168=vb p170/\∃ b171 o172,((!p170)=false->q151=some ⟨b171,o172,none⟩)/\∃ a173 n173 c173,((!p170)=false->Hp.cell h169 b171 (o172+11)=some (vsl a173 n173 c173))/\∃ b174 o175,((!p170)=false->q152=some ⟨b174,o175,none⟩)/\∃ a176 n176 c176,((!p170)=false->Hp.cell h169 b174 (o175+11)=some (vsl a176 n176 c176))/\∃ x177,((!p170)=false->IsW x177 ((n173:Int)-(n176:Int)))/\∃(J178:ShT),((!p170)=false->Qa Pg 23 [vp q150] h169 fun v179 h180=>∃ x181,v179=vi x181/\J178 (.t (.one (.v (vi x181)))) h180)/\(¬((!p170)=false)->J178 (.t (.one (.v (vi 0)))) h169)/\∀ h182 x183,J178 (.t (.one (.v (vi x183)))) h182->((!p170)=false->Hp.cell h182 b174 (o175+11)=some (vsl a176 n176 c176))/\((!p170)=false->Hp.cell h182 b171 (o172+11)=some (vsl a173 n173 c173))/\∃ b184 o185,((cond (!p170) true (decide (x183≠x177)))=false->q151=some ⟨b184,o185,none⟩)/\∃ a186 n186 c186,((cond (!p170) true (decide (x183≠x177)))=false->Hp.cell h182 b184 (o185+7)=some (vsl a186 n186 c186))/\∃(J187:ShT),((cond (!p170) true (decide (x183≠x177)))=false->Qa Pg 25 [vp q150] h182 fun v188 h189=>∃ a190 n190 c190,v188=vsl a190 n190 c190/\J187 (.t (.one (.v (vsl a190 n190 c190)))) h189)/\(¬((cond (!p170) true (decide (x183≠x177)))=false)->J187 (.t (.one (.v (vsl none 0 0)))) h182)/\∀ h191 a192 n192 c192,J187 (.t (.one (.v (vsl a192 n192 c192)))) h191->((cond (!p170) true (decide (x183≠x177)))=false->Hp.cell h191 b184 (o185+7)=some (vsl a186 n186 c186))/\∃(J193:ShT),((cond (!p170) true (decide (x183≠x177)))=false->Qa Pg 24 [vsl a192 n192 c192,vsl a186 n186 c186] h191 fun v194 h195=>∃ p196,v194=vb p196/\J193 (.t (.one (.v (vb p196)))) h195)/\(¬((cond (!p170) true (decide (x183≠x177)))=false)->J193 (.t (.one (.v (vb false)))) h191)/\∀ h197 p198,J193 (.t (.one (.v (vb p198)))) h197->∃ b199 o200,((cond (cond (!p170) true (decide (x183≠x177))) true (!p198))=false->q151=some ⟨b199,o200,none⟩)/\∃ x201,((cond (cond (!p170) true (decide (x183≠x177))) true (!p198))=false->Hp.cell h197 b199 (o200+10)=some (vi x201))/\∃(J202:ShT),((cond (cond (!p170) true (decide (x183≠x177))) true (!p198))=false->Qa Pg 26 [vp q150] h197 fun v203 h204=>∃ x205,v203=vi x205/\J202 (.t (.one (.v (vi x205)))) h204)/\(¬((cond (cond (!p170) true (decide (x183≠x177))) true (!p198))=false)->J202 (.t (.one (.v (vi 0)))) h197)/\∀ h206 x207,J202 (.t (.one (.v (vi x207)))) h206->((cond (cond (!p170) true (decide (x183≠x177))) true (!p198))=false->Hp.cell h206 b199 (o200+10)=some (vi x201))/\∃ p208,((cond (cond (cond (cond (!p170) true (decide (x183≠x177))) true (!p198)) true (decide (x207≠x201))) true (decide (x156≠x160)))=false->RdG .neq 4 (.tmp 226) (.tmp 227) (vb p157) (vb p161) h206 (vb p208))/\∃(J209:ShT),((cond (cond (cond (cond (cond (!p170) true (decide (x183≠x177))) true (!p198)) true (decide (x207≠x201))) true (decide (x156≠x160))) true p208)=false->Qa Pg 27 [vp q150] h206 fun v210 h211=>∃ x212,v210=vi x212/\J209 (.t (.one (.v (vi x212)))) h211)/\(¬((cond (cond (cond (cond (cond (!p170) true (decide (x183≠x177))) true (!p198)) true (decide (x207≠x201))) true (decide (x156≠x160))) true p208)=false)->J209 (.t (.one (.v (vi 0)))) h206)/\∀ h213 x214,J209 (.t (.one (.v (vi x214)))) h213->∃(J215:ShT),((cond (cond (cond (cond (cond (!p170) true (decide (x183≠x177))) true (!p198)) true (decide (x207≠x201))) true (decide (x156≠x160))) true p208)=false->Qa Pg 28 [vp q151] h213 fun v216 h217=>∃ x218,v216=vi x218/\J215 (.t (.one (.v (vi x218)))) h217)/\(¬((cond (cond (cond (cond (cond (!p170) true (decide (x183≠x177))) true (!p198)) true (decide (x207≠x201))) true (decide (x156≠x160))) true p208)=false)->J215 (.t (.one (.v (vi 0)))) h213)/\∀ h219 x220,J215 (.t (.one (.v (vi x220)))) h219->((cond (cond (cond (cond (cond (cond (!p170) true (decide (x183≠x177))) true (!p198)) true (decide (x207≠x201))) true (decide (x156≠x160))) true p208) true (decide (x214≠x220)))=true->R (vb false) h219)/\((cond (cond (cond (cond (cond (cond (!p170) true (decide (x183≠x177))) true (!p198)) true (decide (x207≠x201))) true (decide (x156≠x160))) true p208) true (decide (x214≠x220)))=false->∃ x222,IsW x222 (x52+1)/\I45 [vp q150,vp q151,vp q152,vi x222] h219/\m46 [vp q150,vp q151,vp q152,vi x222] h219<m46 vs47 h48));∃ p61,RdG .eql 9 (.tmp 86) (.const (vs ⟨#[115,116,101,112]⟩)) (vs s57) (vs ⟨#[115,116,101,112]⟩) h48 (vb p61)/\(p61=true->let J94:Int->Hp->Prop:=fun x99 h100=>(Qa Pg 16 [vp q49,vi x58] h100 fun v101 h102=>∃ e103,v101=ifv e103/\Qa Pg 15 [ifv e103,vi x99] h102 fun v104 h105=>∃ p106,v104=vb p106/\((!p106)=true->R (vb false) h105)/\((!p106)=false->J131 q49 q50 q51 h105));((cond (decide (x58<0)) true (decide (x58>=u1)))=true->J94 5 h48)/\((cond (decide (x58<0)) true (decide (x58>=u1)))=false->∃ b63 o64,q50=some ⟨b63,o64,none⟩/\∃ a65 n65 c65,Hp.cell h48 b63 (o64+7)=some (vsl a65 n65 c65)/\∃ b66 o67,Ix a65 b66 o67 x58 n65/\∃ x68,Hp.cell h48 b66 (o67+x58.toNat*1)=some (vi x68)/\∃ b69 o70,Ix a37 b69 o70 x58 n37/\∃ a71 n71 c71,Hp.cell h48 b69 (o70+x58.toNat*1)=some (vsl a71 n71 c71)/\((decide (x68=(n71:Int)))=true->J94 8 h48)/\((decide (x68=(n71:Int)))=false->∃ b73 o74,Ix a37 b73 o74 x58 n37/\∃ a75 n75 c75,Hp.cell h48 b73 (o74+x58.toNat*1)=some (vsl a75 n75 c75)/\∃ b76 o77,q50=some ⟨b76,o77,none⟩/\∃ a78 n78 c78,Hp.cell h48 b76 (o77+7)=some (vsl a78 n78 c78)/\∃ b79 o80,Ix a78 b79 o80 x58 n78/\∃ x81,Hp.cell h48 b79 (o80+x58.toNat*1)=some (vi x81)/\∃ b82 o83,Ix a75 b82 o83 x81 n75/\∃ x84 x85 x86 x87 x88 x89 x90,Hp.row h48 b82 (o83+x81.toNat*7) 7=some [vi x84,vi x85,vi x86,vi x87,vi x88,vi x89,vi x90]/\Qa Pg 14 [vp q50,vi x58,vag [vi x84,vi x85,vi x86,vi x87,vi x88,vi x89,vi x90]] h48 fun v91 h92=>v91=Qe []/\J94 0 h92)))/\(p61=false->∃ p108,RdG .eql 9 (.tmp 86) (.const (vs ⟨#[115,97,118,101]⟩)) (vs s57) (vs ⟨#[115,97,118,101]⟩) h48 (vb p108)/\(p108=true->Qa Pg 17 [vp q49] h48 fun v109 h110=>∃ e111,v109=ifv e111/\Qa Pg 15 [ifv e111,vi 6] h110 fun v112 h113=>∃ p114,v112=vb p114/\(p114=true->R (vb true) h113)/\(p114=false->((Option.isSome e111)=true->R (vb false) h113)/\((Option.isSome e111)=false->Qa Pg 13 [vp q50] h113 fun v117 h118=>∃ q119,v117=vp q119/\J131 q49 q50 q119 h118)))/\(p108=false->Qa Pg 18 [vag [vsl a19 n19 c19,vsl a20 n20 c20,vsl a21 n21 c21,vi x22,vi x23,vi x24,vi x25],vp q30,vp q31] h48 fun v121 h122=>∃ q123 e124,v121=Qe [vp q123,ifv e124]/\∃ p125,((Option.isSome e124)=false->RdG .eql 35 (.tmp 97) (.const (vp none)) (vp q123) (vp none) h122 (vb p125))/\((cond (Option.isSome e124) true p125)=true->R (vb false) h122)/\((cond (Option.isSome e124) true p125)=false->Qa Pg 13 [vp q51] h122 fun v127 h128=>∃ q129,v127=vp q129/\J131 q123 q129 q51 h128))))/\((decide (x52<(u6:Int)))=false->J223 h48))))):Qa Pg 3 [vs u0,vi u1,vsl u2 u3 u4,vsl u5 u6 u7] h R:=callC ⟨[],[(14,([14,16,17,18],[.one (.ptr),.one (.ptr),.one (.ptr),.one (.int .i64)],[]))],[(28,[0,1,2,3,4,5,6,7,8,9,10,11,12,13,14,15]),(25,[0,1,2,3,4,5,6,7,8,9,10,11,12,13,14,15,16,17,18]),(41,[0,2,3,4,5,1,6,7,8,9,11,12,13,14,15,16,17,18,19,20,21,10,22,23,24,25,27,28,29,30,26,31,32,33,34,35,37,38,39,40,36,41,42,43,44,45,46,47,48,49,50,51,52,53,54,56,55,57,58,59])]⟩ Tryz.func3 [.one (.v (vs u0)),.one (.v (vi u1)),.one (.v (vsl u2 u3 u4)),.one (.v (vsl u5 u6 u7))] H
def K4 (L:List (List EvL))(l:List (Int × EvL)):List (List EvL):=l.foldl (fun L y=>(Vg L y.1 y.2).1) L
theorem Ql8 (L:List (List EvL))(p:Int)(e:EvL):(Vg L p e).1.length=L.length:=by
 unfold Vg;repeat' split
 all_goals simp
theorem QnH {L:List (List EvL)}(hs:∀ l ∈ L,l.length<=40)(p:Int)(e:EvL):∀ l ∈ (Vg L p e).1,l.length<=40:=by
 unfold Vg;split
 ·exact hs
 ·split
  ·exact hs
  ·split
   ·exact hs
   ·rename_i h1 h2 h3;intro l hl;rcases gO hl with h|h
    ·exact hs l h
    ·have hp:p.toNat<L.length:=by omega
     have hm:L.getD p.toNat [] ∈ L:=by rw [bK,bD hp];exact cM _
     have:=hs _ hm;rw [h,bO,fG];omega
theorem Qom {L:List (List EvL)}(hs:∀ l ∈ L,∀ e ∈ l,YM e)(p:Int)(e:EvL):∀ l ∈ (Vg L p e).1,∀ e ∈ l,YM e:=by
 unfold Vg;split
 ·exact hs
 ·split
  ·exact hs
  ·split
   ·exact hs
   ·rename_i h1 h2 h3;intro l hl x hx;rcases gO hl with h|h
    ·exact hs l h x hx
    ·rw [h] at hx;rcases cP.1 hx with h4|h4
     ·have hp:p.toNat<L.length:=by omega
      have hm:L.getD p.toNat [] ∈ L:=by rw [bK,bD hp];exact cM _
      exact hs _ hm x h4
     ·rw [cB.1 h4];exact QcX (by omega)
theorem Qcc (L:List (List EvL))(l:List (Int × EvL))(y:Int × EvL):K4 L (l++[y])=(Vg (K4 L l) y.1 y.2).1:=by
 unfold K4;rw [f7];rfl
theorem Qb2 {L:List (List EvL)}(h0:∀ l ∈ L,l.length<=40)(h1:∀ l ∈ L,∀ e ∈ l,YM e)(l:List (Int × EvL)):(K4 L l).length=L.length/\(∀ x ∈ K4 L l,x.length<=40)/\∀ x ∈ K4 L l,∀ e ∈ x,YM e:=by
 induction l using Mp with
 | h0=>exact⟨rfl,h0,h1⟩
 | h1 l y ih=>
  rw [Qcc];exact⟨(Ql8 _ _ _).trans ih.1,QnH ih.2.1 _ _,Qom ih.2.2 _ _⟩
section
variable {h:Hp}
theorem Mb {P:Program}{t e:TypeId}(ht:P.underlying t=some (.pointer e)){x y:Operand}{p:OaT}:Rd P (eqGuard .eql t x y (vp p) (vp none) >>= fun _=>binOp .eql t (vp p) (vp none)) h (vb p.isNone):=by
 intro w _;have:=run_eql_pointer_nil (P:=P) w t p (by simp [Program.pointee,ht])
 simp [eqGuard,this]
theorem Qj3 {P:Program}{t e:TypeId}(ht:P.underlying t=some (.pointer e)){x y:Operand}{p:OaT}:Rd P (eqGuard .neq t x y (vp p) (vp none) >>= fun _=>binOp .neq t (vp p) (vp none)) h (vb (!p.isNone)):=by
 intro w _;have:=run_neq_pointer_nil (P:=P) w t p (by simp [Program.pointee,ht])
 simp [eqGuard,this]
set_option maxHeartbeats 400000 in
theorem U8 {q:Qy}{s:QS}{n m:Nat}{a:OaT}{c:Nat}{l:List (Int × EvL)}{R:RtT}(Q:s.At h q)(Qk:QOk q)(T:UV h)(E:N9 h)(M:Qd4 h)(S:SlP QjU h a m l)(hm:m<=1000000)(h1:1<=n)(h3:n<=3)
  (hK:∀ B h' gs gd gt ge F F0S sd,h.le B->KT gs (K4 (List.replicate n []) l) B F0S->Kc q B h' s gs gd gt ge (fun p=>W7 B p F gd sd 160 2 []) (YZ n) []->sd.fuse=-1->R (Qe [vhp gs 0,vhp gd 0,vhp gt 0,vb true]) h'):Qa Pg 10 [vag (s.l q),vi n,vsl a m c] h R:=by
 refine QcJ ?_
 have P0:Par h h []:=Par.nil (Hp.le_refl h);refine P0.fresh.call (i:=0) rfl (Qfc (fun hb=>absurd ⟨by omega,by omega⟩ hb) fun _ _ gs hS F0 lS nS DS=>⟨lS,fun h2 P2=>?_⟩)
 rw [bG] at DS;refine⟨some ⟨gs,0,none⟩,none,rfl,?_⟩
 refine P2.fresh.call (i:=0) rfl (Qim (fun hb=>absurd ⟨by decide,by decide⟩ hb) fun _ _ gd hD F1 lD nD DD=>⟨lD,fun h6 P6=>?_⟩)
 rw [show (160:Int).toNat=160 from rfl] at DD
 refine⟨some ⟨gd,0,none⟩,none,rfl,_,fun _=>Mb (e:=105) (by kernel_rfl),_,fun _=>Mb (e:=188) (by kernel_rfl),?_⟩
 refine⟨fun x hh=>∃(F:NpT) (sd:DK) (pD:Hp),x=.t (.one (.ifc none))/\sd.fuse=-1/\W7 h pD F gd sd 160 2 []/\Par h hh [pD,hS],fun _=>?_,fun e=>absurd rfl e,?_⟩
 ·refine P6.call (i:=0) rfl (Qkd lD nD DD (by decide) (by decide) (by decide) fun p' F' sd V hf=>⟨V.le,fun h13 P13=>⟨none,rfl,F',sd,p',rfl,hf,V,P13⟩⟩)
 rintro h15 e16 ⟨F,sd,pD,e,hf,V,P15⟩;cases e;refine⟨fun e=>(by cases e),fun _=>?_⟩
 have hml:=S.1;have p0:∀ l' ∈ List.replicate n ([]:List EvL),l'.length<=40:=fun l' hl'=>by rw [fH hl'];exact cH _
 have p1:∀ l' ∈ List.replicate n ([]:List EvL),∀ e ∈ l',YM e:=fun l' hl'=>by rw [fH hl'];simp
 refine⟨fun vs hh=>∃(i:Nat) (pS:Hp) (F0:NpT),vs=[vi i]/\i<=m/\Par h hh [pD,pS]/\KT gs (K4 (List.replicate n []) (l.take i)) pS F0/\∀ b,F0 b->h b=none,fun vs hh=>m-(Qm vs 0).toNat,⟨0,hS,F0,rfl,cH _,P15,DS,nS⟩,?_⟩
 clear P15 DS nS lS;clear F0;rintro vs hh ⟨i,pS,F0,rfl,hi,P,DS,nS⟩;refine⟨_,rfl,fun e=>?_,fun e=>?_⟩
 ·have hlt:i<m:=by have:=bC e;omega
  have hx:l[i]?=some l[i]:=bD (by omega)
  have tk:l.take (i+1)=l.take i++[l[i]]:=bJ (by omega)
  obtain⟨b,o,ea,hc,hr⟩:=SlP.evU (S.le P.z) hx;generalize l[i]=y at *
  refine⟨b,o,⟨ea,by omega,by omega⟩,_,by rw [bG];exact hc,b,o,⟨ea,by omega,by omega⟩,_,_,_,_,_,_,_,by rw [bG];exact hr,?_⟩
  refine P.call (i:=1) rfl (Qft DS (Qb2 p0 p1 _).2.1 fun p' F' D' M'=>?_)
  obtain⟨q1,q2⟩:=M'.old (P.at (i:=1) rfl).1 nS;refine⟨q1,fun h39 P39=>⟨_,rfl,_,iW,⟨i+1,p',F',rfl,by omega,P39,?_,q2⟩,by simp [Qm];omega⟩⟩
  rw [tk,Qcc];exact D'
 ·have hge:i=m:=by have:=bB e;omega
  have ht:l.take i=l:=cQ (by omega)
  rw [ht] at DS;have hSle:=(P.at (i:=1) rfl).1;obtain⟨r,Pr,lr,hno⟩:=P.swap.rest;have V2:W7 pS r F gd sd 160 2 []:=⟨(Pr.at (i:=0) rfl).1,fun b hb=>hno b (fun q=>V.p.al b hb q) (V.nw b hb),V.p.le lr,V.D,V.G,V.d⟩
  have hL:=Qb2 p0 p1 l;have hLn:(K4 (List.replicate n []) l).length=n:=by rw [hL.1,dK]
  have Z:=EnZ.new q n;rw [<-hLn] at Z h1 h3;refine Pr.call (i:=0) rfl (VX V2 (Q.le hSle) Qk DS (T.le hSle) (E.le hSle) (M.le hSle) h1 h3 Z (fun x hx=>by unfold YZ at hx;rw [fH hx];decide) (.inl ⟨rfl,rfl⟩) fun gt ge p' X=>⟨X.le0,fun h44 P44=>⟨some ⟨gt,0,none⟩,none,rfl,_,fun _=>Qj3 (e:=123) (by kernel_rfl),?_⟩⟩)
  rw [hLn] at X;exact hK pS h44 gs gd gt ge F F0 sd hSle DS (X.le (P44.last (i:=0) rfl)) hf
end
theorem Qmg {u0:OaT}{u1 u2:Nat}{u3:OaT}{u4 u5:Nat}{u6:OaT}{u7 u8:Nat}{u9:Int}{u10:Int}{u11:Int}{u12:Int}{u13:Int}{u14:Int}{u15:Int}{u16:Int}{u17:Int}{u18:Int}{u19:Int}{h:Hp}{R:RtT}(H:((decide ((u4:Int)=0))=true->R (vb true) h)/\((decide ((u4:Int)=0))=false->Qa Pg 105 [vsl u3 u4 u5,vag [vi u13,vi u14,vi u15,vi u16,vi u17,vi u18,vi u19]] h fun v2 h3=>∃ x4 x5,v2=vag [vi x4,vi x5]/\R (vb (cond (decide (x4=2)) (decide (x5=1)) false)) h3)):Qa Pg 46 [vag [vsl u0 u1 u2,vsl u3 u4 u5,vsl u6 u7 u8,vi u9,vi u10,vi u11,vi u12],vag [vi u13,vi u14,vi u15,vi u16,vi u17,vi u18,vi u19]] h R:=callO Tryz.func46 [.ag [.v (vsl u0 u1 u2),.v (vsl u3 u4 u5),.v (vsl u6 u7 u8),.v (vi u9),.v (vi u10),.v (vi u11),.v (vi u12)],.ag [.v (vi u13),.v (vi u14),.v (vi u15),.v (vi u16),.v (vi u17),.v (vi u18),.v (vi u19)]] H
theorem Qkz {u0:OaT}{u1 u2:Nat}{u3:OaT}{u4 u5:Nat}{u6:OaT}{u7 u8:Nat}{u9:Int}{u10:Int}{u11:Int}{u12:Int}{u13:Int}{u14:Int}{u15:Int}{u16:Int}{u17:Int}{u18:Int}{u19:Int}{h:Hp}{R:RtT}(H:((decide ((u7:Int)=0))=true->R (vag [vi 0,vi 0]) h)/\((decide ((u7:Int)=0))=false->Qa Pg 105 [vsl u6 u7 u8,vag [vi u13,vi u14,vi u15,vi u16,vi u17,vi u18,vi u19]] h fun v2 h3=>∃ x4 x5,v2=vag [vi x4,vi x5]/\R (vag [vi x4,vi x5]) h3)):Qa Pg 49 [vag [vsl u0 u1 u2,vsl u3 u4 u5,vsl u6 u7 u8,vi u9,vi u10,vi u11,vi u12],vag [vi u13,vi u14,vi u15,vi u16,vi u17,vi u18,vi u19]] h R:=callO Tryz.func49 [.ag [.v (vsl u0 u1 u2),.v (vsl u3 u4 u5),.v (vsl u6 u7 u8),.v (vi u9),.v (vi u10),.v (vi u11),.v (vi u12)],.ag [.v (vi u13),.v (vi u14),.v (vi u15),.v (vi u16),.v (vi u17),.v (vi u18),.v (vi u19)]] H
theorem Qfp {u0 u1:Nat}{u2:OaT}{u3 u4:Nat}{u5:OaT}{u6 u7:Nat}{u8:OaT}{u9 u10:Nat}{u11:Int}{u12:Int}{u13:Int}{u14:Int}{u15:Int}{u16:Int}{u17:Int}{u18:Int}{u19:Int}{u20:Int}{u21:Int}{h:Hp}{R:RtT}(H:∃(I2:LtT) (m3:LmT),I2 [vi 0] h/\∀ vs4 h5,I2 vs4 h5->∃ x6,vs4=[vi x6]/\((decide (x6<(u3:Int)))=true->∃ b8 o9,Ix u2 b8 o9 x6 u3/\∃ x10,Hp.cell h5 b8 (o9+x6.toNat*2)=some (vi x10)/\let J20:Int->Int->Hp->Prop:=fun x38 x39 h40=>(∃ a41 n41 c41,Hp.cell h40 u0 (u1+3)=some (vsl a41 n41 c41)/\∃ a42 n42 c42,Hp.cell h40 u0 (u1+3)=some (vsl a42 n42 c42)/\∃ b43 o44,Ix a42 b43 o44 x6 n42/\∃ a45 n45 c45,Hp.cell h40 b43 (o44+x6.toNat*1)=some (vsl a45 n45 c45)/\∀ b46,h40 b46=none->let h47:=Hp.set h40 b46 (Qb [vi x38,vi x39] 54);Qh Pg (Builtin.append_ #[91,91] 91 #[vsl a45 n45 c45,(vsl (some (⟨b46,0,none⟩:Addr)) 1 1)]) h47 fun v48 h49=>∃ a50 n50 c50,v48=vsl a50 n50 c50/\Hp.cell h49 u0 (u1+3)=some (vsl a41 n41 c41)/\∃ b51 o52,Ix a41 b51 o52 x6 n41/\Hp.store h49 b51 (o52+x6.toNat*1) [vsl a50 n50 c50] fun h53=>∃ x55,IsW x55 (x6+1)/\I2 [vi x55] h53/\m3 [vi x55] h53<m3 vs4 h5);((decide (x10>1))=true->∃ b11 o12,Ix u2 b11 o12 x6 u3/\∃ a13 n13 c13,Hp.cell h5 b11 ((o12+x6.toNat*2)+1)=some (vsl a13 n13 c13)/\Qa Pg 105 [vsl a13 n13 c13,vag [vi u15,vi u16,vi u17,vi u18,vi u19,vi u20,vi u21]] h5 fun v14 h15=>∃ x16 x17,v14=vag [vi x16,vi x17]/\J20 x16 x17 h15)/\((decide (x10>1))=false->J20 0 0 h5))/\((decide (x6<(u3:Int)))=false->R (Qe []) h5)):Qa Pg 51 [vhp u0 u1,vag [vsl u2 u3 u4,vsl u5 u6 u7,vsl u8 u9 u10,vi u11,vi u12,vi u13,vi u14],vag [vi u15,vi u16,vi u17,vi u18,vi u19,vi u20,vi u21]] h R:=callC ⟨[],[(2,([6],[.one (.int .i64)],[]))],[(6,[0,1,2,3,4,5,6,7,8]),(7,[0,1,2,3,4,5,6,7,8,9,10,11,12,13,14,15,16])]⟩ Tryz.func51 [.one (.hp u0 u1),.ag [.v (vsl u2 u3 u4),.v (vsl u5 u6 u7),.v (vsl u8 u9 u10),.v (vi u11),.v (vi u12),.v (vi u13),.v (vi u14)],.ag [.v (vi u15),.v (vi u16),.v (vi u17),.v (vi u18),.v (vi u19),.v (vi u20),.v (vi u21)]] H
theorem QfN {u0 u1:Nat}{u2:OaT}{u3 u4:Nat}{u5:OaT}{u6 u7:Nat}{u8:OaT}{u9 u10:Nat}{u11:Int}{u12:Int}{u13:Int}{u14:Int}{h:Hp}{R:RtT}(H:∃ x1,Hp.cell h u0 u1=some (vi x1)/\∃ x2 x3,Hp.row h u0 (u1+1) 2=some [vi x2,vi x3]/\let J34:Int->Int->Int->OaT->Nat->Nat->Hp->Prop:=fun x45 x46 x47 a48 n48 c48 h49=>R (vag [vi x45,vi x46,vi x47,vsl a48 n48 c48]) h49;∃(I5:LtT) (m6:LmT),I5 [vi 0,vi x1,vi x2,vi x3,vsl none 0 0] h/\∀ vs7 h8,I5 vs7 h8->∃ x9 x10 x11 x12 a13 n13 c13,vs7=[vi x9,vi x10,vi x11,vi x12,vsl a13 n13 c13]/\((decide (x9<(u3:Int)))=true->∃ b16 o17,Ix u2 b16 o17 x9 u3/\∃ x18,Hp.cell h8 b16 (o17+x9.toNat*2)=some (vi x18)/\∃ a19 n19 c19,Hp.cell h8 u0 (u1+3)=some (vsl a19 n19 c19)/\∃ b20 o21,Ix a19 b20 o21 x9 n19/\∃ a22 n22 c22,Hp.cell h8 b20 (o21+x9.toNat*1)=some (vsl a22 n22 c22)/\Qa Pg 107 [vi x18,vsl a22 n22 c22] h8 fun v23 h24=>∃ x25 x26,v23=vag [vi x25,vi x26]/\∀ b27,h24 b27=none->let h28:=Hp.set h24 b27 (Qb [vi x25,vi x26] 54);Qh Pg (Builtin.append_ #[91,91] 91 #[vsl a13 n13 c13,(vsl (some (⟨b27,0,none⟩:Addr)) 1 1)]) h28 fun v29 h30=>∃ a31 n31 c31,v29=vsl a31 n31 c31/\∃ x33,IsW x33 (x9+1)/\I5 [vi x33,vi x10,vi x11,vi x12,vsl a31 n31 c31] h30/\m6 [vi x33,vi x10,vi x11,vi x12,vsl a31 n31 c31] h30<m6 vs7 h8)/\((decide (x9<(u3:Int)))=false->J34 x10 x11 x12 a13 n13 c13 h8)):Qa Pg 50 [vhp u0 u1,vag [vsl u2 u3 u4,vsl u5 u6 u7,vsl u8 u9 u10,vi u11,vi u12,vi u13,vi u14]] h R:=callC ⟨[],[(3,([6],[.one (.int .i64)],[(2,[.int .i64,.int .i64,.int .i64,.slice])]))],[(1,[0,1,2,3,4,5,6,7,8,9,10]),(5,[0,1,2,3,4,5,6,7,8,9,10,11,12,13,14,15])]⟩ Tryz.func50 [.one (.hp u0 u1),.ag [.v (vsl u2 u3 u4),.v (vsl u5 u6 u7),.v (vsl u8 u9 u10),.v (vi u11),.v (vi u12),.v (vi u13),.v (vi u14)]] H
theorem QmR {u0 u1:Nat}{u2 u3:Nat}{h:Hp}{R:RtT}(H:∃ x1,Hp.cell h u0 u1=some (vi x1)/\∃ x2,Hp.cell h u2 u3=some (vi x2)/\((decide (x1≠x2))=true->∃ x3,Hp.cell h u0 u1=some (vi x3)/\∃ x4,Hp.cell h u2 u3=some (vi x4)/\R (vb (decide (x3<x4))) h)/\((decide (x1≠x2))=false->∃ x6,Hp.cell h u0 (u1+1)=some (vi x6)/\∃ x7,Hp.cell h u2 (u3+1)=some (vi x7)/\((decide (x6≠x7))=true->∃ x8,Hp.cell h u0 (u1+1)=some (vi x8)/\∃ x9,Hp.cell h u2 (u3+1)=some (vi x9)/\R (vb (decide (x8<x9))) h)/\((decide (x6≠x7))=false->∃ x11,Hp.cell h u0 ((u1+1)+1)=some (vi x11)/\∃ x12,Hp.cell h u2 ((u3+1)+1)=some (vi x12)/\R (vb (decide (x11<x12))) h))):Qa Pg 106 [vhp u0 u1,vhp u2 u3] h R:=callC ⟨[],[],[(1,[0,1,2,3,4,5,6,7,8]),(2,[0,1,2,3,4,5,6,7,8,9]),(3,[0,1,2,3,4,5,6,7,8,9,10]),(4,[0,1,2,3,4,5,6,7,8,9,10,11]),(5,[0,1,2,3,4,5,6,7,8,9,10,11])]⟩ Tryz.func106 [.one (.hp u0 u1),.one (.hp u2 u3)] H
theorem QmX {u0:OaT}{u1 u2:Nat}{u3:Int}{u4:Int}{u5:Int}{u6:Int}{h:Hp}{R:RtT}(H:Qh Pg (Instr.makeSlice 108 (vi u6) (vi u6)) h fun v1 h2=>∃ a3 n3 c3,v1=vsl a3 n3 c3/\∀ b4,h2 b4=none->let h5:=Hp.set h2 b4 (Qb [vi u3,vi u4,vi u5,vsl a3 n3 c3,vb false] 110);let J23:Int->Hp->Prop:=fun x25 h26=>(∃ b27 o28,((decide (x25<(u1:Int)))=true->Ix u0 b27 o28 x25 u1)/\∃ q29,((decide (x25<(u1:Int)))=true->Hp.cell h26 b27 (o28+x25.toNat*1)=some (vp q29))/\∃ b30 o31,((decide (x25<(u1:Int)))=true->q29=some ⟨b30,o31,none⟩)/\∃ x32,((decide (x25<(u1:Int)))=true->Hp.cell h26 b30 o31=some (vi x32))/\∃ b33 o34,((cond (decide (x25<(u1:Int))) (decide (x32=u3)) false)=true->Ix u0 b33 o34 x25 u1)/\∃ q35,((cond (decide (x25<(u1:Int))) (decide (x32=u3)) false)=true->Hp.cell h26 b33 (o34+x25.toNat*1)=some (vp q35))/\∃ b36 o37,((cond (decide (x25<(u1:Int))) (decide (x32=u3)) false)=true->q35=some ⟨b36,o37,none⟩)/\∃ x38 x39,((cond (decide (x25<(u1:Int))) (decide (x32=u3)) false)=true->Hp.row h26 b36 (o37+1) 2=some [vi x38,vi x39])/\∃ p40,((cond (decide (x25<(u1:Int))) (decide (x32=u3)) false)=true->RdG .eql 54 (.tmp 56) (.tmp 57) (vag [vi x38,vi x39]) (vag [vi u4,vi u5]) h26 (vb p40))/\((cond (cond (decide (x25<(u1:Int))) (decide (x32=u3)) false) p40 false)=true->∃ b41 o42,Ix u0 b41 o42 x25 u1/\∃ q43,Hp.cell h26 b41 (o42+x25.toNat*1)=some (vp q43)/\R (Qe [vsl u0 u1 u2,vp q43]) h26)/\((cond (cond (decide (x25<(u1:Int))) (decide (x32=u3)) false) p40 false)=false->∃ a45 n45 c45,Rd Pg (Instr.sliceAt 47 (vsl u0 u1 u2) none (some (vi x25)) none) h26 (vsl a45 n45 c45)/\Qh Pg (Builtin.append_ #[47,47] 47 #[vsl none 0 0,vsl a45 n45 c45]) h26 fun v46 h47=>∃ a48 n48 c48,v46=vsl a48 n48 c48/\∀ b49,h47 b49=none->let h50:=Hp.set h47 b49 (Qb [vhp b4 0] 107);Qh Pg (Builtin.append_ #[47,47] 47 #[vsl a48 n48 c48,(vsl (some (⟨b49,0,none⟩:Addr)) 1 1)]) h50 fun v51 h52=>∃ a53 n53 c53,v51=vsl a53 n53 c53/\∃ a54 n54 c54,Rd Pg (Instr.sliceAt 47 (vsl u0 u1 u2) (some (vi x25)) none none) h52 (vsl a54 n54 c54)/\Qh Pg (Builtin.append_ #[47,47] 47 #[vsl a53 n53 c53,vsl a54 n54 c54]) h52 fun v55 h56=>∃ a57 n57 c57,v55=vsl a57 n57 c57/\R (Qe [vsl a57 n57 c57,vhp b4 0]) h56));∃(I7:LtT) (m8:LmT),I7 [vi 0] h5/\∀ vs9 h10,I7 vs9 h10->∃ x11,vs9=[vi x11]/\((decide (x11<(u1:Int)))=true->∃ b14 o15,Ix u0 b14 o15 x11 u1/\∃ q16,Hp.cell h10 b14 (o15+x11.toNat*1)=some (vp q16)/\Qa Pg 106 [vp q16,vhp b4 0] h10 fun v17 h18=>∃ p19,v17=vb p19/\((!p19)=true->J23 x11 h18)/\((!p19)=false->∃ x22,IsW x22 (x11+1)/\I7 [vi x22] h18/\m8 [vi x22] h18<m8 vs9 h10))/\((decide (x11<(u1:Int)))=false->J23 x11 h10)):Qa Pg 48 [vsl u0 u1 u2,vi u3,vag [vi u4,vi u5],vi u6] h R:=callC ⟨[19],[(3,([11],[.one (.int .i64)],[]))],[(1,[0,1,2,3,4,5,6]),(7,[0,1,2,3,4,5,6,7,8,9,10,11,12,13,14,15,16,17,18,19,20,21,22,23,24,25]),(8,[0,1,2,3,4,5,6])]⟩ Tryz.func48 [.one (.v (vsl u0 u1 u2)),.one (.v (vi u3)),.ag [.v (vi u4),.v (vi u5)],.one (.v (vi u6))] H
theorem Qfk {u0:Int}{u1:OaT}{u2 u3:Nat}{h:Hp}{R:RtT}(H:∃(I2:LtT) (m3:LmT),I2 [vi 0,vi 0,vi 0,vi 0] h/\∀ vs4 h5,I2 vs4 h5->∃ x6 x7 x8 x9,vs4=[vi x6,vi x7,vi x8,vi x9]/\((decide (x9<(u2:Int)))=true->let J25:Int->Int->Int->Prop:=fun x32 x33 x34=>(∃ x35,IsW x35 (x9+1)/\I2 [vi x32,vi x33,vi x34,vi x35] h5/\m3 [vi x32,vi x33,vi x34,vi x35] h5<m3 vs4 h5);∃ b12 o13,Ix u1 b12 o13 x9 u2/\∃ x14 x15,Hp.row h5 b12 (o13+x9.toNat*2) 2=some [vi x14,vi x15]/\((cond (decide (u0≠1)) (decide (x14=0)) false)=true->J25 x6 x7 x8)/\((cond (decide (u0≠1)) (decide (x14=0)) false)=false->let J20:Int->Prop:=fun x21=>(∃ x22,IsW x22 (x6+1)/\∃ x23,IsW x23 (x7+x15)/\J25 x22 x23 x21);((cond (cond (decide (x6=0)) true (cond (decide (u0=4)) (decide (x15<x8)) false)) true (cond (decide (u0=5)) (decide (x15>x8)) false))=true->J20 x15)/\((cond (cond (decide (x6=0)) true (cond (decide (u0=4)) (decide (x15<x8)) false)) true (cond (decide (u0=5)) (decide (x15>x8)) false))=false->J20 x8)))/\((decide (x9<(u2:Int)))=false->((decide (u0<3))=true->Qa Pg 161 [vi x6] h5 fun v36 h37=>∃ x38 x39,v36=vag [vi x38,vi x39]/\R (vag [vi x38,vi x39]) h37)/\((decide (u0<3))=false->((decide (x6=0))=true->R (vag [vi 0,vi 0]) h5)/\((decide (x6=0))=false->((decide (u0=3))=true->Qa Pg 161 [vi x7] h5 fun v42 h43=>∃ x44 x45,v42=vag [vi x44,vi x45]/\R (vag [vi x44,vi x45]) h43)/\((decide (u0=3))=false->Qa Pg 161 [vi x8] h5 fun v47 h48=>∃ x49 x50,v47=vag [vi x49,vi x50]/\R (vag [vi x49,vi x50]) h48))))):Qa Pg 107 [vi u0,vsl u1 u2 u3] h R:=callC ⟨[],[(5,([5,6,7,8],[.one (.int .i64),.one (.int .i64),.one (.int .i64),.one (.int .i64)],[]))],[]⟩ Tryz.func107 [.one (.v (vi u0)),.one (.v (vsl u1 u2 u3))] H
open Go.Txt
theorem QfD {k:Int}(hk:1<=k){a:OaT}{n c:Nat}{l:List (Int × Int)}{h:Hp}{R:RtT}(S:SlP Qq h a n l)(hv:∀ v ∈ l,ZW v)(hn:n<=1048576)
  (hK:R (vag (Qq (QdF k (l.foldl (Q7 k) (0,0,0))))) h):Qa Pg 107 [vi k,vsl a n c] h R:=by
 refine Qfk ?_
 have hl:=S.1;refine⟨fun vs hh=>hh=h/\∃ i:Nat,i<=n/\vs=[vi ((l.take i).foldl (Q7 k) (0,0,0)).1,vi ((l.take i).foldl (Q7 k) (0,0,0)).2.1,vi ((l.take i).foldl (Q7 k) (0,0,0)).2.2,vi i],
  fun vs hh=>n-(Qm vs 3).toNat,⟨rfl,0,cH _,by simp⟩,?_⟩
 rintro vs hh ⟨rfl,i,hi,rfl⟩;refine⟨_,_,_,_,rfl,fun e=>?_,fun e=>?_⟩
 ·have hlt:i<n:=by simpa using e
  have hx:l[i]?=some l[i]:=bD (by omega)
  obtain⟨b,o,ea,hr⟩:=S.get Ys (by decide) hx
  have tk:l.take (i+1)=l.take i++[l[i]]:=bJ (by omega)
  have B:=GJ (k:=k) (l.take i) (0,0,0) (fun v hm=>hv v (jO hm)) (by decide)
  have hs:=hv l[i] (cM _);have st:((l.take (i+1)).foldl (Q7 k) (0,0,0))=Q7 k ((l.take i).foldl (Q7 k) (0,0,0)) l[i]:=by rw [tk,f7];rfl
  have len:(l.take i).length<=i:=by rw [bV];exact pX _ _
  simp only at B;have go:∀ x y z:Int,(x,y,z)=((l.take (i+1)).foldl (Q7 k) (0,0,0))->∃ u:Int,IsW u ((i:Int)+1)/\((hh=hh/\∃ j:Nat,j<=n/\[vi x,vi y,vi z,vi u]=[vi ((l.take j).foldl (Q7 k) (0,0,0)).1,vi ((l.take j).foldl (Q7 k) (0,0,0)).2.1,vi ((l.take j).foldl (Q7 k) (0,0,0)).2.2,vi j]) /\
    n-(Qm [vi x,vi y,vi z,vi u] 3).toNat<n-(Qm [vi ((l.take i).foldl (Q7 k) (0,0,0)).1,vi ((l.take i).foldl (Q7 k) (0,0,0)).2.1,vi ((l.take i).foldl (Q7 k) (0,0,0)).2.2,vi (i:Int)] 3).toNat):=by
   intro x y z e;refine⟨_,iW,⟨rfl,i+1,hlt,?_⟩,by simp [Qm];omega⟩
   rw [<-e];simp
  generalize hG:(l.take i).foldl (Q7 k) (0,0,0)=G at *
  generalize hG2:(l.take (i+1)).foldl (Q7 k) (0,0,0)=G2 at *
  unfold ZW at hs;have i1:InR (G.1+1):=by unfold InR;omega
  have i2:InR (G.2.1+l[i].2):=by unfold InR;omega
  intro J23;refine⟨b,o,⟨ea,by omega,by omega⟩,_,_,by simpa [Qq] using hr,fun e=>?_,fun e=>?_⟩
  ·have e':k≠1/\l[i].1=0:=by simpa [bT] using e
   refine go _ _ _ ?_
   rw [st,Q7,bH e']
  ·have e':¬(k≠1/\l[i].1=0):=by simpa [bT] using e
   intro J20;refine⟨fun e=>?_,fun e=>?_⟩
   ·have e2:G.1=0\/(k=4/\l[i].2<G.2.2)\/(k=5/\l[i].2>G.2.2):=by simp [bT] at e;omega
    refine⟨_,isW i1,_,isW i2,go _ _ _ ?_⟩
    rw [st,Q7,bE e',bH e2]
   ·have e2:¬(G.1=0\/(k=4/\l[i].2<G.2.2)\/(k=5/\l[i].2>G.2.2)):=by simp [bT] at e;omega
    refine⟨_,isW i1,_,isW i2,go _ _ _ ?_⟩
    rw [st,Q7,bE e',bE e2]
 ·have hge:i=n:=by simp at e;omega
  have ht:l.take i=l:=cQ (by omega)
  rw [ht];generalize hG:l.foldl (Q7 k) (0,0,0)=G at *
  unfold QdF at hK;refine⟨fun e=>?_,fun e=>⟨fun e2=>?_,fun e2=>⟨fun e3=>?_,fun e3=>?_⟩⟩⟩
  ·have e:k=1\/k=2:=by simp at e;omega
   rw [bH e] at hK;exact YV ⟨_,_,rfl,hK⟩
  all_goals have e:¬(k=1\/k=2):=by simp at e;omega
  all_goals rw [bE e] at hK
  ·have e2:G.1=0:=by simpa using e2
   rw [bH e2] at hK;exact hK
  all_goals have e2:¬ G.1=0:=by simpa using e2
  all_goals rw [bE e2] at hK
  ·have e3:k=3:=by simpa using e3
   rw [bH e3] at hK;exact YV ⟨_,_,rfl,hK⟩
  ·have e3:¬ k=3:=by simpa using e3
   rw [bE e3] at hK;exact YV ⟨_,_,rfl,hK⟩
theorem QbJ {l:List Nd}(hx:YN l=0){a:OaT}{n c:Nat}{h:Hp}(S:SlP ZC h a n l){e:EvL}{R:RtT}(hK:R (vag (Qq (ZG e l))) h):Qa Pg 105 [vsl a n c,vag (Xo e)] h R:=by
 obtain⟨O,hl⟩:=Yb hx;exact QlZ S O.wf (by have:=O.pos;omega) (by omega) hK
section
variable {q:Qy}{a1:OaT}{n1 c1:Nat}{a2:OaT}{n2 c2:Nat}{a3:OaT}{n3 c3:Nat}{h:Hp}{R:RtT}
theorem QlV {e:EvL}(Q:QAt h q a1 n1 a2 n2 a3 n3)(B:QOk q)(hK:R (vb (Qin q e)) h):Qa Pg 46 [qV a1 n1 c1 a2 n2 c2 a3 n3 c3 q,vag (Xo e)] h R:=by
 refine Qmg ?_
 have hn:=Q.w.1;unfold Qin at hK;refine⟨fun e1=>?_,fun e1=>?_⟩
 ·have e1:=bC e1;have hb:q.wh=[]:=fX.1 (by omega)
  rw [cC hb] at hK;exact hK
 ·have e1:=bB e1;have hb:q.wh≠[]:=fun e2=>e1 (by rw [hn,e2];rfl)
  refine QbJ (B.w hb) Q.w ⟨_,_,rfl,?_⟩
  rw [cE hb] at hK;have e2:(bif (decide ((ZG e q.wh).1=2)) then(decide ((ZG e q.wh).2=1)) else false)=(false||decide (ZG e q.wh=Zf true)):=by
   rw [ZP,qB];exact d9.2 (Prod.ext_iff (y:=Zf true)).symm
  rw [e2];exact hK
theorem Qkt {e:EvL}(Q:QAt h q a1 n1 a2 n2 a3 n3)(B:QOk q)(hK:R (vag (Qq (Zr q e))) h):Qa Pg 49 [qV a1 n1 c1 a2 n2 c2 a3 n3 c3 q,vag (Xo e)] h R:=by
 refine Qkz ?_
 unfold Zr at hK;have hn:=Q.b.1;refine⟨fun e1=>?_,fun e1=>?_⟩
 ·have e1:=bC e1;have hb:q.by_=[]:=fX.1 (by omega)
  rw [bH hb] at hK;exact hK
 ·have e1:=bB e1;have hb:q.by_≠[]:=fun e2=>e1 (by rw [hn,e2];rfl)
  refine QbJ (B.b hb) Q.b ⟨_,_,rfl,?_⟩
  rw [bE hb] at hK;exact hK
theorem QmA {b1 b2:Nat}{k k':PK}(x1:h.cell b1 0=some (vi k.1))(x2:h.cell b1 1=some (vi k.2.1))(x3:h.cell b1 2=some (vi k.2.2))(y1:h.cell b2 0=some (vi k'.1))(y2:h.cell b2 1=some (vi k'.2.1))(y3:h.cell b2 2=some (vi k'.2.2))(hK:R (vb (decide (Qr k k'))) h):Qa Pg 106 [vhp b1 0,vhp b2 0] h R:=by
 refine QmR ?_
 refine⟨_,x1,_,y1,fun e=>⟨_,x1,_,y1,?_⟩,fun e=>⟨_,x2,_,y2,fun e2=>⟨_,x2,_,y2,?_⟩,fun e2=>⟨_,x3,_,y3,?_⟩⟩⟩
 ·have e:=bC e;rw [show decide (k.1<k'.1)=decide (Qr k k') from d9.2 (by unfold Qr;omega)]
  exact hK
 ·have e:=fS.1 (bB e);have e2:=bC e2;rw [show decide (k.2.1<k'.2.1)=decide (Qr k k') from d9.2 (by unfold Qr;omega)]
  exact hK
 ·have e:=fS.1 (bB e);have e2:=fS.1 (bB e2);rw [show decide (k.2.2<k'.2.2)=decide (Qr k k') from d9.2 (by unfold Qr;omega)]
  exact hK
end
structure PN where
 k:PK
 b:Nat
 t:Nat
 cs:List (List Vl)
 told:Bool
 vc:Nat
abbrev Qky:=Xe Qq 2 54 91
def Yg (x:PN):List Value:=[vi x.k.1,vi x.k.2.1,vi x.k.2.2,vsl (some ⟨x.t,0,none⟩) x.cs.length x.vc,vb x.told]
def Qgj (x:PN)(h:Hp)(F:NpT):Prop:=h x.b=some (Qb (Yg x) 110)/\∃ G,Qky h G x.t x.cs/\¬ G x.b/\F=fun b=>b=x.b\/G b
theorem Q8 (x:PN):Fp (Qgj x) where
 al:=by
  rintro h F ⟨h1,G,D,hd,rfl⟩ b (rfl|hb)
  ·rw [h1];simp
  ·exact D.al b hb
 keep:=by
  rintro h h' F ⟨h1,G,D,hd,rfl⟩ hk;exact⟨hk x.b (.inl rfl) _ h1,G,D.keep fun b hb=>hk b (.inr hb),hd,rfl⟩
structure YG (h0 h:Hp)(a:OaT)(c:Nat)(R:List PN):Prop where
 v:Qg h0 h 107 1 a R.length c (R.map fun r=>vhp r.b 0)
 i:∃ F,Zh Qgj R h F/\(∀ b,F b->h0 b=none)/\∀ b,F b->a≠some ⟨b,0,none⟩
section
variable {h0 h:Hp}{a:OaT}{c:Nat}{R:List PN}
theorem YG.nil (hl:h0.le h):YG h0 h none 0 []:=⟨Qg.nil hl _ _,_,Zh.nil h,fun b hb=>hb.elim,fun b hb=>hb.elim⟩
theorem YG.le0 (N:YG h0 h a c R):h0.le h:=N.v.le
theorem YG.le (N:YG h0 h a c R){h':Hp}(l:h.le h'):YG h0 h' a c R:=by
 obtain⟨F,E,n1,n2⟩:=N.i;exact⟨N.v.mono l,F,(Zh.fp Q8 R).keep E fun b _ o ho=>l b o ho,n1,n2⟩
theorem YG.ptr (N:YG h0 h a c R){i:Nat}{r:PN}(hr:R[i]?=some r):∃ b o,a=some ⟨b,o,none⟩/\h.cell b (o+i*1)=some (vhp r.b 0):=by
 exact N.v.row.get1 (by rw [cU,hr];rfl)
theorem YG.cells (N:YG h0 h a c R){i:Nat}{r:PN}(hr:R[i]?=some r):h r.b=some (Qb (Yg r) 110)/\Qfj Qq h (some ⟨r.t,0,none⟩) r.cs.length r.cs:=by
 obtain⟨F,E,n1,n2⟩:=N.i;obtain⟨G,X,_,_⟩:=E.at Q8 hr;obtain⟨h1,G',D,_,_⟩:=X;exact⟨h1,D.r⟩
theorem YG.inner (N:YG h0 h a c R){i:Nat}{r:PN}(hr:R[i]?=some r):∃ G,Qky h G r.t r.cs/\¬ G r.b/\h r.b=some (Qb (Yg r) 110)/\(∀ b,G b->h0 b=none) /\
  ∀(h':Hp) (G':NpT) (cs':List (List Vl)),Mut G h G' h'->Qky h' G' r.t cs'->cs'.length=r.cs.length->YG h0 h' a c (R.set i { r with cs:=cs' }):=by
 obtain⟨F,E,n1,n2⟩:=N.i;obtain⟨G0,X,hGF,H⟩:=E.at Q8 hr;obtain⟨h1,G,D,hd,rfl⟩:=X;refine⟨G,D,hd,h1,fun b hb=>n1 b (hGF b (.inr hb)),fun h' G' cs' M D' hlen=>?_⟩
 have hb':h' r.b=some (Qb (Yg r) 110):=M.keep r.b _ hd h1;have hG':¬ G' r.b:=fun q=>by
  rcases M.new r.b q with q|q
  ·exact hd q
  ·rw [h1] at q;cases q
 have M2:Mut (fun b=>b=r.b\/G b) h (fun b=>b=r.b\/G' b) h':=⟨fun b o hb ho=>M.keep b o (fun q=>hb (.inr q)) ho,fun b hb=>by
  rcases hb with hb|hb
  ·exact .inl (.inl hb)
  ·rcases M.new b hb with q|q
   ·exact .inl (.inr q)
   ·exact .inr q⟩
 obtain⟨F2,E2,M3⟩:=H h' (fun b=>b=r.b\/G' b) { r with cs:=cs' } M2 ⟨by
  rw [hb'];unfold Yg;simp only [hlen],G',D',hG',rfl⟩
 obtain⟨k,d⟩:=M3.apart ((Uz.fp _ _ _ _ _ _).al (⟨N.v.own,rfl⟩:Uz 107 1 a R.length c (R.map fun r=>vhp r.b 0) h (fun b=>a=some ⟨b,0,none⟩))) (fun b hb hb2=>n2 b hb hb2)
 obtain⟨l',n1'⟩:=M3.old N.le0 n1;refine⟨?_,F2,E2,n1',fun b hb hb2=>d b hb hb2⟩
 have e:(R.set i { r with cs:=cs' }).map (fun r=>vhp r.b 0)=R.map fun r=>vhp r.b 0:=by
  rw [gB];apply gQ;intro j;rw [g9]
  split
  ·rename_i hij;subst hij;rw [cU,hr]
   obtain⟨hi,_⟩:=bI.1 hr
   rw [bH (by simpa using hi)]
   rfl
  ·rfl
 rw [e,dG];have O2:=(Uz.fp _ _ _ _ _ _).keep (⟨N.v.own,rfl⟩:Uz 107 1 a R.length c (R.map fun r=>vhp r.b 0) h (fun b=>a=some ⟨b,0,none⟩)) k
 exact⟨l',O2.1,N.v.new⟩
end
theorem Z3 {h:Hp}{b i:Nat}{xs:List Value}{t:TypeId}{v:Value}(hb:h b=some (Qb xs t))(hv:xs[i]?=some v):Hp.cell h b i=some v:=by
 unfold Hp.cell;rw [hb];simpa using hv
section
variable {q:Qy}{a1:OaT}{n1 c1:Nat}{a2:OaT}{n2 c2:Nat}{a3:OaT}{n3 c3:Nat}{h0 h:Hp}{a:OaT}{c:Nat}{R:List PN}{R':RtT}
set_option maxHeartbeats 1000000 in
theorem QfT {e:EvL}(Q:QAt h0 q a1 n1 a2 n2 a3 n3)(B:QOk q)(N:YG h0 h a c R){i:Nat}{r:PN}(hr:R[i]?=some r)(hcs:r.cs.length=q.aggs.length)(hb:∀ l ∈ r.cs,l.length<=1000000)
  (hK:∀ h',YG h0 h' a c (R.set i { r with cs:=X8 r.cs (Qn q e) })->R' (Qe []) h'):Qa Pg 51 [vhp r.b 0,qV a1 n1 c1 a2 n2 c2 a3 n3 c3 q,vag (Xo e)] h R':=by
 refine Qfp ?_
 have hn1:=Q.g.len;have hvl:(Qn q e).length=r.cs.length:=by unfold Qn;rw [bU,hcs]
 have hcl:=Qef hvl;have hn4:=B.n2;obtain⟨hi,hri⟩:=bI.1 hr
 have set_id:R.set i { r with cs:=r.cs }=R:=by
  apply gQ;intro j;rw [g9]
  split
  ·rename_i hij;subst hij;first|rw [bH hi,hr]|rw [hr]
  ·rfl
 refine⟨fun vs hh=>∃ j:Nat,vs=[vi j]/\j<=r.cs.length/\YG h0 hh a c (R.set i { r with cs:=(X8 r.cs (Qn q e)).take j++r.cs.drop j }),fun vs hh=>r.cs.length-(Qm vs 0).toNat,⟨0,rfl,cH _,by simpa [set_id] using N⟩,?_⟩
 rintro vs hh ⟨j,rfl,hj,N5⟩;refine⟨j,rfl,fun e1=>?_,fun e1=>?_⟩
 ·have hlt:j<r.cs.length:=by have:=bC e1;omega
  have hx:q.aggs[j]?=some q.aggs[j]:=bD (by omega)
  have hvi:(Qn q e)[j]'(by omega)=if (q.aggs[j]'(by omega)).1=1 then(0,0) else ZG e (q.aggs[j]'(by omega)).2:=by unfold Qn;rw [jH]
  have hmem:=cM (by omega:j<q.aggs.length)
  have hkr:=B.g _ hmem;have h5:=N5.le0;have hr5:(R.set i { r with cs:=(X8 r.cs (Qn q e)).take j++r.cs.drop j })[i]?=some { r with cs:=(X8 r.cs (Qn q e)).take j++r.cs.drop j }:=by rw [g9,bH rfl,bH hi]
  have hcjl:((X8 r.cs (Qn q e)).take j++r.cs.drop j).length=r.cs.length:=by rw [bO,bV,dO];omega
  have hcj:((X8 r.cs (Qn q e)).take j++r.cs.drop j)[j]?=some (r.cs[j]):=by rw [dA (by rw [bV];omega),bV,dX (by omega),fT,fK,gC,bD hlt]
  have hni:(X8 r.cs (Qn q e))[j]'(by omega)=r.cs[j]++[(Qn q e)[j]'(by omega)]:=by unfold X8;rw [jF]
  have hset:((X8 r.cs (Qn q e)).take j++r.cs.drop j).set j (r.cs[j]++[(Qn q e)[j]'(by omega)])=(X8 r.cs (Qn q e)).take (j+1)++r.cs.drop (j+1):=by
   rw [<-hni,gF _ _ (by rw [bV];omega),bV,dX (by omega),fT,dM hlt,cZ,bJ (by omega:j<(X8 r.cs (Qn q e)).length),cG]
   rfl
  have hbl:=hb _ (cM hlt);obtain⟨G,D,hnG,hcell,hGn,H⟩:=N5.inner hr5;simp only at D hcell H;obtain⟨b,o,a',c',ha,hrow,hS⟩:=(Q.g.le h5).row XX (by decide) hx
  have k0:=Hp.row_cell hrow (i:=0) (x:=vi (q.aggs[j]'(by omega)).1) rfl
  have k1:=Hp.row_cell hrow (i:=1) (x:=vsl a' (q.aggs[j]'(by omega)).2.length c') rfl
  refine⟨b,o,⟨ha,by omega,by omega⟩,_,by rw [bG];exact k0,?_⟩
  intro J20;have hJ:∀ v:Int × Int,v=(Qn q e)[j]'(by omega)->J20 v.1 v.2 hh:=by
   intro v hv;have k3:Hp.cell hh r.b (0+3)=some (vsl (some ⟨r.t,0,none⟩) ((X8 r.cs (Qn q e)).take j++r.cs.drop j).length r.vc):=Z3 hcell rfl;rw [hcjl] at k3;obtain⟨aj,cj,hcellj,_⟩:=D.cell hcj;refine⟨_,_,_,k3,_,_,_,k3,r.t,0,⟨rfl,by omega,by omega⟩,_,_,_,by rw [bG];exact hcellj,?_⟩
   intro b46 hb46 h47;refine Xe.app ND (fun v=>rfl) QkW D hcj (by omega) (by omega) (x:=v) hcellj hb46 fun a50 c50 h49 hfr hst=>⟨_,_,_,rfl,Z3 (hfr r.b _ (.inl hnG) hcell) (by unfold Yg;simp only [hcjl];rfl),r.t,0,⟨rfl,by omega,by omega⟩,?_⟩
   rw [bG];refine hst _ fun h53 F' D' M=>?_
   refine⟨_,iW,⟨j+1,rfl,by omega,?_⟩,by simp [Qm];omega⟩
   have N53:=H h53 F' _ M D' (by rw [dG])
   rw [List.set_set,hv,hset] at N53;exact N53
  clear_value J20;refine⟨fun e2=>?_,fun e2=>?_⟩
  ·have e2:=bC e2;refine⟨b,o,⟨ha,by omega,by omega⟩,a',_,c',by rw [bG];exact k1,?_⟩
   refine QbJ (hkr.2.2.1 (by omega)) hS ⟨_,_,rfl,hJ _ ?_⟩
   rw [hvi,bE (by omega)]
  ·have e2:=bB e2;refine hJ (0,0) ?_
   rw [hvi,bH (by omega)]
 ·have hge:j=r.cs.length:=by have:=bB e1;omega
  rw [hge,jU,d8,cQ (by omega)] at N5
  exact hK hh N5
theorem JC {r:PN}(Q:QAt h q a1 n1 a2 n2 a3 n3)(B:QOk q)(hcell:h r.b=some (Qb (Yg r) 110))(T:Qfj Qq h (some ⟨r.t,0,none⟩) r.cs.length r.cs)(hcs:r.cs.length=q.aggs.length)(hb:∀ l ∈ r.cs,l.length<=1000000/\∀ v ∈ l,ZW v)
  (hK:∀ a c h',Qif h h' a c ((List.zipWith Mz (Qd q) r.cs).map ZS)->R' (vag [vi r.k.1,vi r.k.2.1,vi r.k.2.2,vsl a ((List.zipWith Mz (Qd q) r.cs).map ZS).length c]) h'):Qa Pg 50 [vhp r.b 0,qV a1 n1 c1 a2 n2 c2 a3 n3 c3 q] h R':=by
 refine QfN ?_
 have hn1:=Q.g.len;have hn4:=B.n2;refine⟨r.k.1,Z3 hcell rfl,r.k.2.1,r.k.2.2,?_,?_⟩
 ·exact Qx hcell (by unfold Yg;simp)
 intro J34;have hJ:∀ a c h',Qif h h' a c ((List.zipWith Mz (Qd q) r.cs).map ZS)->J34 r.k.1 r.k.2.1 r.k.2.2 a ((List.zipWith Mz (Qd q) r.cs).map ZS).length c h':=hK
 clear_value J34;have hkl:=QA q;generalize hz:(List.zipWith Mz (Qd q) r.cs).map ZS=out at hJ ⊢;have hol:out.length=n1:=by rw [<-hz,bU,jB];omega
 refine⟨fun vs hh=>∃(i:Nat) (a:OaT) (c:Nat),vs=[vi i,vi r.k.1,vi r.k.2.1,vi r.k.2.2,vsl a (out.take i).length c]/\i<=n1/\Qif h hh a c (out.take i),fun vs hh=>n1-(Qm vs 0).toNat,⟨0,none,0,rfl,cH _,Qg.nil (Hp.le_refl h) _ _⟩,?_⟩
 rintro vs hh ⟨i,a,c,rfl,hi,V⟩;refine⟨_,_,_,_,_,_,_,rfl,fun e=>?_,fun e=>?_⟩
 ·have hlt:i<n1:=by have:=bC e;omega
  have hx:q.aggs[i]?=some q.aggs[i]:=bD (by omega)
  have hxc:r.cs[i]?=some r.cs[i]:=bD (by omega)
  have hl0:=V.le0;obtain⟨b,o,a',c',ha,hrow,hS⟩:=(Q.g.le hl0).row XX (by decide) hx
  have k0:=Hp.row_cell hrow (i:=0) (x:=vi (q.aggs[i]'(by omega)).1) rfl
  obtain⟨b2,o2,a22,c22,ea,hc22,hS22⟩:=(T.le hl0).cell hxc;have hi2:i<q.aggs.length:=by omega
  have hi3:i<r.cs.length:=by omega
  have ho:((List.zipWith Mz (Qd q) r.cs).map ZS)[i]?=some (QdF (q.aggs[i]'(by omega)).1 ((r.cs[i]'(by omega)).foldl (Q7 (q.aggs[i]'(by omega)).1) (0,0,0))):=by
   rw [cU,List.getElem?_zipWith,hxc]
   unfold Qd;rw [cU,hx]
   rfl
  rw [hz] at ho;have tk:out.take (i+1)=out.take i++[QdF (q.aggs[i]'(by omega)).1 ((r.cs[i]'(by omega)).foldl (Q7 (q.aggs[i]'(by omega)).1) (0,0,0))]:=by rw [kS,ho];rfl
  have hti:(out.take i).length=i:=by rw [bV];omega
  have hm:=hb _ (cM (by omega:i<r.cs.length))
  have hk1:=(B.g _ (cM (by omega:i<q.aggs.length))).1
  refine⟨b,o,⟨ha,by omega,by omega⟩,_,by rw [bG];exact k0,_,_,_,Z3 (hl0 _ _ hcell) rfl,b2,o2,⟨ea,by omega,by omega⟩,a22,_,c22,by rw [bG];exact hc22,?_⟩
  refine QfD hk1 hS22 hm.2 (by omega) ⟨_,_,rfl,?_⟩
  intro b27 hb27 h28;refine Vec.app ND (fun v=>rfl) QkW V (by rw [hti];omega) (by rw [hti];omega) (x:=QdF (q.aggs[i]'(by omega)).1 ((r.cs[i]'(by omega)).foldl (Q7 (q.aggs[i]'(by omega)).1) (0,0,0))) hb27 fun a' c' h' V'=>⟨_,_,_,rfl,_,iW,⟨i+1,a',c',?_,by omega,?_⟩,by simp [Qm];omega⟩
  ·rw [tk];rfl
  ·rw [tk];exact V'
 ·have hge:i=n1:=by have:=bB e;omega
  rw [cQ (by omega)] at V ⊢
  exact hJ a c hh V
end
theorem Qgh (K:PK):∀(l:List PK) (j:Nat),(∀ x ∈ l.take j,Qr x K)->l[j]?=some K->UN K l=l
 | [],j,_,h=>by simp at h
 | x :: l,0,_,h=>by
  simp at h;rw [UN,bE (by rw [h];exact YB K),bH h]
 | x :: l,j+1,h1,h=>by
  have hx:=h1 x (by simp)
  rw [UN,bH hx,Qgh K l j (fun y hy=>h1 y (by simp [hy])) (by simpa using h)]
theorem Qdd (K:PK):∀(l:List PK) (j:Nat),j<=l.length->(∀ x ∈ l.take j,Qr x K)->(∀ x,l[j]?=some x->¬ Qr x K/\x≠K)->UN K l=l.take j++K :: l.drop j
 | [],0,_,_,_=>rfl
 | [],j+1,h,_,_=>by simp at h
 | x :: l,0,_,_,h=>by
  obtain⟨h1,h2⟩:=h x rfl;rw [UN,bE h1,bE h2];rfl
 | x :: l,j+1,hj,h1,h=>by
  have hx:=h1 x (by simp)
  rw [UN,bH hx,Qdd K l j (by simpa using hj) (fun y hy=>h1 y (by simp [hy])) (fun y hy=>h y (by simpa using hy))]
  rfl
theorem QoL:ElT Pg 108 91 1 24:=.of (by kernel_rfl) (by kernel_rfl) (by decide)
theorem Qng:ElT Pg 47 107 1 8:=.of (by kernel_rfl) (by kernel_rfl) (by decide)
def QmM (r:PN):Value:=vhp r.b 0
theorem Qc8 (R:List PN):(R.flatMap fun r=>[QmM r])=R.map QmM:=by
 induction R with
 | nil=>rfl
 | cons r R ih=>rw [dP,ih];rfl
theorem Qjf (R:List PN):∀ u ∈ R.map QmM,u.oneCell'=true:=by
 intro u hu;obtain⟨r,_,rfl⟩:=dI.1 hu;rfl
section
variable {h0 h:Hp}{a:OaT}{c:Nat}{R:List PN}{R':RtT}
set_option maxHeartbeats 2000000 in
theorem Qmb (N:YG h0 h a c R){K:PK}{n:Nat}(hn:n<=1000000)(hR:R.length<=1000000)
  (hf:∀(i:Nat) (r:PN) (h':Hp),R[i]?=some r->r.k=K->UN K (R.map (·.k))=R.map (·.k)->YG h0 h' a c R->R' (Qe [vsl a R.length c,vhp r.b 0]) h')
  (hnew:∀(j:Nat) (x:PN) (a':OaT) (c':Nat) (h':Hp),j<=R.length->x.k=K->x.cs=List.replicate n []->x.told=false->UN K (R.map (·.k))=(R.take j++x :: R.drop j).map (·.k)->YG h0 h' a' c' (R.take j++x :: R.drop j)->R' (Qe [vsl a' (R.length+1) c',vhp x.b 0]) h') :
  Qa Pg 48 [vsl a R.length c,vi K.1,vag (Qq K.2),vi (n:Int)] h R':=by
 refine QmX ?_
 have hcap:R.length<=c:=N.v.own.cap;refine Ua QoL (z:=[vsl none 0 0]) (by kernel_rfl) hn (by omega) fun t ht=>⟨_,_,_,rfl,?_⟩
 have l2:h.le (h.set t (Qb ((List.replicate n [vsl none 0 0]).flatten) 91)):=Hp.le_set (Hp.le_refl h) ht _;have D2:Qky (h.set t (Qb ((List.replicate n [vsl none 0 0]).flatten) 91)) (fun y=>y=t) t (List.replicate n []):=Xe.new ht n
 generalize h.set t (Qb ((List.replicate n [vsl none 0 0]).flatten) 91)=h2 at l2 D2;intro b4 hb4 h5x;have l5:h2.le (h2.set b4 (Qb [vi K.1,vi K.2.1,vi K.2.2,vsl (some ⟨t,0,none⟩) n n,vb false] 110)):=Hp.le_set (Hp.le_refl h2) hb4 _;have e5:(h2.set b4 (Qb [vi K.1,vi K.2.1,vi K.2.2,vsl (some ⟨t,0,none⟩) n n,vb false] 110)) b4=some (Qb [vi K.1,vi K.2.1,vi K.2.2,vsl (some ⟨t,0,none⟩) n n,vb false] 110):=Hp.set_same _ _ _;have eh5:h5x=h2.set b4 (Qb [vi K.1,vi K.2.1,vi K.2.2,vsl (some ⟨t,0,none⟩) n n,vb false] 110):=rfl;clear_value h5x;rw [<-eh5] at l5 e5;clear eh5;have l05:=Hp.le_trans l2 l5;have N5:=N.le l05;have hb4h:h b4=none:=Hp.none_of_le l2 hb4;have hX:Qgj ⟨K,b4,t,List.replicate n [],false,n⟩ h5x (fun b=>b=b4\/b=t):=by
  refine⟨?_,fun y=>y=t,D2.le l5,fun e=>?_,rfl⟩
  ·unfold Yg;simp only [dK];exact e5
  ·exact D2.al t rfl (by rw [<-e];exact hb4)
 intro J23;have hJ:∀ j:Nat,j<=R.length->(∀ r ∈ R.take j,Qr r.k K)->(∀ r,R[j]?=some r->¬ Qr r.k K)->J23 (j:Int) h5x:=by
  intro j hj hz hna;have hzk:∀ x ∈ (R.map (·.k)).take j,Qr x K:=by
   intro x hx;rw [<-gK] at hx;obtain⟨r,hr,rfl⟩:=dI.1 hx;exact hz r hr
  -- one that is not there
  have put:(∀ r,R[j]?=some r->r.k≠K)->∃(a45:OaT) (n45 c45:Nat),(Rd Pg (Instr.sliceAt 47 (vsl a R.length c) none (some (vi (j:Int))) none) h5x (vsl a45 n45 c45))/\(Qh Pg (Builtin.append_ #[47,47] 47 #[(vsl none 0 0),(vsl a45 n45 c45)]) h5x fun v46 h47=>∃(a48:OaT) (n48 c48:Nat),v46=(vsl a48 n48 c48) /\
    (∀(b49:Nat),h47 b49=none->let h50:Hp:=Hp.set h47 b49 (Qb [(vhp b4 0)] 107);(Qh Pg (Builtin.append_ #[47,47] 47 #[(vsl a48 n48 c48),(vsl (some (⟨b49,0,none⟩:Addr)) 1 1)]) h50 fun v51 h52=>∃(a53:OaT) (n53 c53:Nat),v51=(vsl a53 n53 c53) /\
     (∃(a54:OaT) (n54 c54:Nat),(Rd Pg (Instr.sliceAt 47 (vsl a R.length c) (some (vi (j:Int))) none none) h52 (vsl a54 n54 c54))/\(Qh Pg (Builtin.append_ #[47,47] 47 #[(vsl a53 n53 c53),(vsl a54 n54 c54)]) h52 fun v55 h56=>∃(a57:OaT) (n57 c57:Nat),v55=(vsl a57 n57 c57)/\R' (Qe [(vsl a57 n57 c57),(vhp b4 0)]) h56))))):=by
   intro hne;have hrow:SlP (fun r=>[QmM r]) h5x a R.length R:=⟨rfl,by rw [Qc8];exact N5.v.row⟩
   have rdh:=XK (P:=Pg) (h:=h5x) (t:=47) (e:=107) (by kernel_rfl) (by kernel_rfl) (a:=a) (n:=R.length) (c:=c) (x:=(j:Int)) (by omega) (by omega)
   rw [bG] at rdh;have htl:(R.take j).length=j:=by rw [bV];omega
   refine⟨a,j,c,rdh,?_⟩
   have hst:=(hrow.take (sz:=1) (fun _=>rfl) hj).2
   rw [Qc8] at hst;refine Qg.append Qng (Qg.nil (Hp.le_refl h5x) _ _) (m:=j) hst (by rw [bU,htl,f8]) (Qjf _) (by omega) (by omega) fun a48 c48 h47 O47 _ _=>⟨_,_,_,rfl,?_⟩
   intro b49 hb49 h50;refine Qg.append Qng (Qg.set hb49 _ O47) (Qf.new _ _ [vhp b4 0] _) (m:=1) rfl (by intro u hu;rw [cB.1 hu];rfl) (by omega) (by omega) fun a53 c53 h52 O52 _ _=>⟨_,_,_,rfl,?_⟩
   have rdl:=YC (P:=Pg) (h:=h52) (t:=47) (e:=107) (by kernel_rfl) (by kernel_rfl) (a:=a) (n:=R.length) (c:=c) (x:=(j:Int)) (by omega) (by omega)
   rw [bG] at rdl;refine⟨_,_,_,rdl,?_⟩
   have hsz:szT Pg 107=1:=by kernel_rfl
   rw [hsz];have hsd:=((hrow.le O52.le).drop (sz:=1) (fun _=>rfl) hj hcap).2
   rw [Qc8] at hsd;refine Qg.append Qng O52 (m:=R.length-j) hsd (by rw [bU,dO,f8]) (Qjf _) (by omega) (by omega) fun a57 c57 h56 O56 _ _=>⟨_,_,_,rfl,?_⟩
   have hlen:0+j+1+(R.length-j)=R.length+1:=by omega
   have hRl:(R.take j++(⟨K,b4,t,List.replicate n [],false,n⟩:PN) :: R.drop j).length=R.length+1:=by rw [bO,cO,dO,htl];omega
   rw [hlen] at O56 ⊢;refine hnew j ⟨K,b4,t,List.replicate n [],false,n⟩ a57 c57 h56 hj rfl rfl rfl ?_ ⟨?_,?_⟩
   ·rw [Qdd K (R.map (·.k)) j (by simpa using hj) hzk (fun x hx=>?_)]
    ·simp
    ·rw [cU,dD] at hx
     obtain⟨r,hr,rfl⟩:=hx;exact⟨hna r hr,hne r hr⟩
   ·rw [hRl];have:=Qg.trans N5.le0 O56;have e:[]++List.map QmM (List.take j R)++[vhp b4 0]++List.map QmM (List.drop j R)=(R.take j++(⟨K,b4,t,List.replicate n [],false,n⟩:PN) :: R.drop j).map fun r=>vhp r.b 0:=by
     rw [cD,dE,dC,cG];rfl
    rw [e] at this;exact this
   ·obtain⟨F,E,m1,m2⟩:=N.i;have al:=(Zh.fp Q8 R).al E;have E5:=(Zh.fp Q8 R).keep E fun b _ o ho=>l05 b o ho
    have E6:=E5.cons hX (fun b hb hF=>by
     rcases hb with rfl|rfl
     ·exact al _ hF hb4h
     ·exact al _ hF ht)
    have E7:=(Zh.fp Q8 _).keep E6 fun b _ o ho=>O56.le b o ho
    have hp:(R.take j++(⟨K,b4,t,List.replicate n [],false,n⟩:PN) :: R.drop j).Perm (⟨K,b4,t,List.replicate n [],false,n⟩ :: R):=by have:=List.perm_middle (a:=(⟨K,b4,t,List.replicate n [],false,n⟩:PN)) (l₁:=R.take j) (l₂:=R.drop j);rw [dV] at this;exact this
    refine⟨_,E7.perm hp,fun b hb=>?_,fun b hb hb2=>?_⟩
    ·rcases hb with (rfl|rfl)|hb
     ·exact Hp.none_of_le N.le0 hb4h
     ·exact Hp.none_of_le N.le0 ht
     ·exact m1 b hb
    ·exact(Zh.fp Q8 _).al E6 b hb (O56.new b hb2)
  by_cases hlt:j<R.length
  ·have hx:R[j]?=some R[j]:=bD hlt
   have hnr:=hna _ hx;generalize R[j]=r at hx hnr;obtain⟨b,o,ea,hc⟩:=N5.ptr hx;obtain⟨hcl,_⟩:=N5.cells hx;have hbd:a=some ⟨b,o,none⟩/\(0:Int)<=j/\(j:Int)<((R.length:Nat):Int):=⟨ea,by omega,by omega⟩
   refine⟨b,o,fun _=>hbd,some ⟨r.b,0,none⟩,fun _=>by rw [bG];exact hc,r.b,0,fun _=>rfl,r.k.1,fun _=>Z3 hcl rfl,b,o,fun _=>hbd,some ⟨r.b,0,none⟩,fun _=>by rw [bG];exact hc,r.b,0,fun _=>rfl,r.k.2.1,r.k.2.2,fun _=>Qx hcl (by unfold Yg;simp),decide (r.k.2=K.2),fun _=>XI,fun e=>?_,fun e=>?_⟩
   ·rw [cC (show ((j:Nat):Int)<((R.length:Nat):Int) by omega)] at e
    have e:(bif (bif true then decide (r.k.1=K.1) else false) then decide (r.k.2=K.2) else false)=true:=e;have ek:r.k=K:=by
     cases h1:decide (r.k.1=K.1) with
     | false=>rw [h1] at e;cases e
     | true=>
      rw [h1] at e;exact Prod.ext (bC h1) (bC e)
    refine⟨b,o,hbd,_,by rw [bG];exact hc,hf j r h5x hx ek (Qgh K _ j hzk (by rw [cU,hx,<-ek];rfl)) N5⟩
   ·refine put fun r' hr'=>?_
    rw [hx] at hr';cases hr';intro ek;rw [cC (show ((j:Nat):Int)<((R.length:Nat):Int) by omega)] at e
    have e:(bif (bif true then decide (r.k.1=K.1) else false) then decide (r.k.2=K.2) else false)=false:=e;rw [ek,cC rfl,cC rfl] at e;cases e
  ·have hf0:decide (((j:Nat):Int)<((R.length:Nat):Int))=false:=cE (by omega)
   refine⟨0,0,fun e=>(by rw [hf0] at e;cases e),none,fun e=>(by rw [hf0] at e;cases e),0,0,fun e=>(by rw [hf0] at e;cases e),0,fun e=>(by rw [hf0] at e;cases e),0,0,fun e=>(by rw [hf0] at e;cases e),none,fun e=>(by rw [hf0] at e;cases e),0,0,fun e=>(by rw [hf0] at e;cases e),0,0,fun e=>(by rw [hf0] at e;cases e),false,fun e=>(by rw [hf0] at e;cases e),fun e=>(by rw [hf0] at e;cases e),fun _=>?_⟩
   exact put fun r' hr'=>absurd (bI.1 hr').1 hlt
 clear_value J23;refine⟨fun vs hh=>hh=h5x/\∃ j:Nat,vs=[vi j]/\j<=R.length/\∀ r ∈ R.take j,Qr r.k K,fun vs hh=>R.length-(Qm vs 0).toNat,⟨rfl,0,rfl,cH _,by simp⟩,?_⟩
 rintro vs hh ⟨rfl,j,rfl,hj,hz⟩;refine⟨j,rfl,fun e=>?_,fun e=>?_⟩
 ·have hlt:j<R.length:=by have:=bC e;omega
  have hx:R[j]?=some R[j]:=bD hlt
  have tk:R.take (j+1)=R.take j++[R[j]]:=bJ hlt;obtain⟨b,o,ea,hc⟩:=N5.ptr hx;obtain⟨hcl,_⟩:=N5.cells hx;refine⟨b,o,⟨ea,by omega,by omega⟩,_,by rw [bG];exact hc,?_⟩
  refine QmA (k:=(R[j]).k) (k':=K) (Z3 hcl rfl) (Z3 hcl rfl) (Z3 hcl rfl) (Z3 e5 rfl) (Z3 e5 rfl) (Z3 e5 rfl) ⟨_,rfl,fun e2=>?_,fun e2=>?_⟩
  ·have e2:¬ Qr (R[j]).k K:=by simpa using e2
   exact hJ j (by omega) hz fun r hr=>by rw [hx] at hr;cases hr;exact e2
  ·have e2:Qr (R[j]).k K:=by simpa using e2
   refine⟨_,iW,⟨rfl,j+1,rfl,by omega,fun r hr=>?_⟩,by simp [Qm];omega⟩
   rw [tk] at hr;rcases cP.1 hr with h3|h3
   ·exact hz r h3
   ·rw [cB.1 h3];exact e2
 ·have hge:j=R.length:=by have:=bB e;omega
  exact hJ j hj hz fun r hr=>absurd (bI.1 hr).1 (by omega)
end
theorem YG.rebase {h0 h:Hp}{a:OaT}{c:Nat}{R:List PN}(N:YG h0 h a c R){h1:Hp}(l1:h.le h1){g:OaT}(hg:∀ b o,g=some ⟨b,o,none⟩->h b=none):∃ hx:Hp,h0.le hx/\(∀{xs:List Value},Qf h1 g xs->Qf hx g xs)/\YG hx h1 a c R:=by
 obtain⟨F,E,n1,n2⟩:=N.i;have al:=(Zh.fp Q8 R).al E;have alo:=(Uz.fp _ _ _ _ _ _).al (⟨N.v.own,rfl⟩:Uz 107 1 a R.length c (R.map fun r=>vhp r.b 0) h (fun b=>a=some ⟨b,0,none⟩))
 have N1:=N.le l1;cases g with
 | none=>
  refine⟨h0,Hp.le_refl _,fun H=>?_,N1⟩
  rcases H with e|⟨b,o,e,_⟩
  ·exact .inl e
  ·cases e
 | some g=>
  have hgn:g.spot=none->h g.block=none:=fun hs=>hg g.block g.off (by obtain⟨x,y,z⟩:=g;simp only at hs;subst hs;rfl)
  by_cases hs:g.spot=none
  ·have hgn:=hgn hs;refine⟨fun b=>if b=g.block then h1 b else h0 b,fun b o ho=>?_,fun H=>?_,?_⟩
   ·have:b≠g.block:=fun e=>by subst e;rw [N.le0 _ _ ho] at hgn;cases hgn
    simp only [bE this];exact ho
   ·rcases H with e|⟨b,o,e,hr⟩
    ·exact .inl e
    ·refine .inr ⟨b,o,e,?_⟩
     have hb:b=g.block:=by simp only [bQ] at e;rw [e]
     unfold Hp.row at hr ⊢;simp only [bH hb];exact hr
   ·have hle:Hp.le (fun b=>if b=g.block then h1 b else h0 b) h1:=by
     intro b o ho;simp only at ho;split at ho
     ·exact ho
     ·exact N1.le0 b o ho
    have hnew:∀ b,h b≠none->h0 b=none->(fun b=>if b=g.block then h1 b else h0 b) b=none:=by
     intro b hb hb0;have:b≠g.block:=fun e=>by subst e;exact hb hgn
     simp only [bE this];exact hb0
    exact⟨⟨hle,N1.v.own,fun b hb=>hnew b (alo b hb) (N.v.new b hb)⟩,F,(Zh.fp Q8 R).keep E fun b _ o ho=>l1 b o ho,fun b hb=>hnew b (al b hb) (n1 b hb),n2⟩
  ·refine⟨h0,Hp.le_refl _,fun H=>?_,N1⟩
   rcases H with e|⟨b,o,e,_⟩
   ·exact .inl e
   ·simp only [bQ] at e;rw [e] at hs;exact absurd rfl hs
end Go.Proofs.YthicpjafcpfjoaaGreatDoor
namespace Go.Proofs.YthicpjafcpfjoaaGreatDoor
open Go Go.Vc
theorem Qda {u0:OaT}{u1 u2:Nat}{u3:OaT}{u4 u5:Nat}{u6:OaT}{u7 u8:Nat}{u9:Int}{u10:Int}{u11:Int}{u12:Int}{u13:Int}{h:Hp}{R:RtT}(H:∀ b1,h b1=none->let h2:=Hp.set h b1 (Qb [vsl u0 u1 u2,vsl u3 u4 u5,vsl u6 u7 u8,vi u9,vi u10,vi u11,vi u12,vsl none 0 0,vsl none 0 0,vsl none 0 0,vi 0,vsl none 0 0] 50);∃(I4:LtT) (m5:LmT),I4 [vi 0] h2/\∀ vs6 h7,I4 vs6 h7->∃ x8,vs6=[vi x8]/\((decide (x8<u13))=true->∃ a11 n11 c11,Hp.cell h7 b1 (0+7)=some (vsl a11 n11 c11)/\∀ b12,h7 b12=none->let h13:=Hp.set h7 b12 (Qb [vi 0] 3);Qh Pg (Builtin.append_ #[46,46] 46 #[vsl a11 n11 c11,(vsl (some (⟨b12,0,none⟩:Addr)) 1 1)]) h13 fun v14 h15=>∃ a16 n16 c16,v14=vsl a16 n16 c16/\Hp.store h15 b1 (0+7) [vsl a16 n16 c16] fun h17=>∃ a18 n18 c18,Hp.cell h17 b1 (0+8)=some (vsl a18 n18 c18)/\∀ b19,h17 b19=none->let h20:=Hp.set h17 b19 (Qb [(vi (-1))] 3);Qh Pg (Builtin.append_ #[46,46] 46 #[vsl a18 n18 c18,(vsl (some (⟨b19,0,none⟩:Addr)) 1 1)]) h20 fun v21 h22=>∃ a23 n23 c23,v21=vsl a23 n23 c23/\Hp.store h22 b1 (0+8) [vsl a23 n23 c23] fun h24=>∃ x26,IsW x26 (x8+1)/\I4 [vi x26] h24/\m5 [vi x26] h24<m5 vs6 h7)/\((decide (x8<u13))=false->R (vhp b1 0) h7)):Qa Pg 12 [vag [vsl u0 u1 u2,vsl u3 u4 u5,vsl u6 u7 u8,vi u9,vi u10,vi u11,vi u12],vi u13] h R:=callC ⟨[9],[(3,([6],[.one (.int .i64)],[]))],[]⟩ Tryz.func12 [.ag [.v (vsl u0 u1 u2),.v (vsl u3 u4 u5),.v (vsl u6 u7 u8),.v (vi u9),.v (vi u10),.v (vi u11),.v (vi u12)],.one (.v (vi u13))] H
theorem Qbr {u0 u1:Nat}{h:Hp}{R:RtT}(H:∃(I2:LtT) (m3:LmT),I2 [vi 0,vi 0] h/\∀ vs4 h5,I2 vs4 h5->∃ x6 x7,vs4=[vi x6,vi x7]/\∃ a8 n8 c8,Hp.cell h5 u0 (u1+8)=some (vsl a8 n8 c8)/\((decide (x7<(n8:Int)))=true->let J26:Int->Prop:=fun x28=>(∃ x29,IsW x29 (x7+1)/\I2 [vi x28,vi x29] h5/\m3 [vi x28,vi x29] h5<m3 vs4 h5);∃ a11 n11 c11,Hp.cell h5 u0 (u1+8)=some (vsl a11 n11 c11)/\∃ b12 o13,Ix a11 b12 o13 x7 n11/\∃ x14,Hp.cell h5 b12 (o13+x7.toNat*1)=some (vi x14)/\((decide (x14<0))=true->R (Qe [vi 0,vb false]) h5)/\((decide (x14<0))=false->∃ a16 n16 c16,((decide (x7=0))=false->Hp.cell h5 u0 (u1+8)=some (vsl a16 n16 c16))/\∃ b17 o18,((decide (x7=0))=false->Ix a16 b17 o18 x7 n16)/\∃ x19,((decide (x7=0))=false->Hp.cell h5 b17 (o18+x7.toNat*1)=some (vi x19))/\((cond (decide (x7=0)) true (decide (x19<x6)))=true->∃ a20 n20 c20,Hp.cell h5 u0 (u1+8)=some (vsl a20 n20 c20)/\∃ b21 o22,Ix a20 b21 o22 x7 n20/\∃ x23,Hp.cell h5 b21 (o22+x7.toNat*1)=some (vi x23)/\J26 x23)/\((cond (decide (x7=0)) true (decide (x19<x6)))=false->J26 x6)))/\((decide (x7<(n8:Int)))=false->∃ x30,Hp.cell h5 u0 (u1+5)=some (vi x30)/\∃ x31,IsW x31 (x6-x30)/\R (Qe [vi x31,vb true]) h5)):Qa Pg 20 [vhp u0 u1] h R:=callC ⟨[],[(3,([4,5],[.one (.int .i64),.one (.int .i64)],[]))],[]⟩ Tryz.func20 [.one (.hp u0 u1)] H
theorem QqR (a b c d e f g r x:Value)(l:List Value):QJ ([a,b,c,d,e,f,g,x]++l) 7 [r]=[a,b,c,d,e,f,g,r]++l:=by simp [QJ]
theorem Qqn (a b c d e f g r x y:Value)(l:List Value):QJ ([a,b,c,d,e,f,g,x,y]++l) 8 [r]=[a,b,c,d,e,f,g,x,r]++l:=by simp [QJ]
theorem QeY {a1:OaT}{n1 c1:Nat}{a2:OaT}{n2 c2:Nat}{a3:OaT}{n3 c3:Nat}{s1 s2 s3 s4 p:Int}{h:Hp}{R:RtT}(hp:p<=1000)
  (hK:∀(b:Nat) (aR:OaT) (cR:Nat) (aF:OaT) (cF:Nat) (h':Hp),h.le h'->h b=none ->
   h' b=some (Qb [vsl a1 n1 c1,vsl a2 n2 c2,vsl a3 n3 c3,vi s1,vi s2,vi s3,vi s4,vsl aR p.toNat cR,vsl aF p.toNat cF,vsl none 0 0,vi 0,vsl none 0 0] 50) ->
   Qw h' 3 1 aR p.toNat cR ((List.replicate p.toNat (0:Int)).map vi)->Qw h' 3 1 aF p.toNat cF ((List.replicate p.toNat (-1:Int)).map vi) ->
   (∀ g,aR=some ⟨g,0,none⟩->h g=none/\g≠b)->(∀ g,aF=some ⟨g,0,none⟩->h g=none/\g≠b/\aR≠some ⟨g,0,none⟩)->R (vhp b 0) h') :
  Qa Pg 12 [vag [vsl a1 n1 c1,vsl a2 n2 c2,vsl a3 n3 c3,vi s1,vi s2,vi s3,vi s4],vi p] h R:=by
 refine Qda ?_
 intro b1 hb1 h2;refine⟨fun vs hh=>∃(i:Nat) (aR:OaT) (cR:Nat) (aF:OaT) (cF:Nat),vs=[vi i]/\i<=p.toNat/\h.le hh /\
   hh b1=some (Qb [vsl a1 n1 c1,vsl a2 n2 c2,vsl a3 n3 c3,vi s1,vi s2,vi s3,vi s4,vsl aR i cR,vsl aF i cF,vsl none 0 0,vi 0,vsl none 0 0] 50) /\
   Qw hh 3 1 aR i cR ((List.replicate i (0:Int)).map vi)/\Qw hh 3 1 aF i cF ((List.replicate i (-1:Int)).map vi) /\
   (∀ g,aR=some ⟨g,0,none⟩->h g=none/\g≠b1)/\(∀ g,aF=some ⟨g,0,none⟩->h g=none/\g≠b1/\aR≠some ⟨g,0,none⟩),
  fun vs hh=>p.toNat-(Qm vs 0).toNat,⟨0,none,0,none,0,rfl,cH _,Hp.le_set (Hp.le_refl h) hb1 _,by simp [h2,Hp.set],Qw.nil _ _ _,Qw.nil _ _ _,by simp,by simp⟩,?_⟩
 rintro vs hh ⟨i,aR,cR,aF,cF,rfl,hi,hl,hB,OR,OF,fR,fF⟩;refine⟨i,rfl,fun e=>?_,fun e=>?_⟩
 ·have hlt:(i:Int)<p:=by simpa using e
  refine⟨aR,i,cR,Qc hB rfl,?_⟩
  intro b12 hb12 h13;have hb1n:b1≠b12:=Hp.ne_of hB hb12;have OR1:Qw h13 3 1 aR i cR ((List.replicate i (0:Int)).map vi):=OR.set (OR.not_at hb12) _;have OF1:Qw h13 3 1 aF i cF ((List.replicate i (-1:Int)).map vi):=OF.set (OF.not_at hb12) _;have hB13:h13 b1=_:=(Hp.set_other hh _ hb1n).trans hB;have hl13:h.le h13:=Hp.le_set hl hb12 _;refine Jb KQ OR1 (Qf.new _ _ [vi 0] _) (m:=1) rfl (by simp [Value.oneCell']) (by omega) (by omega) fun aR' cR' h15 OR' k1 k2 _ _=>⟨_,_,_,rfl,?_⟩
  have fR':∀ g,aR'=some ⟨g,0,none⟩->h g=none/\g≠b1/\aF≠some ⟨g,0,none⟩:=by
   intro g hg;rcases k2 g hg with e|e
   ·have h1:=fR g (e.trans hg);exact⟨h1.1,h1.2,fun hf=>(fF g hf).2.2 (e.trans hg)⟩
   ·exact⟨Hp.none_of_le hl13 e,(Hp.ne_of hB13 e).symm,OF1.not_at e⟩
  have hB15:=k1 b1 _ hB13 (fun e=>(fR b1 e).2 rfl)
  have OF15:Qw h15 3 1 aF i cF ((List.replicate i (-1:Int)).map vi):=OF1.keep fun g o hg ho=>k1 g o ho (fun e=>(fF g hg).2.2 e)
  have hl15:h.le h15:=fun g o ho=>k1 g o (hl13 g o ho) (fun e=>by rw [(fR g e).1] at ho;cases ho)
  refine QR hB15 (by simp) ?_
  have e7:=QqR (vsl a1 n1 c1) (vsl a2 n2 c2) (vsl a3 n3 c3) (vi s1) (vi s2) (vi s3) (vi s4) (vsl aR' (i+1) cR') (vsl aR i cR) [vsl aF i cF,vsl none 0 0,vi 0,vsl none 0 0];rw [show (0+7:Nat)=7 from rfl]
  simp only [dN,dC] at e7;rw [e7];generalize hh17:h15.set b1 _=h17;have hB17:=hh17▸Hp.set_same h15 b1 (Qb [vsl a1 n1 c1,vsl a2 n2 c2,vsl a3 n3 c3,vi s1,vi s2,vi s3,vi s4,vsl aR' (i+1) cR',vsl aF i cF,vsl none 0 0,vi 0,vsl none 0 0] 50);have OR17:=hh17▸OR'.set (g:=b1) (fun e=>(fR' b1 e).2.1 rfl) (Qb [vsl a1 n1 c1,vsl a2 n2 c2,vsl a3 n3 c3,vi s1,vi s2,vi s3,vi s4,vsl aR' (i+1) cR',vsl aF i cF,vsl none 0 0,vi 0,vsl none 0 0] 50)
  have OF17:=hh17▸OF15.set (g:=b1) (fun e=>(fF b1 e).2.1 rfl) (Qb [vsl a1 n1 c1,vsl a2 n2 c2,vsl a3 n3 c3,vi s1,vi s2,vi s3,vi s4,vsl aR' (i+1) cR',vsl aF i cF,vsl none 0 0,vi 0,vsl none 0 0] 50)
  have hl17:h.le h17:=by rw [<-hh17];exact fun g o ho=>(Hp.set_other h15 _ (fun e=>by subst e;rw [hb1] at ho;cases ho)).trans (hl15 g o ho)
  clear hh17;refine⟨aF,i,cF,Qc hB17 rfl,?_⟩
  intro b19 hb19 h20;have hb19n:b1≠b19:=Hp.ne_of hB17 hb19;have OR20:Qw h20 _ _ _ _ _ _:=OR17.set (OR17.not_at hb19) _;have OF20:Qw h20 _ _ _ _ _ _:=OF17.set (OF17.not_at hb19) _;have hB20:h20 b1=_:=(Hp.set_other h17 _ hb19n).trans hB17;have hl20:h.le h20:=Hp.le_set hl17 hb19 _;refine Jb KQ OF20 (Qf.new _ _ [vi (-1)] _) (m:=1) rfl (by simp [Value.oneCell']) (by omega) (by omega) fun aF' cF' h22 OF' k3 k4 _ _=>⟨_,_,_,rfl,?_⟩
  have fF':∀ g,aF'=some ⟨g,0,none⟩->h g=none/\g≠b1/\aR'≠some ⟨g,0,none⟩:=by
   intro g hg;rcases k4 g hg with e|e
   ·have h1:=fF g (e.trans hg);exact⟨h1.1,h1.2.1,fun hf=>(fR' g hf).2.2 (e.trans hg)⟩
   ·exact⟨Hp.none_of_le hl20 e,(Hp.ne_of hB20 e).symm,OR20.not_at e⟩
  have hB22:=k3 b1 _ hB20 (fun e=>(fF b1 e).2.1 rfl)
  have OR22:=OR20.keep (h':=h22) fun g o hg ho=>k3 g o ho (fun e=>(fR' g hg).2.2 e)
  have hl22:h.le h22:=fun g o ho=>k3 g o (hl20 g o ho) (fun e=>by rw [(fF g e).1] at ho;cases ho)
  refine QR hB22 (by simp) ?_
  have e8:=Qqn (vsl a1 n1 c1) (vsl a2 n2 c2) (vsl a3 n3 c3) (vi s1) (vi s2) (vi s3) (vi s4) (vsl aF' (i+1) cF') (vsl aR' (i+1) cR') (vsl aF i cF) [vsl none 0 0,vi 0,vsl none 0 0];rw [show (0+8:Nat)=8 from rfl]
  simp only [dN,dC] at e8;rw [e8];refine⟨_,iW,⟨i+1,aR',cR',aF',cF',rfl,by omega,?_,Hp.set_same _ _ _,?_,?_,fun g hg=>⟨(fR' g hg).1,(fR' g hg).2.1⟩,fF'⟩,by simp [Qm];omega⟩
  ·exact fun g o ho=>(Hp.set_other h22 _ (fun e=>by subst e;rw [hb1] at ho;cases ho)).trans (hl22 g o ho)
  ·rw [gV,cD];exact OR22.set (fun e=>(fR' b1 e).2.1 rfl) _
  ·rw [gV,cD];exact OF'.set (fun e=>(fF' b1 e).2.1 rfl) _
 ·have hge:i=p.toNat:=by simp at e;omega
  rw [hge] at hB OR OF;exact hK b1 aR cR aF cF hh hl hb1 hB OR OF fR fF
theorem Qf9 {b:Nat}{l:List Int}{a:OaT}{n c:Nat}{cs:List Value}{t:TypeId}{d:Int}{h:Hp}{R:RtT}(hB:h b=some (Qb cs t))(h8:cs[8]?=some (vsl a n c))(h5:cs[5]?=some (vi d))
  (S:SlI h a n l) (hn:n<=1000) (hl:∀ x ∈ l,-1<=x/\x<=9999) (hd:0<=d/\d<=1000)
  (hK:R (if ∀ x ∈ l,0<=x then Qe [vi (Jh l-d),vb true] else Qe [vi 0,vb false]) h) :
  Qa Pg 20 [vhp b 0] h R:=by
 refine Qbr ?_
 have hlen:=S.1;refine⟨fun vs hh=>hh=h/\∃ i:Nat,vs=[vi (Jh (l.take i)),vi i]/\i<=n/\(∀ x ∈ l.take i,0<=x),fun vs hh=>n-(Qm vs 1).toNat,⟨rfl,0,rfl,by omega,by simp⟩,?_⟩
 rintro vs hh ⟨rfl,i,rfl,hi,hg⟩;refine⟨_,i,rfl,a,n,c,Qc hB (by simpa using h8),fun e=>?_,fun e=>?_⟩
 ·have hlt:i<n:=by simpa using e
  have hx:i<l.length:=by omega
  have hget:l.getD i 0=l[i]:=by rw [bK,bD hx];rfl
  have hb:=hl l[i] (cM hx);have tk:l.take (i+1)=l.take i++[l[i]]:=bJ hx;obtain⟨bb,o,ea,hc⟩:=S.get hlt;rw [hget] at hc;intro J26;have A:a=some ⟨bb,o,none⟩/\(0:Int)<=i/\(i:Int)<(n:Nat):=⟨ea,by omega,by omega⟩
  refine⟨a,n,c,Qc hB (by simpa using h8),bb,o,A,_,hc,fun e=>?_,fun e=>?_⟩
  ·have hneg:l[i]<0:=by simpa using e
   rw [bE (fun hall=>by have:=hall _ (cM hx);omega)] at hK
   exact hK
  ·have hneg:¬ l[i]<0:=by simpa using e
   have next:∀ m':Int,m'=Jh (l.take (i+1))->J26 m':=by
    intro m' hm';refine⟨_,iW,⟨rfl,i+1,?_,by omega,?_⟩,by simp [Qm];omega⟩
    ·rw [hm'];rfl
    ·intro x hx';rw [tk] at hx';rcases cP.1 hx' with h1|h1
     ·exact hg x h1
     ·simp at h1;omega
   refine⟨a,n,c,fun _=>Qc hB (by simpa using h8),bb,o,fun _=>A,_,fun _=>hc,fun e=>⟨a,n,c,Qc hB (by simpa using h8),bb,o,A,_,hc,next _ ?_⟩,fun e=>next _ ?_⟩
   ·rw [tk];by_cases h0:l.take i=[]
    ·rw [h0];simp [Jh]
    ·rw [Ml _ _ h0];have hi0:i≠0:=fun h=>h0 (by rw [h];rfl)
     simp [bT,hi0] at e;rw [Int.min_eq_right (by omega)]
   ·rw [tk];have hi0:i≠0:=by rintro rfl;simp at e
    have h0:l.take i≠[]:=fun h=>hi0 (by
     have:=congrArg List.length h;rw [bV] at this;simp only [fB] at this;omega)
    rw [Ml _ _ h0];simp [bT,hi0] at e;rw [Int.min_eq_left (by omega)]
 ·have hge:i=n:=by simp at e;omega
  have ht:l.take i=l:=cQ (by omega)
  rw [ht] at hg ⊢;rw [bH hg] at hK;have hb:-1<=Jh l/\Jh l<=9999:=by
   by_cases h0:l=[]
   ·rw [h0];decide
   ·exact hl _ (QeK h0)
  exact⟨d,Qc hB (by simpa using h5),_,iW,hK⟩
theorem QbW {u0 u1:Nat}{h:Hp}{R:RtT}(H:∃ a1 n1 c1,Hp.cell h u0 (u1+9)=some (vsl a1 n1 c1)/\R (vi (n1:Int)) h ):Qa Pg 28 [vhp u0 u1] h R:=callO Tryz.func28 [.one (.hp u0 u1)] H
theorem QbL {u0 u1:Nat}{u2:Int}{u3:Int}{u4:Int}{u5:Int}{u6:Int}{u7:Int}{u8:Int}{u9:Int}{h:Hp}{R:RtT}(H:∃ a1 n1 c1 a2 n2 c2 a3 n3 c3 x4 x5 x6 x7,Hp.row h u0 u1 7=some [vsl a1 n1 c1,vsl a2 n2 c2,vsl a3 n3 c3,vi x4,vi x5,vi x6,vi x7]/\Qa Pg 46 [vag [vsl a1 n1 c1,vsl a2 n2 c2,vsl a3 n3 c3,vi x4,vi x5,vi x6,vi x7],vag [vi u3,vi u4,vi u5,vi u6,vi u7,vi u8,vi u9]] h fun v8 h9=>∃ p10,v8=vb p10/\let J87:HpT:=fun h88=>(∃ a89 n89 c89,Hp.cell h88 u0 (u1+7)=some (vsl a89 n89 c89)/\∃ b90 o91,Ix a89 b90 o91 u2 n89/\∃ x92,Hp.cell h88 b90 (o91+u2.toNat*1)=some (vi x92)/\∃ x93,IsW x93 (x92+1)/\∃ b94 o95,Ix a89 b94 o95 u2 n89/\Hp.store h88 b94 (o95+u2.toNat*1) [vi x93] fun h96=>∃ a97 n97 c97,Hp.cell h96 u0 (u1+8)=some (vsl a97 n97 c97)/\∃ a98 n98 c98,Hp.cell h96 u0 (u1+8)=some (vsl a98 n98 c98)/\∃ b99 o100,Ix a98 b99 o100 u2 n98/\∃ x101,Hp.cell h96 b99 (o100+u2.toNat*1)=some (vi x101)/\∃ x102,Rd Pg (Builtin.max_ #[3,3] 3 #[vi x101,vi u3]) h96 (vi x102)/\∃ b103 o104,Ix a97 b103 o104 u2 n97/\Hp.store h96 b103 (o104+u2.toNat*1) [vi x102] fun h105=>Qa Pg 20 [vhp u0 u1] h105 fun v106 h107=>∃ x108 p109,v106=Qe [vi x108,vb p109]/\((!p109)=true->R (Qe []) h107)/\((!p109)=false->∃(I112:LtT) (m113:LmT),I112 [vsl none 0 0,vi 0] h107/\∀ vs114 h115,I112 vs114 h115->∃ a116 n116 c116 x117,vs114=[vsl a116 n116 c116,vi x117]/\∃ a118 n118 c118,Hp.cell h115 u0 (u1+9)=some (vsl a118 n118 c118)/\((decide (x117<(n118:Int)))=true->let J164:OaT->Nat->Nat->Hp->Prop:=fun a167 n167 c167 h168=>(∃ x169,IsW x169 (x117+1)/\I112 [vsl a167 n167 c167,vi x169] h168/\m113 [vsl a167 n167 c167,vi x169] h168<m113 vs114 h115);∃ a121 n121 c121,Hp.cell h115 u0 (u1+9)=some (vsl a121 n121 c121)/\∃ b122 o123,Ix a121 b122 o123 x117 n121/\∃ q124,Hp.cell h115 b122 (o123+x117.toNat*1)=some (vp q124)/\∃ b125 o126,q124=some ⟨b125,o126,none⟩/\∃ p127,Hp.cell h115 b125 (o126+4)=some (vb p127)/\∃ b128 o129,((!p127)=true->q124=some ⟨b128,o129,none⟩)/\∃ x130,((!p127)=true->Hp.cell h115 b128 o129=some (vi x130))/\∃ x131,((!p127)=true->IsW x131 (x130+x4))/\let J150:HpT:=fun h151=>(∃ b152 o153,q124=some ⟨b152,o153,none⟩/\∃ x154,Hp.cell h151 b152 o153=some (vi x154)/\∃ x155,IsW x155 (x154+x4)/\∃ x156,IsW x156 (x108-x7)/\((decide (x155>x156))=true->∀ b157,h151 b157=none->let h158:=Hp.set h151 b157 (Qb [vp q124] 107);Qh Pg (Builtin.append_ #[47,47] 47 #[vsl a116 n116 c116,(vsl (some (⟨b157,0,none⟩:Addr)) 1 1)]) h158 fun v159 h160=>∃ a161 n161 c161,v159=vsl a161 n161 c161/\J164 a161 n161 c161 h160)/\((decide (x155>x156))=false->J164 a116 n116 c116 h151));((cond (!p127) (decide (x131<=x108)) false)=true->∃ b132 o133,q124=some ⟨b132,o133,none⟩/\Hp.store h115 b132 (o133+4) [vb true] fun h134=>∃ a135 n135 c135,Hp.cell h134 u0 (u1+11)=some (vsl a135 n135 c135)/\Qa Pg 50 [vp q124,vag [vsl a1 n1 c1,vsl a2 n2 c2,vsl a3 n3 c3,vi x4,vi x5,vi x6,vi x7]] h134 fun v136 h137=>∃ x138 x139 x140 a141 n141 c141,v136=vag [vi x138,vi x139,vi x140,vsl a141 n141 c141]/\Hp.cell h137 u0 (u1+11)=some (vsl a135 n135 c135)/\∀ b142,h137 b142=none->let h143:=Hp.set h137 b142 (Qb [vb false,vi x138,vi x139,vi x140,vsl a141 n141 c141] 95);Qh Pg (Builtin.append_ #[48,48] 48 #[vsl a135 n135 c135,(vsl (some (⟨b142,0,none⟩:Addr)) 1 1)]) h143 fun v144 h145=>∃ a146 n146 c146,v144=vsl a146 n146 c146/\Hp.store h145 u0 (u1+11) [vsl a146 n146 c146] fun h147=>J150 h147)/\((cond (!p127) (decide (x131<=x108)) false)=false->J150 h115))/\((decide (x117<(n118:Int)))=false->Hp.store h115 u0 (u1+9) [vsl a116 n116 c116] fun h170=>R (Qe []) h170)));(p10=true->Qa Pg 47 [vi u3,vi x4,vi x5] h9 fun v11 h12=>∃ a13 n13 c13,v11=vsl a13 n13 c13/\∃(I15:LtT) (m16:LmT),I15 [vi 0] h12/\∀ vs17 h18,I15 vs17 h18->∃ x19,vs17=[vi x19]/\((decide (x19<(n13:Int)))=true->let J83:HpT:=fun h84=>(∃ x85,IsW x85 (x19+1)/\I15 [vi x85] h84/\m16 [vi x85] h84<m16 vs17 h18);∃ a22 n22 c22,Hp.cell h18 u0 (u1+8)=some (vsl a22 n22 c22)/\∃ b23 o24,Ix a22 b23 o24 u2 n22/\∃ x25,Hp.cell h18 b23 (o24+u2.toNat*1)=some (vi x25)/\∃ b26 o27,((decide (x25>=0))=true->Ix a13 b26 o27 x19 n13)/\∃ x28,((decide (x25>=0))=true->Hp.cell h18 b26 (o27+x19.toNat*1)=some (vi x28))/\∃ x29,((decide (x25>=0))=true->IsW x29 (x28+x4))/\∃ x30,((decide (x25>=0))=true->IsW x30 (x29+x7))/\∃ a31 n31 c31,((decide (x25>=0))=true->Hp.cell h18 u0 (u1+8)=some (vsl a31 n31 c31))/\∃ b32 o33,((decide (x25>=0))=true->Ix a31 b32 o33 u2 n31)/\∃ x34,((decide (x25>=0))=true->Hp.cell h18 b32 (o33+u2.toNat*1)=some (vi x34))/\∃ x35,((decide (x25>=0))=true->IsW x35 (x34-x6))/\((cond (decide (x25>=0)) (decide (x30<=x35)) false)=true->∃ x36,Hp.cell h18 u0 (u1+10)=some (vi x36)/\∃ x37,IsW x37 (x36+1)/\Hp.store h18 u0 (u1+10) [vi x37] fun h38=>J83 h38)/\((cond (decide (x25>=0)) (decide (x30<=x35)) false)=false->∃ a41 n41 c41,Hp.cell h18 u0 (u1+9)=some (vsl a41 n41 c41)/\∃ b42 o43,Ix a13 b42 o43 x19 n13/\∃ x44,Hp.cell h18 b42 (o43+x19.toNat*1)=some (vi x44)/\Qa Pg 49 [vag [vsl a1 n1 c1,vsl a2 n2 c2,vsl a3 n3 c3,vi x4,vi x5,vi x6,vi x7],vag [vi u3,vi u4,vi u5,vi u6,vi u7,vi u8,vi u9]] h18 fun v45 h46=>∃ x47 x48,v45=vag [vi x47,vi x48]/\Hp.cell h46 b42 (o43+x19.toNat*1)=some (vi x44)/\Hp.cell h46 u0 (u1+9)=some (vsl a41 n41 c41)/\Qa Pg 48 [vsl a41 n41 c41,vi x44,vag [vi x47,vi x48],(vi (n1:Int))] h46 fun v49 h50=>∃ a51 n51 c51 q52,v49=Qe [vsl a51 n51 c51,vp q52]/\Hp.store h50 u0 (u1+9) [vsl a51 n51 c51] fun h53=>Qa Pg 50 [vp q52,vag [vsl a1 n1 c1,vsl a2 n2 c2,vsl a3 n3 c3,vi x4,vi x5,vi x6,vi x7]] h53 fun v54 h55=>∃ x56 x57 x58 a59 n59 c59,v54=vag [vi x56,vi x57,vi x58,vsl a59 n59 c59]/\Qa Pg 51 [vp q52,vag [vsl a1 n1 c1,vsl a2 n2 c2,vsl a3 n3 c3,vi x4,vi x5,vi x6,vi x7],vag [vi u3,vi u4,vi u5,vi u6,vi u7,vi u8,vi u9]] h55 fun v60 h61=>v60=Qe []/\Qa Pg 50 [vp q52,vag [vsl a1 n1 c1,vsl a2 n2 c2,vsl a3 n3 c3,vi x4,vi x5,vi x6,vi x7]] h61 fun v62 h63=>∃ x64 x65 x66 a67 n67 c67,v62=vag [vi x64,vi x65,vi x66,vsl a67 n67 c67]/\Qa Pg 52 [vsl a59 n59 c59,vsl a67 n67 c67] h63 fun v68 h69=>∃ p70,v68=vb p70/\∃ b71 o72,q52=some ⟨b71,o72,none⟩/\∃ p73,Hp.cell h69 b71 (o72+4)=some (vb p73)/\((cond p73 (!p70) false)=true->∃ a74 n74 c74,Hp.cell h69 u0 (u1+11)=some (vsl a74 n74 c74)/\∀ b75,h69 b75=none->let h76:=Hp.set h69 b75 (Qb [vb true,vi x56,vi x57,vi x58,vsl a59 n59 c59,vb false,vi x64,vi x65,vi x66,vsl a67 n67 c67] 95);Qh Pg (Builtin.append_ #[48,48] 48 #[vsl a74 n74 c74,(vsl (some (⟨b75,0,none⟩:Addr)) 2 2)]) h76 fun v77 h78=>∃ a79 n79 c79,v77=vsl a79 n79 c79/\Hp.store h78 u0 (u1+11) [vsl a79 n79 c79] fun h80=>J83 h80)/\((cond p73 (!p70) false)=false->J83 h69)))/\((decide (x19<(n13:Int)))=false->J87 h18))/\(p10=false->J87 h9)):Qa Pg 14 [vhp u0 u1,vi u2,vag [vi u3,vi u4,vi u5,vi u6,vi u7,vi u8,vi u9]] h R:=callC ⟨[],[(6,([9],[.one (.int .i64)],[])),(24,([16,17],[.one (.slice),.one (.int .i64)],[]))],[(8,[0,1,2,3,4,5,6,7,8,9,10,11,12,13,14,15,16,17,18,19,20,21,22,23,24,25,26,27,28,29,30]),(11,[0,1,2,3,4,5,6,7,8,9,10,12,13,14,11,15,16,17,18,19,20,21,22]),(17,[0,1,2,3,4,5,6,7,8,9,10,11,12,13]),(19,[0,1,2,3,4,5,6,7,8,9,10,11,12,13,14,15,16]),(27,[0,1,2,3,4,5,6,7,8,9,10,11,12,13,14,15]),(29,[0,1,2,3,4,5,6,7,8,9,10,11,12,13]),(30,[0,1,2,3,4,5,6,7,8,9,10,11])]⟩ Tryz.func14 [.one (.hp u0 u1),.one (.v (vi u2)),.ag [.v (vi u3),.v (vi u4),.v (vi u5),.v (vi u6),.v (vi u7),.v (vi u8),.v (vi u9)]] H
theorem Qe9 {u0:OaT}{u1 u2:Nat}{u3:OaT}{u4 u5:Nat}{h:Hp}{R:RtT}(H:((decide ((u1:Int)≠(u4:Int)))=true->R (vb false) h)/\((decide ((u1:Int)≠(u4:Int)))=false->∃(I3:LtT) (m4:LmT),I3 [vi 0] h/\∀ vs5 h6,I3 vs5 h6->∃ x7,vs5=[vi x7]/\((decide (x7<(u1:Int)))=true->∃ b10 o11,Ix u0 b10 o11 x7 u1/\∃ x12 x13 x14 a15 n15 c15,Hp.row h6 b10 ((o11+x7.toNat*5)+1) 4=some [vi x12,vi x13,vi x14,vsl a15 n15 c15]/\∃ b16 o17,Ix u3 b16 o17 x7 u4/\∃ x18 x19 x20 a21 n21 c21,Hp.row h6 b16 ((o17+x7.toNat*5)+1) 4=some [vi x18,vi x19,vi x20,vsl a21 n21 c21]/\Qa Pg 63 [vag [vi x12,vi x13,vi x14,vsl a15 n15 c15],vag [vi x18,vi x19,vi x20,vsl a21 n21 c21]] h6 fun v22 h23=>∃ p24,v22=vb p24/\∃ b25 o26,Ix u0 b25 o26 x7 u1/\∃ p27,Hp.cell h23 b25 (o26+x7.toNat*5)=some (vb p27)/\∃ b28 o29,Ix u3 b28 o29 x7 u4/\∃ p30,Hp.cell h23 b28 (o29+x7.toNat*5)=some (vb p30)/\∃ p31,RdG .neq 4 (.tmp 33) (.tmp 38) (vb p27) (vb p30) h23 (vb p31)/\((cond p31 true (!p24))=true->R (vb false) h23)/\((cond p31 true (!p24))=false->∃ x33,IsW x33 (x7+1)/\I3 [vi x33] h23/\m4 [vi x33] h23<m4 vs5 h6))/\((decide (x7<(u1:Int)))=false->R (vb true) h6))):Qa Pg 21 [vsl u0 u1 u2,vsl u3 u4 u5] h R:=callC ⟨[],[(4,([5],[.one (.int .i64)],[]))],[(6,[0,1,2,3,4,5,6,7,8,9,10,11]),(7,[0,1,2,3,4,5,6,7,8,9,10,11,12,13,14])]⟩ Tryz.func21 [.one (.v (vsl u0 u1 u2)),.one (.v (vsl u3 u4 u5))] H
theorem U7 {u0:OaT}{u1 u2:Nat}{u3:OaT}{u4 u5:Nat}{h:Hp}{R:RtT}(H:((decide ((u1:Int)≠(u4:Int)))=true->R (vb false) h)/\((decide ((u1:Int)≠(u4:Int)))=false->∃(I3:LtT) (m4:LmT),I3 [vi 0] h/\∀ vs5 h6,I3 vs5 h6->∃ x7,vs5=[vi x7]/\((decide (x7<(u1:Int)))=true->∃ b10 o11,Ix u0 b10 o11 x7 u1/\∃ x12 x13,Hp.row h6 b10 (o11+x7.toNat*2) 2=some [vi x12,vi x13]/\∃ b14 o15,Ix u3 b14 o15 x7 u4/\∃ x16 x17,Hp.row h6 b14 (o15+x7.toNat*2) 2=some [vi x16,vi x17]/\∃ p18,RdG .neq 54 (.tmp 20) (.tmp 24) (vag [vi x12,vi x13]) (vag [vi x16,vi x17]) h6 (vb p18)/\(p18=true->R (vb false) h6)/\(p18=false->∃ x20,IsW x20 (x7+1)/\I3 [vi x20] h6/\m4 [vi x20] h6<m4 vs5 h6))/\((decide (x7<(u1:Int)))=false->R (vb true) h6))):Qa Pg 52 [vsl u0 u1 u2,vsl u3 u4 u5] h R:=callC ⟨[],[(4,([5],[.one (.int .i64)],[]))],[(6,[0,1,2,3,4,5,6,7,8])]⟩ Tryz.func52 [.one (.v (vsl u0 u1 u2)),.one (.v (vsl u3 u4 u5))] H
theorem QfI {u0:Int}{u1:Int}{u2:Int}{u3:OaT}{u4 u5:Nat}{u6:Int}{u7:Int}{u8:Int}{u9:OaT}{u10 u11:Nat}{h:Hp}{R:RtT}(H:Qa Pg 52 [vsl u3 u4 u5,vsl u9 u10 u11] h fun v1 h2=>∃ p3,v1=vb p3/\∃ p4,((decide (u0=u6))=true->RdG .eql 54 (.tmp 18) (.tmp 20) (vag [vi u1,vi u2]) (vag [vi u7,vi u8]) h2 (vb p4))/\R (vb (cond (cond (decide (u0=u6)) p4 false) p3 false)) h2):Qa Pg 63 [vag [vi u0,vi u1,vi u2,vsl u3 u4 u5],vag [vi u6,vi u7,vi u8,vsl u9 u10 u11]] h R:=callO Tryz.func63 [.ag [.v (vi u0),.v (vi u1),.v (vi u2),.v (vsl u3 u4 u5)],.ag [.v (vi u6),.v (vi u7),.v (vi u8),.v (vsl u9 u10 u11)]] H
theorem NG {n:Nat}:∀{rs:List (List Vl)},(∀ r ∈ rs,∀ v ∈ r,ZW v)->∀ l ∈ Yh n rs,l.length<=rs.length/\∀ v ∈ l,ZW v:=by
 intro rs;induction rs using Mp with
 | h0=>
  intro _ c hc;rw [fH hc];exact⟨cJ _,fun v hv=>by cases hv⟩
 | h1 rs r ih=>
  intro hv c hc;have ih:=ih fun x hx=>hv x (fL _ hx)
  rw [XU] at hc;unfold X8 at hc;obtain⟨i,hi,rfl⟩:=jP.1 hc;rw [jB] at hi;rw [jF];obtain⟨h1,h2⟩:=ih _ (cM (by omega:i<(Yh n rs).length))
  refine⟨by simp;omega,fun v hv2=>?_⟩
  rcases cP.1 hv2 with h3|h3
  ·exact h2 v h3
  ·rw [cB.1 h3];exact hv r (by simp) _ (cM _)
def pnC (r:PN):PK × List (List Vl) × Bool:=(r.k,r.cs,r.told)
def pnS (n:Nat)(p:Pn):PK × List (List Vl) × Bool:=(p.k,Yh n p.rs,p.t)
theorem Qol {n:Nat}{R:List PN}{L:List Pn}(h:R.map pnC=L.map (pnS n)):R.map (·.k)=L.map (·.k):=by
 have:=congrArg (List.map Prod.fst) h;rw [fN,fN] at this;exact this
theorem Qnv {n:Nat}{R:List PN}{L:List Pn}(h:R.map pnC=L.map (pnS n)){i:Nat}{r:PN}(hr:R[i]?=some r):∃ p,L[i]?=some p/\r.k=p.k/\r.cs=Yh n p.rs/\r.told=p.t:=by
 have h1:(R.map pnC)[i]?=some (pnC r):=by rw [cU,hr];rfl
 rw [h,cU,dD] at h1
 obtain⟨p,hp,e⟩:=h1;simp only [pnC,pnS,fM] at e;exact⟨p,hp,e.1.symm,e.2.1.symm,e.2.2.symm⟩
theorem Qg9 {q:Qy}{parts N:Nat}{st:En}(H:EnB q parts N st){R:List PN}(hp:R.map pnC=st.pn.map (pnS q.aggs.length)):∀ r ∈ R,r.cs.length=q.aggs.length/\(∀ l ∈ r.cs,l.length<=N/\∀ v ∈ l,ZW v)/\-1000<=r.k.1/\r.k.1<=9999:=by
 intro r hr;obtain⟨i,hi⟩:=gX hr
 obtain⟨p,hp1,e1,e2,e3⟩:=Qnv hp hi;obtain⟨q1,q2,q3,q4⟩:=H.pa p (bZ hp1);rw [e1,e2];refine⟨UR fun r hr=>(q4 r hr).l,fun l hl=>?_,q2,q3⟩
 obtain⟨k1,k2⟩:=NG (fun r hr=>(q4 r hr).v) l hl
 exact⟨by omega,k2⟩
theorem Qed {q:Qy}{k:PK}{rs:List (List Vl)}(h:∀ r ∈ rs,QcE q (k,r)):(List.zipWith Mz (Qd q) (Yh q.aggs.length rs)).map ZS=Yx (Qd q) rs:=by
 unfold Yx;rw [Qdb (Qd q) fun r hr=>by rw [(h r hr).l,QA],QA]
 rfl
def csM (a1:OaT)(n1 c1:Nat)(a2:OaT)(n2 c2:Nat)(a3:OaT)(n3 c3:Nat)(q:Qy)(ar:OaT)(nr cr:Nat)(af:OaT)(nf cf:Nat)(ap:OaT)(np cp:Nat)(late:Nat)(aw:OaT)(nw cw:Nat):List Value:=
 [vsl a1 n1 c1,vsl a2 n2 c2,vsl a3 n3 c3,vi q.size,vi q.slide,vi q.delay,vi q.late,vsl ar nr cr,vsl af nf cf,vsl ap np cp,vi (late:Nat),vsl aw nw cw]
def owR (ar:OaT)(cr:Nat)(rd:List Nat):Ow:=⟨3,1,ar,rd.length,cr,rd.map fun n:Nat=>vi n⟩
def owF (af:OaT)(cf:Nat)(far:List Int):Ow:=⟨3,1,af,far.length,cf,far.map vi⟩
def owW (aw:OaT)(cw:Nat)(RW:List (XA Vl (Bool × PK))):Ow:=⟨95,5,aw,RW.length,cw,RW.flatMap (Zc QT)⟩
def Kl (q:Qy)(h0 h:Hp)(g:Nat)(st:En):Prop:=
 ∃(hB hP:Hp) (a1:OaT) (n1 c1:Nat) (a2:OaT) (n2 c2:Nat) (a3:OaT) (n3 c3:Nat) (ar:OaT) (cr:Nat) (af:OaT) (cf:Nat) (ap:OaT) (cp:Nat) (aw:OaT) (cw:Nat) (R:List PN) (RW:List (XA Vl (Bool × PK))),
  h0.le hB/\QAt hB q a1 n1 a2 n2 a3 n3/\YG hB hP ap cp R /\
  QC hP h [Zz g 50 (csM a1 n1 c1 a2 n2 c2 a3 n3 c3 q ar st.rd.length cr af st.far.length cf ap R.length cp st.late aw RW.length cw),owR ar cr st.rd,owF af cf st.far,owW aw cw RW] /\
  R.map pnC=st.pn.map (pnS q.aggs.length)/\QO RW=st.rows.map ZI/\∀ r ∈ RW,Qf hB r.2.1.1 (r.2.2.flatMap Qq)
theorem Kl.le {q:Qy}{h0 h h':Hp}{g:Nat}{st:En}(X:Kl q h0 h g st)(l:h.le h'):Kl q h0 h' g st:=by
 obtain⟨hB,hP,a1,n1,c1,a2,n2,c2,a3,n3,c3,ar,cr,af,cf,ap,cp,aw,cw,R,RW,l0,Q,N,O,e1,e2,e3⟩:=X;exact⟨hB,hP,a1,n1,c1,a2,n2,c2,a3,n3,c3,ar,cr,af,cf,ap,cp,aw,cw,R,RW,l0,Q,N,O.grow l,e1,e2,e3⟩
theorem Kl.le0 {q:Qy}{h0 h:Hp}{g:Nat}{st:En}(X:Kl q h0 h g st):h0.le h:=by
 obtain⟨hB,hP,a1,n1,c1,a2,n2,c2,a3,n3,c3,ar,cr,af,cf,ap,cp,aw,cw,R,RW,l0,Q,N,O,e1,e2,e3⟩:=X;exact Hp.le_trans l0 (Hp.le_trans N.le0 O.le)
section
variable {h0 h:Hp}{a:OaT}{c:Nat}{R:List PN}
theorem YG.told (N:YG h0 h a c R){i:Nat}{r:PN}(hr:R[i]?=some r):YG h0 (h.set r.b (Qb (QJ (Yg r) 4 [vb true]) 110)) a c (R.set i { r with told:=true }):=by
 obtain⟨F,E,n1,n2⟩:=N.i;obtain⟨G0,X,hGF,H⟩:=E.at Q8 hr;obtain⟨h1,G,D,hd,rfl⟩:=X;have es:QJ (Yg r) 4 [vb true]=Yg { r with told:=true }:=by simp [QJ,Yg]
 rw [es];have M:Mut (fun b=>b=r.b\/G b) h (fun b=>b=r.b\/G b) (h.set r.b (Qb (Yg { r with told:=true }) 110)):=
  ⟨fun b o hb ho=>(Hp.set_other h _ (fun q=>hb (.inl q))).trans ho,fun b hb=>.inl hb⟩
 obtain⟨F2,E2,M3⟩:=H _ (fun b=>b=r.b\/G b) { r with told:=true } M ⟨Hp.set_same _ _ _,G,D.keep fun b hb o ho=>(Hp.set_other h _ (fun q=>hd (by rw [<-q];exact hb))).trans ho,hd,rfl⟩
 obtain⟨k,d⟩:=M3.apart ((Uz.fp _ _ _ _ _ _).al (⟨N.v.own,rfl⟩:Uz 107 1 a R.length c (R.map fun r=>vhp r.b 0) h (fun b=>a=some ⟨b,0,none⟩))) (fun b hb hb2=>n2 b hb hb2)
 obtain⟨l',n1'⟩:=M3.old N.le0 n1;refine⟨?_,F2,E2,n1',fun b hb hb2=>d b hb hb2⟩
 have e:(R.set i { r with told:=true }).map (fun r=>vhp r.b 0)=R.map fun r=>vhp r.b 0:=by
  rw [gB];apply gQ;intro j;rw [g9]
  split
  ·rename_i hij;subst hij;rw [cU,hr]
   obtain⟨hi,_⟩:=bI.1 hr
   rw [bH (by simpa using hi)]
   rfl
  ·rfl
 rw [e,dG];have O2:=(Uz.fp _ _ _ _ _ _).keep (⟨N.v.own,rfl⟩:Uz 107 1 a R.length c (R.map fun r=>vhp r.b 0) h (fun b=>a=some ⟨b,0,none⟩)) k
 exact⟨l',O2.1,N.v.new⟩
theorem YG.some_of (N:YG h0 h a c R){h':Hp}{a':OaT}{c':Nat}{p:PN->Bool}(l:h.le h')(O:Qg h h' 107 1 a' (R.filter p).length c' ((R.filter p).map fun r=>vhp r.b 0)):YG h0 h' a' c' (R.filter p):=by
 obtain⟨F,E,n1,n2⟩:=N.i;obtain⟨fs,e,rfl,A,H⟩:=E;have hsub:(fs.filter fun x=>p x.1).Sublist fs:=List.filter_sublist
 refine⟨⟨Hp.le_trans N.le0 l,O.own,fun b hb=>Hp.none_of_le N.le0 (O.new b hb)⟩,_,⟨fs.filter fun x=>p x.1,?_,rfl,A.sublist hsub,fun x hx=>(Q8 x.1).keep (H x (hsub.mem hx)) fun b _ o ho=>l b o ho⟩,fun b hb=>?_,fun b hb hb2=>?_⟩
 ·rw [<-e,List.filter_map];rfl
 ·obtain⟨x,hx,hb⟩:=hb;exact n1 b ⟨x,hsub.mem hx,hb⟩
 ·obtain⟨x,hx,hb⟩:=hb;exact(Q8 x.1).al (H x (hsub.mem hx)) b hb (O.new b hb2)
end
section
variable {h:Hp}{R':RtT}
theorem QbC {l m:List Vl}{a b:OaT}{c d:Nat}(S:SlP Qq h a l.length l)(S2:SlP Qq h b m.length m)(hn:l.length<=1000000)(hK:R' (vb (decide (l=m))) h):Qa Pg 52 [vsl a l.length c,vsl b m.length d] h R':=by
 refine U7 ?_
 refine⟨fun e=>?_,fun e=>?_⟩
 ·have hne:l≠m:=by intro q;subst q;exact bC e rfl
  rw [cE hne] at hK;exact hK
 ·have hlen:l.length=m.length:=by have:=bB e;omega
  refine⟨fun vs hh=>hh=h/\∃ i:Nat,vs=[vi i]/\i<=l.length/\l.take i=m.take i,fun vs hh=>l.length-(Qm vs 0).toNat,⟨rfl,0,rfl,cH _,rfl⟩,?_⟩
  rintro vs hh ⟨rfl,i,rfl,hi,ht⟩;refine⟨i,rfl,fun e=>?_,fun e=>?_⟩
  ·have hlt:i<l.length:=by have:=bC e;omega
   have hx:l[i]?=some l[i]:=bD hlt
   have hy:m[i]?=some (m[i]'(by omega)):=bD (by omega)
   obtain⟨b1,o1,e1,r1⟩:=S.get (sz:=2) (fun _=>rfl) (by decide) hx
   obtain⟨b2,o2,e2,r2⟩:=S2.get (sz:=2) (fun _=>rfl) (by decide) hy
   have tk:l.take (i+1)=l.take i++[l[i]]:=bJ hlt;have tm:m.take (i+1)=m.take i++[m[i]'(by omega)]:=bJ (by omega)
   refine⟨b1,o1,⟨e1,by omega,by omega⟩,_,_,(show Hp.row hh b1 (o1+((i:Nat):Int).toNat*2) 2=some (Qq l[i]) by rw [bG];exact r1),b2,o2,⟨e2,by omega,by omega⟩,_,_,(show Hp.row hh b2 (o2+((i:Nat):Int).toNat*2) 2=some (Qq (m[i]'(by omega))) by rw [bG];exact r2),!decide (l[i]=m[i]'(by omega)),QcT,fun e3=>?_,fun e3=>?_⟩
   ·have hne:l≠m:=by
     intro q;have h1:l[i]?=m[i]?:=by rw [q]
     rw [hx,hy] at h1;have h2:=dL h1;rw [cC h2] at e3;cases e3
    rw [cE hne] at hK;exact hK
   ·have h2:l[i]=m[i]'(by omega):=by simpa using e3
    refine⟨_,iW,⟨rfl,i+1,rfl,by omega,?_⟩,by simp [Qm];omega⟩
    rw [tk,tm,ht,h2]
  ·have hge:i=l.length:=by have:=bB e;omega
   have heq:l=m:=by rw [hge,dR,hlen,dR] at ht;exact ht
   rw [cC heq] at hK;exact hK
end
theorem Qoe:ElT Pg 47 107 1 8:=.of (by kernel_rfl) (by kernel_rfl) (by decide)
theorem Qj8:ElT Pg 48 95 5 56:=.of (by kernel_rfl) (by kernel_rfl) (by decide)
theorem SlI.get' {h:Hp}{a:OaT}{n c:Nat}{l:List Int}{sz:Nat}{hi:Hp}(O:Qg hi h 3 1 a n c (l.map vi)){i:Nat}(hi':i<n):∃ b,a=some ⟨b,0,none⟩/\h.cell b (0+i*1)=some (vi (l.getD i 0)):=by
 obtain⟨b,o,ea,hc⟩:=O.sli.get hi';have:=O.own.at0 b o ea;subst this;exact⟨b,ea,hc⟩
theorem QcW {n:Nat}{C:List PN->List Pn->Prop}(h0:C [] [])(h1:∀ r R p L,pnC r=pnS n p->R.map pnC=L.map (pnS n)->C R L->C (r :: R) (p :: L)):∀{R:List PN} {L:List Pn},R.map pnC=L.map (pnS n)->C R L
 | [],[],_=>h0
 | [],_ :: _,h=>by simp at h
 | _ :: _,[],h=>by simp at h
 | r :: R,p :: L,h=>by
  simp only [dE,jK] at h;exact h1 r R p L h.1 h.2 (QcW h0 h1 h.2)
theorem Qj9 {n:Nat}{r:PN}{p:Pn}(h:pnC r=pnS n p):r.k=p.k/\r.cs=Yh n p.rs/\r.told=p.t:=by
 simp only [pnC,pnS,fM] at h;exact h
def Xj (size u:Int)(r:PN):Bool:=decide (r.k.1+size<=u)
def Xn (size u:Int)(r:PN):PN:={ r with told:=r.told||Xj size u r }
def JP (size u:Int)(r:PN):Bool:=!r.told&&Xj size u r
theorem Qmn {n:Nat}{size u:Int}{R:List PN}{L:List Pn}(h:R.map pnC=L.map (pnS n)):(R.map (Xn size u)).map pnC=(YX size u L).map (pnS n):=by
 refine QcW (C:=fun R L=>(R.map (Xn size u)).map pnC=(YX size u L).map (pnS n)) rfl (fun r R p L h1 h2 ih=>?_) h
 obtain⟨e1,e2,e3⟩:=Qj9 h1;unfold YX at ih ⊢;simp only [dE,ih];congr 1
 simp only [pnC,pnS,Xn,Xj,QbK,e1,e2,e3]
theorem Qmx {n:Nat}{size u:Int}{R:List PN}{L:List Pn}(h:R.map pnC=L.map (pnS n)):(R.filter fun r=>!Xj size u r).map pnC=(GE size u L).map (pnS n):=by
 refine QcW (C:=fun R L=>(R.filter fun r=>!Xj size u r).map pnC=(GE size u L).map (pnS n)) rfl (fun r R p L h1 h2 ih=>?_) h
 obtain⟨e1,e2,e3⟩:=Qj9 h1;unfold GE QbK at ih ⊢;have ed:Xj size u r=decide (p.k.1+size<=u):=by unfold Xj;rw [e1]
 rw [dZ,dZ,ed];split
 ·rw [dE,dE,ih,h1]
 ·exact ih
def Qn9 (q:Qy)(r:PN):(Bool × PK) × List Vl:=((false,r.k),(List.zipWith Mz (Qd q) r.cs).map ZS)
theorem QoN {q:Qy}{size u:Int}{R:List PN}{L:List Pn}(h:R.map pnC=L.map (pnS q.aggs.length))(hA:∀ p ∈ L,∀ r ∈ p.rs,QcE q (p.k,r)):(R.filter (JP size u)).map (Qn9 q)=((NO size u L).map (QaT (Qd q))).map ZI:=by
 have key:=QcW (C:=fun R L=>(∀ p ∈ L,∀ r ∈ p.rs,QcE q (p.k,r))->(R.filter (JP size u)).map (Qn9 q)=((NO size u L).map (QaT (Qd q))).map ZI) (n:=q.aggs.length) (fun _=>rfl) (fun r R p L h1 h2 ih hA=>?_) h
 ·exact key hA
 ·obtain⟨e1,e2,e3⟩:=Qj9 h1;have ih:=ih fun p hp=>hA p (bY _ hp)
  unfold NO at ih ⊢;have hc:JP size u r=(!p.t&&QbK size u p):=by unfold JP Xj QbK;rw [e1,e3]
  rw [dZ,dZ,hc];split
  ·rw [dE,dE,dE,ih];congr 1
   unfold Qn9 ZI QaT;simp only;rw [e1,e2,Qed (hA p (bS ..))]
  ·exact ih
theorem QjF {h0 h:Hp}{a:OaT}{c:Nat}{R:List PN}{R':RtT}(N:YG h0 h a c R){K:PK}{n:Nat}(hn:n<=1000000)(hR:R.length<=1000000)
  (hK:∀(hk:Hp) (a':OaT) (c':Nat) (R2:List PN) (i:Nat) (r:PN),YG h0 hk a' c' R2->R2[i]?=some r->r.k=K->(R2=R\/(i<=R.length/\R2=R.take i++r :: R.drop i/\r.cs=List.replicate n []/\r.told=false))->UN K (R.map (·.k))=R2.map (·.k)->R' (Qe [vsl a' R2.length c',vhp r.b 0]) hk) :
  Qa Pg 48 [vsl a R.length c,vi K.1,vag (Qq K.2),vi (n:Int)] h R':=by
 refine Qmb N hn hR (fun i r h' hr hk hins N'=>hK h' a c R i r N' hr hk (.inl rfl) hins) fun j x a' c' h' hj hk hcs hto hins N'=>?_
 have htl:(R.take j).length=j:=by rw [bV];omega
 have hx:(R.take j++x :: R.drop j)[j]?=some x:=by rw [dA (by omega),htl,fT];rfl
 have hl:(R.take j++x :: R.drop j).length=R.length+1:=by rw [bO,cO,dO,htl];omega
 have:=hK h' a' c' _ j x N' hx hk (.inr ⟨hj,rfl,hcs,hto⟩) hins;rw [hl] at this;exact this
theorem Qm9 {q:Qy}{parts N:Nat}{st:En}(HB:EnB q parts N st){R R2:List PN}{K:PK}{v:List Vl}{i:Nat}{r:PN}(e1:R.map pnC=st.pn.map (pnS q.aggs.length))(hr:R2[i]?=some r)(hrk:r.k=K)
  (hc:R2=R\/(i<=R.length/\R2=R.take i++r :: R.drop i/\r.cs=List.replicate q.aggs.length []/\r.told=false)) (hins:UN K (R.map (·.k))=R2.map (·.k)) :
  ∃ rs,r.cs=Yh q.aggs.length rs/\(∀ x ∈ rs,QcE q (K,x))/\rs.length<=N /\
   MN (Qd q) K v (atP K st.pn)=(if r.told=true/\Yx (Qd q) rs≠Yx (Qd q) (rs++[v]) then [(true,K,Yx (Qd q) rs),(false,K,Yx (Qd q) (rs++[v]))] else []) /\
   (R2.set i { r with cs:=X8 r.cs v }).map pnC=(KX K v st.pn).map (pnS q.aggs.length):=by
 have keys:=Qol e1;rcases hc with rfl|⟨hi,rfl,hcs,hto⟩
 ·obtain⟨p,hp,k1,k2,k3⟩:=Qnv e1 hr;have hpk:p.k=K:=k1.symm.trans hrk;obtain⟨q1,_,_,q4⟩:=HB.pa p (bZ hp);have hat:atP K st.pn=some p:=by rw [<-hpk];exact Qlx HB.ps (bZ hp)
  refine⟨p.rs,k2,fun x hx=>by have:=q4 x hx;rw [hpk] at this;exact this,q1,?_,?_⟩
  ·rw [hat,k3];rfl
  ·rw [QhV HB.ps hp hpk,gB,gB,e1];congr 1
   simp only [pnC,pnS];rw [hrk,k3,XU,k2]
 ·have hRl:R.length=st.pn.length:=by have:=congrArg List.length e1;simpa using this
  have hsort:((R.take i++r :: R.drop i).map (·.k)).Pairwise Qr:=by rw [<-hins,keys];exact GI _ (Xd.1 HB.ps)
  rw [cD,dE,gK,jZ,keys] at hsort;obtain⟨_,s2,s3⟩:=j8.1 hsort;obtain⟨s4,_⟩:=fD.1 s2;have hbef:∀ x ∈ st.pn.take i,Qr x.k K:=fun x hx=>by
   rw [<-hrk];exact s3 x.k (by rw [<-gK];exact dI.2 ⟨x,hx,rfl⟩) r.k (bS ..)
  have haft:∀ x ∈ st.pn.drop i,Qr K x.k:=fun x hx=>by
   rw [<-hrk];exact s4 x.k (by rw [<-jZ];exact dI.2 ⟨x,hx,rfl⟩)
  have hne:∀ x ∈ st.pn,x.k≠K:=by
   intro x hx ek;rw [<-dV i st.pn] at hx;rcases cP.1 hx with q1|q1
   ·have:=hbef x q1;rw [ek] at this;exact YB _ this
   ·have:=haft x q1;rw [ek] at this;exact YB _ this
  have hat:atP K st.pn=none:=by
   unfold atP;rw [kL]
   intro x hx q1;exact hne x hx (bC q1)
  refine⟨[],hcs,fun x hx=>(by cases hx),cH _,?_,?_⟩
  ·rw [hat,bE (by rw [hto];simp)];rfl
  ·rw [QeX (by omega) hbef (fun x hx q1=>?_) hne]
   ·have htl:(R.take i).length=i:=by rw [bV];omega
    rw [gF _ _ (by omega),htl,fT,cZ,cD,cD,dE,dE,gK,jZ,gK,jZ,e1]
    congr 2
    simp only [pnC,pnS];rw [hrk,hto,hcs];rfl
   ·have hm:x ∈ st.pn.drop i:=by
     have:(st.pn.drop i)[0]?=some x:=by rw [fK,gC];exact hx
     exact bZ this
    exact YB _ (Kv q1 (haft x hm))
theorem QC.int {hi h:Hp}{L:List Ow}(O:QC hi h L){j:Nat}{t:TypeId}{a:OaT}{n c:Nat}{xs:List Value}{l:List Int}(hs:L[j]?=some ⟨t,1,a,n,c,xs⟩)(ex:xs=l.map vi){p:Nat}(hp:p<n) :
  ∃ b,a=some ⟨b,0,none⟩/\h.cell b (0+p*1)=some (vi (l.getD p 0))/\∀{x:Int} {K:HpT},(∀ h',QC hi h' (L.set j ⟨t,1,a,n,c,(l.set p x).map vi⟩)->K h')->h.store b (0+p*1) [vi x] K:=by
 subst ex;have OV:=O.ownV (bZ hs);obtain⟨b,o,ea,hc⟩:=OV.sli.get hp;have hl:n=l.length:=OV.sli.1;have:=OV.own.at0 b o ea;subst this;refine⟨b,ea,hc,fun {x K} hK=>?_⟩
 refine O.store hs (i:=p*1) (vs:=[vi x]) (by simp) (by simp only [fG];omega) ea fun h' O' _=>hK h' ?_
 have e:QJ (l.map vi) (p*1) [vi x]=(l.set p x).map vi:=by rw [f8,Kf _ _ _ (by rw [bU];omega),gB]
 rw [<-e];exact O'
theorem QhS (l:List Nat):(l.map fun n:Nat=>vi n)=(l.map fun n:Nat=>(n:Int)).map vi:=by rw [fN];rfl
theorem Qk5 {l:List Nat}{p:Nat}(hp:p<l.length):(l.map fun n:Nat=>(n:Int)).getD p 0=((l.getD p 0:Nat):Int):=by
 rw [bK,bK,cU,bD hp];rfl
def VM (size u:Int)(R:List PN)(k:Nat):List PN:=(R.take k).map (Xn size u)++R.drop k
def Qaj (size w:Int)(R:List PN)(k:Nat):List PN:=(R.take k).filter fun r=>!Xj size w r
def owP (a:OaT)(c:Nat)(L:List PN):Ow:=⟨107,1,a,L.length,c,L.map fun r=>vhp r.b 0⟩
section
variable {size u:Int}{R:List PN}{k:Nat}{r:PN}
theorem Qeq (hk:k<=R.length):(VM size u R k).length=R.length:=by
 unfold VM;rw [bO,bU,bV,dO];omega
theorem Qls (hr:R[k]?=some r):(VM size u R k)[k]?=some r:=by
 have hlt:=(bI.1 hr).1
 unfold VM;have hl:((R.take k).map (Xn size u)).length=k:=by rw [bU,bV];omega
 rw [dA (by omega),hl,fT,fK,gC]
 exact hr
theorem Qbl (hr:R[k]?=some r):VM size u R (k+1)=(VM size u R k).set k (Xn size u r):=by
 obtain⟨hlt,er⟩:=bI.1 hr
 unfold VM;have hl:((R.take k).map (Xn size u)).length=k:=by rw [bU,bV];omega
 rw [gF _ _ (by omega),hl,fT,dM hlt,cZ,bJ hlt,cD,er,cG]
 rfl
theorem QmG (hr:R[k]?=some r)(h:JP size u r=false):VM size u R (k+1)=VM size u R k:=by
 rw [Qbl hr];have e:Xn size u r=r:=by
  unfold Xn;unfold JP at h;have:(r.told||Xj size u r)=r.told:=by
   cases h1:r.told with
   | true=>rfl
   | false=>rw [h1] at h;simpa using h
  rw [this]
 rw [e];apply gQ;intro j;rw [g9]
 split
 ·rename_i hj;subst hj;split
  ·exact(Qls hr).symm
  ·rename_i q;rw [Qeq (by have:=(bI.1 hr).1;omega)] at q
   exact absurd (bI.1 hr).1 q
 ·rfl
theorem Qnx (h:JP size u r=true):Xn size u r={ r with told:=true }:=by
 unfold Xn;unfold JP at h;have h2:Xj size u r=true:=by
  cases h1:Xj size u r with
  | true=>rfl
  | false=>rw [h1] at h;simp at h
 rw [h2,Bool.or_true]
theorem Qoc:VM size u R R.length=R.map (Xn size u):=by
 unfold VM;rw [dR,jU,d8]
end
theorem QC.left {hi h:Hp}{A:List Ow}{s:Ow}(O:QC hi h (A++[s])):∃ hj:Hp,hi.le hj/\QC hj h A/\Qg hi hj s.e s.sz s.a s.n s.c s.xs:=by
 obtain⟨hj,lj,Oj,kj⟩:=O.rebase (List.sublist_append_left A [s]);have hm:s ∈ A++[s]:=fV _ (cB.2 rfl);refine⟨hj,lj,Oj,lj,Ow.keep (O.own s hm) fun b hb o ho=>kj b o ho fun t ht hb2=>?_,fun b hb=>O.new s hm b hb⟩
 exact(j8.1 O.dj).2.2 t ht s (cB.2 rfl) b hb2 hb
set_option maxHeartbeats 4000000 in
theorem Qmj {q:Qy}{h0 h:Hp}{g parts N p:Nat}{st:En}{e:EvL}{R':RtT}(X:Kl q h0 h g st)(B:QOk q)(E:YM e)(HB:EnB q parts N st)(hN:N<=700000)(hp:p<parts)(hparts:parts<=1000)
  (hK:∀ h',h0.le h'->Kl q h0 h' g (Yl q p e st)->R' (Qe []) h'):Qa Pg 14 [vhp g 0,vi p,vag (Xo e)] h R':=by
 refine QbL ?_
 have hd:=B.d;have ht:=B.t;have hs:=B.s;have hsl:=B.l;have hEt:=E.t;have hfl:=HB.fl;have hrl:=HB.rl;have X0:=X;obtain⟨hB,hP,a1,n1,c1,a2,n2,c2,a3,n3,c3,ar,cr,af,cf,ap,cp,aw,cw,R,RW,l0,Q,N0,O,e1,e2,e3⟩:=X;have hfp:st.far.getD p 0 ∈ st.far:=by rw [bK,bD (by omega)];exact cM _
 have hfb:=HB.fb _ hfp;have hn1:=Q.g.len;have hn4:=B.n2;have hblk:=O.blk (bS ..);have lBh:=Hp.le_trans N0.le0 O.le;refine⟨_,_,_,_,_,_,_,_,_,_,_,_,_,Qx hblk (bP rfl),?_⟩
 refine QlV (e:=e) (Q.le lBh) B ⟨_,rfl,?_⟩
 intro J87;have hJ:∀ h88,(∃(hB hP:Hp) (ar:OaT) (cr:Nat) (af:OaT) (cf:Nat) (ap:OaT) (cp:Nat) (aw:OaT) (cw:Nat) (R:List PN) (RW:List (XA Vl (Bool × PK))),h0.le hB/\QAt hB q a1 n1 a2 n2 a3 n3/\YG hB hP ap cp R /\
   QC hP h88 [Zz g 50 (csM a1 n1 c1 a2 n2 c2 a3 n3 c3 q ar st.rd.length cr af st.far.length cf ap R.length cp (Yu q (st.far.getD p 0) e st).late aw RW.length cw),owR ar cr st.rd,owF af cf st.far,owW aw cw RW] /\
   R.map pnC=(Yu q (st.far.getD p 0) e st).pn.map (pnS q.aggs.length)/\QO RW=(Yu q (st.far.getD p 0) e st).rows.map ZI/\∀ r ∈ RW,Qf hB r.2.1.1 (r.2.2.flatMap Qq))->J87 h88:=by
  intro h88 X88;have HB2:=QdH B HB E (far:=st.far.getD p 0);obtain⟨ws1,ws2⟩:=NK (q:=q) (far:=st.far.getD p 0) (e:=e) (st:=st);generalize hst2:Yu q (st.far.getD p 0) e st=st2 at X88 HB2 ws1 ws2;rw [<-ws1,<-ws2] at X88;clear X0 l0 Q N0 O e1 e2 e3 hblk lBh;clear R RW hB hP ar cr af cf ap cp aw cw;obtain⟨hB,hP,ar,cr,af,cf,ap,cp,aw,cw,R,RW,l0,Q,N0,O,e1,e2,e3⟩:=X88;have hrl2:=HB2.rl;have hfl2:=HB2.fl;have hRl:R.length=st2.pn.length:=by have:=congrArg List.length e1;simpa using this
  have hpl:=HB2.pl;have hwl:=HB2.wl;have hWl:RW.length=st2.rows.length:=by have:=congrArg List.length e2;simpa [QO] using this
  have hrm:st2.rd.getD p 0 ∈ st2.rd:=by rw [bK,bD (by omega)];exact cM _
  have hrb:=HB2.rb _ hrm;have hco:=Qg9 HB2 e1;have hstep:Yl q p e st=MG q (Xf p e st2):=by unfold Yl;rw [hst2]
  rw [hstep] at hK;obtain⟨bR,eR,hcR,HR⟩:=QC.int O (j:=1) (t:=3) rfl (QhS st2.rd) (p:=p) (by omega)
  rw [Qk5 (by omega)] at hcR
  have hbd:ar=some ⟨bR,0,none⟩/\(0:Int)<=(p:Int)/\(p:Int)<((st2.rd.length:Nat):Int):=⟨eR,by omega,by omega⟩
  refine⟨_,_,_,Qc (O.blk (bS ..)) rfl,bR,0,hbd,_,hcR,_,iW,bR,0,hbd,?_⟩
  have ec:((st2.rd.getD p 0:Nat):Int)+1=((st2.rd.getD p 0+1:Nat):Int):=by omega
  rw [ec];refine HR fun h96 O96=>?_
  clear HR;simp only [dQ,cZ] at O96;have es:((st2.rd.map fun n:Nat=>(n:Int)).set p ((st2.rd.getD p 0+1:Nat):Int)).map vi=(st2.rd.set p (st2.rd.getD p 0+1)).map fun n:Nat=>vi n:=by rw [<-gB,fN];rfl
  rw [es] at O96;obtain⟨bF,eF,hcF,HF⟩:=QC.int O96 (j:=2) (t:=3) rfl (rfl:st2.far.map vi=_) (p:=p) (by omega)
  have hbF:af=some ⟨bF,0,none⟩/\(0:Int)<=(p:Int)/\(p:Int)<((st2.far.length:Nat):Int):=⟨eF,by omega,by omega⟩
  refine⟨_,_,_,Qc (O96.blk (bS ..)) rfl,_,_,_,Qc (O96.blk (bS ..)) rfl,bF,0,hbF,_,hcF,_,Qkh,bF,0,hbF,?_⟩
  refine HF fun h105 O105=>?_
  clear HF;simp only [dQ,cZ] at O105;have hsa:=QgM st2.far p e.1 HB2.fb hEt (by omega)
  have hsl2:(see st2.far p e.1).length=st2.far.length:=N7 ..;have hne:see st2.far p e.1≠[]:=fun q1=>by rw [q1] at hsl2;simp at hsl2;omega
  have hsee:st2.far.set p (max (st2.far.getD p 0) e.1)=see st2.far p e.1:=rfl;rw [hsee] at O105;have hfar:(Xf p e st2).far=see st2.far p e.1:=rfl;have hlr:(st2.rd.set p (st2.rd.getD p 0+1)).length=st2.rd.length:=dG;have Sf:SlI h105 af st2.far.length (see st2.far p e.1):=(O105.ownV (s:=⟨3,1,af,st2.far.length,cf,(see st2.far p e.1).map vi⟩) (by simp)).sli
  refine Qf9 (O105.blk (bS ..)) rfl rfl Sf (by omega) hsa hd ?_
  have lBh:=Hp.le_trans N0.le0 O105.le;by_cases hall:∀ x ∈ see st2.far p e.1,0<=x
  ·rw [bH hall];have hfc:Wo q.delay (see st2.far p e.1)=(Jh (see st2.far p e.1)-q.delay,true):=by unfold Wo;rw [bH hall,bE hne]
   have hub:-1001<=Jh (see st2.far p e.1)-q.delay/\Jh (see st2.far p e.1)-q.delay<=9999:=by have:=hsa _ (QeK hne);omega
   have hend:MG q (Xf p e st2)={ Xf p e st2 with pn:=GE q.size (Jh (see st2.far p e.1)-q.delay-q.late) (YX q.size (Jh (see st2.far p e.1)-q.delay) st2.pn),rows:=st2.rows++(NO q.size (Jh (see st2.far p e.1)-q.delay) st2.pn).map (QaT (Qd q)) }:=by unfold MG;rw [hfar,hfc];rfl
   rw [hend] at hK;clear hend hfc;refine⟨_,_,rfl,fun e0=>(by cases e0),fun _=>?_⟩
   generalize Jh (see st2.far p e.1)-q.delay=u at *
   refine⟨fun vs hh=>∃(k:Nat) (hB hP:Hp) (al:OaT) (cl:Nat) (aw:OaT) (cw:Nat) (RW:List (XA Vl (Bool × PK))),vs=[vsl al (Qaj q.size (u-q.late) R k).length cl,vi k]/\k<=R.length/\h0.le hB/\QAt hB q a1 n1 a2 n2 a3 n3/\YG hB hP ap cp (VM q.size u R k) /\
     QC hP hh [Zz g 50 (csM a1 n1 c1 a2 n2 c2 a3 n3 c3 q ar st2.rd.length cr af st2.far.length cf ap R.length cp st2.late aw RW.length cw),⟨3,1,ar,st2.rd.length,cr,(st2.rd.set p (st2.rd.getD p 0+1)).map fun n:Nat=>vi n⟩,⟨3,1,af,st2.far.length,cf,(see st2.far p e.1).map vi⟩,owW aw cw RW,owP al cl (Qaj q.size (u-q.late) R k)] /\
     QO RW=st2.rows.map ZI++((R.take k).filter (JP q.size u)).map (Qn9 q)/\∀ r ∈ RW,Qf hB r.2.1.1 (r.2.2.flatMap Qq),
    fun vs hh=>R.length-(Qm vs 1).toNat,⟨0,hB,hP,none,0,aw,cw,RW,rfl,cH _,l0,Q,N0,O105.push (Hp.le_refl _) (s:=owP none 0 (Qaj q.size (u-q.late) R 0)) (Qw.nil ..) (fun b hb=>(by cases hb)),by rw [e2];simp,e3⟩,?_⟩
   clear l0 Q N0 O O96 O105 e2 e3 lBh Sf hcR hcF;clear hB hP aw cw RW hWl;rintro vs hh ⟨k,hB,hP,al,cl,aw,cw,RW,rfl,hk,l0,Q,N0,O,e2,e3⟩;have hblk:=O.blk (bS ..);have hWl:RW.length<=st2.rows.length+k:=by
    have:=congrArg List.length e2;have h2:=jJ (JP q.size u) (R.take k);rw [bV] at h2;simp [QO] at this;omega
   refine⟨_,_,_,k,rfl,_,_,_,Qc hblk rfl,fun e4=>?_,fun e4=>?_⟩
   ·have hlt:k<R.length:=by have:=bC e4;omega
    have hr0:R[k]?=some R[k]:=bD hlt
    have tk:R.take (k+1)=R.take k++[R[k]]:=bJ hlt;obtain⟨hcl,hcb,hk1,hk2⟩:=hco _ (cM hlt);generalize R[k]=r at *
    have hr:=Qls (size:=q.size) (u:=u) hr0;obtain⟨b,o,ea,hpt⟩:=N0.ptr hr;have hpt:=Hp.cell_le O.le hpt;have hcell:=O.le _ _ (N0.cells hr).1;refine⟨_,_,_,Qc hblk rfl,b,o,⟨ea,by omega,by omega⟩,_,hpt,r.b,0,rfl,r.told,Qc hcell rfl,r.b,0,fun _=>rfl,r.k.1,fun _=>Qc hcell rfl,_,fun _=>iW,?_⟩
    intro J150;have hJ:∀ h151,(∃(hB hP:Hp) (aw:OaT) (cw:Nat) (RW:List (XA Vl (Bool × PK))),h0.le hB/\QAt hB q a1 n1 a2 n2 a3 n3/\YG hB hP ap cp (VM q.size u R (k+1)) /\
      QC hP h151 [Zz g 50 (csM a1 n1 c1 a2 n2 c2 a3 n3 c3 q ar st2.rd.length cr af st2.far.length cf ap R.length cp st2.late aw RW.length cw),⟨3,1,ar,st2.rd.length,cr,(st2.rd.set p (st2.rd.getD p 0+1)).map fun n:Nat=>vi n⟩,⟨3,1,af,st2.far.length,cf,(see st2.far p e.1).map vi⟩,owW aw cw RW,owP al cl (Qaj q.size (u-q.late) R k)] /\
      QO RW=st2.rows.map ZI++((R.take (k+1)).filter (JP q.size u)).map (Qn9 q)/\∀ r ∈ RW,Qf hB r.2.1.1 (r.2.2.flatMap Qq))->J150 h151:=by
     rintro h151 ⟨hB,hP,aw,cw,RW,q1,q2,q3,q4,q5,q6⟩;have hr2:(VM q.size u R (k+1))[k]?=some (Xn q.size u r):=by
      rw [Qbl hr0,fC (by rw [Qeq (by omega)];exact hlt)]
     have hcell2:=q4.le _ _ (q3.cells hr2).1;refine⟨r.b,0,rfl,r.k.1,Qc hcell2 rfl,_,iW,_,iW,fun e5=>?_,fun e5=>?_⟩
     ·have hnd:(!Xj q.size (u-q.late) r)=true:=by unfold Xj;have:=bC e5;rw [cE (by omega)];rfl
      have el:Qaj q.size (u-q.late) R (k+1)=Qaj q.size (u-q.late) R k++[r]:=by unfold Qaj;rw [tk,gT,dZ,bH hnd];rfl
      have hll:(Qaj q.size (u-q.late) R k).length<=k:=by
       unfold Qaj;refine dJ (jJ ..) ?_
       rw [bV];omega
      intro b157 hb157;refine q4.app (j:=4) rfl Qoe (m:=1) (news:=[vhp r.b 0]) hb157 rfl (by
       intro v hv;rw [cB.1 hv];rfl) (by simp only [owP];omega) (by simp only [owP];omega) fun a' c' h' O' _=>⟨_,_,_,rfl,?_⟩
      refine⟨_,iW,⟨k+1,hB,hP,a',c',aw,cw,RW,?_,by omega,q1,q2,q3,?_,q5,q6⟩,by simp [Qm];omega⟩
      ·rw [el,bO];rfl
      ·rw [el];unfold owP;rw [bO,cD];exact O'
     ·have hnd:¬(!Xj q.size (u-q.late) r)=true:=by unfold Xj;have:=bB e5;rw [cC (by omega)];decide
      have el:Qaj q.size (u-q.late) R (k+1)=Qaj q.size (u-q.late) R k:=by unfold Qaj;rw [tk,gT,dZ,bE hnd];exact d8 _
      refine⟨_,iW,⟨k+1,hB,hP,al,cl,aw,cw,RW,by rw [el];rfl,by omega,q1,q2,q3,by rw [el];exact q4,q5,q6⟩,by simp [Qm];omega⟩
    clear_value J150;have hcond:(bif (!r.told) then(decide ((r.k.1+q.size:Int)<=u)) else false)=JP q.size u r:=by
     unfold JP Xj;cases r.told<;>rfl
    rw [hcond];refine⟨fun e5=>?_,fun e5=>?_⟩
    ·refine⟨r.b,0,rfl,?_⟩
     refine O.inner (o:=4) (vs:=[vb true]) (N0.cells hr).1 (bP rfl) fun h134 O134=>?_
     have N1:=N0.told hr;have et:(VM q.size u R k).set k { r with told:=true }=VM q.size u R (k+1):=by rw [Qbl hr0,Qnx e5]
     rw [et] at N1;have hr2:(VM q.size u R (k+1))[k]?=some { r with told:=true }:=by
      rw [<-et,fC (by rw [Qeq (by omega)];exact hlt)]
     refine⟨_,_,_,Qc (O134.blk (bS ..)) rfl,?_⟩
     refine O134.frame (JC (r:={ r with told:=true }) (Q.le N1.le0) B (N1.cells hr2).1 (N1.cells hr2).2 hcl (fun l hl'=>⟨by have:=(hcb l hl').1;omega,(hcb l hl').2⟩) fun a c hk2 V h137 l137 O137=>⟨_,_,_,_,_,_,rfl,Qc (O137.blk (bS ..)) rfl,?_⟩)
     obtain⟨hB2,lB2,tr2,N2⟩:=N1.rebase V.le0 (g:=a) (fun b o hb=>V.new b (by rw [hb,Qw.at0 (Qg.own V) b o hb]))
     have o1:=tr2 (Qg.row V);intro b142 hb142;refine O137.app (j:=3) rfl Qj8 (m:=1) (news:=[vb false,vi r.k.1,vi r.k.2.1,vi r.k.2.2,vsl a ((List.zipWith Mz (Qd q) r.cs).map ZS).length c]) hb142 rfl (by
      intro v hv;simp only [bX,dB,fZ] at hv;rcases hv with rfl|rfl|rfl|rfl|rfl<;>rfl) (by simp only [owW];omega) (by simp only [owW];omega) fun aw2 cw2 h145 O145 _=>⟨_,_,_,rfl,?_⟩
     simp only [dQ,cZ] at O145;refine O145.put (j:=0) rfl (i:=11) (bP rfl) fun h147 O147 _=>hJ h147 ⟨hB2,hk2,aw2,cw2,RW++[((false,r.k),(a,c),(List.zipWith Mz (Qd q) r.cs).map ZS)],Hp.le_trans l0 lB2,Q.le lB2,N2,?_,?_,?_⟩
     ·unfold owW;rw [bO,cX];exact O147
     ·rw [tk,gT,cD,<-cG,<-e2,dZ,bH e5];unfold QO;rw [cD];rfl
     ·intro r' hr';rcases cP.1 hr' with q1|q1
      ·exact(e3 r' q1).le lB2
      ·rw [cB.1 q1];exact o1
    ·refine hJ hh ⟨hB,hP,aw,cw,RW,l0,Q,by rw [QmG hr0 e5];exact N0,O,?_,e3⟩
     rw [tk,gT,dZ,bE (by rw [e5];decide),mG,d8]
     exact e2
   ·have hge:k=R.length:=by have:=bB e4;omega
    subst hge;rw [dR] at e2;rw [Qoc] at N0;have elf:Qaj q.size (u-q.late) R R.length=R.filter fun r=>!Xj q.size (u-q.late) r:=by unfold Qaj;rw [dR]
    rw [elf] at O ⊢;refine O.put (j:=0) rfl (i:=9) (bP rfl) fun h170 O170 _=>?_
    simp only [cZ] at O170;obtain⟨hj,lj,Oj,V⟩:=QC.left (A:=[_,_,_,_]) O170;have efl:(R.map (Xn q.size u)).filter (fun r=>!Xj q.size (u-q.late) r)=(R.filter fun r=>!Xj q.size (u-q.late) r).map (Xn q.size u):=by
     rw [List.filter_map];rfl
    have N3:YG hB hj al cl ((R.map (Xn q.size u)).filter fun r=>!Xj q.size (u-q.late) r):=by
     refine N0.some_of lj ?_
     rw [efl,bU,fN];exact V
    refine hK h170 (Hp.le_trans l0 (Hp.le_trans N0.le0 O170.le)) ⟨hB,hj,a1,n1,c1,a2,n2,c2,a3,n3,c3,ar,cr,af,cf,al,cl,aw,cw,_,RW,l0,Q,N3,?_,Qmx (Qmn e1),?_,e3⟩
    ·rw [efl,bU];show QC hj h170 [Zz g 50 (csM a1 n1 c1 a2 n2 c2 a3 n3 c3 q ar (st2.rd.set p (st2.rd.getD p 0+1)).length cr af (see st2.far p e.1).length cf al (R.filter fun r=>!Xj q.size (u-q.late) r).length cl st2.late aw RW.length cw),⟨3,1,ar,(st2.rd.set p (st2.rd.getD p 0+1)).length,cr,(st2.rd.set p (st2.rd.getD p 0+1)).map fun n:Nat=>vi n⟩,⟨3,1,af,(see st2.far p e.1).length,cf,(see st2.far p e.1).map vi⟩,owW aw cw RW]
     rw [hlr,hsl2];exact Oj
    ·show QO RW=(st2.rows++(NO q.size u st2.pn).map (QaT (Qd q))).map ZI;rw [e2,cD,QoN e1 fun p hp r hr=>(HB2.pa p hp).2.2.2 r hr]
  ·rw [bE hall];have hfc:Wo q.delay (see st2.far p e.1)=(0,false):=by unfold Wo;rw [bE hall]
   have hend:MG q (Xf p e st2)=Xf p e st2:=by unfold MG;rw [hfar,hfc];rfl
   rw [hend] at hK;refine⟨_,_,rfl,fun _=>?_,fun e0=>(by cases e0)⟩
   refine hK h105 (Hp.le_trans l0 lBh) ⟨hB,hP,a1,n1,c1,a2,n2,c2,a3,n3,c3,ar,cr,af,cf,ap,cp,aw,cw,R,RW,l0,Q,N0,?_,e1,e2,e3⟩
   show QC hP h105 [Zz g 50 (csM a1 n1 c1 a2 n2 c2 a3 n3 c3 q ar (st2.rd.set p (st2.rd.getD p 0+1)).length cr af (see st2.far p e.1).length cf ap R.length cp st2.late aw RW.length cw),⟨3,1,ar,(st2.rd.set p (st2.rd.getD p 0+1)).length,cr,(st2.rd.set p (st2.rd.getD p 0+1)).map fun n:Nat=>vi n⟩,⟨3,1,af,(see st2.far p e.1).length,cf,(see st2.far p e.1).map vi⟩,owW aw cw RW]
   rw [hlr,hsl2];exact O105
 clear_value J87;refine⟨fun e0=>?_,fun e0=>?_⟩
 ·have hw:Yu q (st.far.getD p 0) e st=(ZK e.1 q.size q.slide).foldl (Xu q (st.far.getD p 0) e) st:=by unfold Yu;rw [bH e0]
  rw [hw] at hJ;have hsb:=JZ B E;have hsm:=VY B (e:=e);refine O.frame (QhJ (by omega) (by omega) (by omega) (by omega) (by omega) fun a13 n13 c13 hk lk SS hnew h12 l12 O12=>⟨_,_,_,rfl,?_⟩)
  obtain⟨hB1,lB1,tr1,N1⟩:=N0.rebase lk hnew;have hn13:=SS.1;generalize ZK e.1 q.size q.slide=ss at *
  have S1:SlI hB1 a13 n13 ss:=⟨SS.1,tr1 SS.2⟩;refine⟨fun vs hh=>∃(k:Nat) (hB hP:Hp) (ap:OaT) (cp:Nat) (aw:OaT) (cw:Nat) (R:List PN) (RW:List (XA Vl (Bool × PK))),vs=[vi k]/\k<=ss.length/\h0.le hB/\SlI hB a13 n13 ss/\QAt hB q a1 n1 a2 n2 a3 n3/\YG hB hP ap cp R /\
    QC hP hh [Zz g 50 (csM a1 n1 c1 a2 n2 c2 a3 n3 c3 q ar st.rd.length cr af st.far.length cf ap R.length cp ((ss.take k).foldl (Xu q (st.far.getD p 0) e) st).late aw RW.length cw),owR ar cr st.rd,owF af cf st.far,owW aw cw RW] /\
    R.map pnC=((ss.take k).foldl (Xu q (st.far.getD p 0) e) st).pn.map (pnS q.aggs.length)/\QO RW=((ss.take k).foldl (Xu q (st.far.getD p 0) e) st).rows.map ZI/\∀ r ∈ RW,Qf hB r.2.1.1 (r.2.2.flatMap Qq),
   fun vs hh=>ss.length-(Qm vs 0).toNat,⟨0,hB1,hk,ap,cp,aw,cw,R,RW,rfl,cH _,Hp.le_trans l0 lB1,S1,Q.le lB1,N1,O12,e1,e2,fun r hr=>(e3 r hr).le lB1⟩,?_⟩
  clear X0 l0 Q N0 O e1 e2 e3 hblk lBh lk SS hnew N1 O12 S1 tr1 lB1;clear R RW hB hP ap cp aw cw;rintro vs hh ⟨k,hB,hP,ap,cp,aw,cw,R,RW,rfl,hk',l0,S1,Q,N0,O,e1,e2,e3⟩;have hblk:=O.blk (bS ..);refine⟨k,rfl,fun e4=>?_,fun e4=>?_⟩
  ·have hlt:k<ss.length:=by have:=bC e4;omega
   have lBh:=Hp.le_trans N0.le0 O.le;obtain⟨b,o,ea,hc⟩:=(S1.le lBh).get (i:=k) (by omega)
   have hgd:ss.getD k 0=ss[k]:=by rw [bK,bD hlt];rfl
   have tk:ss.take (k+1)=ss.take k++[ss[k]]:=bJ hlt;have hsk:=hsb _ (cM hlt);have HBk:=K6 (far:=st.far.getD p 0) B E (ss.take k) HB (fun s hs=>hsb s (jO hs))
   rw [bV,dX hk'] at HBk;rw [hgd] at hc;generalize ss[k]=s at *
   generalize hstk:(ss.take k).foldl (Xu q (st.far.getD p 0) e) st=stk at *
   intro J83;have hJ2:∀ h',(∃(hB hP:Hp) (ap:OaT) (cp:Nat) (aw:OaT) (cw:Nat) (R:List PN) (RW:List (XA Vl (Bool × PK))),h0.le hB/\SlI hB a13 n13 ss/\QAt hB q a1 n1 a2 n2 a3 n3/\YG hB hP ap cp R /\
     QC hP h' [Zz g 50 (csM a1 n1 c1 a2 n2 c2 a3 n3 c3 q ar st.rd.length cr af st.far.length cf ap R.length cp (Xu q (st.far.getD p 0) e stk s).late aw RW.length cw),owR ar cr st.rd,owF af cf st.far,owW aw cw RW] /\
     R.map pnC=(Xu q (st.far.getD p 0) e stk s).pn.map (pnS q.aggs.length)/\QO RW=(Xu q (st.far.getD p 0) e stk s).rows.map ZI/\∀ r ∈ RW,Qf hB r.2.1.1 (r.2.2.flatMap Qq))->J83 h':=by
    rintro h' ⟨hB,hP,ap,cp,aw,cw,R,RW,q1,q2,q3,q4,q5,q6,q7,q8⟩;refine⟨_,iW,⟨k+1,hB,hP,ap,cp,aw,cw,R,RW,rfl,by omega,q1,q2,q3,q4,?_,?_,?_,q8⟩,by simp [Qm];omega⟩
    ·rw [tk,f7,hstk];exact q5
    ·rw [tk,f7,hstk];exact q6
    ·rw [tk,f7,hstk];exact q7
   clear_value J83; -- how far it is known of the part
   obtain⟨bF,eF,hcF⟩:=SlI.get' (sz:=1) (O.ownV (s:=owF af cf st.far) (by simp)) (i:=p) (by show p<st.far.length;omega)
   have eF:af=some ⟨bF,0,none⟩:=eF;have hbF:af=some ⟨bF,0,none⟩/\(0:Int)<=(p:Int)/\(p:Int)<((st.far.length:Nat):Int):=⟨eF,by omega,by omega⟩
   have hbs:a13=some ⟨b,o,none⟩/\(0:Int)<=(k:Int)/\(k:Int)<((n13:Nat):Int):=⟨ea,by omega,by omega⟩
   refine⟨_,_,_,Qc hblk rfl,bF,0,hbF,st.far.getD p 0,hcF,b,o,fun _=>hbs,s,fun _=>hc,_,fun _=>iW,_,fun _=>iW,_,_,_,fun _=>Qc hblk rfl,bF,0,fun _=>hbF,st.far.getD p 0,fun _=>hcF,_,fun _=>iW,?_⟩
   have hl:(bif (decide ((st.far.getD p 0:Int)>=0)) then(decide ((s+q.size+q.late:Int)<=st.far.getD p 0-q.delay)) else false)=QiT q (st.far.getD p 0) s:=by
    unfold QiT;by_cases h1:0<=st.far.getD p 0
    ·rw [cC h1];rfl
    ·rw [cE h1];rfl
   rw [hl];refine⟨fun e5=>?_,fun e5=>?_⟩
   ·have hll:=HBk.ll;have ew:Xu q (st.far.getD p 0) e stk s={ stk with late:=stk.late+1 }:=by unfold Xu;rw [bH e5]
    rw [ew] at hJ2;refine⟨_,Qc hblk rfl,_,iW,?_⟩
    refine O.put (j:=0) rfl (i:=10) (bP rfl) fun h38 O38 _=>hJ2 h38 ⟨hB,hP,ap,cp,aw,cw,R,RW,l0,S1,Q,N0,O38,e1,e2,e3⟩
   ·have ew:Xu q (st.far.getD p 0) e stk s={ stk with pn:=KX (s,Zr q e) (Qn q e) stk.pn,rows:=stk.rows++MN (Qd q) (s,Zr q e) (Qn q e) (atP (s,Zr q e) stk.pn) }:=by unfold Xu;rw [bE (by rw [e5];decide)]
    rw [ew] at hJ2;have hco:=Qg9 HBk e1;have hRl:R.length=stk.pn.length:=by have:=congrArg List.length e1;simpa using this
    have hpl:=HBk.pl;have hwl:=HBk.wl;have hWl:RW.length=stk.rows.length:=by have:=congrArg List.length e2;simpa [QO] using this
    have hkl:=QA q;have hv:QcE q ((s,Zr q e),Qn q e):=⟨by simp [Qn],Gi B E,hsk⟩
    refine⟨_,_,_,Qc hblk rfl,b,o,hbs,s,hc,?_⟩
    refine Qkt (e:=e) (Q.le lBh) B ⟨_,_,rfl,hc,Qc hblk rfl,?_⟩
    refine O.frame (QjF (K:=(s,Zr q e)) N0 (by omega) (by omega) fun hk ap' cp' R2 i r Nk hr hrk hcase hins h50 l50 O50=>⟨_,_,_,some ⟨r.b,0,none⟩,rfl,?_⟩)
    obtain⟨rs,f1,f2,f3,f4,f5⟩:=Qm9 (v:=Qn q e) HBk e1 hr hrk (hn1▸hcase) hins;have hcl:r.cs.length=q.aggs.length:=by rw [f1];exact UR fun x hx=>(f2 x hx).l
    have hcb:∀ l ∈ r.cs,l.length<=900000/\∀ v ∈ l,ZW v:=by
     rw [f1];intro l hl';obtain⟨k1,k2⟩:=NG (fun x hx=>(f2 x hx).v) l hl'
     exact⟨by omega,k2⟩
    have hvl:(Qn q e).length=r.cs.length:=by rw [hcl];simp [Qn]
    have hcl2:=Qef hvl;have fa:∀ x ∈ rs++[Qn q e],QcE q ((s,Zr q e),x):=fun x hx=>by
     rcases cP.1 hx with q1|q1
     ·exact f2 x q1
     ·rw [cB.1 q1];exact hv
    have f1':X8 r.cs (Qn q e)=Yh q.aggs.length (rs++[Qn q e]):=by rw [XU,f1]
    have hcb2:∀ l ∈ X8 r.cs (Qn q e),l.length<=1000000/\∀ v ∈ l,ZW v:=by
     rw [f1'];intro l hl';obtain⟨k1,k2⟩:=NG (fun x hx=>(fa x hx).v) l hl'
     rw [bO,fG] at k1;exact⟨by omega,k2⟩
    have out1:(List.zipWith Mz (Qd q) r.cs).map ZS=Yx (Qd q) rs:=by rw [f1];exact Qed f2
    have out2:(List.zipWith Mz (Qd q) (X8 r.cs (Qn q e))).map ZS=Yx (Qd q) (rs++[Qn q e]):=by rw [f1'];exact Qed fa
    refine O50.put (j:=0) rfl (i:=9) (bP rfl) fun h53 O53 _=>?_
    refine O53.frame (JC (r:=r) (Q.le Nk.le0) B (Nk.cells hr).1 (Nk.cells hr).2 hcl (fun l hl'=>⟨by have:=(hcb l hl').1;omega,(hcb l hl').2⟩) fun a59 c59 hk2 V59 h55 l55 O55=>⟨_,_,_,_,_,_,rfl,?_⟩)
    rw [out1] at V59 ⊢;obtain⟨hB2,lB2,tr2,N2⟩:=Nk.rebase V59.le0 (g:=a59) (fun b o hb=>V59.new b (by rw [hb,Qw.at0 (Qg.own V59) b o hb]))
    have o1:=tr2 (Qg.row V59);refine O55.frame (QfT (e:=e) (Q.le lB2) B N2 hr hcl (fun l hl'=>by have:=(hcb l hl').1;omega) fun hk3 N3 h61 l61 O61=>⟨rfl,?_⟩)
    have hil:=(bI.1 hr).1
    have hr3:(R2.set i { r with cs:=X8 r.cs (Qn q e) })[i]?=some { r with cs:=X8 r.cs (Qn q e) }:=fC hil
    refine O61.frame (JC (r:={ r with cs:=X8 r.cs (Qn q e) }) (Q.le (Hp.le_trans lB2 N3.le0)) B (N3.cells hr3).1 (N3.cells hr3).2 (by rw [<-hcl];exact hcl2) hcb2 fun a67 c67 hk4 V67 h63 l63 O63=>⟨_,_,_,_,_,_,rfl,?_⟩)
    simp only at V67 ⊢;rw [out2] at V67 ⊢;obtain⟨hB4,lB4,tr4,N4⟩:=N3.rebase V67.le0 (g:=a67) (fun b o hb=>V67.new b (by rw [hb,Qw.at0 (Qg.own V67) b o hb]))
    have o2:=tr4 (Qg.row V67);have lB04:=Hp.le_trans lB2 lB4;have lBk:=Hp.le_trans N4.le0 O63.le;have hol:(Yx (Qd q) rs).length<=1000000:=by rw [G7 f2];omega
    refine QbC ⟨rfl,(o1.le lB4).le lBk⟩ ⟨rfl,o2.le lBk⟩ hol ⟨_,rfl,r.b,0,rfl,r.told,Qc (O63.le _ _ (N4.cells hr3).1) rfl,?_⟩
    have hR2l:(R2.set i { r with cs:=X8 r.cs (Qn q e) }).length=R2.length:=dG
    have hblk63:=O63.blk (bS ..);refine⟨fun e6=>?_,fun e6=>?_⟩
    ·have e7:r.told=true/\Yx (Qd q) rs≠Yx (Qd q) (rs++[Qn q e]):=by
      cases ht':r.told with
      | false=>rw [ht'] at e6;cases e6
      | true=>
       rw [ht'] at e6;refine⟨rfl,fun q1=>?_⟩
       rw [cC q1] at e6;cases e6
     rw [bH e7] at f4;rw [f4] at hJ2;refine⟨_,_,_,Qc hblk63 rfl,?_⟩
     intro b75 hb75;refine O63.app (j:=3) rfl Qj8 (tn:=95) (m:=2) (news:=[vb true,vi r.k.1,vi r.k.2.1,vi r.k.2.2,vsl a59 (Yx (Qd q) rs).length c59,vb false,vi r.k.1,vi r.k.2.1,vi r.k.2.2,vsl a67 (Yx (Qd q) (rs++[Qn q e])).length c67]) hb75 rfl (by
      intro u hu;simp only [bX,dB,fZ] at hu;rcases hu with rfl|rfl|rfl|rfl|rfl|rfl|rfl|rfl|rfl|rfl<;>rfl) (by simp only [owW];omega) (by simp only [owW];omega) fun aw' cw' h78 O78 _=>⟨_,_,_,rfl,?_⟩
     simp only [dQ,cZ] at O78;refine O78.put (j:=0) rfl (i:=11) (bP rfl) fun h80 O80 _=>?_
     refine hJ2 h80 ⟨hB4,hk4,ap',cp',aw',cw',R2.set i { r with cs:=X8 r.cs (Qn q e) },RW++[((true,(s,Zr q e)),(a59,c59),Yx (Qd q) rs),((false,(s,Zr q e)),(a67,c67),Yx (Qd q) (rs++[Qn q e]))],Hp.le_trans l0 lB04,S1.le lB04,Q.le lB04,N4,?_,f5,?_,?_⟩
     ·rw [hR2l];have er:owW aw' cw' (RW++[((true,(s,Zr q e)),(a59,c59),Yx (Qd q) rs),((false,(s,Zr q e)),(a67,c67),Yx (Qd q) (rs++[Qn q e]))])=⟨95,5,aw',RW.length+2,cw',RW.flatMap (Zc QT)++[vb true,vi r.k.1,vi r.k.2.1,vi r.k.2.2,vsl a59 (Yx (Qd q) rs).length c59,vb false,vi r.k.1,vi r.k.2.1,vi r.k.2.2,vsl a67 (Yx (Qd q) (rs++[Qn q e])).length c67]⟩:=by
       unfold owW;rw [bO,cX,hrk];rfl
      rw [er,bO];exact O80
     ·rw [cD,<-e2];unfold QO;rw [cD];rfl
     ·intro r' hr';rcases cP.1 hr' with q1|q1
      ·exact(e3 r' q1).le lB04
      ·simp only [bX,dB,fZ] at q1;rcases q1 with rfl|rfl
       ·exact o1.le lB4
       ·exact o2
    ·have e7:¬(r.told=true/\Yx (Qd q) rs≠Yx (Qd q) (rs++[Qn q e])):=by rintro⟨q1,q2⟩;rw [q1,cE q2] at e6;cases e6
     rw [bE e7] at f4;rw [f4,d8] at hJ2;refine hJ2 h63 ⟨hB4,hk4,ap',cp',aw,cw,R2.set i { r with cs:=X8 r.cs (Qn q e) },RW,Hp.le_trans l0 lB04,S1.le lB04,Q.le lB04,N4,?_,f5,e2,fun r' hr'=>(e3 r' hr').le lB04⟩
     rw [hR2l];exact O63
  ·have hge:k=ss.length:=by have:=bB e4;omega
   rw [hge,dR] at O e1 e2;exact hJ hh ⟨hB,hP,ar,cr,af,cf,ap,cp,aw,cw,R,RW,l0,Q,N0,O,e1,e2,e3⟩
 ·have hw:Yu q (st.far.getD p 0) e st=st:=by unfold Yu;rw [bE (by rw [e0];decide)]
  rw [hw] at hJ;exact hJ h ⟨hB,hP,ar,cr,af,cf,ap,cp,aw,cw,R,RW,l0,Q,N0,O,e1,e2,e3⟩
theorem Qjn {u0:OtT}{u1:Int}{h:Hp}{R:RtT}(H:((Option.isNone u0)=true->R (vb (decide (u1=0))) h)/\((Option.isNone u0)=false->∃ x2 p3,Rd Pg (Instr.typeAssert (ifv u0) 59 119 true) h (Qe [vi x2,vb p3])/\R (vb (cond (cond p3 (decide (u1>0)) false) (decide (x2=u1)) false)) h)):Qa Pg 15 [ifv u0,vi u1] h R:=callO Tryz.func15 [.one (.ifc u0),.one (.v (vi u1))] H
theorem Qil (v:Value)(w:World):(Instr.typeAssert (.iface 119 v) 59 119 true).run Pg w=.ok (.tuple #[v,.bool true]) w:=by kernel_rfl
theorem VR {f g:Int}(hf:0<=f){h:Hp}{R:RtT}(hK:R (vb (decide (f=g))) h):Qa Pg 15 [ifv (QG f),vi g] h R:=by
 refine Qjn ?_
 by_cases h0:f=0
 ·have e:QG f=none:=by simp [QG,h0]
  rw [e];refine⟨fun _=>?_,fun e=>by simp at e⟩
  have:decide (g=0)=decide (f=g):=by rw [h0];exact d9.2 eq_comm
  rw [this];exact hK
 ·have e:QG f=some (119,vi f):=by simp [QG,h0]
  rw [e];refine⟨fun e=>by simp at e,fun _=>⟨f,true,fun w _=>Qil _ w,?_⟩⟩
  have:(bif (bif true then(decide (g>0)) else false) then(decide (f=g)) else false)=decide (f=g):=by
   by_cases hg:f=g
   ·simp [hg];omega
   ·simp [hg]
  rw [this];exact hK
open Go.Txt
def Qph (k:PK)(v:Value):List Value:=[vi k.1,vi k.2.1,vi k.2.2,v]
end Go.Proofs.YthicpjafcpfjoaaGreatDoor
namespace Go.Proofs.YthicpjafcpfjoaaGreatDoor
open Go Go.Vc
section
variable {h:Hp}{R':RtT}
theorem QcG {l:List Vl}{a b:OaT}{c d:Nat}(S:SlP Qq h a l.length l)(S2:SlP Qq h b l.length l)(hn:l.length<=1000000)(hK:R' (vb true) h):Qa Pg 52 [vsl a l.length c,vsl b l.length d] h R':=by
 refine U7 ?_
 refine⟨fun e=>absurd rfl (bC e),fun _=>?_⟩
 refine⟨fun vs hh=>hh=h/\∃ i:Nat,vs=[vi i]/\i<=l.length,fun vs hh=>l.length-(Qm vs 0).toNat,⟨rfl,0,rfl,cH _⟩,?_⟩
 rintro vs hh ⟨rfl,i,rfl,hi⟩;refine⟨i,rfl,fun e=>?_,fun _=>hK⟩
 have hlt:i<l.length:=by have:=bC e;omega
 have hx:l[i]?=some l[i]:=bD hlt
 obtain⟨b1,o1,e1,r1⟩:=S.get (sz:=2) (fun _=>rfl) (by decide) hx
 obtain⟨b2,o2,e2,r2⟩:=S2.get (sz:=2) (fun _=>rfl) (by decide) hx
 refine⟨b1,o1,⟨e1,by omega,by omega⟩,_,_,by rw [bG];exact r1,b2,o2,⟨e2,by omega,by omega⟩,_,_,by rw [bG];exact r2,!decide (l[i]=l[i]),QcT,fun e3=>(by simp at e3),fun _=>⟨_,iW,⟨rfl,i+1,rfl,by omega⟩,by simp [Qm];omega⟩⟩
theorem QfF {k:PK}{l:List Vl}{a b:OaT}{c d:Nat}(S:SlP Qq h a l.length l)(S2:SlP Qq h b l.length l)(hn:l.length<=1000000)(hK:R' (vb true) h):Qa Pg 63 [vag (Qph k (vsl a l.length c)),vag (Qph k (vsl b l.length d))] h R':=by
 refine QfI ?_
 refine QcG S S2 hn ⟨_,rfl,decide (k.2=k.2),fun _=>XI,?_⟩
 rw [cC (rfl:k.1=k.1),cC (rfl:k.2=k.2)];exact hK
end
theorem QhY {u0:OaT}{u1 u2:Nat}{u3:OaT}{u4 u5:Nat}{h:Hp}{R:RtT}(H:R (vb (cond (decide ((u1:Int)<=130)) (decide ((u4:Int)<=200)) false)) h):Qa Pg 7 [vsl u0 u1 u2,vsl u3 u4 u5] h R:=callO Tryz.func7 [.one (.v (vsl u0 u1 u2)),.one (.v (vsl u3 u4 u5))] H
theorem Qcy {q:Qy}{a1:OaT}{n1 c1:Nat}{a2:OaT}{n2 c2:Nat}{a3:OaT}{n3 c3:Nat}{p:Nat}{h:Hp}{R':RtT}(Q:QAt h q a1 n1 a2 n2 a3 n3)(hp:p<=1000)
  (hK:∀ g h',h.le h'->Kl q h h' g (YZ p)->R' (vhp g 0) h'):Qa Pg 12 [qV a1 n1 c1 a2 n2 c2 a3 n3 c3 q,vi (p:Int)] h R':=by
 refine QeY (by omega) fun b aR cR aF cF h' l hb hB OR OF fR fF=>hK b h' l ⟨h,h,a1,n1,c1,a2,n2,c2,a3,n3,c3,aR,cR,aF,cF,none,0,none,0,[],[],Hp.le_refl h,Q,YG.nil (Hp.le_refl h),?_,rfl,rfl,fun r hr=>(by cases hr)⟩
 rw [bG] at hB OR OF;have e1:((List.replicate p (0:Int)).map vi)=(YZ p).rd.map fun n:Nat=>vi n:=by
  show _=(List.replicate p 0).map _;rw [gI,gI];rfl
 rw [e1] at OR;have l1:(YZ p).rd.length=p:=dK ..;have l2:(YZ p).far.length=p:=dK ..;have k1:(Zz b 50 (csM a1 n1 c1 a2 n2 c2 a3 n3 c3 q aR (YZ p).rd.length cR aF (YZ p).far.length cF none 0 0 (YZ p).late none 0 0)).own h':=by
  refine GR ?_
  rw [l1,l2];exact hB
 have k2:(owR aR cR (YZ p).rd).own h':=by show Qw _ _ _ _ (YZ p).rd.length _ _;rw [l1];exact OR
 have k3:(owF aF cF (YZ p).far).own h':=by show Qw _ _ _ _ (YZ p).far.length _ _;rw [l2];exact OF
 refine⟨l,fun s hs=>?_,fun s hs x hx=>?_,?_⟩
 ·simp only [bX,dB,fZ] at hs;rcases hs with rfl|rfl|rfl|rfl
  ·exact k1
  ·exact k2
  ·exact k3
  ·exact Qw.nil ..
 ·simp only [bX,dB,fZ] at hs;rcases hs with rfl|rfl|rfl|rfl
  ·have hx:some (⟨b,0,none⟩:Addr)=some ⟨x,0,none⟩:=hx;cases hx;exact hb
  ·exact(fR x hx).1
  ·exact(fF x hx).1
  ·cases hx
 ·have w:∀{s:Ow} {x:Nat},¬(owW none 0 []).at x:=fun {s x} hx=>by cases hx
  refine List.Pairwise.cons (fun s hs x hx hy=>?_) (List.Pairwise.cons (fun s hs x hx hy=>?_) (List.Pairwise.cons (fun s hs x hx hy=>?_) (List.Pairwise.cons (fun s hs=>(by cases hs)) List.Pairwise.nil)))
  ·have hx:some (⟨b,0,none⟩:Addr)=some ⟨x,0,none⟩:=hx;cases hx;simp only [bX,dB,fZ] at hs;rcases hs with rfl|rfl|rfl
   ·exact(fR _ hy).2 rfl
   ·exact(fF _ hy).2.1 rfl
   ·cases hy
  ·simp only [bX,dB,fZ] at hs;rcases hs with rfl|rfl
   ·exact(fF _ hy).2.2 hx
   ·cases hy
  ·rw [cB.1 hs] at hy;cases hy
theorem QlL {q:Qy}{h0 h:Hp}{g:Nat}{st:En}{R':RtT}(X:Kl q h0 h g st)(hK:R' (vi (st.pn.length:Nat)) h):Qa Pg 28 [vhp g 0] h R':=by
 refine QbW ?_
 obtain⟨hB,hP,a1,n1,c1,a2,n2,c2,a3,n3,c3,ar,cr,af,cf,ap,cp,aw,cw,R,RW,l0,Q,N,O,e1,e2,e3⟩:=X;have hRl:R.length=st.pn.length:=by have:=congrArg List.length e1;simpa using this
 refine⟨_,_,_,Qc (O.blk (bS ..)) rfl,?_⟩
 rw [hRl];exact hK
theorem QfS {L:List ((Bool × PK) × List Vl)}{a b:OaT}{c d:Nat}{h:Hp}{R':RtT}(T:Ky Qq QT h a L.length L)(T2:Ky Qq QT h b L.length L)(hn:L.length<=4000000)(hl:∀ x ∈ L,x.2.length<=1000000)(hK:R' (vb true) h):Qa Pg 21 [vsl a L.length c,vsl b L.length d] h R':=by
 refine Qe9 ?_
 refine⟨fun e=>absurd rfl (bC e),fun _=>?_⟩
 refine⟨fun vs hh=>hh=h/\∃ i:Nat,vs=[vi i]/\i<=L.length,fun vs hh=>L.length-(Qm vs 0).toNat,⟨rfl,0,rfl,cH _⟩,?_⟩
 rintro vs hh ⟨rfl,i,rfl,hi⟩;refine⟨i,rfl,fun e=>?_,fun _=>hK⟩
 have hlt:i<L.length:=by have:=bC e;omega
 have hx:L[i]?=some L[i]:=bD hlt
 have hm:=hl _ (cM hlt);generalize L[i]=x at hx hm;obtain⟨k,l⟩:=x;obtain⟨b1,o1,a1,c1,e1,r1,S1⟩:=T.row JM (by decide) hx
 obtain⟨b2,o2,a2,c2,e2,r2,S2⟩:=T2.row JM (by decide) hx
 have hb1:a=some ⟨b1,o1,none⟩/\(0:Int)<=(i:Int)/\(i:Int)<((L.length:Nat):Int):=⟨e1,by omega,by omega⟩
 have hb2:b=some ⟨b2,o2,none⟩/\(0:Int)<=(i:Int)/\(i:Int)<((L.length:Nat):Int):=⟨e2,by omega,by omega⟩
 have q1:hh.row b1 (o1+i*5+1) 4=some (Qph k.2 (vsl a1 l.length c1)):=Hp.row_sub r1 (i:=1) (k:=4) (by decide)
 have q2:hh.row b2 (o2+i*5+1) 4=some (Qph k.2 (vsl a2 l.length c2)):=Hp.row_sub r2 (i:=1) (k:=4) (by decide)
 refine⟨b1,o1,hb1,_,_,_,_,_,_,q1,b2,o2,hb2,_,_,_,_,_,_,q2,?_⟩
 refine QfF (k:=k.2) S1 S2 hm ⟨_,rfl,b1,o1,hb1,_,Hp.row_cell r1 (i:=0) rfl,b2,o2,hb2,_,Hp.row_cell r2 (i:=0) rfl,_,QnJ (by kernel_rfl),?_⟩
 refine⟨fun e3=>?_,fun _=>⟨_,iW,⟨rfl,i+1,rfl,by omega⟩,by simp [Qm];omega⟩⟩
 simp at e3
theorem Wr.see {q:Qy}{h0 h:Hp}{g:Nat}{st:En}(X:Wr q h0 h g st):∃(a1:OaT) (n1 c1:Nat) (a2:OaT) (n2 c2:Nat) (a3:OaT) (n3 c3:Nat) (qf:Qy) (ak:OaT) (nk ck:Nat) (ar:OaT) (cr:Nat) (ac:OaT) (cc:Nat) (tb:OaT) (tc:Nat) (aw:OaT) (cw:Nat),
  h g=some (Qb (Kg a1 n1 c1 a2 n2 c2 a3 n3 c3 qf ak nk ck ar st.rd.length cr ac st.far.length cc tb st.pn.length tc st.late aw (st.rows.map ZI).length cw) 132)/\SlI h ar st.rd.length (st.rd.map fun n:Nat=>(n:Int))/\SlI h ac st.far.length st.far/\Ky Qq QT h aw (st.rows.map ZI).length (st.rows.map ZI):=by
 obtain⟨qf,hi,a1,n1,c1,a2,n2,c2,a3,n3,c3,ak,nk,ck,ar,cr,ac,nc,cc,tb,tc,aw,cw,R,RW,l0,M,I⟩:=X;have hRl:R.length=st.pn.length:=by have:=congrArg List.length I.p;simpa using this
 have hWl:RW.length=(st.rows.map ZI).length:=by have:=congrArg List.length I.w;simpa [QO] using this
 have hnc:nc=st.far.length:=I.c.1;subst hnc;refine⟨a1,n1,c1,a2,n2,c2,a3,n3,c3,qf,ak,nk,ck,ar,cr,ac,cc,tb,tc,aw,cw,?_,?_,I.c.le M.le0,⟨RW,I.w,rfl,M.w.row,fun r hr=>(I.wi r hr).le M.le0⟩⟩
 ·rw [<-hRl,<-hWl];exact M.blk
 ·have:=M.r;rw [QhS] at this;exact this.sli
theorem Kl.see {q:Qy}{h0 h:Hp}{g:Nat}{st:En}(X:Kl q h0 h g st):∃(a1:OaT) (n1 c1:Nat) (a2:OaT) (n2 c2:Nat) (a3:OaT) (n3 c3:Nat) (ar:OaT) (cr:Nat) (af:OaT) (cf:Nat) (ap:OaT) (cp:Nat) (aw:OaT) (cw:Nat),
  h g=some (Qb (csM a1 n1 c1 a2 n2 c2 a3 n3 c3 q ar st.rd.length cr af st.far.length cf ap st.pn.length cp st.late aw (st.rows.map ZI).length cw) 50)/\SlI h ar st.rd.length (st.rd.map fun n:Nat=>(n:Int))/\SlI h af st.far.length st.far/\Ky Qq QT h aw (st.rows.map ZI).length (st.rows.map ZI):=by
 obtain⟨hB,hP,a1,n1,c1,a2,n2,c2,a3,n3,c3,ar,cr,af,cf,ap,cp,aw,cw,R,RW,l0,Q,N,O,e1,e2,e3⟩:=X;have hRl:R.length=st.pn.length:=by have:=congrArg List.length e1;simpa using this
 have hWl:RW.length=(st.rows.map ZI).length:=by have:=congrArg List.length e2;simpa [QO] using this
 have lB:=Hp.le_trans N.le0 O.le;refine⟨a1,n1,c1,a2,n2,c2,a3,n3,c3,ar,cr,af,cf,ap,cp,aw,cw,?_,?_,(O.ownV (s:=owF af cf st.far) (by simp)).sli,⟨RW,e2,rfl,(O.ownV (s:=owW aw cw RW) (by simp)).row,fun r hr=>(e3 r hr).le lB⟩⟩
 ·rw [<-hRl,<-hWl];exact O.blk (bS ..)
 ·have:=O.ownV (s:=owR ar cr st.rd) (by simp)
  unfold owR at this;simp only [QhS] at this;exact this.sli
theorem Qa8 {u0 u1:Nat}{h:Hp}{R:RtT}(H:∃ a1 n1 c1 a2 n2 c2 a3 n3 c3 x4 x5 x6 x7,Hp.row h u0 u1 7=some [vsl a1 n1 c1,vsl a2 n2 c2,vsl a3 n3 c3,vi x4,vi x5,vi x6,vi x7]/\∃ a8 n8 c8,Hp.cell h u0 (u1+7)=some (vsl a8 n8 c8)/\∃ a9 n9 c9,Hp.cell h u0 (u1+8)=some (vsl a9 n9 c9)/\∃ x10,Hp.cell h u0 (u1+10)=some (vi x10)/\∃ a11 n11 c11,Hp.cell h u0 (u1+11)=some (vsl a11 n11 c11)/\Qh Pg (Builtin.append_ #[46,46] 46 #[vsl none 0 0,vsl a8 n8 c8]) h fun v12 h13=>∃ a14 n14 c14,v12=vsl a14 n14 c14/\Hp.cell h13 u0 (u1+11)=some (vsl a11 n11 c11)/\Hp.cell h13 u0 (u1+10)=some (vi x10)/\Hp.cell h13 u0 (u1+8)=some (vsl a9 n9 c9)/\Hp.row h13 u0 u1 7=some [vsl a1 n1 c1,vsl a2 n2 c2,vsl a3 n3 c3,vi x4,vi x5,vi x6,vi x7]/\Qh Pg (Builtin.append_ #[46,46] 46 #[vsl none 0 0,vsl a9 n9 c9]) h13 fun v15 h16=>∃ a17 n17 c17,v15=vsl a17 n17 c17/\Hp.cell h16 u0 (u1+11)=some (vsl a11 n11 c11)/\Hp.cell h16 u0 (u1+10)=some (vi x10)/\Hp.row h16 u0 u1 7=some [vsl a1 n1 c1,vsl a2 n2 c2,vsl a3 n3 c3,vi x4,vi x5,vi x6,vi x7]/\Qh Pg (Builtin.append_ #[48,48] 48 #[vsl none 0 0,vsl a11 n11 c11]) h16 fun v18 h19=>∃ a20 n20 c20,v18=vsl a20 n20 c20/\Hp.cell h19 u0 (u1+10)=some (vi x10)/\Hp.row h19 u0 u1 7=some [vsl a1 n1 c1,vsl a2 n2 c2,vsl a3 n3 c3,vi x4,vi x5,vi x6,vi x7]/\∀ b21,h19 b21=none->let h22:=Hp.set h19 b21 (Qb [vsl a1 n1 c1,vsl a2 n2 c2,vsl a3 n3 c3,vi x4,vi x5,vi x6,vi x7,vsl a14 n14 c14,vsl a17 n17 c17,vsl none 0 0,vi x10,vsl a20 n20 c20] 50);∃(I24:LtT) (m25:LmT),I24 [vi 0] h22/\∀ vs26 h27,I24 vs26 h27->∃ x28,vs26=[vi x28]/\∃ a29 n29 c29,Hp.cell h27 u0 (u1+9)=some (vsl a29 n29 c29)/\((decide (x28<(n29:Int)))=true->∃ a32 n32 c32,Hp.cell h27 u0 (u1+9)=some (vsl a32 n32 c32)/\∃ b33 o34,Ix a32 b33 o34 x28 n32/\∃ q35,Hp.cell h27 b33 (o34+x28.toNat*1)=some (vp q35)/\∃ b36 o37,q35=some ⟨b36,o37,none⟩/\∃ x38,Hp.cell h27 b36 o37=some (vi x38)/\∃ a39 n39 c39,Hp.cell h27 u0 (u1+9)=some (vsl a39 n39 c39)/\∃ b40 o41,Ix a39 b40 o41 x28 n39/\∃ q42,Hp.cell h27 b40 (o41+x28.toNat*1)=some (vp q42)/\∃ b43 o44,q42=some ⟨b43,o44,none⟩/\∃ x45 x46,Hp.row h27 b43 (o44+1) 2=some [vi x45,vi x46]/\∃ a47 n47 c47,Hp.cell h27 u0 (u1+9)=some (vsl a47 n47 c47)/\∃ b48 o49,Ix a47 b48 o49 x28 n47/\∃ q50,Hp.cell h27 b48 (o49+x28.toNat*1)=some (vp q50)/\∃ b51 o52,q50=some ⟨b51,o52,none⟩/\∃ p53,Hp.cell h27 b51 (o52+4)=some (vb p53)/\∀ b54,h27 b54=none->let h55:=Hp.set h27 b54 (Qb [vi x38,vi x45,vi x46,vsl none 0 0,vb p53] 110);∃(I57:LtT) (m58:LmT),I57 [vi 0] h55/\∀ vs59 h60,I57 vs59 h60->∃ x61,vs59=[vi x61]/\∃ a62 n62 c62,Hp.cell h60 u0 (u1+9)=some (vsl a62 n62 c62)/\∃ b63 o64,Ix a62 b63 o64 x28 n62/\∃ q65,Hp.cell h60 b63 (o64+x28.toNat*1)=some (vp q65)/\∃ b66 o67,q65=some ⟨b66,o67,none⟩/\∃ a68 n68 c68,Hp.cell h60 b66 (o67+3)=some (vsl a68 n68 c68)/\((decide (x61<(n68:Int)))=true->∃ a71 n71 c71,Hp.cell h60 b54 (0+3)=some (vsl a71 n71 c71)/\∃ a72 n72 c72,Hp.cell h60 u0 (u1+9)=some (vsl a72 n72 c72)/\∃ b73 o74,Ix a72 b73 o74 x28 n72/\∃ q75,Hp.cell h60 b73 (o74+x28.toNat*1)=some (vp q75)/\∃ b76 o77,q75=some ⟨b76,o77,none⟩/\∃ a78 n78 c78,Hp.cell h60 b76 (o77+3)=some (vsl a78 n78 c78)/\∃ b79 o80,Ix a78 b79 o80 x61 n78/\∃ a81 n81 c81,Hp.cell h60 b79 (o80+x61.toNat*1)=some (vsl a81 n81 c81)/\Qh Pg (Builtin.append_ #[91,91] 91 #[vsl none 0 0,vsl a81 n81 c81]) h60 fun v82 h83=>∃ a84 n84 c84,v82=vsl a84 n84 c84/\Hp.cell h83 b54 (0+3)=some (vsl a71 n71 c71)/\∀ b85,h83 b85=none->let h86:=Hp.set h83 b85 (Qb [vsl a84 n84 c84] 91);Qh Pg (Builtin.append_ #[108,108] 108 #[vsl a71 n71 c71,(vsl (some (⟨b85,0,none⟩:Addr)) 1 1)]) h86 fun v87 h88=>∃ a89 n89 c89,v87=vsl a89 n89 c89/\Hp.store h88 b54 (0+3) [vsl a89 n89 c89] fun h90=>∃ x92,IsW x92 (x61+1)/\I57 [vi x92] h90/\m58 [vi x92] h90<m58 vs59 h60)/\((decide (x61<(n68:Int)))=false->∃ a93 n93 c93,Hp.cell h60 b21 (0+9)=some (vsl a93 n93 c93)/\∀ b94,h60 b94=none->let h95:=Hp.set h60 b94 (Qb [vhp b54 0] 107);Qh Pg (Builtin.append_ #[47,47] 47 #[vsl a93 n93 c93,(vsl (some (⟨b94,0,none⟩:Addr)) 1 1)]) h95 fun v96 h97=>∃ a98 n98 c98,v96=vsl a98 n98 c98/\Hp.store h97 b21 (0+9) [vsl a98 n98 c98] fun h99=>∃ x101,IsW x101 (x28+1)/\I24 [vi x101] h99/\m25 [vi x101] h99<m25 vs26 h27))/\((decide (x28<(n29:Int)))=false->R (vhp b21 0) h27)):Qa Pg 13 [vhp u0 u1] h R:=callC ⟨[72,31],[(7,([6],[.one (.int .i64)],[])),(3,([4],[.one (.int .i64)],[]))],[(1,[0,1,2,3,4,5,6,7,9,10,11,12,14,15,16,17,18,19,20,21,8,13,22,23,24,25]),(5,[0,1,2,3,4,5,6,7,8,9,10,11,12,13,14,15,16,17,18,19,20,21,22,23,24,25,26,27,28,29,30,31,32]),(9,[0,1,2,3,4,5,6,7,8,9,10,11,12,13,14,15,16,17,18,19,20,21,22,23])]⟩ Tryz.func13 [.one (.hp u0 u1)] H
theorem QC.turn {hi h:Hp}{L L':List Ow}(O:QC hi h L)(p:L'.Perm L):QC hi h L':=
 ⟨O.le,fun s hs=>O.own s (p.mem_iff.1 hs),fun s hs=>O.new s (p.mem_iff.1 hs),(p.pairwise_iff fun {x y} hxy b hb hb2=>hxy b hb2 hb).2 O.dj⟩
theorem Qw.full {h:Hp}{e:TypeId}{a:OaT}{n c:Nat}{xs:List Value}(O:Qw h e 1 a n c xs)(hn:0<n):∃(t:Nat) (ex:List Value),a=some ⟨t,0,none⟩/\h t=some (Qb (xs++ex) e):=by
 obtain⟨hl,⟨_,rfl,_⟩|⟨g,cur,rfl,hg,h1,h2,h3,h4⟩⟩:=O
 ·omega
 ·refine⟨g,cur.toList.drop (n*1),rfl,?_⟩
  subst h4;rw [hg,dV]
def owT (a:OaT)(c:Nat)(R:List (K0 Vl)):Ow:=⟨91,1,a,R.length,c,R.map QiB⟩
def owL (r:K0 Vl):Ow:=⟨54,2,r.1.1,r.2.length,r.1.2,r.2.flatMap Qq⟩
theorem Qky.of_owns {hi h:Hp}{s:Ow}{a:OaT}{c:Nat}{R:List (K0 Vl)}(O:QC hi h (s :: owT a c R :: R.map owL))(hR:0<R.length):∃(t:Nat) (G:NpT),a=some ⟨t,0,none⟩/\Qky h G t (R.map Prod.snd)/\(∀ b,G b->hi b=none)/\∀ b,G b->¬ s.at b:=by
 obtain⟨t,ex,rfl,ht⟩:=Qw.full (O.own (owT a c R) (by simp)) hR
 have cas:∀{j:Nat} {f:Fld},(Vq Qq 2 54 R++ex.map Fld.v)[j]?=some f->(∃ r,R[j]?=some r/\f=QoH Qq 2 54 r)\/∃ x,f=.v x:=by
  intro j f hf;rcases g8 j R.length with q|q
  ·have hr:=bD q
   rw [QcY _ _ _ ex hr] at hf;cases hf;exact .inl ⟨_,hr,rfl⟩
  ·rw [dA (by rw [Vq,bU];exact q),cU,dD] at hf
   obtain⟨x,_,rfl⟩:=hf;exact .inr ⟨x,rfl⟩
 have loc:∀{j:Nat} {r:K0 Vl},R[j]?=some r->(s :: owT (some ⟨t,0,none⟩) c R :: R.map owL)[j+2]?=some (owL r):=by
  intro j r hr;rw [kP,kP,cU,hr]
  rfl
 have hat:∀{j:Nat} {f:Fld} {b:Nat},(Vq Qq 2 54 R++ex.map Fld.v)[j]?=some f->f.at b->∃ r,R[j]?=some r/\(owL r).at b:=by
  intro j f b hf hb;rcases cas hf with ⟨r,hr,rfl⟩|⟨x,rfl⟩
  ·exact⟨r,hr,hb⟩
  ·exact hb.elim
 have h1:(s :: owT (some ⟨t,0,none⟩) c R :: R.map owL)[1]?=some (owT (some ⟨t,0,none⟩) c R):=rfl;have h0:(s :: owT (some ⟨t,0,none⟩) c R :: R.map owL)[0]?=some s:=rfl;refine⟨t,_,rfl,⟨R,ex,rfl,rfl,⟨?_,fun j f hf=>?_,fun j f hf hb=>?_,fun j k f f' b hf hf' hb hb'=>?_⟩⟩,fun b hb=>?_,fun b hb=>?_⟩
 ·have e1:(ex.map Fld.v).map Fld.val=ex:=by rw [fN];exact List.map_id' ex
  rw [cD,Qet,e1];exact ht
 ·rcases cas hf with ⟨r,hr,rfl⟩|⟨x,rfl⟩
  ·exact O.own _ (bZ (loc hr))
  ·trivial
 ·obtain⟨r,hr,hb⟩:=hat hf hb;exact O.apart (loc hr) h1 (by omega) hb rfl
 ·obtain⟨r,hr,hb⟩:=hat hf hb;obtain⟨r',hr',hb'⟩:=hat hf' hb';by_cases q:j=k
  ·exact q
  ·exact absurd hb' (O.apart (loc hr) (loc hr') (by omega) hb)
 ·rcases hb with rfl|⟨j,f,hf,hb⟩
  ·exact O.new _ (bZ h1) _ rfl
  ·obtain⟨r,hr,hb⟩:=hat hf hb;exact O.new _ (bZ (loc hr)) b hb
 ·rcases hb with rfl|⟨j,f,hf,hb⟩
  ·exact O.apart h1 h0 (by omega) rfl
  ·obtain⟨r,hr,hb⟩:=hat hf hb;exact O.apart (loc hr) h0 (by omega) hb
theorem QnQ (own:NpT)(k:Hp):∃ c:Hp,(∀ b,own b->c b=none)/\∀ b,¬ own b->c b=k b:=by
 classical exact⟨fun b=>if own b then none else k b,fun b hb=>bH hb,fun b hb=>bE hb⟩
theorem Qn1 {own:NpT}{k c:Hp}(h1:∀ b,own b->c b=none)(h2:∀ b,¬ own b->c b=k b):c.le k/\∀ b o,c b=some o->¬ own b:=by
 refine⟨fun b o ho=>?_,fun b o ho q=>by rw [h1 b q] at ho;cases ho⟩
 by_cases q:own b
 ·rw [h1 b q] at ho;cases ho
 ·rw [h2 b q] at ho;exact ho
set_option maxHeartbeats 4000000 in
theorem Qbu {q:Qy}{h0 h:Hp}{g parts N:Nat}{st:En}{R':RtT}(X:Kl q h0 h g st)(B:QOk q)(HB:EnB q parts N st)(hN:N<=700000)(hparts:parts<=1000)
  (hK:∀ c h' pW,h.le h'->Kl q h h' c st->h0.le pW->pW.le h'->Kl q h0 pW c st->Kl q pW h' g st->R' (vhp c 0) h'):Qa Pg 13 [vhp g 0] h R':=by
 refine Qa8 ?_
 obtain⟨hB,hP,a1,n1,c1,a2,n2,c2,a3,n3,c3,ar,cr,af,cf,ap,cp,aw,cw,R,RW,l0,Q,N0,O,e1,e2,e3⟩:=X;have hg:=O.blk (bS ..);have hRl:R.length=st.pn.length:=by have:=congrArg List.length e1;simpa using this
 have hWl:RW.length=st.rows.length:=by have:=congrArg List.length e2;simpa [QO] using this
 have hrl:=HB.rl;have hfl:=HB.fl;have hwl:=HB.wl;have hpl:=HB.pl;have lP:=O.le;have lB:=Hp.le_trans N0.le0 lP;have sR:Qf h ar (st.rd.map fun n:Nat=>vi n):=(O.ownV (s:=owR ar cr st.rd) (by simp)).row
 have sF:Qf h af (st.far.map vi):=(O.ownV (s:=owF af cf st.far) (by simp)).row
 have sW:Qf h aw (RW.flatMap (Zc QT)):=(O.ownV (s:=owW aw cw RW) (by simp)).row
 have hcs:=Qg9 HB e1;have hn1:=B.n1;have hn2:=B.n2;refine⟨_,_,_,_,_,_,_,_,_,_,_,_,_,Qx hg (by unfold csM;simp),_,_,_,Qc hg rfl,_,_,_,Qc hg rfl,_,Qc hg rfl,_,_,_,Qc hg rfl,?_⟩
 refine KL KQ sR (by simp) (by intro u hu;obtain⟨x,_,rfl⟩:=dI.1 hu;rfl) (by omega) (by omega) fun a14 c14 h13 O13=>⟨_,_,_,rfl,?_⟩
 have hg13:=O13.le _ _ hg;refine⟨Qc hg13 rfl,Qc hg13 rfl,Qc hg13 rfl,Qx hg13 (by unfold csM;simp),?_⟩
 refine KL KQ (sF.le O13.le) (by simp) (JT _) (by omega) (by omega) fun a17 c17 h16 O16=>⟨_,_,_,rfl,?_⟩
 have hg16:=O16.le _ _ hg13;refine⟨Qc hg16 rfl,Qc hg16 rfl,Qx hg16 (by unfold csM;simp),?_⟩
 refine KL Qj8 (sW.le (Hp.le_trans O13.le O16.le)) (Qi (enc:=Zc QT) (sz:=5) (fun _=>rfl) RW) (QkX RW) (by omega) (by omega) fun a20 c20 h19 O19=>⟨_,_,_,rfl,?_⟩
 have hg19:=O19.le _ _ hg16;refine⟨Qc hg19 rfl,Qx hg19 (by unfold csM;simp),?_⟩
 intro b21 hb21 h22;have O22:QC h h22 [owR a14 c14 st.rd,owF a17 c17 st.far,owW a20 c20 RW,Zz b21 50 (csM a1 n1 c1 a2 n2 c2 a3 n3 c3 q a14 st.rd.length c14 a17 st.far.length c17 none 0 0 st.late a20 RW.length c20),owP none 0 []]:=
  (((((QC.nil (Hp.le_refl h)).push O13.le (s:=owR a14 c14 st.rd) O13.own O13.new).push O16.le (s:=owF a17 c17 st.far) O16.own O16.new).push O19.le (s:=owW a20 c20 RW) O19.own O19.new).push (Hp.le_set (Hp.le_refl h19) hb21 _) (GR (Hp.set_same _ _ _)) (fun b hb=>by cases hb;exact hb21)).push (Hp.le_refl _) (s:=owP none 0 []) (Qw.nil ..) (fun b hb=>by cases hb)
 clear_value h22;refine⟨fun vs hh=>∃(i:Nat) (hP':Hp) (ap':OaT) (cp':Nat) (Rn:List PN) (F:NpT),vs=[vi i]/\i<=R.length/\h.le hP'/\Zh Qgj Rn hP' F/\(∀ b,F b->h b=none)/\Rn.map pnC=(R.take i).map pnC/\QC hP' hh [owR a14 c14 st.rd,owF a17 c17 st.far,owW a20 c20 RW,Zz b21 50 (csM a1 n1 c1 a2 n2 c2 a3 n3 c3 q a14 st.rd.length c14 a17 st.far.length c17 ap' Rn.length cp' st.late a20 RW.length c20),owP ap' cp' Rn],fun vs hh=>R.length-(Qm vs 0).toNat,⟨0,h,none,0,[],_,rfl,cH _,Hp.le_refl h,Zh.nil h,fun b hb=>hb.elim,rfl,O22⟩,?_⟩
 clear O22 O13 O16 O19 hb21 hg13 hg16 hg19;clear h22 h13 h16 h19;rintro vs hh ⟨i,hP',ap',cp',Rn,F,rfl,hi,lh,E,Fn,eC,OL⟩;have lhh:h.le hh:=Hp.le_trans lh OL.le;have hgh:=lhh _ _ hg;have Nh:=N0.le (Hp.le_trans lP lhh);have hRn:Rn.length=i:=by have:=congrArg List.length eC;simp only [bU,bV] at this;omega
 refine⟨i,rfl,_,_,_,Qc hgh rfl,fun e=>?_,fun e=>?_⟩
 ·have hlt:i<R.length:=by have:=bC e;omega
  have hr:R[i]?=some R[i]:=bD hlt
  have hrc:=hcs _ (cM hlt);have htk:R.take (i+1)=R.take i++[R[i]]:=bJ hlt;generalize R[i]=r at hr hrc htk;obtain⟨b,o,ea,hc⟩:=Nh.ptr hr;obtain⟨hcl,hT⟩:=Nh.cells hr;have bd:ap=some ⟨b,o,none⟩/\(0:Int)<=(i:Int)/\(i:Int)<((R.length:Nat):Int):=⟨ea,by omega,by omega⟩
  have hc':hh.cell b (o+((i:Nat):Int).toNat*1)=some (vhp r.b 0):=by rw [bG];exact hc
  refine⟨_,_,_,Qc hgh rfl,b,o,bd,some ⟨r.b,0,none⟩,hc',r.b,0,rfl,_,Z3 hcl rfl,_,_,_,Qc hgh rfl,b,o,bd,some ⟨r.b,0,none⟩,hc',r.b,0,rfl,_,_,Qx hcl (by unfold Yg;simp),_,_,_,Qc hgh rfl,b,o,bd,some ⟨r.b,0,none⟩,hc',r.b,0,rfl,_,Z3 hcl rfl,?_⟩
  intro b54 hb54 h55;have OI0:QC hh h55 [Zz b54 110 [vi r.k.1,vi r.k.2.1,vi r.k.2.2,vsl none 0 0,vb r.told],owT none 0 []]:=
   ((QC.nil (Hp.le_refl hh)).push (Hp.le_set (Hp.le_refl hh) hb54 _) (GR (Hp.set_same _ _ _)) (fun b hb=>by cases hb;exact hb54)).push (Hp.le_refl _) (s:=owT none 0 []) (Qw.nil ..) (fun b hb=>by cases hb)
  clear_value h55;refine⟨fun vs h6=>∃(j:Nat) (a:OaT) (c:Nat) (T:List (K0 Vl)),vs=[vi j]/\j<=r.cs.length/\T.map Prod.snd=r.cs.take j/\QC hh h6 (Zz b54 110 [vi r.k.1,vi r.k.2.1,vi r.k.2.2,vsl a T.length c,vb r.told] :: owT a c T :: T.map owL),fun vs _=>r.cs.length-(Qm vs 0).toNat,⟨0,none,0,[],rfl,cH _,rfl,OI0⟩,?_⟩
  clear OI0;clear h55;rintro vs h6 ⟨j,a,c,T,rfl,hj,eT,OI⟩;have l6:=OI.le;have hTl:T.length=j:=by have:=congrArg List.length eT;simp only [bU,bV] at this;omega
  have hg6:=l6 _ _ hgh;have N6:=Nh.le l6;obtain⟨b2,o2,ea2,hc2⟩:=N6.ptr hr;obtain⟨hcl2,hT2⟩:=N6.cells hr;have bd2:ap=some ⟨b2,o2,none⟩/\(0:Int)<=(i:Int)/\(i:Int)<((R.length:Nat):Int):=⟨ea2,by omega,by omega⟩
  have hc2':h6.cell b2 (o2+((i:Nat):Int).toNat*1)=some (vhp r.b 0):=by rw [bG];exact hc2
  refine⟨j,rfl,_,_,_,Qc hg6 rfl,b2,o2,bd2,some ⟨r.b,0,none⟩,hc2',r.b,0,rfl,_,_,_,Z3 hcl2 rfl,fun e5=>?_,fun e5=>?_⟩
  ·have hlt2:j<r.cs.length:=by have:=bC e5;omega
   have hx:r.cs[j]?=some r.cs[j]:=bD hlt2
   have htk2:r.cs.take (j+1)=r.cs.take j++[r.cs[j]]:=bJ hlt2;have hxb:=(hrc.2.1 _ (cM hlt2)).1;generalize r.cs[j]=l at hx htk2 hxb;obtain⟨bt,ot,a',c',et,hct,S⟩:=hT2.cell hx;cases et;have hbk:=OI.blk (bS ..);refine⟨_,_,_,Z3 hbk rfl,_,_,_,Qc hg6 rfl,b2,o2,bd2,some ⟨r.b,0,none⟩,hc2',r.b,0,rfl,_,_,_,Z3 hcl2 rfl,r.t,0,⟨rfl,by omega,by omega⟩,a',l.length,c',by rw [bG];exact hct,?_⟩
   refine KL ND S.2 (Qi (enc:=Qq) (sz:=2) (fun _=>rfl) l) (Qip l) (by omega) (by omega) fun a84 c84 h83 O83=>⟨_,_,_,rfl,Z3 (O83.le _ _ hbk) rfl,?_⟩
   have OI2:=OI.push (s:=owL ((a84,c84),l)) O83.le O83.own O83.new;intro b85 hb85 h86;refine OI2.app (j:=1) (s:=owT a c T) rfl QoL (m:=1) (news:=[vsl a84 l.length c84]) hb85 rfl (by intro u hu;rw [cB.1 hu];rfl) (by simp only [owT];omega) (by simp only [owT];omega) fun a89 c89 h88 O88 k88=>⟨_,_,_,rfl,?_⟩
   refine O88.put (j:=0) (g:=b54) (t:=110) (cs:=[vi r.k.1,vi r.k.2.1,vi r.k.2.2,vsl a T.length c,vb r.told]) rfl (i:=3) (by simp) fun h90 O90 _=>?_
   refine⟨_,iW,⟨j+1,a89,c89,T++[((a84,c84),l)],rfl,hlt2,?_,?_⟩,by simp [Qm];omega⟩
   ·rw [cD,eT,htk2];rfl
   ·have ew:owT a89 c89 (T++[((a84,c84),l)])={ owT a c T with a:=a89,n:=T.length+1,c:=c89,xs:=(owT a c T).xs++[vsl a84 l.length c84] }:=by unfold owT;simp [QiB]
    rw [ew,cD,bO];exact O90
  ·have hge:j=r.cs.length:=by have:=bB e5;omega
   rw [hge,dR] at eT;rw [hge] at hTl;obtain⟨t,G,rfl,D,Gn,Gs⟩:=Qky.of_owns OI (by omega)
   rw [eT] at D;have hbk:=OI.blk (bS ..);rw [hTl] at hbk;have hX6:Qgj ⟨r.k,b54,t,r.cs,r.told,c⟩ h6 (fun b=>b=b54\/G b):=⟨hbk,G,D,fun q=>Gs b54 q rfl,rfl⟩
   have hF:∀ b,(b=b54\/G b)->hh b=none:=by
    rintro b (rfl|hb)
    ·exact hb54
    ·exact Gn b hb
   refine⟨_,_,_,Z3 ((OL.grow OI.le).blk (bZ (i:=3) rfl)) rfl,?_⟩
   intro b94 hb94 h95;obtain⟨hj2,lj,Oj,_,kj⟩:=OL.rebase_new OI.le;refine Oj.app (j:=4) (s:=owP ap' cp' Rn) rfl Qoe (m:=1) (news:=[vhp b54 0]) hb94 rfl (by intro u hu;rw [cB.1 hu];rfl) (by simp only [owP];omega) (by simp only [owP];omega) fun a98 c98 h97 O97 _=>⟨_,_,_,rfl,?_⟩
   refine O97.put (j:=3) (g:=b21) (t:=50) (cs:=csM a1 n1 c1 a2 n2 c2 a3 n3 c3 q a14 st.rd.length c14 a17 st.far.length c17 ap' Rn.length cp' st.late a20 RW.length c20) rfl (i:=9) (by simp [csM]) fun h99 O99 _=>?_
   have E':=(Zh.fp Q8 Rn).keep E fun b _ o ho=>lj b o ho
   have X':=(Q8 (⟨r.k,b54,t,r.cs,r.told,c⟩:PN)).keep hX6 fun b hb o ho=>kj b o ho (hF b hb)
   refine⟨_,iW,⟨i+1,hj2,a98,c98,Rn++[⟨r.k,b54,t,r.cs,r.told,c⟩],_,rfl,hlt,Hp.le_trans lh lj,E'.snoc X' (fun b hb hf=>(Zh.fp Q8 Rn).al E b hf (Hp.none_of_le OL.le (hF b hb))),?_,?_,?_⟩,by simp [Qm];omega⟩
   ·rintro b (hb|hb)
    ·exact Hp.none_of_le lhh (hF b hb)
    ·exact Fn b hb
   ·rw [cD,eC,htk,cD];rfl
   ·have ew:owP a98 c98 (Rn++[⟨r.k,b54,t,r.cs,r.told,c⟩])={ owP ap' cp' Rn with a:=a98,n:=Rn.length+1,c:=c98,xs:=(owP ap' cp' Rn).xs++[vhp b54 0] }:=by unfold owP;simp
    rw [ew,bO];exact O99
 ·have hge:i=R.length:=by have:=bB e;omega
  rw [hge,dR] at eC;obtain⟨hj2,lj,Oj,Ov⟩:=QC.left (A:=[owR a14 c14 st.rd,owF a17 c17 st.far,owW a20 c20 RW,Zz b21 50 (csM a1 n1 c1 a2 n2 c2 a3 n3 c3 q a14 st.rd.length c14 a17 st.far.length c17 ap' Rn.length cp' st.late a20 RW.length c20)]) (s:=owP ap' cp' Rn) OL;have Ehj:Zh Qgj Rn hj2 F:=(Zh.fp Q8 Rn).keep E fun b _ o ho=>lj b o ho
  have lhj:h.le hj2:=Hp.le_trans lh lj;have pA:=(List.perm_append_comm (l₁:=[owR a14 c14 st.rd,owF a17 c17 st.far,owW a20 c20 RW]) (l₂:=[Zz b21 50 (csM a1 n1 c1 a2 n2 c2 a3 n3 c3 q a14 st.rd.length c14 a17 st.far.length c17 ap' Rn.length cp' st.late a20 RW.length c20)])).symm;have CB:Kl q h hh b21 st:=⟨h,hj2,a1,n1,c1,a2,n2,c2,a3,n3,c3,a14,c14,a17,c17,ap',cp',a20,c20,Rn,RW,Hp.le_refl h,Q.le lB,⟨Qg.trans lh Ov,F,Ehj,Fn,fun b hb q=>(Zh.fp Q8 Rn).al E b hb (Ov.new b q)⟩,QC.turn Oj pA,eC.trans e1,e2,fun r hr=>(e3 r hr).le lB⟩
  obtain⟨Fm,Em,Fm1,Fm2⟩:=N0.i;obtain⟨hr,lr,Or,kr⟩:=(O.grow lhh).rebase (gY _);generalize hLm:[Zz g 50 (csM a1 n1 c1 a2 n2 c2 a3 n3 c3 q ar st.rd.length cr af st.far.length cf ap R.length cp st.late aw RW.length cw),owR ar cr st.rd,owF af cf st.far,owW aw cw RW]=Lm at O Or kr;have ownh:∀ b,((∃ s ∈ Lm,s.at b)\/Fm b\/ap=some ⟨b,0,none⟩)->h b≠none:=by
   rintro b (⟨s,hs,hb⟩|hb|hb)
   ·exact Ow.al (O.own s hs) hb
   ·exact fun q=>(Zh.fp Q8 R).al Em b hb (Hp.none_of_le lP q)
   ·exact fun q=>Ow.al (s:=owP ap cp R) N0.v.own hb (Hp.none_of_le lP q)
  have ownB:∀ b,((∃ s ∈ Lm,s.at b)\/Fm b\/ap=some ⟨b,0,none⟩)->hB b=none:=by
   rintro b (⟨s,hs,hb⟩|hb|hb)
   ·exact Hp.none_of_le N0.le0 (O.new s hs b hb)
   ·exact Fm1 b hb
   ·exact N0.v.new b hb
  obtain⟨pW,w1,w2⟩:=QnQ (fun b=>(∃ s ∈ Lm,s.at b)\/Fm b\/ap=some ⟨b,0,none⟩) hh
  obtain⟨pJ,j1,j2⟩:=QnQ (fun b=>(∃ s ∈ Lm,s.at b)\/Fm b\/ap=some ⟨b,0,none⟩) hj2
  obtain⟨lW,nW⟩:=Qn1 w1 w2;obtain⟨lJ0,nJ⟩:=Qn1 j1 j2;have lJ:pJ.le pW:=fun b o ho=>(w2 b (nJ b o ho)).trans (Oj.le b o (lJ0 b o ho))
  have lBJ:hB.le pJ:=fun b o ho=>(j2 b fun q=>by rw [ownB b q] at ho;cases ho).trans (lhj b o (lB b o ho))
  have lBW:=Hp.le_trans lBJ lJ;have out:∀ b,h b=none->¬((∃ s ∈ Lm,s.at b)\/Fm b\/ap=some ⟨b,0,none⟩):=fun b hn q=>ownh b q hn
  have Oc:QC pJ pW [owR a14 c14 st.rd,owF a17 c17 st.far,owW a20 c20 RW,Zz b21 50 (csM a1 n1 c1 a2 n2 c2 a3 n3 c3 q a14 st.rd.length c14 a17 st.far.length c17 ap' Rn.length cp' st.late a20 RW.length c20)]:=
   ⟨lJ,fun s hs=>Ow.keep (Oj.own s hs) fun b hb o ho=>(w2 b (out b (Hp.none_of_le lhj (Oj.new s hs b hb)))).trans ho,fun s hs b hb=>Hp.none_of_le lJ0 (Oj.new s hs b hb),Oj.dj⟩
  have CW:Kl q h0 pW b21 st:=⟨hB,pJ,a1,n1,c1,a2,n2,c2,a3,n3,c3,a14,c14,a17,c17,ap',cp',a20,c20,Rn,RW,l0,Q,
   ⟨⟨lBJ,Ow.keep (s:=owP ap' cp' Rn) Ov.own fun b hb o ho=>(j2 b (out b (Hp.none_of_le lh (Ov.new b hb)))).trans ho,fun b hb=>Hp.none_of_le (Hp.le_trans lB lh) (Ov.new b hb)⟩,
    F,(Zh.fp Q8 Rn).keep Ehj fun b hb o ho=>(j2 b (out b (Fn b hb))).trans ho,fun b hb=>Hp.none_of_le lB (Fn b hb),fun b hb q=>(Zh.fp Q8 Rn).al E b hb (Ov.new b q)⟩,QC.turn Oc pA,eC.trans e1,e2,e3⟩
  have lWr:pW.le hr:=fun b o ho=>kr b o (lW b o ho) fun s hs q=>nW b o ho (.inl ⟨s,hs,q⟩)
  have MW:Kl q pW hh g st:=by
   subst hLm;exact⟨pW,hr,a1,n1,c1,a2,n2,c2,a3,n3,c3,ar,cr,af,cf,ap,cp,aw,cw,R,RW,Hp.le_refl pW,Q.le lBW,
    ⟨⟨lWr,N0.v.own.le lr,fun b hb=>w1 b (.inr (.inr hb))⟩,Fm,(Zh.fp Q8 R).keep Em fun b _ o ho=>lr b o ho,fun b hb=>w1 b (.inr (.inl hb)),Fm2⟩,Or,e1,e2,fun r hr=>(e3 r hr).le lBW⟩
  exact hK b21 hh pW lhh CB (Hp.le_trans l0 lBW) lW CW MW
theorem Kl.base {q:Qy}{h0 h1 h:Hp}{g:Nat}{st:En}(l:h0.le h1)(X:Kl q h1 h g st):Kl q h0 h g st:=by
 obtain⟨hB,hP,a1,n1,c1,a2,n2,c2,a3,n3,c3,ar,cr,af,cf,ap,cp,aw,cw,R,RW,l0,Q,N,O,e1,e2,e3⟩:=X;exact⟨hB,hP,a1,n1,c1,a2,n2,c2,a3,n3,c3,ar,cr,af,cf,ap,cp,aw,cw,R,RW,Hp.le_trans l l0,Q,N,O,e1,e2,e3⟩
theorem Ug {u0:OaT}{u1 u2:Nat}{h:Hp}{R:RtT}(H:∃ p1,RdG .eql 46 (.tmp 3) (.const (vsl none 0 0)) (vsl u0 u1 u2) (vsl none 0 0) h (vb p1)/\(p1=true->R (vsl none 0 0) h)/\(p1=false->∀ b3,h b3=none->let h4:=Hp.set h b3 (Qb [] 3);Qh Pg (Builtin.append_ #[46,46] 46 #[(vsl (some (⟨b3,0,none⟩:Addr)) 0 0),vsl u0 u1 u2]) h4 fun v5 h6=>∃ a7 n7 c7,v5=vsl a7 n7 c7/\R (vsl a7 n7 c7) h6)):Qa Pg 64 [vsl u0 u1 u2] h R:=callO Tryz.func64 [.one (.v (vsl u0 u1 u2))] H
open Go.Txt
theorem Qhg (h:Hp)(b:Nat)(l:List Wd)(hl:l.length<=maxLen):SlB (h.set b (Qb (l.flatMap YF) 9)) (some ⟨b,0,none⟩) l.length l:=⟨rfl,(Qw.new h b 9 (sz:=1) (n:=l.length) (l.flatMap YF) (by induction l with
 | nil=>rfl
 | cons w l ih=>have:=ih (by simp at hl;omega);simp [YF] at this ⊢;omega) hl).row⟩
theorem QhL {s:RS}{most:Int}(hm:0<=most):0<=(s.number most).1/\(s.number most).1<=most:=by
 unfold RS.number;split
 ·exact⟨fW _,hm⟩
 ·split
  ·exact⟨fW _,hm⟩
  ·rename_i h;exact⟨by omega,(QoQ hm).2⟩
theorem QaH (op:Int)(x y:List Nd)(s:RS):(Zd op x y s).1.length<=40:=by
 unfold Zd;split
 ·simp
 ·rw [Zx];omega
theorem QkC {w:Wd}(h:w ∈ Yn):(Wz w).1=Qds w:=by
 have h2:w=Wv\/w=Xm\/w=Xp:=by simpa [Yn] using h
 rcases h2 with rfl|rfl|rfl<;>rfl
theorem Qqx {s:RS}{w:Wd}(hw:w≠[])(h:(s.is [w]).1=[]):(s.is [w]).2=s:=by
 rcases s.is_spec [w] with ⟨_,q⟩|⟨w',r,_,hm,q,_⟩
 ·exact q
 ·rw [h] at q;rw [<-q] at hm;exact absurd (cB.1 hm).symm hw
theorem XP {n:Nat}{h0 h:Hp}{g:Nat}{s:RS}(D:Yc h0 h g s)(E:QfL h0 h g)(S:SOk n s){w:Wd}(hw:w≠[]){d:Int}{R:RtT}(hK:∀ h',Yc h0 h' g (Vt w d s).2->Mut (At g) h (At g) h'->R (vi (Vt w d s).1) h'):Qa Pg 88 [vhp g 0,vs (bs w),vi d] h R:=by
 refine Js ?_
 intro b1 hb1 h2;have hl:h.le h2:=Hp.le_set (Hp.le_refl h) hb1 _;have hb:=S.big;have io:=@Qqx s w hw;have gi:=Zk S.good [w];unfold Vt at hK;refine YH (D.le hl) (Ms h b1 w) (by decide) (by omega) fun h4 D4 M4=>⟨_,rfl,?_⟩
 have M04:Mut (At g) h (At g) h4:=(Mut.of_le hl).trans M4;refine⟨_,QH (b:=[]),fun e=>?_,fun e=>?_⟩
 ·have e:=bC e;rw [bH e] at hK;rw [io e] at D4;exact hK h4 D4 M04
 ·have e:=bB e;rw [bE e] at hK;exact Uk D4 (E.mut M04) (by have:=gi.len;omega) (by decide) (by decide) fun h9 D9 M9=>⟨_,rfl,hK h9 D9 (M04.trans M9)⟩
theorem Qog:ElT Pg 27 153 2 32:=.of (by kernel_rfl) (by kernel_rfl) (by decide)
abbrev Qnm (G:NpT):=Xg ZC Nc 2 153 G
theorem Yc.keep {h0 h h':Hp}{g:Nat}{s:RS}(D:Yc h0 h g s)(hb:h' g=h g)(l:h0.le h'):Yc h0 h' g s:=by
 obtain⟨a,c,hb',hS,hc⟩:=D.b;exact⟨⟨a,c,hb.trans hb',hS,hc⟩,l,D.n,D.w⟩
theorem Qo5 {h0 hB h1:Hp}{g:Nat}{a:OaT}{c:Nat}{L:List Ag}{s:RS}(B:Qnm (At g) h0 h1 a c L)(D:Yc h0 h1 g s)(hBg:hB g≠none)(hBa:∀ b,a=some ⟨b,0,none⟩->hB b≠none){k:Int}{a2:OaT}{c2:Nat}{l:List Nd}(N:KV hB h1 a2 l.length l)(hL:L.length<=1000)
  {b:Nat} (hb:h1 b=none) {K:RtT} (hK:∀ a' c' h',Qnm (At g) h0 h' a' c' (L++[(k,l)])->Yc h0 h' g s->K (vsl a' (L.length+1) c') h') :
  Qh Pg (Builtin.append_ #[27,27] 27 #[vsl a L.length c,vsl (some ⟨b,0,none⟩) 1 1]) (h1.set b (Qb [vi k,vsl a2 l.length c2] 153)) K:=by
 refine B.app (x:=k) (c2:=c2) Qog (Hp.le_refl h1) (fun b' e=>by rw [show b'=g from e];exact hBg) hBa N.s.2 N.nw ?_ rfl (fun b' e=>by rw [show b'=g from e];exact D.al) (by omega) (by omega) hb fun a' c' h' B' hk=>hK a' c' h' B' ?_
 ·intro u hu;have:u=vi k\/u=vsl a2 l.length c2:=by simpa [Nc] using hu
  rcases this with rfl|rfl<;>rfl
 ·obtain⟨o,ho⟩:∃ o,h1 g=some o:=by
   cases e:h1 g with
   | none=>exact absurd e D.al
   | some o=>exact⟨o,rfl⟩
  exact D.keep ((hk g o ho (B.ne rfl)).trans ho.symm) B'.le0
theorem Qkc (h:Hp):QAt h noQ none 0 none 0 none 0:=⟨⟨[],rfl,rfl,.inl rfl,fun r hr=>by cases hr⟩,⟨rfl,.inl rfl⟩,⟨rfl,.inl rfl⟩⟩
end Go.Proofs.YthicpjafcpfjoaaGreatDoor
namespace Go.Proofs.YthicpjafcpfjoaaGreatDoor
open Go Go.Vc
theorem Qgz {u0 u1:Nat}{u2:Int}{h:Hp}{R:RtT}(H:∃ x1,Hp.cell h u0 (u1+3)=some (vi x1)/\((decide (x1=0))=true->Hp.store h u0 (u1+3) [vi u2] fun h2=>R (Qe []) h2)/\((decide (x1=0))=false->R (Qe []) h)):Qa Pg 93 [vhp u0 u1,vi u2] h R:=callO Tryz.func93 [.one (.hp u0 u1),.one (.v (vi u2))] H
theorem Qh1 {u0 u1:Nat}{h:Hp}{R:RtT}(H:∃ x1,Hp.cell h u0 (u1+3)=some (vi x1)/\∃ x2,((decide (x1>0))=false->Hp.cell h u0 (u1+1)=some (vi x2))/\∃ a3 n3 c3,((decide (x1>0))=false->Hp.cell h u0 u1=some (vsl a3 n3 c3))/\((cond (decide (x1>0)) true (decide (x2>=(n3:Int))))=true->R (vs ⟨#[]⟩) h)/\((cond (decide (x1>0)) true (decide (x2>=(n3:Int))))=false->∃ a5 n5 c5,Hp.cell h u0 u1=some (vsl a5 n5 c5)/\∃ x6,Hp.cell h u0 (u1+1)=some (vi x6)/\∃ b7 o8,Ix a5 b7 o8 x6 n5/\∃ s9,Hp.cell h b7 (o8+x6.toNat*1)=some (vs s9)/\R (vs s9) h)):Qa Pg 148 [vhp u0 u1] h R:=callC ⟨[],[],[(1,[0,1,2,3,4,5,6,7,8,9,10,11,12,13,14,15,16]),(3,[0,1,2,3,4,5,6,7,8,9,10])]⟩ Tryz.func148 [.one (.hp u0 u1)] H
theorem Qh8 {u0 u1:Nat}{u2:ByteArray}{h:Hp}{R:RtT}(H:Qa Pg 148 [vhp u0 u1] h fun v1 h2=>∃ s3,v1=vs s3/\∃ p4,RdG .eql 9 (.tmp 8) (.const (vs ⟨#[]⟩)) (vs s3) (vs ⟨#[]⟩) h2 (vb p4)/\∃ p5,(p4=false->RdG .neq 9 (.tmp 11) (.tmp 12) (vs s3) (vs u2) h2 (vb p5))/\((cond p4 true p5)=true->R (vb false) h2)/\((cond p4 true p5)=false->∃ x7,Hp.cell h2 u0 (u1+1)=some (vi x7)/\∃ x8,IsW x8 (x7+1)/\Hp.store h2 u0 (u1+1) [vi x8] fun h9=>R (vb true) h9)):Qa Pg 92 [vhp u0 u1,vs u2] h R:=callO Tryz.func92 [.one (.hp u0 u1),.one (.v (vs u2))] H
theorem Qhd {u0 u1:Nat}{u2:ByteArray}{h:Hp}{R:RtT}(H:Qa Pg 92 [vhp u0 u1,vs u2] h fun v1 h2=>∃ p3,v1=vb p3/\((!p3)=true->Qa Pg 93 [vhp u0 u1,vi 4] h2 fun v4 h5=>v4=Qe []/\R (Qe []) h5)/\((!p3)=false->R (Qe []) h2)):Qa Pg 91 [vhp u0 u1,vs u2] h R:=callO Tryz.func91 [.one (.hp u0 u1),.one (.v (vs u2))] H
theorem QdX {u0 u1:Nat}{u2:Int}{h:Hp}{R:RtT}(H:Qa Pg 148 [vhp u0 u1] h fun v1 h2=>∃ s3,v1=vs s3/\Qa Pg 154 [vs s3,vi u2,vb false] h2 fun v4 h5=>∃ x6,v4=vi x6/\((decide (x6<0))=true->Qa Pg 93 [vhp u0 u1,vi 4] h5 fun v7 h8=>v7=Qe []/\R (vi 0) h8)/\((decide (x6<0))=false->∃ x10,Hp.cell h5 u0 (u1+1)=some (vi x10)/\∃ x11,IsW x11 (x10+1)/\Hp.store h5 u0 (u1+1) [vi x11] fun h12=>R (vi x6) h12)):Qa Pg 95 [vhp u0 u1,vi u2] h R:=callO Tryz.func95 [.one (.hp u0 u1),.one (.v (vi u2))] H
theorem Qiv {u0 u1:Nat}{u2:Int}{u3:OaT}{u4 u5:Nat}{u6:OaT}{u7 u8:Nat}{h:Hp}{R:RtT}(H:∃ x1,Hp.cell h u0 (u1+3)=some (vi x1)/\((decide (x1>0))=true->R (vsl u3 u4 u5) h)/\((decide (x1>0))=false->∃ x3,IsW x3 ((u4:Int)+(u7:Int))/\∃ x4,IsW x4 (x3+1)/\((decide (x4>40))=true->Qa Pg 93 [vhp u0 u1,vi 2] h fun v5 h6=>v5=Qe []/\R (vsl u3 u4 u5) h6)/\((decide (x4>40))=false->Qh Pg (Builtin.append_ #[28,28] 28 #[vsl none 0 0,vsl u3 u4 u5]) h fun v8 h9=>∃ a10 n10 c10,v8=vsl a10 n10 c10/\∃(I12:LtT) (m13:LmT),I12 [vsl a10 n10 c10,vi 0] h9/\∀ vs14 h15,I12 vs14 h15->∃ a16 n16 c16 x17,vs14=[vsl a16 n16 c16,vi x17]/\((decide (x17<(u7:Int)))=true->∃ b20 o21,Ix u6 b20 o21 x17 u7/\∃ x22 x23 x24 x25 x26 x27,Hp.row h15 b20 (o21+x17.toNat*6) 6=some [vi x22,vi x23,vi x24,vi x25,vi x26,vi x27]/\Qa Pg 205 [vi x22] h15 fun v28 h29=>∃ x30,v28=vi x30/\let J34:Int->Prop:=fun x41=>(let J45:Int->Prop:=fun x48=>(∀ b49,h29 b49=none->let h50:=Hp.set h29 b49 (Qb [vi x22,vi x41,vi x48,vi x25,vi x26,vi x27] 250);Qh Pg (Builtin.append_ #[28,28] 28 #[vsl a16 n16 c16,(vsl (some (⟨b49,0,none⟩:Addr)) 1 1)]) h50 fun v51 h52=>∃ a53 n53 c53,v51=vsl a53 n53 c53/\∃ x55,IsW x55 (x17+1)/\I12 [vsl a53 n53 c53,vi x55] h52/\m13 [vsl a53 n53 c53,vi x55] h52<m13 vs14 h15);((decide (x30>1))=true->∃ x42,IsW x42 (x24+(u4:Int))/\J45 x42)/\((decide (x30>1))=false->J45 x24));((decide (x30>0))=true->∃ x31,IsW x31 (x23+(u4:Int))/\J34 x31)/\((decide (x30>0))=false->J34 x23))/\((decide (x17<(u7:Int)))=false->∃ x56,IsW x56 ((u4:Int)-1)/\let J60:Int->Prop:=fun x63=>(∀ b64,h15 b64=none->let h65:=Hp.set h15 b64 (Qb [vi u2,vi x56,vi x63,vi 0,vi 0,vi 0] 250);Qh Pg (Builtin.append_ #[28,28] 28 #[vsl a16 n16 c16,(vsl (some (⟨b64,0,none⟩:Addr)) 1 1)]) h65 fun v66 h67=>∃ a68 n68 c68,v66=vsl a68 n68 c68/\R (vsl a68 n68 c68) h67);((decide ((u7:Int)>0))=true->∃ x57,IsW x57 ((n16:Int)-1)/\J60 x57)/\((decide ((u7:Int)>0))=false->J60 0))))):Qa Pg 151 [vhp u0 u1,vi u2,vsl u3 u4 u5,vsl u6 u7 u8] h R:=callC ⟨[],[(8,([9,10],[.one (.slice),.one (.int .i64)],[]))],[]⟩ Tryz.func151 [.one (.hp u0 u1),.one (.v (vi u2)),.one (.v (vsl u3 u4 u5)),.one (.v (vsl u6 u7 u8))] H
theorem Qkv {u0 u1:Nat}{h:Hp}{R:RtT}(H:∃ x1,Hp.cell h u0 (u1+2)=some (vi x1)/\∃ x2,IsW x2 (x1+1)/\Hp.store h u0 (u1+2) [vi x2] fun h3=>∃ x4,Hp.cell h3 u0 (u1+2)=some (vi x4)/\((decide (x4>12))=true->Qa Pg 93 [vhp u0 u1,vi 2] h3 fun v5 h6=>v5=Qe []/\R (Qe []) h6)/\((decide (x4>12))=false->R (Qe []) h3)):Qa Pg 150 [vhp u0 u1] h R:=callO Tryz.func150 [.one (.hp u0 u1)] H
theorem WQ {u0 u1:Nat}{u2:Int}{h:Hp}{R:RtT}(H:∃ x1,Hp.cell h u0 (u1+3)=some (vi x1)/\((decide (x1>0))=true->R (vsl none 0 0) h)/\((decide (x1>0))=false->let J7:Bool->Prop:=fun p8=>((p8=true->Qa Pg 149 [vhp u0 u1,vi u2] h fun v9 h10=>∃ a11 n11 c11,v9=vsl a11 n11 c11/\R (vsl a11 n11 c11) h10)/\(p8=false->let J14:Bool->Prop:=fun p15=>((p15=true->let J18:ByteArray->Int->Prop:=fun s36 x37=>(Qa Pg 92 [vhp u0 u1,vs s36] h fun v38 h39=>∃ p40,v38=vb p40/\((!p40)=true->∃ x41,IsW x41 (u2+1)/\Qa Pg 94 [vhp u0 u1,vi x41] h39 fun v42 h43=>∃ a44 n44 c44,v42=vsl a44 n44 c44/\R (vsl a44 n44 c44) h43)/\((!p40)=false->Qa Pg 150 [vhp u0 u1] h39 fun v46 h47=>v46=Qe []/\Qa Pg 94 [vhp u0 u1,vi u2] h47 fun v48 h49=>∃ a50 n50 c50,v48=vsl a50 n50 c50/\∃ x51,Hp.cell h49 u0 (u1+2)=some (vi x51)/\∃ x52,IsW x52 (x51-1)/\Hp.store h49 u0 (u1+2) [vi x52] fun h53=>Qa Pg 151 [vhp u0 u1,vi x37,vsl a50 n50 c50,vsl none 0 0] h53 fun v54 h55=>∃ a56 n56 c56,v54=vsl a56 n56 c56/\R (vsl a56 n56 c56) h55));((decide (u2=6))=true->J18 ⟨#[45]⟩ 3)/\((decide (u2=6))=false->J18 ⟨#[110,111,116]⟩ 4))/\(p15=false->((decide (u2=3))=true->Qa Pg 152 [vhp u0 u1] h fun v57 h58=>∃ a59 n59 c59,v57=vsl a59 n59 c59/\R (vsl a59 n59 c59) h58)/\((decide (u2=3))=false->Qa Pg 153 [vhp u0 u1] h fun v61 h62=>∃ a63 n63 c63,v61=vsl a63 n63 c63/\R (vsl a63 n63 c63) h62)));((decide (u2=2))=true->J14 (decide (u2=2)))/\((decide (u2=2))=false->J14 (decide (u2=6)))));((decide (u2=0))=true->J7 (decide (u2=0)))/\((decide (u2=0))=false->((decide (u2=1))=true->J7 (decide (u2=1)))/\((decide (u2=1))=false->((decide (u2=4))=true->J7 (decide (u2=4)))/\((decide (u2=4))=false->J7 (decide (u2=5))))))):Qa Pg 94 [vhp u0 u1,vi u2] h R:=callO Tryz.func94 [.one (.hp u0 u1),.one (.v (vi u2))] H
theorem QhG {u0 u1:Nat}{u2:Int}{h:Hp}{R:RtT}(H:∃ x1,IsW x1 (u2+1)/\Qa Pg 94 [vhp u0 u1,vi x1] h fun v2 h3=>∃ a4 n4 c4,v2=vsl a4 n4 c4/\let J47:OaT->Nat->Nat->Hp->Prop:=fun a49 n49 c49 h50=>R (vsl a49 n49 c49) h50;∃(I6:LtT) (m7:LmT),I6 [vsl a4 n4 c4] h3/\∀ vs8 h9,I6 vs8 h9->∃ a10 n10 c10,vs8=[vsl a10 n10 c10]/\∃ x11,Hp.cell h9 u0 (u1+3)=some (vi x11)/\((decide (x11=0))=true->Qa Pg 148 [vhp u0 u1] h9 fun v14 h15=>∃ s16,v14=vs s16/\let J33:Int->Prop:=fun x34=>(((decide (x34=0))=true->J47 a10 n10 c10 h15)/\((decide (x34=0))=false->∃ x37,Hp.cell h15 u0 (u1+1)=some (vi x37)/\∃ x38,IsW x38 (x37+1)/\Hp.store h15 u0 (u1+1) [vi x38] fun h39=>∃ x40,IsW x40 (u2+1)/\Qa Pg 94 [vhp u0 u1,vi x40] h39 fun v41 h42=>∃ a43 n43 c43,v41=vsl a43 n43 c43/\Qa Pg 151 [vhp u0 u1,vi x34,vsl a10 n10 c10,vsl a43 n43 c43] h42 fun v44 h45=>∃ a46 n46 c46,v44=vsl a46 n46 c46/\I6 [vsl a46 n46 c46] h45/\m7 [vsl a46 n46 c46] h45<m7 vs8 h9));∃ p17,RdG .eql 9 (.tmp 18) (.const (vs ⟨#[111,114]⟩)) (vs s16) (vs ⟨#[111,114]⟩) h15 (vb p17)/\(p17=true->((decide (u2=0))=true->J33 10)/\((decide (u2=0))=false->J33 0))/\(p17=false->∃ p20,RdG .eql 9 (.tmp 18) (.const (vs ⟨#[97,110,100]⟩)) (vs s16) (vs ⟨#[97,110,100]⟩) h15 (vb p20)/\(p20=true->((decide (u2=1))=true->J33 9)/\((decide (u2=1))=false->J33 0))/\(p20=false->∃ p23,RdG .eql 9 (.tmp 18) (.const (vs ⟨#[43]⟩)) (vs s16) (vs ⟨#[43]⟩) h15 (vb p23)/\(p23=true->((decide (u2=4))=true->J33 6)/\((decide (u2=4))=false->J33 0))/\(p23=false->∃ p26,RdG .eql 9 (.tmp 18) (.const (vs ⟨#[45]⟩)) (vs s16) (vs ⟨#[45]⟩) h15 (vb p26)/\(p26=true->((decide (u2=4))=true->J33 7)/\((decide (u2=4))=false->J33 0))/\(p26=false->∃ p29,RdG .eql 9 (.tmp 18) (.const (vs ⟨#[42]⟩)) (vs s16) (vs ⟨#[42]⟩) h15 (vb p29)/\(p29=true->((decide (u2=5))=true->J33 8)/\((decide (u2=5))=false->J33 0))/\(p29=false->J33 0))))))/\((decide (x11=0))=false->J47 a10 n10 c10 h9)):Qa Pg 149 [vhp u0 u1,vi u2] h R:=callC ⟨[],[(2,([5],[.one (.slice)],[]))],[]⟩ Tryz.func149 [.one (.hp u0 u1),.one (.v (vi u2))] H
theorem Qbk {u0 u1:Nat}{h:Hp}{R:RtT}(H:Qa Pg 94 [vhp u0 u1,vi 4] h fun v1 h2=>∃ a3 n3 c3,v1=vsl a3 n3 c3/\Qa Pg 148 [vhp u0 u1] h2 fun v4 h5=>∃ s6,v4=vs s6/\∃ p7,RdG .neq 9 (.tmp 14) (.const (vs ⟨#[60]⟩)) (vs s6) (vs ⟨#[60]⟩) h5 (vb p7)/\∃ p8,(p7=true->RdG .neq 9 (.tmp 17) (.const (vs ⟨#[62]⟩)) (vs s6) (vs ⟨#[62]⟩) h5 (vb p8))/\∃ p9,((cond p7 p8 false)=true->RdG .neq 9 (.tmp 21) (.const (vs ⟨#[60,61]⟩)) (vs s6) (vs ⟨#[60,61]⟩) h5 (vb p9))/\∃ p10,((cond (cond p7 p8 false) p9 false)=true->RdG .neq 9 (.tmp 25) (.const (vs ⟨#[62,61]⟩)) (vs s6) (vs ⟨#[62,61]⟩) h5 (vb p10))/\∃ p11,((cond (cond (cond p7 p8 false) p9 false) p10 false)=true->RdG .neq 9 (.tmp 29) (.const (vs ⟨#[61]⟩)) (vs s6) (vs ⟨#[61]⟩) h5 (vb p11))/\∃ p12,((cond (cond (cond (cond p7 p8 false) p9 false) p10 false) p11 false)=true->RdG .neq 9 (.tmp 33) (.const (vs ⟨#[60,62]⟩)) (vs s6) (vs ⟨#[60,62]⟩) h5 (vb p12))/\∃ p13,((cond (cond (cond (cond (cond p7 p8 false) p9 false) p10 false) p11 false) p12 false)=true->RdG .neq 9 (.tmp 37) (.const (vs ⟨#[105,115]⟩)) (vs s6) (vs ⟨#[105,115]⟩) h5 (vb p13))/\((cond (cond (cond (cond (cond (cond p7 p8 false) p9 false) p10 false) p11 false) p12 false) p13 false)=true->R (vsl a3 n3 c3) h5)/\((cond (cond (cond (cond (cond (cond p7 p8 false) p9 false) p10 false) p11 false) p12 false) p13 false)=false->∃ x15,Hp.cell h5 u0 (u1+1)=some (vi x15)/\∃ x16,IsW x16 (x15+1)/\Hp.store h5 u0 (u1+1) [vi x16] fun h17=>∃ p18,RdG .eql 9 (.tmp 48) (.const (vs ⟨#[105,115]⟩)) (vs s6) (vs ⟨#[105,115]⟩) h17 (vb p18)/\(p18=true->Qa Pg 92 [vhp u0 u1,(vs ⟨#[110,111,116]⟩)] h17 fun v19 h20=>∃ p21,v19=vb p21/\Qa Pg 91 [vhp u0 u1,(vs ⟨#[110,117,108,108]⟩)] h20 fun v22 h23=>v22=Qe []/\Qa Pg 151 [vhp u0 u1,vi 5,vsl a3 n3 c3,vsl none 0 0] h23 fun v24 h25=>∃ a26 n26 c26,v24=vsl a26 n26 c26/\let J32:OaT->Nat->Nat->Hp->Prop:=fun a34 n34 c34 h35=>R (vsl a34 n34 c34) h35;(p21=true->Qa Pg 151 [vhp u0 u1,vi 4,vsl a26 n26 c26,vsl none 0 0] h25 fun v27 h28=>∃ a29 n29 c29,v27=vsl a29 n29 c29/\J32 a29 n29 c29 h28)/\(p21=false->J32 a26 n26 c26 h25))/\(p18=false->Qa Pg 94 [vhp u0 u1,vi 4] h17 fun v37 h38=>∃ a39 n39 c39,v37=vsl a39 n39 c39/\∃ p40,RdG .eql 9 (.tmp 64) (.const (vs ⟨#[60]⟩)) (vs s6) (vs ⟨#[60]⟩) h38 (vb p40)/\(p40=true->Qa Pg 151 [vhp u0 u1,vi 11,vsl a3 n3 c3,vsl a39 n39 c39] h38 fun v41 h42=>∃ a43 n43 c43,v41=vsl a43 n43 c43/\R (vsl a43 n43 c43) h42)/\(p40=false->∃ p44,RdG .eql 9 (.tmp 64) (.const (vs ⟨#[62]⟩)) (vs s6) (vs ⟨#[62]⟩) h38 (vb p44)/\(p44=true->Qa Pg 151 [vhp u0 u1,vi 11,vsl a39 n39 c39,vsl a3 n3 c3] h38 fun v45 h46=>∃ a47 n47 c47,v45=vsl a47 n47 c47/\R (vsl a47 n47 c47) h46)/\(p44=false->∃ p48,RdG .eql 9 (.tmp 64) (.const (vs ⟨#[60,61]⟩)) (vs s6) (vs ⟨#[60,61]⟩) h38 (vb p48)/\(p48=true->Qa Pg 151 [vhp u0 u1,vi 11,vsl a39 n39 c39,vsl a3 n3 c3] h38 fun v49 h50=>∃ a51 n51 c51,v49=vsl a51 n51 c51/\Qa Pg 151 [vhp u0 u1,vi 4,vsl a51 n51 c51,vsl none 0 0] h50 fun v52 h53=>∃ a54 n54 c54,v52=vsl a54 n54 c54/\R (vsl a54 n54 c54) h53)/\(p48=false->∃ p55,RdG .eql 9 (.tmp 64) (.const (vs ⟨#[62,61]⟩)) (vs s6) (vs ⟨#[62,61]⟩) h38 (vb p55)/\(p55=true->Qa Pg 151 [vhp u0 u1,vi 11,vsl a3 n3 c3,vsl a39 n39 c39] h38 fun v56 h57=>∃ a58 n58 c58,v56=vsl a58 n58 c58/\Qa Pg 151 [vhp u0 u1,vi 4,vsl a58 n58 c58,vsl none 0 0] h57 fun v59 h60=>∃ a61 n61 c61,v59=vsl a61 n61 c61/\R (vsl a61 n61 c61) h60)/\(p55=false->∃ p62,RdG .eql 9 (.tmp 64) (.const (vs ⟨#[61]⟩)) (vs s6) (vs ⟨#[61]⟩) h38 (vb p62)/\(p62=true->Qa Pg 151 [vhp u0 u1,vi 12,vsl a3 n3 c3,vsl a39 n39 c39] h38 fun v63 h64=>∃ a65 n65 c65,v63=vsl a65 n65 c65/\R (vsl a65 n65 c65) h64)/\(p62=false->Qa Pg 151 [vhp u0 u1,vi 12,vsl a3 n3 c3,vsl a39 n39 c39] h38 fun v67 h68=>∃ a69 n69 c69,v67=vsl a69 n69 c69/\Qa Pg 151 [vhp u0 u1,vi 4,vsl a69 n69 c69,vsl none 0 0] h68 fun v70 h71=>∃ a72 n72 c72,v70=vsl a72 n72 c72/\R (vsl a72 n72 c72) h71)))))))):Qa Pg 152 [vhp u0 u1] h R:=callO Tryz.func152 [.one (.hp u0 u1)] H
theorem Qhz {u0 u1:Nat}{h:Hp}{R:RtT}(H:Qa Pg 148 [vhp u0 u1] h fun v1 h2=>∃ s3,v1=vs s3/\Qa Pg 92 [vhp u0 u1,(vs ⟨#[40]⟩)] h2 fun v4 h5=>∃ p6,v4=vb p6/\(p6=true->Qa Pg 150 [vhp u0 u1] h5 fun v7 h8=>v7=Qe []/\Qa Pg 94 [vhp u0 u1,vi 0] h8 fun v9 h10=>∃ a11 n11 c11,v9=vsl a11 n11 c11/\∃ x12,Hp.cell h10 u0 (u1+2)=some (vi x12)/\∃ x13,IsW x13 (x12-1)/\Hp.store h10 u0 (u1+2) [vi x13] fun h14=>Qa Pg 91 [vhp u0 u1,(vs ⟨#[41]⟩)] h14 fun v15 h16=>v15=Qe []/\R (vsl a11 n11 c11) h16)/\(p6=false->∀ b18,h5 b18=none->let h19:=Hp.set h5 b18 (Qb [(vs ⟨#[116]⟩),(vs ⟨#[107]⟩),(vs ⟨#[97]⟩),(vs ⟨#[98]⟩)] 9);∃(I21:LtT) (m22:LmT),I21 [vi 0] h19/\∀ vs23 h24,I21 vs23 h24->∃ x25,vs23=[vi x25]/\((decide (x25<4))=true->∃ b28 o29,((some (⟨b18,0,none⟩:Addr))=some ⟨b28,o29,none⟩/\(0:Int)<=x25/\x25<((4:Nat):Int))/\∃ s30,Hp.cell h24 b28 (o29+x25.toNat*1)=some (vs s30)/\∃ p31,RdG .eql 9 (.tmp 34) (.tmp 38) (vs s3) (vs s30) h24 (vb p31)/\(p31=true->∃ x32,Hp.cell h24 u0 (u1+1)=some (vi x32)/\∃ x33,IsW x33 (x32+1)/\Hp.store h24 u0 (u1+1) [vi x33] fun h34=>∀ b35,h34 b35=none->let h36:=Hp.set h34 b35 (Qb [vi 2,vi 0,vi 0,vi x25,vi 0,vi 0] 250);R (vsl (some (⟨b35,0,none⟩:Addr)) 1 1) h36)/\(p31=false->∃ x38,IsW x38 (x25+1)/\I21 [vi x38] h24/\m22 [vi x38] h24<m22 vs23 h24))/\((decide (x25<4))=false->∃ p39,RdG .eql 9 (.tmp 50) (.const (vs ⟨#[110,117,108,108]⟩)) (vs s3) (vs ⟨#[110,117,108,108]⟩) h24 (vb p39)/\∃ p40,(p39=false->RdG .eql 9 (.tmp 53) (.const (vs ⟨#[116,114,117,101]⟩)) (vs s3) (vs ⟨#[116,114,117,101]⟩) h24 (vb p40))/\∃ p41,((cond p39 true p40)=false->RdG .eql 9 (.tmp 57) (.const (vs ⟨#[102,97,108,115,101]⟩)) (vs s3) (vs ⟨#[102,97,108,115,101]⟩) h24 (vb p41))/\((cond (cond p39 true p40) true p41)=true->∃ x42,Hp.cell h24 u0 (u1+1)=some (vi x42)/\∃ x43,IsW x43 (x42+1)/\Hp.store h24 u0 (u1+1) [vi x43] fun h44=>Qa Pg 206 [vs s3] h44 fun v45 h46=>∃ x47 x48 x49,v45=Qe [vag [vi x47,vi x48],vi x49]/\∀ b50,h46 b50=none->let h51:=Hp.set h46 b50 (Qb [vi 1,vi 0,vi 0,vi 0,vi x47,vi x48] 250);R (vsl (some (⟨b50,0,none⟩:Addr)) 1 1) h51)/\((cond (cond p39 true p40) true p41)=false->Qa Pg 95 [vhp u0 u1,vi 1000000000] h24 fun v53 h54=>∃ x55,v53=vi x55/\Qa Pg 161 [vi x55] h54 fun v56 h57=>∃ x58 x59,v56=vag [vi x58,vi x59]/\∀ b60,h57 b60=none->let h61:=Hp.set h57 b60 (Qb [vi 1,vi 0,vi 0,vi 0,vi x58,vi x59] 250);R (vsl (some (⟨b60,0,none⟩:Addr)) 1 1) h61)))):Qa Pg 153 [vhp u0 u1] h R:=callC ⟨[],[(11,([7],[.one (.int .i64)],[]))],[]⟩ Tryz.func153 [.one (.hp u0 u1)] H
theorem QhD {u0:ByteArray}{h:Hp}{R:RtT}(H:Qa Pg 90 [vs u0] h fun v1 h2=>∃ a3 n3 c3 x4,v1=Qe [vsl a3 n3 c3,vi x4]/\((decide (x4>0))=true->R (Qe [vag [vsl none 0 0,vsl none 0 0,vsl none 0 0,vi 0,vi 0,vi 0,vi 0],vi x4]) h2)/\((decide (x4>0))=false->∀ b6,h2 b6=none->let h7:=Hp.set h2 b6 (Qb [vsl a3 n3 c3,vi 0,vi 0,vi 0] 179);Qa Pg 91 [vhp b6 0,(vs ⟨#[115,101,108,101,99,116]⟩)] h7 fun v8 h9=>v8=Qe []/\let J145:OaT->Nat->Nat->OaT->Nat->Nat->OaT->Nat->Nat->Int->Int->Hp->Prop:=fun a860 n860 c860 a861 n861 c861 a862 n862 c862 x863 x864 h865=>(Qa Pg 91 [vhp b6 0,(vs ⟨#[102,114,111,109]⟩)] h865 fun v866 h867=>v866=Qe []/\Qa Pg 91 [vhp b6 0,(vs ⟨#[101,118,101,110,116,115]⟩)] h867 fun v868 h869=>v868=Qe []/\Qa Pg 92 [vhp b6 0,(vs ⟨#[119,104,101,114,101]⟩)] h869 fun v870 h871=>∃ p872,v870=vb p872/\let J878:OaT->Nat->Nat->Hp->Prop:=fun a936 n936 c936 h937=>(Qa Pg 92 [vhp b6 0,(vs ⟨#[103,114,111,117,112]⟩)] h937 fun v938 h939=>∃ p940,v938=vb p940/\let J948:OaT->Nat->Nat->Hp->Prop:=fun a994 n994 c994 h995=>(Qa Pg 91 [vhp b6 0,(vs ⟨#[119,105,110,100,111,119]⟩)] h995 fun v996 h997=>v996=Qe []/\Qa Pg 95 [vhp b6 0,vi 1000] h997 fun v998 h999=>∃ x1000,v998=vi x1000/\Qa Pg 92 [vhp b6 0,(vs ⟨#[115,108,105,100,101]⟩)] h999 fun v1001 h1002=>∃ p1003,v1001=vb p1003/\let J1009:Int->Hp->Prop:=fun x1040 h1041=>(Qa Pg 92 [vhp b6 0,(vs ⟨#[100,101,108,97,121]⟩)] h1041 fun v1042 h1043=>∃ p1044,v1042=vb p1044/\let J1050:Int->Hp->Prop:=fun x1071 h1072=>(Qa Pg 92 [vhp b6 0,(vs ⟨#[108,97,116,101]⟩)] h1072 fun v1073 h1074=>∃ p1075,v1073=vb p1075/\let J1081:Int->Hp->Prop:=fun x1092 h1093=>(∃ x1094,Hp.cell h1093 b6 (0+3)=some (vi x1094)/\∃ x1095,((decide (x1094=0))=true->Hp.cell h1093 b6 (0+1)=some (vi x1095))/\∃ a1096 n1096 c1096,((decide (x1094=0))=true->Hp.cell h1093 b6 0=some (vsl a1096 n1096 c1096))/\let J1100:HpT:=fun h1101=>(∃ x1102,Hp.cell h1101 b6 (0+3)=some (vi x1102)/\let J1109:HpT:=fun h1110=>(∃ x1111,Hp.cell h1110 b6 (0+3)=some (vi x1111)/\((decide (x1111>0))=true->∃ x1112,Hp.cell h1110 b6 (0+3)=some (vi x1112)/\Hp.cell h1110 b6 (0+3)=some (vi x1112)/\R (Qe [vag [vsl none 0 0,vsl none 0 0,vsl none 0 0,vi 0,vi 0,vi 0,vi 0],vi x1112]) h1110)/\((decide (x1111>0))=false->R (Qe [vag [vsl a860 n860 c860,vsl a936 n936 c936,vsl a994 n994 c994,vi x1000,vi x1040,vi x1071,vi x1092],vi 0]) h1110));((decide (x1102=0))=true->Qa Pg 96 [vag [vsl a860 n860 c860,vsl a936 n936 c936,vsl a994 n994 c994,vi x1000,vi x1040,vi x1071,vi x1092]] h1101 fun v1103 h1104=>∃ x1105,v1103=vi x1105/\Hp.store h1104 b6 (0+3) [vi x1105] fun h1106=>J1109 h1106)/\((decide (x1102=0))=false->J1109 h1101));((cond (decide (x1094=0)) (decide (x1095<(n1096:Int))) false)=true->Hp.store h1093 b6 (0+3) [vi 4] fun h1097=>J1100 h1097)/\((cond (decide (x1094=0)) (decide (x1095<(n1096:Int))) false)=false->J1100 h1093));(p1075=true->Qa Pg 95 [vhp b6 0,vi 1000] h1074 fun v1076 h1077=>∃ x1078,v1076=vi x1078/\J1081 x1078 h1077)/\(p1075=false->J1081 x864 h1074));(p1044=true->Qa Pg 95 [vhp b6 0,vi 1000] h1043 fun v1045 h1046=>∃ x1047,v1045=vi x1047/\J1050 x1047 h1046)/\(p1044=false->J1050 x863 h1043));(p1003=true->Qa Pg 95 [vhp b6 0,vi 1000] h1002 fun v1004 h1005=>∃ x1006,v1004=vi x1006/\J1009 x1006 h1005)/\(p1003=false->J1009 x1000 h1002));(p940=true->Qa Pg 91 [vhp b6 0,(vs ⟨#[98,121]⟩)] h939 fun v941 h942=>v941=Qe []/\Qa Pg 94 [vhp b6 0,vi 0] h942 fun v943 h944=>∃ a945 n945 c945,v943=vsl a945 n945 c945/\J948 a945 n945 c945 h944)/\(p940=false->J948 a862 n862 c862 h939));(p872=true->Qa Pg 94 [vhp b6 0,vi 0] h871 fun v873 h874=>∃ a875 n875 c875,v873=vsl a875 n875 c875/\J878 a875 n875 c875 h874)/\(p872=false->J878 a861 n861 c861 h871));∃(I11:LtT) (m12:LmT),I11 [vb true,vsl none 0 0,vsl none 0 0,vsl none 0 0,vi 0,vi 0,vi 0,vi 0] h9/\∀ vs13 h14,I11 vs13 h14->∃ p15 a16 n16 c16 a17 n17 c17 a18 n18 c18 x19 x20 x21 x22,vs13=[vb p15,vsl a16 n16 c16,vsl a17 n17 c17,vsl a18 n18 c18,vi x19,vi x20,vi x21,vi x22]/\(p15=true->∀ b25,h14 b25=none->let h26:=Hp.set h14 b25 (Qb [(vs ⟨#[99,111,117,110,116]⟩),(vs ⟨#[115,117,109]⟩),(vs ⟨#[109,105,110]⟩),(vs ⟨#[109,97,120]⟩)] 9);∀ b27,h26 b27=none->let h28:=Hp.set h26 b27 (Qb [vi 2,vi 3,vi 4,vi 5] 3);let J56:Int->OaT->Nat->Nat->Hp->Prop:=fun x95 a96 n96 c96 h97=>(let J102:HpT:=fun h103=>(Qa Pg 91 [vhp b6 0,(vs ⟨#[40]⟩)] h103 fun v104 h105=>v104=Qe []/\let J111:Bool->Hp->Prop:=fun p113 h114=>(let J120:Int->OaT->Nat->Nat->Hp->Prop:=fun x132 a133 n133 c133 h134=>(Qa Pg 91 [vhp b6 0,(vs ⟨#[41]⟩)] h134 fun v135 h136=>v135=Qe []/\∀ b137,h136 b137=none->let h138:=Hp.set h136 b137 (Qb [vi x132,vsl a133 n133 c133] 153);Qh Pg (Builtin.append_ #[27,27] 27 #[vsl a16 n16 c16,(vsl (some (⟨b137,0,none⟩:Addr)) 1 1)]) h138 fun v139 h140=>∃ a141 n141 c141,v139=vsl a141 n141 c141/\Qa Pg 92 [vhp b6 0,(vs ⟨#[44]⟩)] h140 fun v142 h143=>∃ p144,v142=vb p144/\I11 [vb p144,vsl a141 n141 c141,vsl a17 n17 c17,vsl a18 n18 c18,vi x19,vi x20,vi x21,vi x22] h143/\m12 [vb p144,vsl a141 n141 c141,vsl a17 n17 c17,vsl a18 n18 c18,vi x19,vi x20,vi x21,vi x22] h143<m12 vs13 h14);(p113=true->J120 1 a96 n96 c96 h114)/\(p113=false->Qa Pg 94 [vhp b6 0,vi 0] h114 fun v116 h117=>∃ a118 n118 c118,v116=vsl a118 n118 c118/\J120 x95 a118 n118 c118 h117));((decide (x95=2))=true->Qa Pg 92 [vhp b6 0,(vs ⟨#[42]⟩)] h105 fun v106 h107=>∃ p108,v106=vb p108/\J111 p108 h107)/\((decide (x95=2))=false->J111 false h105));((decide (x95=0))=true->Qa Pg 93 [vhp b6 0,vi 4] h97 fun v98 h99=>v98=Qe []/\J102 h99)/\((decide (x95=0))=false->J102 h97));∃(I30:LtT) (m31:LmT),I30 [vi 0,vi 0,vsl none 0 0] h28/\∀ vs32 h33,I30 vs32 h33->∃ x34 x35 a36 n36 c36,vs32=[vi x34,vi x35,vsl a36 n36 c36]/\((cond (decide (x34<4)) (decide (x35=0)) false)=true->let J50:Int->Hp->Prop:=fun x53 h54=>(∃ x55,IsW x55 (x34+1)/\I30 [vi x55,vi x53,vsl a36 n36 c36] h54/\m31 [vi x55,vi x53,vsl a36 n36 c36] h54<m31 vs32 h33);∃ b39 o40,((some (⟨b25,0,none⟩:Addr))=some ⟨b39,o40,none⟩/\(0:Int)<=x34/\x34<((4:Nat):Int))/\∃ s41,Hp.cell h33 b39 (o40+x34.toNat*1)=some (vs s41)/\Qa Pg 92 [vhp b6 0,vs s41] h33 fun v42 h43=>∃ p44,v42=vb p44/\(p44=true->∃ b45 o46,((some (⟨b27,0,none⟩:Addr))=some ⟨b45,o46,none⟩/\(0:Int)<=x34/\x34<((4:Nat):Int))/\∃ x47,Hp.cell h43 b45 (o46+x34.toNat*1)=some (vi x47)/\J50 x47 h43)/\(p44=false->J50 x35 h43))/\((cond (decide (x34<4)) (decide (x35=0)) false)=false->J56 x35 a36 n36 c36 h33))/\(p15=false->J145 a16 n16 c16 a17 n17 c17 a18 n18 c18 x21 x22 h14))):Qa Pg 40 [vs u0] h R:=callC ⟨[27],[(13,([12],[.one (.int .i64)],[(2,[.int .i64,.slice])])),(8,([8],[.one (.bool)],[(1,[.slice,.slice,.slice,.int .i64,.int .i64,.int .i64,.int .i64])]))],[(51,[0,1,2,3,4,5,6,7,8,9,10,11,12,13,14,15,16]),(56,[0,1,2,3,4,5,6])]⟩ Tryz.func40 [.one (.v (vs u0))] H
open Go.Txt
structure QY (h0 h:Hp)(g:Nat)(W:List Wd)(s:RS):Prop where
 b:∃(a:OaT) (c i:Nat),h g=some (Qb [vsl a W.length c,vi i,vi s.deep,vi s.f] 179)/\SlB h0 a W.length W/\i<=W.length/\s.ws=(if s.f=0 then W.drop i else [])
 l:h0.le h
 z:h0 g=none
 f0:0<=s.f
 n:W.length<=1000
 w:∀ x ∈ W,x.length<=1000000
theorem QY.al {h0 h:Hp}{g:Nat}{W:List Wd}{s:RS}(D:QY h0 h g W s):h g≠none:=by
 obtain⟨a,c,i,hb,_⟩:=D.b;rw [hb];simp
theorem QY.le {h0 h h':Hp}{g:Nat}{W:List Wd}{s:RS}(D:QY h0 h g W s)(l:h.le h'):QY h0 h' g W s:=by
 obtain⟨a,c,i,hb,hS,hi,hw⟩:=D.b;exact⟨⟨a,c,i,l g _ hb,hS,hi,hw⟩,Hp.le_trans D.l l,D.z,D.f0,D.n,D.w⟩
theorem QY.good {h0 h:Hp}{g:Nat}{W:List Wd}{s:RS}(D:QY h0 h g W s):s.good:=by
 obtain⟨a,c,i,hb,hS,hi,hw⟩:=D.b;intro hf;rw [hw,bE hf]
theorem QY.c2 {h0 h:Hp}{g:Nat}{W:List Wd}{s:RS}(D:QY h0 h g W s):h.cell g (0+2)=some (vi s.deep):=by
 obtain⟨a,c,i,hb,_⟩:=D.b;exact Qc hb rfl
theorem QY.c3 {h0 h:Hp}{g:Nat}{W:List Wd}{s:RS}(D:QY h0 h g W s):h.cell g (0+3)=some (vi s.f):=by
 obtain⟨a,c,i,hb,_⟩:=D.b;exact Qc hb rfl
theorem QY.adv {h0 h:Hp}{g:Nat}{W:List Wd}{s:RS}(D:QY h0 h g W s){w:Wd}{r:List Wd}(hs:s.ws=w :: r):∃ i:Nat,h.cell g (0+1)=some (vi i)/\(i:Int)+1<=1001/\∀{K:HpT},(∀ h',QY h0 h' g W ⟨r,s.deep,s.f⟩->Mut (At g) h (At g) h'->K h')->h.store g (0+1) [vi ((i:Int)+1)] K:=by
 obtain⟨a,c,i,hb,hS,hi,hw⟩:=D.b;have hf:s.f=0:=by
  rcases Decidable.em (s.f=0) with q|q
  ·exact q
  ·rw [hs,bE q] at hw;cases hw
 rw [hs,bH hf] at hw;have hlt:i<W.length:=by
  rcases g8 i W.length with q|q
  ·exact q
  ·rw [fQ q] at hw;cases hw
 have hr:r=W.drop (i+1):=by rw [dM hlt] at hw;exact(qC hw).2
 refine⟨i,Qc hb rfl,by have:=D.n;omega,fun hK=>?_⟩
 refine QR hb (by simp) (hK _ ⟨⟨a,c,i+1,Hp.set_same _ _ _,hS,by omega,?_⟩,Jz D.l D.z _,D.z,D.f0,D.n,D.w⟩ (WT _ _ _))
 show r=if s.f=0 then W.drop (i+1) else []
 rw [bH hf,hr]
theorem QY.put2 {h0 h:Hp}{g:Nat}{W:List Wd}{s:RS}(D:QY h0 h g W s){d:Int}{K:HpT}(hK:∀ h',QY h0 h' g W ⟨s.ws,d,s.f⟩->Mut (At g) h (At g) h'->K h'):h.store g (0+2) [vi d] K:=by
 obtain⟨a,c,i,hb,hS,hi,hw⟩:=D.b;exact QR hb (by simp) (hK _ ⟨⟨a,c,i,Hp.set_same _ _ _,hS,hi,hw⟩,Jz D.l D.z _,D.z,D.f0,D.n,D.w⟩ (WT _ _ _))
theorem KR {h0 h:Hp}{g:Nat}{W:List Wd}{s:RS}(D:QY h0 h g W s){f:Int}(hf:0<f){R:RtT}(hK:∀ h',QY h0 h' g W (s.fail f)->Mut (At g) h (At g) h'->R (Qe []) h'):Qa Pg 93 [vhp g 0,vi f] h R:=by
 refine Qgz ?_
 have gd:=D.good;refine⟨_,D.c3,fun e=>?_,fun e=>?_⟩
 ·have e:s.f=0:=bC e;obtain⟨a,c,i,hb,hS,hi,hw⟩:=D.b;have ef:s.fail f=⟨[],s.deep,f⟩:=by unfold RS.fail;rw [bH e]
  rw [ef] at hK;refine QR hb (by simp) (hK _ ⟨⟨a,c,i,Hp.set_same _ _ _,hS,hi,?_⟩,Jz D.l D.z _,D.z,by show 0<=f;omega,D.n,D.w⟩ (WT _ _ _))
  show []=if f=0 then W.drop i else []
  rw [bE (by omega)]
 ·have e:s.f≠0:=bB e;have ef:s.fail f=s:=by unfold RS.fail;rw [bE e,<-gd e]
  rw [ef] at hK;exact hK h D (Mut.of_le (Hp.le_refl _))
def Qt (s:RS):Wd:=s.ws.headD []
theorem K3 {h0 h:Hp}{g:Nat}{W:List Wd}{s:RS}(D:QY h0 h g W s){R:RtT}(hK:R (vs (bs (Qt s))) h):Qa Pg 148 [vhp g 0] h R:=by
 refine Qh1 ?_
 have f0:=D.f0;unfold Qt at hK;obtain⟨a,c,i,hb,hS,hi,hw⟩:=D.b;have c0:h.cell g 0=some (vsl a W.length c):=Qc hb rfl;have c1:h.cell g (0+1)=some (vi i):=Qc hb rfl;have c3:h.cell g (0+3)=some (vi s.f):=Qc hb rfl;refine⟨_,c3,_,fun _=>c1,_,_,_,fun _=>c0,?_⟩
 rw [cor];refine⟨fun e=>?_,fun e=>?_⟩
 ·have e:=bC e;have:s.ws=[]:=by
   rw [hw];split
   ·exact fQ (by omega)
   ·rfl
  rw [this] at hK;exact hK
 ·have e:=bB e;have hlt:i<W.length:=by omega
  obtain⟨b,o,ha,hc⟩:=SlP.get1 (SlP.le D.l hS) hlt;refine⟨_,_,_,c0,_,c1,b,o,⟨ha,by omega,by omega⟩,_,hc,?_⟩
  rw [hw,bH (by omega),dM hlt] at hK
  rw [bK,bD hlt]
  exact hK
theorem V9 {s:RS}{w:Wd}(hw:w≠[]):((s.is [w]).1≠[]↔Qt s=w)/\(Qt s=w->∃ r,s.ws=w :: r/\(s.is [w]).2=⟨r,s.deep,s.f⟩)/\(Qt s≠w->(s.is [w]).2=s):=by
 unfold Qt RS.is;cases h:s.ws with
 | nil=>exact⟨⟨fun q=>absurd rfl q,fun q=>absurd q.symm hw⟩,fun q=>absurd q.symm hw,fun _=>rfl⟩
 | cons v r=>
  by_cases e:v=w
  ·subst e;refine⟨⟨fun _=>rfl,fun _=>?_⟩,fun _=>⟨r,rfl,?_⟩,fun q=>absurd rfl q⟩
   ·simpa using hw
   ·simp
  ·refine⟨⟨fun q=>?_,fun q=>absurd q e⟩,fun q=>absurd q e,fun _=>?_⟩
   ·simp [e] at q
   ·simp [e]
theorem ZH {h0 h:Hp}{g:Nat}{W:List Wd}{s:RS}(D:QY h0 h g W s){w:Wd}(hw:w≠[]){R:RtT}(hK:∀ h',QY h0 h' g W (s.is [w]).2->Mut (At g) h (At g) h'->R (vb (decide ((s.is [w]).1≠[]))) h'):Qa Pg 92 [vhp g 0,vs (bs w)] h R:=by
 refine Qh8 ?_
 obtain⟨n1,n2,n3⟩:=V9 (s:=s) hw;refine K3 D ⟨_,rfl,_,QH (b:=[]),_,fun _=>YE,?_⟩
 have hc:(bif decide (Qt s=[]) then true else(!decide (Qt s=w)))=!decide (Qt s=w):=by
  by_cases e:Qt s=[]
  ·rw [cC e,cE (by rw [e];exact fun h=>hw h.symm)];rfl
  ·rw [cE e];rfl
 rw [hc];refine⟨fun e=>?_,fun e=>?_⟩
 ·have e:Qt s≠w:=by simpa using e
  have:=hK h (by rw [n3 e];exact D) (Mut.of_le (Hp.le_refl _))
  rw [cE (fun q=>e (n1.1 q))] at this
  exact this
 ·have e:Qt s=w:=by simpa using e
  obtain⟨r,hr,hr2⟩:=n2 e;obtain⟨i,hc,hi,hst⟩:=D.adv hr;refine⟨_,hc,_,iW,hst fun h' D' M'=>?_⟩
  have:=hK h' (by rw [hr2];exact D') M'
  rw [cC (n1.2 e)] at this;exact this
theorem YA {h0 h:Hp}{g:Nat}{W:List Wd}{s:RS}(D:QY h0 h g W s){w:Wd}(hw:w≠[]){R:RtT}(hK:∀ h',QY h0 h' g W (s.must w)->Mut (At g) h (At g) h'->R (Qe []) h'):Qa Pg 91 [vhp g 0,vs (bs w)] h R:=by
 refine Qhd ?_
 unfold RS.must at hK;refine ZH D hw fun h2 D2 M2=>⟨_,rfl,fun e=>?_,fun e=>?_⟩
 ·have e:(s.is [w]).1=[]:=by simpa using e
  rw [bH e] at hK;exact KR D2 (by decide) fun h5 D5 M5=>⟨rfl,hK h5 D5 (M2.trans M5)⟩
 ·have e:(s.is [w]).1≠[]:=by simpa using e
  rw [bE e] at hK;exact hK h2 D2 M2
theorem Uy {h0 h:Hp}{g:Nat}{W:List Wd}{s:RS}(D:QY h0 h g W s){most:Int}(hm:0<=most)(hm2:most<=1000000000000){R:RtT}(hK:∀ h',QY h0 h' g W (s.number most).2->Mut (At g) h (At g) h'->R (vi (s.number most).1) h'):Qa Pg 95 [vhp g 0,vi most] h R:=by
 refine QdX ?_
 have hlen:(Qt s).length<=1000000:=by
  unfold Qt;cases h:s.ws with
  | nil=>decide
  | cons w r=>
   obtain⟨a,c,i,hb,hS,hi,hw⟩:=D.b;refine D.w w (List.mem_of_mem_drop (i:=i) ?_)
   rw [h] at hw;split at hw
   ·rw [<-hw];exact bS ..
   ·cases hw
 have hfail:s.number most=(0,s.fail 4)->Qa Pg 93 [vhp g 0,vi 4] h fun v7 h8=>v7=Qe []/\R (vi 0) h8:=by intro e;rw [e] at hK;exact KR D (by decide) fun h' D' M=>⟨rfl,hK h' D' M⟩
 refine K3 D ⟨_,rfl,QaS hlen hm hm2 ⟨_,rfl,fun e=>?_,fun e=>?_⟩⟩
 ·have e:=bC e;refine hfail ?_
  unfold RS.number;unfold Qt at e;cases h:s.ws with
  | nil=>rfl
  | cons w r=>rw [h] at e;exact bH e
 ·have e:=bB e;unfold Qt at e ⊢;cases hws:s.ws with
  | nil=>
   rw [hws] at e;exact absurd (show Z4 [] most false<0 by unfold Z4;simp) e
  | cons w r=>
   rw [hws] at e;have hn:s.number most=(Z4 w most false,⟨r,s.deep,s.f⟩):=by
    unfold RS.number;rw [hws];exact bE e
   rw [hn] at hK;obtain⟨i,hc,hi,hst⟩:=D.adv hws;exact⟨_,hc,_,iW,hst fun h' D' M'=>hK h' D' M'⟩
def inS (s:RS):RS:=if s.deep+1>12 then(⟨s.ws,s.deep+1,s.f⟩:RS).fail 2 else⟨s.ws,s.deep+1,s.f⟩
theorem QiA (p:Ps)(s:RS):K7 p s=((p (inS s)).1,⟨(p (inS s)).2.ws,(p (inS s)).2.deep-1,(p (inS s)).2.f⟩):=rfl
theorem Qie {h0 h:Hp}{g:Nat}{W:List Wd}{s:RS}(D:QY h0 h g W s)(hd0:0<=s.deep)(hd1:s.deep<=1000000){R:RtT}(hK:∀ h',QY h0 h' g W (inS s)->Mut (At g) h (At g) h'->R (Qe []) h'):Qa Pg 150 [vhp g 0] h R:=by
 refine Qkv ?_
 unfold inS at hK;refine⟨_,D.c2,_,iW,D.put2 fun h3 D3 M3=>⟨_,D3.c2,fun e=>?_,fun e=>?_⟩⟩
 ·have e:s.deep+1>12:=bC e;rw [bH e] at hK;exact KR D3 (by decide) fun h' D' M'=>⟨rfl,hK h' D' (M3.trans M')⟩
 ·have e:¬ s.deep+1>12:=bB e;rw [bE e] at hK;exact hK h3 D3 M3
theorem QkO {s:RS}(hg:s.good)(hf:s.f≠0)(f:Int):s.fail f=s:=by
 unfold RS.fail;rw [bE hf,<-hg hf]
theorem Qkq {s:RS}(hg:s.good)(hf:s.f≠0)(op:Int)(x y:List Nd):(Zd op x y s).2=s:=by
 unfold Zd;split
 ·exact QkO hg hf 2
 ·rfl
theorem ZU {h0 h:Hp}{g:Nat}{W:List Wd}{s:RS}(D:QY h0 h g W s){op:Int}{ax ay:OaT}{nx ny cx cy:Nat}{x y:List Nd}(X:s.f=0->SlP ZC h ax nx x/\x.length<=40)(Y:s.f=0->SlP ZC h ay ny y/\WfL y/\y.length<=40/\(0<y.length↔1<arI op))
  {R:RtT} (hK:∀ a n c h',QY h0 h' g W (Zd op x y s).2->((Zd op x y s).2.f=0->KV h h' a n (Zd op x y s).1)->Mut (At g) h (At g) h'->R (vsl a n c) h'):Qa Pg 151 [vhp g 0,vi op,vsl ax nx cx,vsl ay ny cy] h R:=by
 refine Qiv ?_
 have f0:=D.f0;refine⟨_,D.c3,fun e=>?_,fun e=>?_⟩
 ·have e:s.f≠0:=by have:=bC e;omega
  rw [Qkq D.good e] at hK;exact hK ax nx cx h D (fun q=>absurd q e) (Mut.of_le (Hp.le_refl _))
 have hf:s.f=0:=by have:=bB e;omega
 obtain⟨SX,hx⟩:=X hf;obtain⟨SY,WY,hy,hyo⟩:=Y hf;clear X Y;obtain rfl:=SX.1;obtain rfl:=SY.1;unfold Zd at hK;refine⟨_,iW,_,iW,fun e=>?_,fun e=>?_⟩
 ·have e:=bC e;rw [bH (by omega)] at hK
  refine KR D (by decide) fun h6 D6 M6=>⟨rfl,hK _ _ _ h6 D6 (fun q=>?_) M6⟩
  unfold RS.fail at q;rw [bH hf] at q;exact absurd q (by show (2:Int)≠0;decide)
 have e:=bB e;rw [bE (by omega)] at hK
 simp only at hK;refine KL Ql9 SX.2 (Qi QL x) (Qlj x) (by omega) (by omega) fun a3 c3 h2 V2=>⟨_,_,_,rfl,?_⟩
 refine⟨fun vs hh=>∃(i:Nat) (a:OaT) (c:Nat),vs=[vsl a (x++(y.take i).map (shN x.length)).length c,vi i]/\i<=y.length/\Uc h hh a c (x++(y.take i).map (shN x.length)),fun vs hh=>y.length-(Qm vs 1).toNat,
  ⟨0,a3,c3,by simp,cH _,by have V3:Uc h h2 a3 c3 x:=V2;simpa using V3⟩,?_⟩
 rintro vs hh ⟨i,a4,c4,rfl,hi,V⟩;have hlen:(x++(y.take i).map (shN x.length)).length=x.length+i:=by simp;omega
 refine⟨_,_,_,_,rfl,fun g'=>?_,fun g'=>?_⟩
 ·have hlt:i<y.length:=by have:=bC g';omega
  have hxx:y[i]?=some y[i]:=bD hlt
  have wn:=WY _ _ hxx;obtain⟨b,o,ha,hr⟩:=(SY.le V.le0).get QL (by decide) hxx
  have tk:(y.take (i+1)).map (shN x.length)=(y.take i).map (shN x.length)++[shN x.length y[i]]:=by rw [bJ hlt,cD];rfl
  generalize y[i]=z at *
  refine⟨b,o,⟨ha,by omega,by omega⟩,_,_,_,_,_,_,hr,NU ⟨_,rfl,?_⟩⟩
  intro J34;have hJ:∀ x',x'=(shN (x.length:Int) z).x->J34 x':=by
   intro x' hx';unfold J34;intro J45;have h45:∀ y',y'=(shN (x.length:Int) z).y->J45 y':=by
    rintro y' rfl;subst hx';intro b49 hb49 h50;refine V.app (x:=shN (x.length:Int) z) Ql9 QL VK (by omega) (by omega) hb49 fun a' c' h' V'=>⟨_,_,_,rfl,_,iW,⟨i+1,a',c',?_,by omega,?_⟩,by simp [Qm];omega⟩
    ·rw [tk,<-cG];rfl
    ·rw [tk,<-cG];exact V'
   clear_value J45;refine⟨fun q=>?_,fun q=>?_⟩
   ·have q:=bC q;have hy2:=wn.y (by omega)
    refine⟨_,iW,h45 _ ?_⟩
    unfold shN;simp only;rw [bH (show 1<arI z.op by omega)]
   ·have q:=bB q;refine h45 _ ?_
    unfold shN;simp only;rw [bE (show ¬ 1<arI z.op by omega)]
  clear_value J34;refine⟨fun q=>?_,fun q=>?_⟩
  ·have q:=bC q;have hX:=wn.x (by omega)
   refine⟨_,iW,hJ _ ?_⟩
   unfold shN;simp only;rw [bH (show 0<arI z.op by omega)]
  ·have q:=bB q;refine hJ _ ?_
   unfold shN;simp only;rw [bE (show ¬ 0<arI z.op by omega)]
 ·have hge:i=y.length:=by have:=bB g';omega
  subst hge;rw [cQ (cJ _)] at V hlen ⊢;refine⟨_,iW,?_⟩
  intro J60;have hJ:∀ y',y'=(if 1<arI op then((x.length+y.length:Nat):Int)-1 else 0)->J60 y':=by
   rintro y' rfl b66 hb66;intro h67;refine V.app (x:=⟨op,(x.length:Int)-1,if 1<arI op then((x.length+y.length:Nat):Int)-1 else 0,0,(0,0)⟩) Ql9 QL VK (by omega) (by omega) hb66 fun a' c' h' V'=>⟨_,_,_,rfl,?_⟩
   have V'':Uc h h' a' c' (Z6 op x y):=V';refine hK a' _ c' h' (D.le V''.le0) (fun _=>⟨V''.slp QL (by decide),fun b o e=>?_⟩) (Mut.of_le V''.le0)
   obtain rfl:=(Qg.own V'').at0 b o e;exact Qg.new V'' b e
  clear_value J60;refine⟨fun q=>?_,fun q=>?_⟩
  ·have q:=bC q;refine⟨_,iW,hJ _ ?_⟩
   rw [bH (hyo.1 (by omega)),hlen]
  ·have q:=bB q;refine hJ _ ?_
   rw [bE (fun h=>by have:=hyo.2 h;omega)]
def QI (k:Int)(P:Ps)(n:Nat):Prop:=∀{h0 h:Hp} {g:Nat} {W:List Wd} {s:RS},QY h0 h g W s->SOk n s->∀{R:RtT},(∀ a m c h',QY h0 h' g W (P s).2->((P s).2.f=0->KV h h' a m (P s).1)->Mut (At g) h (At g) h'->R (vsl a m c) h')->Qa Pg 94 [vhp g 0,vi k] h R
theorem QlB {P:Ps}{n:Nat}(kp:KP P n){s:RS}(S:SOk n s)(hf:s.f≠0):(P s).2=s:=by
 have k:=kp s S.good (gG S.len);have h1:=S.good hf;have h2:=k.len;have h3:=k.deep;have h4:=k.fst hf;obtain⟨ws,d,f⟩:=s;simp only at h1 h2 h3 h4 hf ⊢;subst h1;have h5:(P ⟨[],d,f⟩).2.ws=[]:=fX.1 (by simpa using h2)
 generalize (P ⟨[],d,f⟩).2=t at *
 obtain⟨ws,d',f'⟩:=t;simp only at h3 h4 h5;rw [h3,h4,h5]
theorem WS {k:Int}(hk:k=0\/k=1\/k=4\/k=5){P:Ps}{n:Nat}(kp:KP P n)(H:∀{h0 h:Hp} {g:Nat} {W:List Wd} {s:RS},QY h0 h g W s->SOk n s->∀{R:RtT},(∀ a m c h',QY h0 h' g W (P s).2->((P s).2.f=0->KV h h' a m (P s).1)->Mut (At g) h (At g) h'->R (vsl a m c) h')->Qa Pg 149 [vhp g 0,vi k] h R):QI k P n:=by
 intro h0 h g W s D S R hK;refine WQ ?_
 have f0:=D.f0;refine⟨_,D.c3,fun e=>?_,fun e=>?_⟩
 ·have e:s.f≠0:=by have:=bC e;omega
  rw [QlB kp S e] at hK;exact hK _ _ _ h D (fun q=>absurd q e) (Mut.of_le (Hp.le_refl _))
 intro J7;have h7:J7 true:=⟨fun _=>H D S fun a m c h' D' N' M'=>⟨_,_,_,rfl,hK a m c h' D' N' M'⟩,fun q=>by cases q⟩
 clear_value J7;refine⟨fun e=>by rw [e];exact h7,fun e1=>⟨fun e=>by rw [e];exact h7,fun e2=>⟨fun e=>by rw [e];exact h7,fun e3=>?_⟩⟩⟩
 have e1:=bB e1;have e2:=bB e2;have e3:=bB e3;rw [cC (show k=5 by omega)]
 exact h7
theorem QgW {P:Ps}{n:Nat}(kp:KP P n)(H:∀{h0 h:Hp} {g:Nat} {W:List Wd} {s:RS},QY h0 h g W s->SOk n s->∀{R:RtT},(∀ a m c h',QY h0 h' g W (P s).2->((P s).2.f=0->KV h h' a m (P s).1)->Mut (At g) h (At g) h'->R (vsl a m c) h')->Qa Pg 152 [vhp g 0] h R):QI 3 P n:=by
 intro h0 h g W s D S R hK;refine WQ ?_
 have f0:=D.f0;refine⟨_,D.c3,fun e=>?_,fun e=>?_⟩
 ·have e:s.f≠0:=by have:=bC e;omega
  rw [QlB kp S e] at hK;exact hK _ _ _ h D (fun q=>absurd q e) (Mut.of_le (Hp.le_refl _))
 refine⟨fun e=>absurd e (by decide),fun _=>⟨fun e=>absurd e (by decide),fun _=>⟨fun e=>absurd e (by decide),fun _=>⟨fun e=>absurd e (by decide),fun _=>?_⟩⟩⟩⟩
 refine⟨fun e=>absurd e (by decide),fun _=>⟨fun e=>absurd e (by decide),fun _=>⟨fun _=>H D S fun a m c h' D' N' M'=>⟨_,_,_,rfl,hK a m c h' D' N' M'⟩,fun e=>absurd e (by decide)⟩⟩⟩
theorem QfC {P:Ps}{n:Nat}(kp:KP P n)(H:∀{h0 h:Hp} {g:Nat} {W:List Wd} {s:RS},QY h0 h g W s->SOk n s->s.f=0->∀{R:RtT},(∀ a m c h',QY h0 h' g W (P s).2->((P s).2.f=0->KV h h' a m (P s).1)->Mut (At g) h (At g) h'->R (vsl a m c) h')->Qa Pg 153 [vhp g 0] h R):QI 7 P n:=by
 intro h0 h g W s D S R hK;refine WQ ?_
 have f0:=D.f0;refine⟨_,D.c3,fun e=>?_,fun e=>?_⟩
 ·have e:s.f≠0:=by have:=bC e;omega
  rw [QlB kp S e] at hK;exact hK _ _ _ h D (fun q=>absurd q e) (Mut.of_le (Hp.le_refl _))
 have hf:s.f=0:=by have:=bB e;omega
 refine⟨fun e=>absurd e (by decide),fun _=>⟨fun e=>absurd e (by decide),fun _=>⟨fun e=>absurd e (by decide),fun _=>⟨fun e=>absurd e (by decide),fun _=>?_⟩⟩⟩⟩
 refine⟨fun e=>absurd e (by decide),fun _=>⟨fun e=>absurd e (by decide),fun _=>⟨fun e=>absurd e (by decide),fun _=>H D S hf fun a m c h' D' N' M'=>⟨_,_,_,rfl,hK a m c h' D' N' M'⟩⟩⟩⟩
theorem Mf {s:RS}{w:Wd}(hw:w≠[])(h:(s.is [w]).1=[]):(s.is [w]).2=s:=by
 obtain⟨n1,n2,n3⟩:=V9 (s:=s) hw;exact n3 fun q=>absurd h (n1.2 q)
def QiK (w:Wd)(op:Int)(U A:Ps):Ps:=fun s=>if (s.is [w]).1=[] then A s else Zd op (K7 U (s.is [w]).2).1 [] (K7 U (s.is [w]).2).2
theorem Nn {k:Int}{w:Wd}{op:Int}(hk:(k=2/\w=QaF/\op=4)\/(k=6/\w=XL/\op=3)){U A:Ps}{n:Nat}(ku:KP U n)(kp:KP (QiK w op U A) (n+1))(FU:QI k U n)(FA:QI (k+1) A (n+1)):QI k (QiK w op U A) (n+1):=by
 intro h0 h g W s D S R hK;refine WQ ?_
 have f0:=D.f0;refine⟨_,D.c3,fun e=>?_,fun e=>?_⟩
 ·have e:s.f≠0:=by have:=bC e;omega
  rw [QlB kp S e] at hK;exact hK _ _ _ h D (fun q=>absurd q e) (Mut.of_le (Hp.le_refl _))
 have hw:w≠[]:=by rcases hk with ⟨_,rfl,_⟩|⟨_,rfl,_⟩<;>decide
 have hop:arI op=1:=by rcases hk with ⟨_,_,rfl⟩|⟨_,_,rfl⟩<;>decide
 have hk2:k=2\/k=6:=by rcases hk with ⟨h,_⟩|⟨h,_⟩<;>omega
 have io:=@Mf s w hw;have gi:=Zk S.good [w];have tk:=@Qja s [w];unfold QiK at hK;refine⟨fun e=>absurd (bC e) (by omega),fun _=>⟨fun e=>absurd (bC e) (by omega),fun _=>⟨fun e=>absurd (bC e) (by omega),fun _=>⟨fun e=>absurd (bC e) (by omega),fun _=>?_⟩⟩⟩⟩
 intro J14;have h14:J14 true:=by
  refine⟨fun _=>?_,fun q=>by cases q⟩
  intro J18;have h18:J18 (bs w) op:=by
   refine ZH D hw fun h39 D39 M39=>⟨_,rfl,fun e=>?_,fun e=>?_⟩
   ·have e:(s.is [w]).1=[]:=by simpa using e
    rw [bH e] at hK;rw [io e] at D39;exact⟨_,iW,FA D39 S fun a m c h' D' N' M'=>⟨_,_,_,rfl,hK a m c h' D' (fun q=>(N' q).base (M39.up D39.al)) (M39.trans M')⟩⟩
   ·have e:(s.is [w]).1≠[]:=by simpa using e
    rw [bE e] at hK;have tk:=tk e;have S1:=S.goes gi;have d0:=S1.d0;have d1:=S1.d1;have Sn:SOk n (s.is [w]).2:=⟨S1.good,by have:=S.len;omega,S1.big,d0,d1⟩
    generalize (s.is [w]).2=s1 at *
    have hdp:=gi.deep;have sd1:=S.d1;refine Qie D39 d0 (by omega) fun h47 D47 M47=>⟨rfl,?_⟩
    have Gin:(inS s1).ws.length<=s1.ws.length/\(inS s1).good/\(inS s1).deep=s1.deep+1:=by
     unfold inS;split
     ·exact⟨cH _,RS.fail_good _ _,rfl⟩
     ·exact⟨cJ _,Sn.good,rfl⟩
    have Si:SOk n (inS s1):=⟨Gin.2.1,Nat.lt_of_le_of_lt Gin.1 Sn.len,dJ Gin.1 Sn.big,by rw [Gin.2.2];omega,by rw [Gin.2.2];have:=Gin.1;omega⟩
    have ki:=ku _ Si.good (gG Si.len);rw [QiA] at hK;refine FU D47 Si fun a m c h49 D49 N49 M49=>⟨_,_,_,rfl,?_⟩
    have hdd:=ki.deep;have hm:m=m:=rfl;refine⟨_,D49.c2,_,iW,D49.put2 fun h53 D53 M53=>?_⟩
    have M53':=(M39.trans M47).trans (M49.trans M53);refine ZU D53 (x:=(U (inS s1)).1) (y:=[]) (fun q=>⟨((N49 q).mut D47.al M53).s,ki.le⟩) (fun q=>⟨(Jv h53 h53).s,We,by simp,by simp [hop]⟩) fun a m c h' D' N' M'=>⟨_,_,_,rfl,?_⟩
    exact hK a m c h' D' (fun q=>(N' q).base (M53'.up D53.al)) (M53'.trans M')
  clear_value J18;rcases hk with ⟨rfl,rfl,rfl⟩|⟨rfl,rfl,rfl⟩
  ·exact⟨fun e=>absurd e (by decide),fun _=>h18⟩
  ·exact⟨fun _=>h18,fun e=>absurd e (by decide)⟩
 clear_value J14;refine⟨fun e=>by rw [e];exact h14,fun e=>?_⟩
 rw [cC (show k=6 by have:=bB e;omega)]
 exact h14
theorem QaJ {s:RS}{L:List Wd}(hL:[] ∉ L):(Qt s ∈ L->∃ r,s.ws=Qt s :: r/\s.is L=(Qt s,⟨r,s.deep,s.f⟩))/\(Qt s ∉ L->s.is L=([],s)):=by
 unfold Qt RS.is;cases h:s.ws with
 | nil=>exact⟨fun q=>absurd q hL,fun _=>rfl⟩
 | cons v r=>exact⟨fun q=>⟨r,rfl,bH q⟩,fun q=>bE q⟩
def rrN (h:Hp)(g:Nat):Nat:=match h.cell g (0+3),h.cell g 0,h.cell g (0+1) with
 | some (.int _ f),some (.slice _ n _),some (.int _ i)=>if f=0 then 1+(n-i.toNat) else 0
 | _,_,_=>0
theorem QY.rn {h0 h:Hp}{g:Nat}{W:List Wd}{s:RS}(D:QY h0 h g W s):rrN h g=if s.f=0 then 1+s.ws.length else 0:=by
 obtain⟨a,c,i,hb,hS,hi,hw⟩:=D.b;have c0:h.cell g 0=some (vsl a W.length c):=Qc hb rfl;have c1:h.cell g (0+1)=some (vi i):=Qc hb rfl;have c3:h.cell g (0+3)=some (vi s.f):=Qc hb rfl;unfold rrN;rw [c0,c1,c3];simp only;split
 ·rename_i hf;rw [hw,bH hf,dO,bG]
 ·rfl
theorem Qkb {hB h:Hp}{b:Nat}(hb:hB b=none)(n:Nd):KV hB (h.set b (Qb (ZC n) 250)) (some ⟨b,0,none⟩) 1 [n]:=
 ⟨⟨rfl,(Qw.new h b 250 (sz:=6) (n:=1) (ZC n) rfl (by decide)).row⟩,fun b' o e=>by cases e;exact hb⟩
def Qik (k:Int)(w:Wd):Int:=if w=wOr then(if k=0 then 10 else 0) else if w=QlK then(if k=1 then 9 else 0) else if w=QdV then(if k=4 then 6 else 0) else if w=XL then(if k=4 then 7 else 0) else if w=Yt then(if k=5 then 8 else 0) else 0
def QiS (k:Int)(ops:List (Wd × Int)):Prop:=(k=0/\ops=[(wOr,10)])\/(k=1/\ops=[(QlK,9)])\/(k=4/\ops=[(QdV,6),(XL,7)])\/(k=5/\ops=[(Yt,8)])
theorem Qo0 {k:Int}{ops:List (Wd × Int)}(hk:QiS k ops)(w:Wd):Qik k w=if w ∈ ops.map (·.1) then Qfd ops w else 0:=by
 by_cases h1:w=wOr
 ·subst h1;rcases hk with ⟨rfl,rfl⟩|⟨rfl,rfl⟩|⟨rfl,rfl⟩|⟨rfl,rfl⟩<;>decide
 by_cases h2:w=QlK
 ·subst h2;rcases hk with ⟨rfl,rfl⟩|⟨rfl,rfl⟩|⟨rfl,rfl⟩|⟨rfl,rfl⟩<;>decide
 by_cases h3:w=QdV
 ·subst h3;rcases hk with ⟨rfl,rfl⟩|⟨rfl,rfl⟩|⟨rfl,rfl⟩|⟨rfl,rfl⟩<;>decide
 by_cases h4:w=XL
 ·subst h4;rcases hk with ⟨rfl,rfl⟩|⟨rfl,rfl⟩|⟨rfl,rfl⟩|⟨rfl,rfl⟩<;>decide
 by_cases h5:w=Yt
 ·subst h5;rcases hk with ⟨rfl,rfl⟩|⟨rfl,rfl⟩|⟨rfl,rfl⟩|⟨rfl,rfl⟩<;>decide
 have e:Qik k w=0:=by unfold Qik;rw [bE h1,bE h2,bE h3,bE h4,bE h5]
 rw [e,bE];intro hm;rcases hk with ⟨_,rfl⟩|⟨_,rfl⟩|⟨_,rfl⟩|⟨_,rfl⟩
 ·exact h1 (by simpa using hm)
 ·exact h2 (by simpa using hm)
 ·have:w=QdV\/w=XL:=by simpa using hm
  rcases this with q|q
  ·exact h3 q
  ·exact h4 q
 ·exact h5 (by simpa using hm)
theorem QiS.opr {k:Int}{ops:List (Wd × Int)}(hk:QiS k ops):(∀ q ∈ ops,Opr q.2)/\(∀ q ∈ ops,1<arI q.2/\q.2≠0)/\([]:Wd) ∉ ops.map (·.1)/\(k=0\/k=1\/k=4\/k=5):=by
 rcases hk with ⟨rfl,rfl⟩|⟨rfl,rfl⟩|⟨rfl,rfl⟩|⟨rfl,rfl⟩<;>exact⟨by decide,by decide,by decide,by decide⟩
theorem Qp4 {ops:List (Wd × Int)}{Q:Int->Prop}(ho:∀ q ∈ ops,Q q.2){w:Wd}(hw:w ∈ ops.map (·.1)):Q (Qfd ops w):=by
 unfold Qfd;cases h:ops.find? (fun p=>p.1=w) with
 | none=>
  obtain⟨q,hq,rfl⟩:=dI.1 hw;have:=kL.1 h q hq
  simp at this
 | some q=>exact ho q (kD h)
theorem Uq {k:Int}{ops:List (Wd × Int)}(hk:QiS k ops){P:Ps}{n:Nat}(F:QI (k+1) P n)(kp:KP P n){h0 h:Hp}{g:Nat}{W:List Wd}{s:RS}(D:QY h0 h g W s)(S:SOk n s){R:RtT}
  (hK:∀ a m c h',QY h0 h' g W (Qfq P ops s).2->((Qfq P ops s).2.f=0->KV h h' a m (Qfq P ops s).1)->Mut (At g) h (At g) h'->R (vsl a m c) h'):Qa Pg 149 [vhp g 0,vi k] h R:=by
 refine QhG ?_
 obtain⟨ho,ho2,hnil,hk4⟩:=hk.opr;have kk:=kp s S.good (gG S.len);have Sx:=S.goes kk.goes;have kx:=kk.wf;have kl:=kk.le;have kp1:=kk.pos;unfold Qfq at hK;refine⟨_,iW,F D S fun a4 m4 c4 h3 D3 N3 M3=>⟨_,_,_,rfl,?_⟩⟩
 generalize P s=X at *
 obtain⟨x0,s0⟩:=X;simp -zeta only at hK D3 N3 Sx kx kl kp1 ⊢;intro J47;refine⟨fun vs' hh=>∃(j:Nat) (x:List Nd) (t:RS) (a:OaT) (m c:Nat),vs'=[vsl a m c]/\QY h0 hh g W t/\(t.f=0->KV h hh a m x)/\Mut (At g) h (At g) hh/\SOk n t/\1<=x.length/\x.length<=40/\WfL x/\t.ws.length<j/\Qfr P ops j x t=Qfr P ops (s0.ws.length+1) x0 s0,fun _ hh=>rrN hh g,⟨_,x0,s0,a4,m4,c4,rfl,D3,N3,M3,Sx,kp1,kl,kx,jG _,rfl⟩,?_⟩
 rintro vs' hh ⟨j,x,t,a,m,c,rfl,Dt,Nt,Mt,St,hx1,hx,Wx,hj,hrow⟩;obtain⟨j,rfl⟩:∃ j',j=j'+1:=⟨j-1,by omega⟩
 have hst:Qfr P ops (j+1) x t=if t.f≠0 then(x,t) else if (t.is (ops.map (·.1))).1=[] then(x,(t.is (ops.map (·.1))).2) else Qfr P ops j (Zd (Qfd ops (t.is (ops.map (·.1))).1) x (P (t.is (ops.map (·.1))).2).1 (P (t.is (ops.map (·.1))).2).2).1 (Zd (Qfd ops (t.is (ops.map (·.1))).1) x (P (t.is (ops.map (·.1))).2).1 (P (t.is (ops.map (·.1))).2).2).2:=rfl
 rw [hst] at hrow;clear hst;refine⟨_,_,_,rfl,_,Dt.c3,fun e=>?_,fun e=>?_⟩
 ·have f0:¬ t.f≠0:=fun h=>h (bC e)
  rw [bE f0] at hrow;have Nt:=Nt (fS.1 f0);have hrt:=Dt.rn;rw [bH (fS.1 f0)] at hrt;obtain⟨ny,nn⟩:=QaJ (s:=t) hnil;refine K3 Dt ⟨_,rfl,?_⟩
  intro J33;have key:J33 (Qik k (Qt t)):=by
   have hr:=Qo0 hk (Qt t);by_cases hm:Qt t ∈ ops.map (·.1)
   ·rw [bH hm] at hr;obtain⟨r,hws,his⟩:=ny hm;have h2:=Qp4 (Q:=fun o=>1<arI o/\o≠0) ho2 hm
    have hop:=QiX ho hm;rw [his] at hrow;simp only at hrow;have hne:Qt t≠[]:=fun q=>hnil (by rw [<-q];exact hm)
    rw [bE hne] at hrow;rw [hr];have gi:=Zk St.good (ops.map (·.1))
    rw [his] at gi;simp only at gi;have S1:=St.goes gi;generalize Qfd ops (Qt t)=op at *
    refine⟨fun q=>absurd (bC q) h2.2,fun _=>?_⟩
    obtain⟨i,hc,hi,hsto⟩:=Dt.adv hws;have kn:=kp _ S1.good (gG S1.len);refine⟨_,hc,_,iW,hsto fun h39 D39 M39=>⟨_,iW,F D39 S1 fun a43 m43 c43 h42 D42 N42 M42=>⟨_,_,_,rfl,?_⟩⟩⟩
    have kj:Xk (Zd op x (P ⟨r,t.deep,t.f⟩).1 (P ⟨r,t.deep,t.f⟩).2) t:=Q4 hop (gi.trans kn.goes) Wx kn.wf hx1 (fun _=>kn.pos)
    have kn1:=kn.wf;have kn2:=kn.le;have kn3:=kn.len;have kn4:=kn.pos;have kj2:(Zd op x (P ⟨r,t.deep,t.f⟩).1 (P ⟨r,t.deep,t.f⟩).2).2.ws.length<=(P ⟨r,t.deep,t.f⟩).2.ws.length:=by
     unfold Zd;split
     ·exact cH _
     ·exact cJ _
    simp only at kn3;generalize P ⟨r,t.deep,t.f⟩=Y at *
    obtain⟨y1,s2⟩:=Y;simp only at hrow D42 N42 kj kn1 kn2 kn3 kn4 kj2 ⊢;have M42':=Mt.trans M39;refine ZU D42 (x:=x) (y:=y1) (fun q=>⟨((Nt.mut D.al M39).mut D.al M42).s,hx⟩) (fun q=>⟨(N42 q).s,kn1,kn2,⟨fun _=>h2.1,fun _=>kn4⟩⟩) fun a46 m46 c46 h45 D45 N45 M45=>⟨_,_,_,rfl,⟨j,_,_,a46,m46,c46,rfl,D45,fun q=>(N45 q).base ((M42'.trans M42).up D42.al),(M42'.trans M42).trans M45,St.goes kj.goes,kj.pos,kj.le,kj.wf,?_,hrow⟩,?_⟩
    ·rw [hws] at hj;simp at hj;omega
    ·have h45n:=D45.rn;show rrN h45 g<rrN hh g;rw [hrt,h45n,hws];simp;split<;>omega
   ·rw [bE hm] at hr;rw [nn hm] at hrow;simp only at hrow;rw [bH trivial] at hrow;rw [hr];refine⟨fun _=>?_,fun q=>absurd q (by decide)⟩
    rw [<-hrow] at hK;exact hK a m c hh Dt (fun _=>Nt) Mt
  clear_value J33;unfold Qik at key;refine⟨_,QH (b:=wOr),fun e1=>?_,fun e1=>⟨_,QH (b:=QlK),fun e2=>?_,fun e2=>⟨_,QH (b:=QdV),fun e3=>?_,fun e3=>⟨_,QH (b:=XL),fun e4=>?_,fun e4=>⟨_,QH (b:=Yt),fun e5=>?_,fun e5=>?_⟩⟩⟩⟩⟩
  ·rw [bH (bC e1)] at key;exact⟨fun q=>by rw [bH (bC q)] at key;exact key,fun q=>by rw [bE (bB q)] at key;exact key⟩
  ·rw [bE (bB e1),bH (bC e2)] at key;exact⟨fun q=>by rw [bH (bC q)] at key;exact key,fun q=>by rw [bE (bB q)] at key;exact key⟩
  ·rw [bE (bB e1),bE (bB e2),bH (bC e3)] at key;exact⟨fun q=>by rw [bH (bC q)] at key;exact key,fun q=>by rw [bE (bB q)] at key;exact key⟩
  ·rw [bE (bB e1),bE (bB e2),bE (bB e3),bH (bC e4)] at key;exact⟨fun q=>by rw [bH (bC q)] at key;exact key,fun q=>by rw [bE (bB q)] at key;exact key⟩
  ·rw [bE (bB e1),bE (bB e2),bE (bB e3),bE (bB e4),bH (bC e5)] at key;exact⟨fun q=>by rw [bH (bC q)] at key;exact key,fun q=>by rw [bE (bB q)] at key;exact key⟩
  ·rw [bE (bB e1),bE (bB e2),bE (bB e3),bE (bB e4),bE (bB e5)] at key;exact key
 ·have f0:t.f≠0:=bB e;rw [bH f0] at hrow;rw [<-hrow] at hK;exact hK a m c hh Dt Nt Mt
def Qjs:List Wd:=[wLt,wGt,wLe,wGe,wEq,wNe,wIs]
theorem Qdx {P:Ps}{n:Nat}(F:QI 4 P n)(kp:KP P n){h0 h:Hp}{g:Nat}{W:List Wd}{s:RS}(D:QY h0 h g W s)(S:SOk n s){R:RtT}
  (hK:∀ a m c h',QY h0 h' g W (QgH P s).2->((QgH P s).2.f=0->KV h h' a m (QgH P s).1)->Mut (At g) h (At g) h'->R (vsl a m c) h'):Qa Pg 152 [vhp g 0] h R:=by
 refine Qbk ?_
 have kk:=kp s S.good (gG S.len);have Sx:=S.goes kk.goes;have kx:=kk.wf;have kl:=kk.le;have kp1:=kk.pos;unfold QgH at hK;simp only at hK;refine F D S fun a3 m3 c3 h2 D2 N2 M2=>⟨_,_,_,rfl,?_⟩
 generalize P s=X at *
 obtain⟨x,s0⟩:=X;simp -zeta only at hK D2 N2 Sx kx kl kp1 ⊢;have hnil:([]:Wd) ∉ Qjs:=by decide
 have hcw:[wLt,wGt,wLe,wGe,wEq,wNe,wIs]=Qjs:=rfl;rw [hcw] at hK;obtain⟨ny,nn⟩:=QaJ (s:=s0) hnil;refine K3 D2 ⟨_,rfl,_,YE (b:=wLt),_,fun _=>YE (b:=wGt),_,fun _=>YE (b:=wLe),_,fun _=>YE (b:=wGe),_,fun _=>YE (b:=wEq),_,fun _=>YE (b:=wNe),_,fun _=>YE (b:=wIs),?_⟩
 have hmem:Qt s0 ∈ Qjs↔¬((((((Qt s0≠wLt/\Qt s0≠wGt)/\Qt s0≠wLe)/\Qt s0≠wGe)/\Qt s0≠wEq)/\Qt s0≠wNe)/\Qt s0≠wIs):=by
  generalize Qt s0=w;unfold Qjs;constructor
  ·intro hm;have:w=wLt\/w=wGt\/w=wLe\/w=wGe\/w=wEq\/w=wNe\/w=wIs:=by simpa using hm
   rintro⟨⟨⟨⟨⟨⟨q1,q2⟩,q3⟩,q4⟩,q5⟩,q6⟩,q7⟩;rcases this with q|q|q|q|q|q|q
   ·exact q1 q
   ·exact q2 q
   ·exact q3 q
   ·exact q4 q
   ·exact q5 q
   ·exact q6 q
   ·exact q7 q
  ·intro hm;refine d5 fun q=>hm ?_
   have:¬(w=wLt\/w=wGt\/w=wLe\/w=wGe\/w=wEq\/w=wNe\/w=wIs):=fun r=>q (by simpa using r)
   simp only [not_or] at this;obtain⟨q1,q2,q3,q4,q5,q6,q7⟩:=this;exact⟨⟨⟨⟨⟨⟨q1,q2⟩,q3⟩,q4⟩,q5⟩,q6⟩,q7⟩
 simp -zeta only [QjH,ZP];refine⟨fun e=>?_,fun e=>?_⟩
 ·have hm:Qt s0 ∉ Qjs:=fun q=>hmem.1 q (bC e)
  rw [nn hm] at hK;simp only at hK;rw [bE (by decide),bE (by decide),bE (by decide),bE (by decide),bE (by decide),bE (by decide),bE (by decide)] at hK
  exact hK a3 m3 c3 h2 D2 N2 M2
 have hm:Qt s0 ∈ Qjs:=hmem.2 (bB e);obtain⟨r,hws,his⟩:=ny hm;have gi:=Zk Sx.good Qjs;rw [his] at gi hK;simp only at hK gi;have S1:=Sx.goes gi;have hf0:s0.f=0:=by
  rcases Decidable.em (s0.f=0) with q|q
  ·exact q
  ·rw [Sx.good q] at hws;cases hws
 have N2:=N2 hf0;obtain⟨i,hc,hi,hsto⟩:=D2.adv hws;have k2:=kp _ S1.good (gG S1.len);have kw:=k2.wf;have kl2:=k2.le;have kq2:=k2.pos;refine⟨_,hc,_,iW,hsto fun h17 D17 M17=>?_⟩
 have N17:=N2.mut D.al M17;have M17':=M2.trans M17;generalize Qt s0=w at *
 generalize (⟨r,s0.deep,s0.f⟩:RS)=s1 at *
 have hm2:w=wLt\/w=wGt\/w=wLe\/w=wGe\/w=wEq\/w=wNe\/w=wIs:=by simpa [Qjs] using hm
 refine⟨_,QH (b:=wIs),fun e=>?_,fun e=>?_⟩
 ·have ew:w=wIs:=bC e;rw [bE (by rw [ew];decide),bE (by rw [ew];decide),bE (by rw [ew];decide),bE (by rw [ew];decide),bE (by rw [ew];decide),bE (by rw [ew];decide),bH ew] at hK
  have g3:=Zk S1.good [QaF];refine ZH (w:=QaF) D17 (by decide) fun h20 D20 M20=>⟨_,rfl,?_⟩
  generalize s1.is [QaF]=C at *
  obtain⟨v,s3⟩:=C;simp -zeta only at hK D20 g3 ⊢;refine YA (w:=Wv) D20 (by decide) fun h23 D23 M23=>⟨rfl,?_⟩
  generalize s3.must Wv=s4 at *
  refine ZU D23 (x:=x) (y:=[]) (fun q=>⟨((N17.mut D.al M20).mut D.al M23).s,kl⟩) (fun q=>⟨(Jv h23 h23).s,We,by simp,by decide⟩) fun a26 m26 c26 h25 D25 N25 M25=>⟨_,_,_,rfl,?_⟩
  have M25':=(M17'.trans M20).trans M23;have jl:=QaH 5 x [] s4;intro J32;refine⟨fun q=>?_,fun q=>?_⟩
  ·have q:=bC q;rw [bH q] at hK;refine ZU D25 (x:=(Zd 5 x [] s4).1) (y:=[]) (fun q=>⟨(N25 q).s,jl⟩) (fun q=>⟨(Jv h25 h25).s,We,by simp,by decide⟩) fun a29 m29 c29 h28 D28 N28 M28=>⟨_,_,_,rfl,?_⟩
   exact hK a29 m29 c29 h28 D28 (fun q=>(N28 q).base ((M25'.trans M25).up D25.al)) ((M25'.trans M25).trans M28)
  ·have q:=bB q;rw [bE q] at hK;exact hK a26 m26 c26 h25 D25 (fun q=>(N25 q).base (M25'.up D23.al)) (M25'.trans M25)
 have ew:¬ w=wIs:=bB e;refine F D17 S1 fun a39 m39 c39 h38 D38 N38 M38=>⟨_,_,_,rfl,?_⟩
 have M38':=M17'.trans M38;have Nx:=N17.mut D.al M38;generalize P s1=Y at *
 obtain⟨y,s2⟩:=Y;simp -zeta only at hK D38 N38 kw kl2 kq2 ⊢;refine⟨_,QH (b:=wLt),fun e=>?_,fun e1=>⟨_,QH (b:=wGt),fun e=>?_,fun e2=>⟨_,QH (b:=wLe),fun e=>?_,fun e3=>⟨_,QH (b:=wGe),fun e=>?_,fun e4=>⟨_,QH (b:=wEq),fun e=>?_,fun e5=>?_⟩⟩⟩⟩⟩
 ·rw [bH (bC e)] at hK;exact ZU D38 (x:=x) (y:=y) (fun q=>⟨Nx.s,kl⟩) (fun q=>⟨(N38 q).s,kw,kl2,⟨fun _=>by decide,fun _=>kq2⟩⟩) fun a m c h42 D42 N42 M42=>⟨_,_,_,rfl,hK a m c h42 D42 (fun q=>(N42 q).base (M38'.up D38.al)) (M38'.trans M42)⟩
 ·rw [bE (bB e1),bH (bC e)] at hK;exact ZU D38 (x:=y) (y:=x) (fun q=>⟨(N38 q).s,kl2⟩) (fun q=>⟨Nx.s,kx,kl,⟨fun _=>by decide,fun _=>kp1⟩⟩) fun a m c h42 D42 N42 M42=>⟨_,_,_,rfl,hK a m c h42 D42 (fun q=>(N42 q).base (M38'.up D38.al)) (M38'.trans M42)⟩
 ·rw [bE (bB e1),bE (bB e2),bH (bC e)] at hK;have jl:=QaH 11 y x s2;exact ZU D38 (x:=y) (y:=x) (fun q=>⟨(N38 q).s,kl2⟩) (fun q=>⟨Nx.s,kx,kl,⟨fun _=>by decide,fun _=>kp1⟩⟩) fun a m c h42 D42 N42 M42=>⟨_,_,_,rfl,ZU D42 (x:=(Zd 11 y x s2).1) (y:=[]) (fun q=>⟨(N42 q).s,jl⟩) (fun q=>⟨(Jv h42 h42).s,We,by simp,by decide⟩) fun a m c h45 D45 N45 M45=>⟨_,_,_,rfl,hK a m c h45 D45 (fun q=>(N45 q).base ((M38'.trans M42).up D42.al)) ((M38'.trans M42).trans M45)⟩⟩
 ·rw [bE (bB e1),bE (bB e2),bE (bB e3),bH (bC e)] at hK;have jl:=QaH 11 x y s2;exact ZU D38 (x:=x) (y:=y) (fun q=>⟨Nx.s,kl⟩) (fun q=>⟨(N38 q).s,kw,kl2,⟨fun _=>by decide,fun _=>kq2⟩⟩) fun a m c h42 D42 N42 M42=>⟨_,_,_,rfl,ZU D42 (x:=(Zd 11 x y s2).1) (y:=[]) (fun q=>⟨(N42 q).s,jl⟩) (fun q=>⟨(Jv h42 h42).s,We,by simp,by decide⟩) fun a m c h45 D45 N45 M45=>⟨_,_,_,rfl,hK a m c h45 D45 (fun q=>(N45 q).base ((M38'.trans M42).up D42.al)) ((M38'.trans M42).trans M45)⟩⟩
 ·rw [bE (bB e1),bE (bB e2),bE (bB e3),bE (bB e4),bH (bC e)] at hK;exact ZU D38 (x:=x) (y:=y) (fun q=>⟨Nx.s,kl⟩) (fun q=>⟨(N38 q).s,kw,kl2,⟨fun _=>by decide,fun _=>kq2⟩⟩) fun a m c h42 D42 N42 M42=>⟨_,_,_,rfl,hK a m c h42 D42 (fun q=>(N42 q).base (M38'.up D38.al)) (M38'.trans M42)⟩
 ·have e6:w=wNe:=by
   rcases hm2 with q|q|q|q|q|q|q
   ·exact absurd q (bB e1)
   ·exact absurd q (bB e2)
   ·exact absurd q (bB e3)
   ·exact absurd q (bB e4)
   ·exact absurd q (bB e5)
   ·exact q
   ·exact absurd q ew
  rw [bE (bB e1),bE (bB e2),bE (bB e3),bE (bB e4),bE (bB e5),bH e6] at hK;have jl:=QaH 12 x y s2;exact ZU D38 (x:=x) (y:=y) (fun q=>⟨Nx.s,kl⟩) (fun q=>⟨(N38 q).s,kw,kl2,⟨fun _=>by decide,fun _=>kq2⟩⟩) fun a m c h42 D42 N42 M42=>⟨_,_,_,rfl,ZU D42 (x:=(Zd 12 x y s2).1) (y:=[]) (fun q=>⟨(N42 q).s,jl⟩) (fun q=>⟨(Jv h42 h42).s,We,by simp,by decide⟩) fun a m c h45 D45 N45 M45=>⟨_,_,_,rfl,hK a m c h45 D45 (fun q=>(N45 q).base ((M38'.trans M42).up D42.al)) ((M38'.trans M42).trans M45)⟩⟩
theorem QkK {i:Nat}(hi:i<4):ZF.getD i [] ∈ ZF/\ZF.idxOf (ZF.getD i [])=i:=by
 match i,hi with
 | 0,_=>decide
 | 1,_=>decide
 | 2,_=>decide
 | 3,_=>decide
theorem Qj0 {P:Ps}{s:RS}{w:Wd}(h:s.is ([ZR]++Yn++ZF)=([],s)):WA P s=([⟨1,0,0,0,(1,(s.number 1000000000).1)⟩],(s.number 1000000000).2):=by
 unfold WA;rw [h];rfl
theorem QjL {P:Ps}{n:Nat}(F:QI 0 P n)(kp:KP P n){h0 h:Hp}{g:Nat}{W:List Wd}{s:RS}(D:QY h0 h g W s)(S:SOk (n+1) s)(hf:s.f=0){R:RtT}
  (hK:∀ a m c h',QY h0 h' g W (WA P s).2->((WA P s).2.f=0->KV h h' a m (WA P s).1)->Mut (At g) h (At g) h'->R (vsl a m c) h'):Qa Pg 153 [vhp g 0] h R:=by
 refine Qhz ?_
 have hnil:([]:Wd) ∉ ([ZR]++Yn++ZF):=by decide
 obtain⟨ny,nn⟩:=QaJ (s:=s) hnil;obtain⟨o1,o2,o3⟩:=V9 (s:=s) (w:=ZR) (by decide)
 have gi:=Zk S.good ([ZR]++Yn++ZF);refine K3 D ⟨_,rfl,ZH (w:=ZR) D (by decide) fun h5 D5 M5=>⟨_,rfl,fun e=>?_,fun e=>?_⟩⟩
 ·have e:Qt s=ZR:=o1.1 (bC e);obtain⟨r,hws,his⟩:=ny (by rw [e];decide)
  obtain⟨r',hws',his'⟩:=o2 e;have er:r'=r:=by rw [hws] at hws';exact((qC hws').2).symm
  subst er;rw [his'] at D5;have hat:WA P s=((K7 P ⟨r',s.deep,s.f⟩).1,(K7 P ⟨r',s.deep,s.f⟩).2.must Za):=by
   unfold WA;rw [his,e];rfl
  rw [hat] at hK;rw [his] at gi;simp only at gi hK;have S1:=S.goes gi;have d0:=S1.d0;have d1:=S1.d1;have hlen:r'.length<n:=by
   have h1:=S.len;rw [hws] at h1;simp at h1;omega
  have Sn:SOk n ⟨r',s.deep,s.f⟩:=⟨S1.good,hlen,S1.big,d0,d1⟩;have hl2:(⟨r',s.deep,s.f⟩:RS).ws.length+1=s.ws.length:=by rw [hws];rfl
  generalize (⟨r',s.deep,s.f⟩:RS)=s1 at *
  have sd1:=S.d1;have hdp:=gi.deep;refine Qie D5 d0 (by omega) fun h8 D8 M8=>⟨rfl,?_⟩
  have Gin:(inS s1).ws.length<=s1.ws.length/\(inS s1).good/\(inS s1).deep=s1.deep+1:=by
   unfold inS;split
   ·exact⟨cH _,RS.fail_good _ _,rfl⟩
   ·exact⟨cJ _,Sn.good,rfl⟩
  have hl3:(s1.ws.length:Int)+1<=(s.ws.length:Int):=by omega
  have Si:SOk n (inS s1):=⟨Gin.2.1,Nat.lt_of_le_of_lt Gin.1 Sn.len,dJ Gin.1 Sn.big,by rw [Gin.2.2];omega,by rw [Gin.2.2];have:=Gin.1;omega⟩
  have ki:=kp _ Si.good (gG Si.len);have kd:=Ur kp (YS.refl Sn.good) (gG Sn.len);rw [QiA] at hK kd;refine F D8 Si fun a m c h10 D10 N10 M10=>⟨_,_,_,rfl,?_⟩
  have hdd:=ki.deep;refine⟨_,D10.c2,_,iW,D10.put2 fun h14 D14 M14=>?_⟩
  refine YA (w:=Za) D14 (by decide) fun h16 D16 M16=>⟨rfl,?_⟩
  have M8':=M5.trans M8;refine hK a m c h16 D16 (fun q=>?_) (((M8'.trans M10).trans M14).trans M16)
  have q2:(P (inS s1)).2.f=0:=by
   refine d5 fun hne=>?_
   have:=(Zw (s:=⟨(P (inS s1)).2.ws,(P (inS s1)).2.deep-1,(P (inS s1)).2.f⟩) kd.ok Za).fst hne;exact hne (this.symm.trans q)
  exact(((N10 q2).base (M8'.up D8.al)).mut D.al M14).mut D.al M16
 have e:Qt s≠ZR:=fun q=>bB e (o1.2 q)
 rw [o3 e] at D5;intro b18 hb18 h19;have l19:h5.le h19:=Hp.le_set (Hp.le_refl h5) hb18 _;have D19:=D5.le l19;have M19:=M5.trans (Mut.of_le l19);have hlit:=Qhg h5 b18 ZF (by decide)
 refine⟨fun vs' hh=>hh=h19/\∃ i:Nat,vs'=[vi i]/\i<=4/\∀ j,j<i->Qt s≠ZF.getD j [],fun vs' hh=>4-(Qm vs' 0).toNat,⟨rfl,0,rfl,by omega,by omega⟩,?_⟩
 rintro vs' hh ⟨rfl,i,rfl,hi,hno⟩;refine⟨i,rfl,fun e1=>?_,fun e1=>?_⟩
 ·have hlt:i<4:=by have:=bC e1;omega
  obtain⟨b,o,ha,hc⟩:=SlP.get1 hlit (i:=i) (by show i<4;exact hlt)
  refine⟨b,o,⟨ha,by omega,by omega⟩,_,hc,_,QH,fun q=>?_,fun q=>?_⟩
  ·have q:Qt s=ZF.getD i []:=bC q;obtain⟨hmf,hix⟩:=QkK hlt;rw [<-q] at hmf hix;obtain⟨r,hws,his⟩:=ny (fV _ hmf);have hnc:Qt s ∉ Yn:=by
    intro hc;have h1:Qt s=Wv\/Qt s=Xm\/Qt s=Xp:=by simpa [Yn] using hc
    rcases h1 with h1|h1|h1<;>rw [h1] at hmf<;>exact absurd hmf (by decide)
   have hne:Qt s≠[]:=by intro h1;rw [h1] at hmf;exact absurd hmf (by decide)
   have hat:WA P s=([⟨2,0,0,i,(0,0)⟩],⟨r,s.deep,s.f⟩):=by unfold WA;rw [his];simp only;rw [bE e,bE hnc,bE hne,hix]
   rw [hat] at hK;obtain⟨i',hc',hi',hsto⟩:=D19.adv hws;refine⟨_,hc',_,iW,hsto fun h34 D34 M34=>?_⟩
   intro b35 hb35 h36;have l36:h34.le h36:=Hp.le_set (Hp.le_refl h34) hb35 _;have M34':=M19.trans M34;exact hK _ _ _ h36 (D34.le l36) (fun _=>Qkb (M34'.up D34.al b35 hb35) ⟨2,0,0,i,(0,0)⟩) (M34'.trans (Mut.of_le l36))
  ·have q:Qt s≠ZF.getD i []:=bB q;refine⟨_,iW,⟨rfl,i+1,rfl,by omega,fun j hj=>?_⟩,by simp [Qm];omega⟩
   rcases g8 j i with h1|h1
   ·exact hno j h1
   ·have:j=i:=by omega
    rw [this];exact q
 ·have hge:i=4:=by have:=bB e1;omega
  subst hge;have hnf:Qt s ∉ ZF:=by
   intro hm;have h1:Qt s=[116]\/Qt s=[107]\/Qt s=[97]\/Qt s=[98]:=by simpa [ZF] using hm
   rcases h1 with h1|h1|h1|h1
   ·exact hno 0 (by omega) h1
   ·exact hno 1 (by omega) h1
   ·exact hno 2 (by omega) h1
   ·exact hno 3 (by omega) h1
  have hwc:Qt s ∈ Yn↔(Qt s=Wv\/Qt s=Xm)\/Qt s=Xp:=by simp [Yn,or_assoc]
  refine⟨_,QH (b:=Wv),_,fun _=>QH (b:=Xm),_,fun _=>QH (b:=Xp),?_⟩
  simp -zeta only [cor];refine⟨fun q=>?_,fun q=>?_⟩
  ·have hc:Qt s ∈ Yn:=hwc.2 (bC q);obtain⟨r,hws,his⟩:=ny (fL _ (fV _ hc));have hat:WA P s=([⟨1,0,0,0,Qds (Qt s)⟩],⟨r,s.deep,s.f⟩):=by unfold WA;rw [his];simp only;rw [bE e,bH hc]
   rw [hat] at hK;obtain⟨i',hc',hi',hsto⟩:=D19.adv hws;have hwl:(Qt s).length<=1000000:=by
    have:Qt s=Wv\/Qt s=Xm\/Qt s=Xp:=by simpa [Yn] using hc
    rcases this with h1|h1|h1<;>rw [h1]<;>decide
   refine⟨_,hc',_,iW,hsto fun h44 D44 M44=>Qh2 hwl ⟨_,_,_,rfl,?_⟩⟩
   rw [<-QlT,QkC hc];intro b50 hb50 h51;have l51:h44.le h51:=Hp.le_set (Hp.le_refl h44) hb50 _;have M44':=M19.trans M44;exact hK _ _ _ h51 (D44.le l51) (fun _=>Qkb (M44'.up D44.al b50 hb50) ⟨1,0,0,0,Qds (Qt s)⟩) (M44'.trans (Mut.of_le l51))
  ·have hc:Qt s ∉ Yn:=fun h1=>bB q (hwc.1 h1)
   have hno2:Qt s ∉ ([ZR]++Yn++ZF):=by
    intro hm;rcases cP.1 hm with h4|h4
    ·rcases cP.1 h4 with h5|h5
     ·exact e (by simpa using h5)
     ·exact hc h5
    ·exact hnf h4
   have hat:=Qj0 (P:=P) (w:=[]) (nn hno2);rw [hat] at hK;have nr1:=QhL (s:=s) (most:=1000000000) (by decide)
   refine Uy D19 (by decide) (by decide) fun h54 D54 M54=>⟨_,rfl,YV ⟨_,_,rfl,?_⟩⟩
   have en:Xa (s.number 1000000000).1=(1,(s.number 1000000000).1):=by unfold Xa;rw [bE (by omega)]
   rw [en];intro b60 hb60 h61;have l61:h54.le h61:=Hp.le_set (Hp.le_refl h54) hb60 _;have M54':=M19.trans M54;exact hK _ _ _ h61 (D54.le l61) (fun _=>Qkb (M54'.up D54.al b60 hb60) ⟨1,0,0,0,(1,(s.number 1000000000).1)⟩) (M54'.trans (Mut.of_le l61))
theorem GS {k k':Int}(e:k=k'){P:Ps}{n:Nat}(H:QI k P n):QI k' P n:=by
 subst e;exact fun D S _ hK=>H D S hK
theorem h6k {P:Ps}{n:Nat}(H:QI 7 P n):QI (6+1) P n:=GS (by decide) H
theorem h5k {P:Ps}{n:Nat}(H:QI 6 P n):QI (5+1) P n:=GS (by decide) H
theorem h4k {P:Ps}{n:Nat}(H:QI 5 P n):QI (4+1) P n:=GS (by decide) H
theorem h2k {P:Ps}{n:Nat}(H:QI 3 P n):QI (2+1) P n:=GS (by decide) H
theorem h1k {P:Ps}{n:Nat}(H:QI 2 P n):QI (1+1) P n:=GS (by decide) H
theorem h0k {P:Ps}{n:Nat}(H:QI 1 P n):QI (0+1) P n:=GS (by decide) H
theorem Qii {t:VB}{n:Nat}(h:KP t.o n/\KP t.n n/\KP t.u n)(H:QI 0 t.o n/\QI 2 t.n n/\QI 6 t.u n):QI 0 (orS t) (n+1)/\QI 2 (QfA t) (n+1)/\QI 6 (unS t) (n+1):=by
 obtain⟨k1,k2,k3,k4,k5,k6,k7⟩:=Qle h;have h7:QI 7 (WA t.o) (n+1):=QfC (QeW h.1) fun D S hf _ hK=>QjL H.1 h.1 D S hf hK
 have e6:unS t=QiK XL 3 t.u (WA t.o):=rfl;have h6:QI 6 (unS t) (n+1):=by rw [e6] at k3 ⊢;exact Nn (w:=XL) (op:=3) (.inr ⟨rfl,rfl,rfl⟩) h.2.2 k3 H.2.2 (h6k h7)
 have h5:QI 5 (Qla t) (n+1):=WS (by decide) k4 fun D S _ hK=>Uq (ops:=[(Yt,8)]) (by unfold QiS;simp) (h5k h6) k3 D S hK
 have h4:QI 4 (QnV t) (n+1):=WS (by decide) k5 fun D S _ hK=>Uq (ops:=[(QdV,6),(XL,7)]) (by unfold QiS;simp) (h4k h5) k4 D S hK
 have h3:QI 3 (Qn5 t) (n+1):=QgW k6 fun D S _ hK=>Qdx h4 k5 D S hK
 have e2:QfA t=QiK QaF 4 t.n (Qn5 t):=rfl;have h2:QI 2 (QfA t) (n+1):=by rw [e2] at k2 ⊢;exact Nn (w:=QaF) (op:=4) (.inl ⟨rfl,rfl,rfl⟩) h.2.1 k2 H.2.1 (h2k h3)
 have h1:QI 1 (Qpk t) (n+1):=WS (by decide) k7 fun D S _ hK=>Uq (ops:=[(QlK,9)]) (by unfold QiS;simp) (h1k h2) k2 D S hK
 have h0:QI 0 (orS t) (n+1):=WS (by decide) k1 fun D S _ hK=>Uq (ops:=[(wOr,10)]) (by unfold QiS;simp) (h0k h1) k7 D S hK
 exact⟨h0,h2,h6⟩
theorem Gu (k:Int)(P:Ps):QI k P 0:=by
 intro h0 h g W s D S R hK;exact absurd S.len (pR _)
theorem QjK (n:Nat):QI 0 (WB n).o n/\QI 2 (WB n).n n/\QI 6 (WB n).u n:=by
 induction n with
 | zero=>exact⟨Gu _ _,Gu _ _,Gu _ _⟩
 | succ n ih=>rw [QbX];exact Qii (Qbz n) ih
end Go.Proofs.YthicpjafcpfjoaaGreatDoor
namespace Go.Proofs.YthicpjafcpfjoaaGreatDoor
open Go Go.Vc
theorem QcK {u0:OaT}{u1 u2:Nat}{u3:OaT}{u4 u5:Nat}{u6:OaT}{u7 u8:Nat}{u9:Int}{u10:Int}{u11:Int}{u12:Int}{h:Hp}{R:RtT}(H:((cond (decide ((u1:Int)<1)) true (decide ((u1:Int)>4)))=true->R (vi 2) h)/\((cond (decide ((u1:Int)<1)) true (decide ((u1:Int)>4)))=false->∃(I3:LtT) (m4:LmT),I3 [vi 0] h/\∀ vs5 h6,I3 vs5 h6->∃ x7,vs5=[vi x7]/\((decide (x7<(u1:Int)))=true->let J24:HpT:=fun h25=>(∃ x26,IsW x26 (x7+1)/\I3 [vi x26] h25/\m4 [vi x26] h25<m4 vs5 h6);∃ b10 o11,Ix u0 b10 o11 x7 u1/\∃ x12 a13 n13 c13,Hp.row h6 b10 (o11+x7.toNat*2) 2=some [vi x12,vsl a13 n13 c13]/\((cond (cond (decide (x12<1)) true (decide (x12>5))) true (cond (decide (x12=1)) (decide ((n13:Int)>0)) false))=true->R (vi 3) h6)/\((cond (cond (decide (x12<1)) true (decide (x12>5))) true (cond (decide (x12=1)) (decide ((n13:Int)>0)) false))=false->let J17:Int->Prop:=fun x18=>(((decide (x12>1))=true->Qa Pg 155 [vsl a13 n13 c13,vi x18] h6 fun v19 h20=>∃ x21,v19=vi x21/\((decide (x21>0))=true->R (vi x21) h20)/\((decide (x21>0))=false->J24 h20))/\((decide (x12>1))=false->J24 h6));((decide (x12=2))=true->J17 0)/\((decide (x12=2))=false->J17 1)))/\((decide (x7<(u1:Int)))=false->let J32:HpT:=fun h33=>(let J39:HpT:=fun h40=>(((cond (cond (cond (cond (cond (cond (cond (decide (u9<1)) true (decide (u9>1000))) true (decide (u10<1))) true (decide (u10>1000))) true (decide (u11<0))) true (decide (u11>1000))) true (decide (u12<0))) true (decide (u12>1000)))=true->R (vi 1) h40)/\((cond (cond (cond (cond (cond (cond (cond (decide (u9<1)) true (decide (u9>1000))) true (decide (u10<1))) true (decide (u10>1000))) true (decide (u11<0))) true (decide (u11>1000))) true (decide (u12<0))) true (decide (u12>1000)))=false->∃ x42,((decide (u10>u9))=false->IsW x42 (4*u10))/\((cond (decide (u10>u9)) true (decide (u9>x42)))=true->R (vi 3) h40)/\((cond (decide (u10>u9)) true (decide (u9>x42)))=false->R (vi 0) h40)));((decide ((u7:Int)>0))=true->Qa Pg 155 [vsl u6 u7 u8,vi 0] h33 fun v34 h35=>∃ x36,v34=vi x36/\((decide (x36>0))=true->R (vi x36) h35)/\((decide (x36>0))=false->J39 h35))/\((decide ((u7:Int)>0))=false->J39 h33));((decide ((u4:Int)>0))=true->Qa Pg 155 [vsl u3 u4 u5,vi 2] h6 fun v27 h28=>∃ x29,v27=vi x29/\((decide (x29>0))=true->R (vi x29) h28)/\((decide (x29>0))=false->J32 h28))/\((decide ((u4:Int)>0))=false->J32 h6)))):Qa Pg 96 [vag [vsl u0 u1 u2,vsl u3 u4 u5,vsl u6 u7 u8,vi u9,vi u10,vi u11,vi u12]] h R:=callC ⟨[],[(4,([3],[.one (.int .i64)],[]))],[]⟩ Tryz.func96 [.ag [.v (vsl u0 u1 u2),.v (vsl u3 u4 u5),.v (vsl u6 u7 u8),.v (vi u9),.v (vi u10),.v (vi u11),.v (vi u12)]] H
theorem Qj7 {u0:OaT}{u1 u2:Nat}{u3:Int}{h:Hp}{R:RtT}(H:Qa Pg 207 [vsl u0 u1 u2] h fun v1 h2=>∃ x3,v1=vi x3/\((decide (x3>0))=true->R (vi x3) h2)/\((decide (x3>0))=false->Qa Pg 208 [vsl u0 u1 u2] h2 fun v5 h6=>∃ x7 x8,v5=Qe [vi x7,vi x8]/\((decide (x8>0))=true->R (vi x8) h6)/\((decide (x8>0))=false->((cond (cond (decide (u3>0)) (decide (x7≠u3)) false) (decide (x7>0)) false)=true->R (vi 3) h6)/\((cond (cond (decide (u3>0)) (decide (x7≠u3)) false) (decide (x7>0)) false)=false->R (vi 0) h6)))):Qa Pg 155 [vsl u0 u1 u2,vi u3] h R:=callO Tryz.func155 [.one (.v (vsl u0 u1 u2)),.one (.v (vi u3))] H
open Go.Txt
theorem QoC (l:List Nd):0<=(Zn l).2:=by
 unfold Zn;split
 ·exact fW _
 ·show (0:Int)<=3;decide
theorem NP {a:OaT}{k c:Nat}{l:List Nd}{kind:Int}(h0:0<=kind){h:Hp}{R:RtT}(S:SlP ZC h a k l)(hl:l.length<=1000000)(hK:∀ h',h.le h'->R (vi (Zs l kind)) h'):Qa Pg 155 [vsl a k c,vi kind] h R:=by
 refine Qj7 ?_
 unfold Zs at hK;have e2:=Qlh l;have t2:=QoC l;refine QdU S fun h2 l2=>⟨_,rfl,fun e=>?_,fun e=>?_⟩
 ·have e:=bC e;rw [bH (by omega)] at hK
  exact hK h2 l2
 ·have e:=bB e;have ez:YN l=0:=by omega
  rw [bE (by omega)] at hK
  have O:=(Yb ez).1;have tn:=Qow O;refine Ql1 (S.le l2) O.wf O.pos hl ⟨_,_,rfl,fun q=>?_,fun q=>?_⟩
  ·have q:=bC q;rw [bH (by omega)] at hK
   exact hK h2 l2
  ·have q:=bB q;rw [bE (by omega)] at hK
   rw [ZP,ZP];refine⟨fun q2=>?_,fun q2=>?_⟩
   ·have q2:=bC q2;rw [bH (by omega)] at hK
    exact hK h2 l2
   ·have q2:=bB q2;rw [bE (by omega)] at hK
    exact hK h2 l2
theorem JW (l:List Nd)(k:Int):0<=Zs l k:=by
 have e2:=Qlh l;have t2:=QoC l;unfold Zs;split
 ·exact e2
 ·split
  ·exact t2
  ·split<;>decide
theorem QcO {q:Qy}{a1:OaT}{n1 c1:Nat}{a2:OaT}{n2 c2:Nat}{a3:OaT}{n3 c3:Nat}{h:Hp}{R:RtT}(Q:QAt h q a1 n1 a2 n2 a3 n3)(B:Qmy q)(hK:∀ h',h.le h'->R (vi (UD q)) h'):Qa Pg 96 [qV a1 n1 c1 a2 n2 c2 a3 n3 c3 q] h R:=by
 refine QcK ?_
 have hn1:=Q.g.len;have hn2:=Q.w.1;have hn3:=Q.b.1;have hB:=B.n;rw [cor];refine⟨fun e=>?_,fun e=>?_⟩
 ·have e:=bC e;have:UD q=2:=by unfold UD;rw [bH (by omega)]
  rw [this] at hK;exact hK h (Hp.le_refl h)
 have e:=bB e;have hq:UD q=if Q5 (q.aggs.map Xw)≠0 then Q5 (q.aggs.map Xw) else Qf3 q:=by unfold UD;rw [bE (by omega)]
 rw [hq] at hK;clear hq;refine⟨fun vs' hh=>h.le hh/\∃ i:Nat,vs'=[vi i]/\i<=n1/\∀ y ∈ q.aggs.take i,Xw y=0,fun vs' hh=>n1-(Qm vs' 0).toNat,⟨Hp.le_refl h,0,rfl,cH _,by simp⟩,?_⟩
 rintro vs' hh ⟨lh,i,rfl,hi,hz⟩;refine⟨i,rfl,fun g=>?_,fun g=>?_⟩
 ·have hlt:i<n1:=by have:=bC g;omega
  have hlt2:i<q.aggs.length:=by omega
  have hx:q.aggs[i]?=some q.aggs[i]:=bD hlt2
  have hbig:=B.g _ (bZ hx);have hall:=@Qi6 _ q.aggs Xw i hlt2 hz;generalize q.aggs[i]=y at hx hbig hall;obtain⟨k,l⟩:=y;obtain⟨b,o,a',c',ha,hrow,hS⟩:=(Q.g.le lh).row XX (by decide) hx
  have bad:∀ f,f≠0->Xw (k,l)=f->∀ h',h.le h'->R (vi f) h':=by
   intro f hf hk h' l';have h1:=Qgf (g:=Xw) hz hx (by rw [hk];exact hf)
   rw [h1,hk,bH hf] at hK;exact hK h' l'
  intro J25;refine⟨b,o,⟨ha,by omega,by omega⟩,k,a',l.length,c',by rw [bG];exact hrow,?_⟩
  have good:Xw (k,l)=0->∀ h',h.le h'->J25 h':=fun hk h' l'=>⟨_,iW,⟨l',i+1,rfl,by omega,hall hk⟩,by simp [Qm];omega⟩
  clear_value J25;rw [cor,ZP,cor];have hnil:l≠[]↔(l.length:Int)>0:=by rw [ne_eq,Wh];omega
  refine⟨fun g2=>?_,fun g2=>?_⟩
  ·have g2:=bC g2;refine bad 3 (by decide) ?_ hh lh
   unfold Xw;rw [bH (by simp only [hnil];omega)]
  ·have g2:=bB g2;intro J17;have hJ:J17 (if k=2 then 0 else 1):=by
    refine⟨fun g3=>?_,fun g3=>?_⟩
    ·have g3:=bC g3;have hf:Xw (k,l)=Zs l (if k=2 then 0 else 1):=by unfold Xw;rw [bE (by simp only [hnil];omega),bE (by show ¬ k=1;omega)]
     have t2:=JW l (if k=2 then 0 else 1)
     refine NP (by split<;>decide) hS hbig fun h' l'=>⟨_,rfl,fun g4=>?_,fun g4=>?_⟩
     ·have g4:=bC g4;exact bad _ (by omega) hf h' (Hp.le_trans lh l')
     ·have g4:=bB g4;exact good (by rw [hf];omega) h' (Hp.le_trans lh l')
    ·have g3:=bB g3;refine good ?_ hh lh
     unfold Xw;rw [bE (by simp only [hnil];omega),bH (by show k=1;omega)]
   clear_value J17;refine⟨fun g4=>?_,fun g4=>?_⟩
   ·rw [bH (bC g4)] at hJ;exact hJ
   ·rw [bE (bB g4)] at hJ;exact hJ
 ·have hge:i=n1:=by have:=bB g;omega
  have hz0:Q5 (q.aggs.map Xw)=0:=Jo (by
   intro x hx;obtain⟨y,hy,rfl⟩:=dI.1 hx;exact hz y (by rw [cQ (by omega)];exact hy))
  rw [hz0,bE (fun h=>h rfl)] at hK
  unfold Qf3 at hK;have Q:=Q.le lh;intro J33;have hJ33:∀ h',hh.le h'->(if q.wh=[] then 0 else Zs q.wh 2)=0->J33 h':=by
   intro h' l' hw;rw [hw,Q5,bE (fun h=>h rfl)] at hK
   unfold J33;intro J40;have hJ40:∀ h2,h'.le h2->(if q.by_=[] then 0 else Zs q.by_ 0)=0->J40 h2:=by
    intro h2 l2 hb;rw [hb,Q5,bE (fun h=>h rfl)] at hK
    have hK:=hK h2 (Hp.le_trans lh (Hp.le_trans l' l2));rw [Q5,Q5] at hK;have hnum:Ww q=if ((((((q.size<1\/q.size>1000)\/q.slide<1)\/q.slide>1000)\/q.delay<0)\/q.delay>1000)\/q.late<0)\/q.late>1000 then 1 else if q.slide>q.size\/q.size>4*q.slide then 3 else 0:=by unfold Ww;simp only [or_assoc]
    show (_/\_);simp only [cor];refine⟨fun g2=>?_,fun g2=>?_⟩
    ·rw [bH (bC g2)] at hnum;rw [hnum,bH (by decide)] at hK
     exact hK
    ·have g3:=bB g2;rw [bE g3] at hnum;refine⟨4*q.slide,fun _=>iW,fun g4=>?_,fun g4=>?_⟩
     ·rw [bH (bC g4)] at hnum;rw [hnum,bH (by decide)] at hK
      exact hK
     ·rw [bE (bB g4)] at hnum;rw [hnum,bE (by decide)] at hK
      exact hK
   clear_value J40;refine⟨fun g2=>?_,fun g2=>?_⟩
   ·have hne:¬ q.by_=[]:=by have:=bC g2;rw [Wh];omega
    rw [bE hne] at hJ40 hK;have t2:=JW q.by_ 0;refine NP (by decide) (Q.le l').b B.b fun h2 l2=>⟨_,rfl,fun g4=>?_,fun g4=>?_⟩
    ·have g4:=bC g4;rw [Q5,bH (by omega)] at hK
     exact hK h2 (Hp.le_trans lh (Hp.le_trans l' l2))
    ·have g4:=bB g4;exact hJ40 h2 l2 (by omega)
   ·have hnil:q.by_=[]:=by have:=bB g2;rw [Wh];omega
    exact hJ40 h' (Hp.le_refl h') (bH hnil)
  clear_value J33;refine⟨fun g2=>?_,fun g2=>?_⟩
  ·have hne:¬ q.wh=[]:=by have:=bC g2;rw [Wh];omega
   rw [bE hne] at hJ33 hK;have t2:=JW q.wh 2;refine NP (by decide) Q.w B.w fun h2 l2=>⟨_,rfl,fun g4=>?_,fun g4=>?_⟩
   ·have g4:=bC g4;rw [Q5,bH (by omega)] at hK
    exact hK h2 (Hp.le_trans lh l2)
   ·have g4:=bB g4;exact hJ33 h2 l2 (by omega)
  ·have hnil:q.wh=[]:=by have:=bB g2;rw [Wh];omega
   exact hJ33 hh (Hp.le_refl hh) (bH hnil)
end Go.Proofs.YthicpjafcpfjoaaGreatDoor
namespace Go.Proofs.YthicpjafcpfjoaaGreatDoor
open Go Go.Vc
theorem Qha {u0:ByteArray}{h:Hp}{R:RtT}(H:((decide ((((ByteArray.size u0:Nat):Int):Int)>240))=true->R (Qe [vsl none 0 0,vi 2]) h)/\((decide ((((ByteArray.size u0:Nat):Int):Int)>240))=false->∃(I3:LtT) (m4:LmT),I3 [vsl none 0 0,vi 0] h/\∀ vs5 h6,I3 vs5 h6->∃ a7 n7 c7 x8,vs5=[vsl a7 n7 c7,vi x8]/\((decide (x8<((ByteArray.size u0:Nat):Int)))=true->∃ x11,Rd Pg (Instr.index 9 (vs u0) (vi x8)) h6 (vk .u8 x11)/\((decide (x11=32))=true->∃ x12,IsW x12 (x8+1)/\I3 [vsl a7 n7 c7,vi x12] h6/\m4 [vsl a7 n7 c7,vi x12] h6<m4 vs5 h6)/\((decide (x11=32))=false->∃(I15:LtT) (m16:LmT),I15 [vi x8] h6/\∀ vs17 h18,I15 vs17 h18->∃ x19,vs17=[vi x19]/\∃ x20,((decide (x19<((ByteArray.size u0:Nat):Int)))=true->Rd Pg (Instr.index 9 (vs u0) (vi x19)) h18 (vk .u8 x20))/\∃ x21,((cond (decide (x19<((ByteArray.size u0:Nat):Int))) (decide (x20>=97)) false)=true->Rd Pg (Instr.index 9 (vs u0) (vi x19)) h18 (vk .u8 x21))/\((cond (cond (decide (x19<((ByteArray.size u0:Nat):Int))) (decide (x20>=97)) false) (decide (x21<=122)) false)=true->∃ x24,IsW x24 (x19+1)/\I15 [vi x24] h18/\m16 [vi x24] h18<m16 vs17 h18)/\((cond (cond (decide (x19<((ByteArray.size u0:Nat):Int))) (decide (x20>=97)) false) (decide (x21<=122)) false)=false->let J37:Int->Hp->Prop:=fun x39 h40=>(∃ x41,((decide (x39=x8))=true->IsW x41 (x39+1))/\∃ x42,((cond (decide (x39=x8)) (decide (x41<((ByteArray.size u0:Nat):Int))) false)=true->IsW x42 (x39+2))/\∃ s43,((cond (decide (x39=x8)) (decide (x41<((ByteArray.size u0:Nat):Int))) false)=true->Rd Pg (Instr.sliceAt 9 (vs u0) (some (vi x39)) (some (vi x42)) none) h40 (vs s43))/\∃ p44,((cond (decide (x39=x8)) (decide (x41<((ByteArray.size u0:Nat):Int))) false)=true->RdG .eql 9 (.tmp 77) (.const (vs ⟨#[60,61]⟩)) (vs s43) (vs ⟨#[60,61]⟩) h40 (vb p44))/\∃ x45,(((cond (decide (x39=x8)) (decide (x41<((ByteArray.size u0:Nat):Int))) false)=true/\p44=false)->IsW x45 (x39+2))/\∃ s46,(((cond (decide (x39=x8)) (decide (x41<((ByteArray.size u0:Nat):Int))) false)=true/\p44=false)->Rd Pg (Instr.sliceAt 9 (vs u0) (some (vi x39)) (some (vi x45)) none) h40 (vs s46))/\∃ p47,(((cond (decide (x39=x8)) (decide (x41<((ByteArray.size u0:Nat):Int))) false)=true/\p44=false)->RdG .eql 9 (.tmp 84) (.const (vs ⟨#[62,61]⟩)) (vs s46) (vs ⟨#[62,61]⟩) h40 (vb p47))/\∃ x48,(((cond (decide (x39=x8)) (decide (x41<((ByteArray.size u0:Nat):Int))) false)=true/\(cond p44 true p47)=false)->IsW x48 (x39+2))/\∃ s49,(((cond (decide (x39=x8)) (decide (x41<((ByteArray.size u0:Nat):Int))) false)=true/\(cond p44 true p47)=false)->Rd Pg (Instr.sliceAt 9 (vs u0) (some (vi x39)) (some (vi x48)) none) h40 (vs s49))/\∃ p50,(((cond (decide (x39=x8)) (decide (x41<((ByteArray.size u0:Nat):Int))) false)=true/\(cond p44 true p47)=false)->RdG .eql 9 (.tmp 92) (.const (vs ⟨#[60,62]⟩)) (vs s49) (vs ⟨#[60,62]⟩) h40 (vb p50))/\let J54:Int->Prop:=fun x55=>(let J59:Int->Prop:=fun x60=>(((decide (x60=x8))=true->R (Qe [vsl none 0 0,vi 4]) h40)/\((decide (x60=x8))=false->∃ s62,Rd Pg (Instr.sliceAt 9 (vs u0) (some (vi x8)) (some (vi x60)) none) h40 (vs s62)/\∀ b63,h40 b63=none->let h64:=Hp.set h40 b63 (Qb [vs s62] 9);Qh Pg (Builtin.append_ #[162,162] 162 #[vsl a7 n7 c7,(vsl (some (⟨b63,0,none⟩:Addr)) 1 1)]) h64 fun v65 h66=>∃ a67 n67 c67,v65=vsl a67 n67 c67/\((decide ((n67:Int)>80))=true->R (Qe [vsl none 0 0,vi 2]) h66)/\((decide ((n67:Int)>80))=false->I3 [vsl a67 n67 c67,vi x60] h66/\m4 [vsl a67 n67 c67,vi x60] h66<m4 vs5 h6)));((cond (decide (x55=x8)) (cond (cond (cond (cond (cond (cond (cond (cond (decide (x11=40)) true (decide (x11=41))) true (decide (x11=44))) true (decide (x11=42))) true (decide (x11=43))) true (decide (x11=45))) true (decide (x11=60))) true (decide (x11=62))) true (decide (x11=61))) false)=true->∃ x56,IsW x56 (x55+1)/\J59 x56)/\((cond (decide (x55=x8)) (cond (cond (cond (cond (cond (cond (cond (cond (decide (x11=40)) true (decide (x11=41))) true (decide (x11=44))) true (decide (x11=42))) true (decide (x11=43))) true (decide (x11=45))) true (decide (x11=60))) true (decide (x11=62))) true (decide (x11=61))) false)=false->J59 x55));((cond (cond (decide (x39=x8)) (decide (x41<((ByteArray.size u0:Nat):Int))) false) (cond (cond p44 true p47) true p50) false)=true->∃ x51,IsW x51 (x39+2)/\J54 x51)/\((cond (cond (decide (x39=x8)) (decide (x41<((ByteArray.size u0:Nat):Int))) false) (cond (cond p44 true p47) true p50) false)=false->J54 x39));((decide (x19=x8))=true->∃(I26:LtT) (m27:LmT),I26 [vi x19] h18/\∀ vs28 h29,I26 vs28 h29->∃ x30,vs28=[vi x30]/\∃ x31,((decide (x30<((ByteArray.size u0:Nat):Int)))=true->Rd Pg (Instr.index 9 (vs u0) (vi x30)) h29 (vk .u8 x31))/\∃ x32,((cond (decide (x30<((ByteArray.size u0:Nat):Int))) (decide (x31>=48)) false)=true->Rd Pg (Instr.index 9 (vs u0) (vi x30)) h29 (vk .u8 x32))/\((cond (cond (decide (x30<((ByteArray.size u0:Nat):Int))) (decide (x31>=48)) false) (decide (x32<=57)) false)=true->∃ x35,IsW x35 (x30+1)/\I26 [vi x35] h29/\m27 [vi x35] h29<m27 vs28 h29)/\((cond (cond (decide (x30<((ByteArray.size u0:Nat):Int))) (decide (x31>=48)) false) (decide (x32<=57)) false)=false->J37 x30 h29))/\((decide (x19=x8))=false->J37 x19 h18))))/\((decide (x8<((ByteArray.size u0:Nat):Int)))=false->R (Qe [vsl a7 n7 c7,vi 0]) h6))):Qa Pg 90 [vs u0] h R:=callC ⟨[],[(10,([7],[.one (.int .i64)],[])),(13,([7],[.one (.int .i64)],[])),(5,([4,5],[.one (.slice),.one (.int .i64)],[]))],[]⟩ Tryz.func90 [.one (.v (vs u0))] H
end Go.Proofs.YthicpjafcpfjoaaGreatDoor
