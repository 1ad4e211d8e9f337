/-
  Laws and contracts on which the statement's proof stands, part 3. Conditions: those stated at each.
-/
import Derived.Lib.Join
import Derived.Sort.Grow
import Derived.Lib.Overlaps
import Derived.Lib.AppendZerosOnto
import Derived.Test.YthicpjafcpfjoaaGreatDoorSy2
set_option linter.unusedVariables false
set_option maxRecDepth 100000
namespace Go.Proofs.YthicpjafcpfjoaaGreatDoor
open Go Go.Vc
theorem Qfm {e:EvL}{n:Int}(hn:0<=n/\n<=3){h:Hp}{R:RtT}(hK:R (vag (Qq (Nq e n))) h):Qa Pg 162 [vag (Xo e),vi n] h R:=by
 refine QfG ?_
 refine QK ⟨_,_,rfl,?_⟩
 have r:n=0\/n=1\/n=2\/n=3:=by omega
 rcases r with rfl|rfl|rfl|rfl
 ·exact⟨_,_,fun w _=>by kernel_rfl,hK⟩
 ·exact⟨_,_,fun w _=>by kernel_rfl,hK⟩
 ·exact⟨_,_,fun w _=>by kernel_rfl,hK⟩
 ·exact⟨_,_,fun w _=>by kernel_rfl,hK⟩
theorem Qq7:ElT Pg 91 54 2 16:=.of (by kernel_rfl) (by kernel_rfl) (by decide)
theorem Qe0 {β:Type}{d:β}{F:Nd->β->β->β}{l:List Nd}{outs:List β}{i k:Nat}(ho:outs.take i=fwd d F (l.take i))(hi:i<=l.length)(hk:k<i):outs[k]?=some (fAt d F l k):=by
 have h1:outs[k]?=(outs.take i)[k]?:=by rw [gH,bH hk]
 rw [h1,ho];have hlen:(fwd d F (l.take i)).length=i:=by rw [WK,bV];omega
 rw [<-Uj l hk hi,bK,bD (by omega)]
 rfl
theorem QjC {β:Type}{d:β}{F:Nd->β->β->β}{l:List Nd}{outs:List β}{i:Nat}{n:Nd}(ho:outs.take i=fwd d F (l.take i))(hn:l[i]?=some n)(hl:outs.length=l.length):(outs.set i (fAt d F l i)).take (i+1)=fwd d F (l.take (i+1)):=by
 have hlt:=(bI.1 hn).1
 rw [QnY l hn,<-ho,bJ (by rw [dG];omega),mJ (cJ _),j0]
section
variable {a:OaT}{m c:Nat}{l:List Nd}{h:Hp}
theorem QaN (S:SlP ZC h a m l)(W:WfL l)(hl:0<l.length)(hm:l.length<=1000000){e:EvL}{R:RtT}(hK:∀ h',h.le h'->R (vag (Qq (ZG e l))) h'):Qa Pg 109 [vsl a m c,vag (Xo e)] h R:=by
 refine QgP ?_
 obtain rfl:=S.1;refine Vec.make (enc:=Qq) (x:=(0,0)) Qq7 (z:=[vi 0,vi 0]) (by kernel_rfl) rfl rfl hm (by omega) fun a3 h2 V2=>⟨_,_,_,rfl,?_⟩
 refine⟨fun vs hh=>∃(i:Nat) (outs:List (Int × Int)),vs=[vi i]/\i<=l.length/\outs.length=l.length/\outs.take i=fwd (0,0) (Xi e) (l.take i)/\Vec Qq 2 54 h hh a3 l.length outs,fun vs hh=>l.length-(Qm vs 0).toNat,
  ⟨0,_,rfl,cH _,by simp,rfl,V2⟩,?_⟩
 rintro vs hh ⟨i,outs,rfl,hi,hlo,ho,V⟩;refine⟨i,rfl,fun q=>?_,fun q=>?_⟩
 ·have hlt:i<l.length:=by have:=bC q;omega
  have hx:l[i]?=some l[i]:=bD hlt
  have Wn:=W _ _ hx;have hv:vAt e l i=_:=Ye (YJ e) hx Wn;have hset:=QjC ho hx hlo;obtain⟨b,o,ha,hr⟩:=(S.le V.le0).get QL (by decide) hx
  generalize l[i]=n at *
  have hout:outs[i]?=some (outs[i]'(by omega)):=bD (by omega)
  obtain⟨b3,o3,ha3,hput⟩:=V.put Ys (x':=vAt e l i) (k:=0) (vs:=Qq (vAt e l i)) hout (by rw [Ys];decide) (by rw [Ys];decide) rfl
  have A3:∀{x:Int},0<=x->x<l.length->a3=some ⟨b3,o3,none⟩/\(0:Int)<=x/\x<(l.length:Nat):=fun h0 h1=>⟨ha3,h0,h1⟩
  have rdo:∀{x:Int},0<=x->x<i->hh.row b3 (o3+x.toNat*2) 2=some (Qq (vAt e l x.toNat)):=by
   intro x h0 h1;obtain⟨b',o',ha',hr'⟩:=(V.slp Ys (by decide)).get Ys (by decide) (Qe0 ho hi (k:=x.toNat) (by omega))
   rw [ha3] at ha';cases ha';exact hr'
  intro J83;have hJ:∀ h',Vec Qq 2 54 h h' a3 l.length (outs.set i (vAt e l i))->J83 h':=by
   intro h' V';exact⟨_,iW,⟨i+1,_,rfl,by omega,by rw [dG];exact hlo,hset,V'⟩,by simp [Qm];omega⟩
  clear_value J83;have fin:∀{v:Int × Int},v=vAt e l i->hh.store b3 (o3+i*2) (Qq v) J83:=by
   rintro v rfl;exact hput _ hJ
  have ar:=ar0 Wn.a;have hfold:vAt e l=fAt (0,0) (Xi e) l:=rfl;rw [<-hfold] at hv;unfold Xi at hv;have Ai:a3=some ⟨b3,o3,none⟩/\(0:Int)<=i/\(i:Int)<(l.length:Nat):=A3 (by omega) (by omega)
  refine⟨b,o,⟨ha,by omega,by omega⟩,_,_,_,_,_,_,hr,fun q=>?_,fun q1=>⟨fun q=>?_,fun q2=>⟨fun q=>?_,fun q3=>⟨fun q=>?_,fun q4=>⟨fun q=>?_,fun q5=>?_⟩⟩⟩⟩⟩
  ·rw [bH (bC q)] at hv;exact⟨b3,o3,Ai,fin hv.symm⟩
  ·rw [bE (bB q1),bH (bC q)] at hv;exact Qfm (Wn.f (bC q)) ⟨_,_,rfl,b3,o3,Ai,fin hv.symm⟩
  ·rw [bE (bB q1),bE (bB q2),bH (bC q)] at hv;have:=bC q;have hX:=Wn.x (by omega)
   exact⟨b3,o3,A3 (by omega) (by omega),_,_,rdo hX.1 hX.2,QhF ⟨_,_,rfl,b3,o3,Ai,fin hv.symm⟩⟩
  ·rw [bE (bB q1),bE (bB q2),bE (bB q3),bH (bC q)] at hv;have:=bC q;have hX:=Wn.x (by omega)
   exact⟨b3,o3,A3 (by omega) (by omega),_,_,rdo hX.1 hX.2,Kz ⟨_,_,rfl,b3,o3,Ai,fin hv.symm⟩⟩
  ·rw [bE (bB q1),bE (bB q2),bE (bB q3),bE (bB q4),bH (bC q)] at hv;have:=bC q;have hX:=Wn.x (by omega)
   exact⟨b3,o3,A3 (by omega) (by omega),_,Hp.row_cell (rdo hX.1 hX.2) (i:=0) rfl,QP ⟨_,_,rfl,b3,o3,Ai,fin hv.symm⟩⟩
  ·have p1:=bB q1;have p2:=bB q2;have p3:=bB q3;have p4:=bB q4;have p5:=bB q5;rw [bE p1,bE p2,bE p3,bE p4,bE p5] at hv;have h2:arI n.op=2:=by rcases QM Wn.a with h|h|h<;>omega
   have hX:=Wn.x (by omega)
   have hY:=Wn.y (by omega)
   exact⟨b3,o3,A3 (by omega) (by omega),_,_,rdo hX.1 hX.2,b3,o3,A3 (by omega) (by omega),_,_,rdo hY.1 hY.2,Qb4 ⟨_,_,rfl,b3,o3,Ai,fin hv.symm⟩⟩
 ·have hge:i=l.length:=by have:=bB q;omega
  subst hge;obtain⟨b',o',ha',hr'⟩:=(V.slp Ys (by decide)).get Ys (by decide) (Qe0 ho (cJ _) (k:=l.length-1) (by omega))
  refine⟨_,iW,b',o',⟨ha',by omega,by omega⟩,_,_,?_,hK hh V.le0⟩
  have e1:(((l.length:Nat):Int)-1).toNat=l.length-1:=by omega
  rw [e1];exact hr'
theorem Qhk {x y:Int}{R:RtT}(hK:R (Qe [vi (if x=0 then y else if y=0\/x=y then x else 0),vb (decide (x=0\/y=0\/x=y))]) h):Qa Pg 247 [vi x,vi y] h R:=by
 refine QgD ?_
 refine⟨fun q=>?_,fun q=>?_⟩
 ·have q:=bC q;rw [bH q,cC (.inl q)] at hK;exact hK
 have q:=bB q;rw [bE q] at hK;intro J3;refine⟨fun q2=>⟨fun _=>?_,fun q3=>?_⟩,fun q2=>⟨fun q3=>?_,fun q3=>?_⟩⟩
 ·have q2:=bC q2;rw [bH (.inl q2),cC (.inr (.inl q2))] at hK;exact hK
 ·rw [q2] at q3;cases q3
 ·have q3:=bC q3;rw [bH (.inr q3),cC (.inr (.inr q3))] at hK;exact hK
 ·have q2:=bB q2;have q3:=bB q3;rw [bE (by omega),cE (by omega)] at hK;exact hK
def QjM (x:Int):List Value:=[vi x]
theorem JX (x:Int):(QjM x).length=1:=rfl
theorem UJ (S:SlP ZC h a m l)(O:OkE l)(hm:l.length<=1000000){R:RtT}(hK:∀ h',h.le h'->R (Qe [vi (Zn l).1,ifv (QG (Zn l).2)]) h'):Qa Pg 204 [vsl a m c] h R:=by
 have W:=O.wf;have hl:=O.pos;refine QhX ?_
 obtain rfl:=S.1;refine Vec.make (enc:=QjM) (x:=0) KQ (z:=[vi 0]) (by kernel_rfl) rfl rfl hm (by omega) fun a3 h2 V2=>⟨_,_,_,rfl,?_⟩
 refine⟨fun vs hh=>∃(i:Nat) (outs:List Int),vs=[vi i]/\i<=l.length/\outs.length=l.length/\(outs.map some).take i=fwd none tyF (l.take i)/\Vec QjM 1 3 h hh a3 l.length outs,fun vs hh=>l.length-(Qm vs 0).toNat,
  ⟨0,_,rfl,cH _,by simp,rfl,V2⟩,?_⟩
 rintro vs hh ⟨i,outs,rfl,hi,hlo,ho,V⟩;have get:∀{k:Nat},k<i->∃ t,outs[k]?=some t/\tAt l k=some t:=by
  intro k hk;have:=Qe0 ho hi hk;rw [cU,dD] at this
  obtain⟨t,h1,h2⟩:=this;exact⟨t,h1,h2.symm⟩
 refine⟨i,rfl,fun q=>?_,fun q=>?_⟩
 ·have hlt:i<l.length:=by have:=bC q;omega
  have hx:l[i]?=some l[i]:=bD hlt
  have Wn:=W _ _ hx;have hv:tAt l i=_:=Ye YQ hx Wn;have hset:=fun t (e:tAt l i=some t)=>(by
   have:=QjC (outs:=outs.map some) ho hx (by simpa using hlo)
   rw [show fAt none tyF l i=some t from e,<-gB] at this
   exact this:((outs.set i t).map some).take (i+1)=fwd none tyF (l.take (i+1)))
  obtain⟨b,o,ha,hr⟩:=(S.le V.le0).get QL (by decide) hx
  generalize l[i]=n at *
  have hout:outs[i]?=some (outs[i]'(by omega)):=bD (by omega)
  obtain⟨b3,o3,ha3,_⟩:=V.put JX (x':=0) (k:=0) (vs:=[vi 0]) hout (by decide) (by decide) rfl
  have A3:∀{x:Int},0<=x->x<l.length->a3=some ⟨b3,o3,none⟩/\(0:Int)<=x/\x<(l.length:Nat):=fun h0 h1=>⟨ha3,h0,h1⟩
  have put:∀(outs':List Int) (hh':Hp),outs'.length=l.length->Vec QjM 1 3 h hh' a3 l.length outs'->∀(t:Int) (K:HpT),(∀ h',Vec QjM 1 3 h h' a3 l.length (outs'.set i t)->K h')->hh'.store b3 (o3+i*1) [vi t] K:=by
   intro outs' hh' h1 V' t K hK;obtain⟨b',o',ha',hp⟩:=V'.put JX (i:=i) (x:=outs'[i]'(by omega)) (x':=t) (k:=0) (vs:=[vi t]) (bD (by omega)) (pG 0) (cJ 1) rfl
   rw [ha3] at ha';cases ha';exact hp K hK
  intro J95;have hJ:∀ t,tAt l i=some t->∀ h',Vec QjM 1 3 h h' a3 l.length (outs.set i t)->J95 h':=by
   intro t e h' V';exact⟨_,iW,⟨i+1,_,rfl,by omega,by rw [dG];exact hlo,hset t e,V'⟩,by simp [Qm];omega⟩
  clear_value J95;have ar:=ar0 Wn.a;have hfold:tAt l=fAt none tyF l:=rfl;rw [<-hfold] at hv;have Ai:a3=some ⟨b3,o3,none⟩/\(0:Int)<=i/\(i:Int)<(l.length:Nat):=A3 (by omega) (by omega)
  refine⟨b,o,⟨ha,by omega,by omega⟩,_,_,_,_,_,_,hr,?_⟩
  intro J39;have bad:tAt l i=none->∀ h',h.le h'->R (Qe [vi 0,ifv (QG 3)]) h':=by
   intro e h' l';have:Zn l=(0,3):=by
    unfold Zn;cases ht:tAt l (l.length-1) with
    | none=>rfl
    | some t=>exact absurd e (O.b.ty W (by rw [ht];simp) i (cH _) hlt)
   rw [this] at hK;exact hK h' l'
  have hJ39:¬ n.op=1->¬ n.op=2->¬ n.op=5->J39 (Wy n.op):=by
   intro p1 p2 p5;have har:1<=arI n.op:=by rcases QM Wn.a with h|h|h<;>omega
   rw [WL p1 p2] at hv;have hX:=Wn.x har;obtain⟨tx,ox,ex⟩:=get (k:=n.x.toNat) (by omega)
   have hy:∃ ty,2<=arI n.op->outs[n.y.toNat]?=some ty/\tAt l n.y.toNat=some ty:=by
    by_cases h2:2<=arI n.op
    ·have hY:=Wn.y h2;obtain⟨ty,q⟩:=get (k:=n.y.toNat) (by omega)
     exact⟨ty,fun _=>q⟩
    ·exact⟨0,fun h=>absurd h h2⟩
   obtain⟨ty,hy⟩:=hy;have hv2:tAt l i=tyG n.op (some tx) (some (if arI n.op=2 then ty else tx)):=by
    rw [hv,ex];by_cases h2:arI n.op=2
    ·rw [bH h2,bH h2,(hy (by omega)).2]
    ·rw [bE h2,bE h2]
   rw [QdE,bE p5] at hv2;have hw0:Wy n.op≠0:=by unfold Wy;split<;>decide
   generalize hwd:Wy n.op=want at *
   refine Q9 ⟨_,rfl,fun b64 hb64=>?_⟩
   intro h65;have S65:SlI h65 (some ⟨b64,0,none⟩) 2 [n.x,n.y]:=⟨rfl,Qf.new _ _ [vi n.x,vi n.y] _⟩;have V65:Vec QjM 1 3 h h65 a3 l.length outs:=V.keep0 (Hp.le_set (Hp.le_refl hh) hb64 _);clear_value h65;refine⟨_,_,_,XK (e:=3) (by kernel_rfl) (by kernel_rfl) (by omega) (by rcases QM Wn.a with h|h|h<;>omega),?_⟩
   have rdo:∀{x t:Int},0<=x->outs[x.toNat]?=some t->h65.cell b3 (o3+x.toNat*1)=some (vi t):=by
    intro x t h0 h1;obtain⟨b',o',ha',hr'⟩:=(V65.slp JX (by decide)).cell (j:=0) JX (by decide) h1 rfl
    rw [ha3] at ha';cases ha';exact hr'
   refine⟨fun vs h'=>h'=h65/\∃ j:Nat,vs=[vi j]/\(j:Int)<=arI n.op/\(1<=j->tx=0\/tx=want)/\(2<=j->ty=0\/ty=want),fun vs hh=>(arI n.op).toNat-(Qm vs 0).toNat,⟨rfl,0,rfl,by omega,by omega,by omega⟩,?_⟩
   rintro vs h71 ⟨rfl,j,rfl,hj,f1,f2⟩;refine⟨j,rfl,fun g=>?_,fun g=>?_⟩
   ·have hj2:(j:Int)<arI n.op:=by have:=bC g;omega
    have fact:∃ x t:Int,[n.x,n.y].getD j 0=x/\0<=x/\x<l.length/\outs[x.toNat]?=some t/\(¬(t=0\/t=want)->tAt l i=none)/\(j=0->t=tx)/\(j=1->t=ty):=by
     by_cases hj0:j=0
     ·subst hj0;refine⟨n.x,tx,rfl,hX.1,by omega,ox,fun hb=>?_,fun _=>rfl,fun h=>by omega⟩
      rw [hv2,bH (by omega)]
     ·have hj1:j=1:=by rcases QM Wn.a with h|h|h<;>omega
      subst hj1;have hY:=Wn.y (by omega)
      refine⟨n.y,ty,rfl,hY.1,by omega,(hy (by omega)).1,fun hb=>?_,fun h=>by omega,fun _=>rfl⟩
      rw [hv2,bH];rw [bH (by rcases QM Wn.a with h|h|h<;>omega)]
      omega
    obtain⟨x,t,e0,h0,h1,e1,hb,u1,u2⟩:=fact;obtain⟨q,p,hq,hcell⟩:=S65.get (i:=j) (by rcases QM Wn.a with h|h|h<;>omega)
    rw [e0] at hcell;refine⟨q,p,⟨hq,by omega,by omega⟩,_,hcell,b3,o3,A3 h0 h1,_,rdo h0 e1,Qhk ⟨_,_,rfl,fun g=>?_,fun g=>?_⟩⟩
    ·rw [QjH] at g;have g:=bC g;exact bad (hb (by omega)) h71 V65.le0
    ·rw [QjH] at g;have g:=bB g;refine⟨_,isW (by unfold InR;rcases QM Wn.a with h|h|h<;>omega),⟨rfl,j+1,rfl,by omega,fun _=>?_,fun h=>?_⟩,by simp [Qm];omega⟩
     ·by_cases hj0:j=0
      ·have:=u1 hj0;omega
      ·exact f1 (by omega)
     ·have:=u2 (by rcases QM Wn.a with h|h|h<;>omega);omega
   ·have hje:(j:Int)=arI n.op:=by have:=bB g;omega
    have hfine:tAt l i=some (if n.op=11\/n.op=12 then 2 else want):=by
     rw [hv2,bE]
     ·split<;>rfl
     ·have:=f1 (by omega)
      by_cases h2:arI n.op=2
      ·rw [bH h2];have:=f2 (by omega)
       omega
      ·rw [bE h2];omega
    refine⟨b3,o3,Ai,put outs _ hlo V65 want _ fun h89 V89=>⟨fun g=>?_,fun g=>?_⟩⟩
    ·rw [cor] at g;have g:=bC g;rw [bH g] at hfine;refine⟨b3,o3,Ai,put _ h89 (by rw [dG];exact hlo) V89 2 _ fun h92 V92=>hJ 2 hfine h92 ?_⟩
     rw [List.set_set] at V92;exact V92
    ·rw [cor] at g;have g:=bB g;rw [bE g] at hfine;exact hJ want hfine h89 V89
  clear_value J39;refine⟨fun q=>?_,fun q1=>⟨fun q=>?_,fun q2=>⟨fun q=>?_,fun q5=>?_⟩⟩⟩
  ·have e:tAt l i=some n.v.1:=by rw [hv];unfold tyF;exact bH (bC q)
   exact⟨b3,o3,Ai,put outs hh hlo V _ _ (hJ _ e)⟩
  ·have e:tAt l i=some 1:=by rw [hv];unfold tyF;rw [bE (bB q1)];exact bH (bC q)
   exact⟨b3,o3,Ai,put outs hh hlo V _ _ (hJ _ e)⟩
  ·have h5:=bC q;have hX:=Wn.x (by omega)
   obtain⟨tx,ox,ex⟩:=get (k:=n.x.toNat) (by omega)
   have e:tAt l i=some 2:=by rw [hv,WL (by omega) (by omega),bE (by omega),ex,QdE,bH h5]
   exact⟨b3,o3,Ai,put outs hh hlo V _ _ (hJ _ e)⟩
  ·have p1:=bB q1;have p2:=bB q2;have p5:=bB q5;have hw:=hJ39 p1 p2 p5;unfold Wy at hw;intro J35;refine⟨fun g=>⟨fun _=>?_,fun g2=>?_⟩,fun g1=>⟨fun g=>⟨fun _=>?_,fun g2=>?_⟩,fun g2=>⟨fun g=>?_,fun g=>?_⟩⟩⟩
   ·rw [bH (.inl (bC g))] at hw;exact hw
   ·rw [g] at g2;cases g2
   ·rw [bH (.inr (.inl (bC g)))] at hw;exact hw
   ·rw [g] at g2;cases g2
   ·rw [bH (.inr (.inr (bC g)))] at hw;exact hw
   ·have a1:=bB g1;have a2:=bB g2;have a3:=bB g;rw [bE (by omega)] at hw;exact hw
 ·have hge:i=l.length:=by have:=bB q;omega
  subst hge;obtain⟨t,ot,et⟩:=get (k:=l.length-1) (by omega)
  obtain⟨b',o',ha',hr'⟩:=(V.slp JX (by decide)).cell (j:=0) JX (by decide) ot rfl
  refine⟨_,iW,b',o',⟨ha',by omega,by omega⟩,t,?_,?_⟩
  ·have e1:(((l.length:Nat):Int)-1).toNat=l.length-1:=by omega
   rw [e1];exact hr'
  ·have:Zn l=(t,0):=by unfold Zn;rw [et]
   rw [this] at hK;exact hK hh V.le0
end
abbrev Uc:=Vec ZC 6 250
theorem QfW {a:OaT}{n c:Nat}{l:List Nd}{h:Hp}{R:RtT}(S:SlP ZC h a n l)(hn:n<=1000000)(hK:∀ a' c' h',Uc h h' a' c' l->R (vsl a' l.length c') h') :
  Qa Pg 260 [vsl a n c] h R:=by
 refine XY ?_
 have hl:=S.1;subst hl;have hfl:(l.flatMap ZC).length=l.length*6:=by rw [Qi QL]
 refine⟨_,XS (e:=250) (by kernel_rfl),fun e=>?_,fun e=>?_⟩
 ·have h0:l.flatMap ZC=[]:=by
   rcases S.2 with h1|⟨b,o,ha,_⟩
   ·exact h1
   ·rw [ha] at e;cases e
  rw [h0] at hfl;have hn0:l=[]:=dS (by simp at hfl;omega)
  subst hn0;exact hK none 0 h (Qg.nil (Hp.le_refl h) _ _)
 ·intro b3 hb3 h4;have O0:Qg h h4 250 6 (some ⟨b3,0,none⟩) 0 0 []:=Qg.mk_new (Hp.le_refl h) hb3 _ [] rfl (by simp [maxLen])
  refine Qg.append Ql9 O0 (S.le (Hp.le_set (Hp.le_refl h) hb3 _)).2 hfl (Qlj l) (by omega) (by omega) fun a' c' h' O' _ _=>⟨_,_,_,rfl,?_⟩
  rw [dY,dC] at *
  exact hK a' c' h' O'
inductive Qh6 (l:List Nd)(f:Nat):Nat->Nat->Prop where
 | nil:Qh6 l f f 0
 | cons {g e k:Nat}:Blk l g e->Qh6 l f g k->Qh6 l f e (k+1)
theorem Qh6.open {l:List Nd}{f g i k:Nat}{n:Nd}(B:Blk l g (i+1))(Q:Qh6 l f g k)(hn:l[i]?=some n):Qh6 l f i (k+(arI n.op).toNat):=by
 cases B with
 | leaf h ha=>
  rw [hn] at h;cases h;rw [ha];exact Q
 | one B h ha _=>
  rw [hn] at h;cases h;rw [ha];exact .cons B Q
 | two B B' h ha _ _=>
  rw [hn] at h;cases h;rw [ha];exact .cons B' (.cons B Q)
section
variable {a:OaT}{m c:Nat}{l:List Nd}{h:Hp}
theorem Qjw (S:SlP ZC h a m l)(hcap:m<=c)(W:WfL l)(hm:l.length<=1000000){f:Nat}{e:Nat}(B:Blk l f (e+1)){i0:Int}(hi0:i0=e){R:RtT}(hK:∀ a' c' h',Uc h h' a' c' (ZX l f (e+1))->R (vsl a' (ZX l f (e+1)).length c') h') :
  Qa Pg 225 [vsl a m c,vi i0] h R:=by
 subst hi0;refine Qjo ?_
 have hlt:=B.lt;obtain rfl:=S.1;have opAt:∀{i:Nat},i<l.length->∀{hh:Hp},h.le hh->∃ n b o,l[i]?=some n/\a=some ⟨b,o,none⟩/\hh.cell b (o+i*6)=some (vi n.op):=by
  intro i hi hh hl;have hx:l[i]?=some l[i]:=bD hi
  obtain⟨b,o,ha,hr⟩:=(S.le hl).get QL (by decide) hx
  exact⟨_,b,o,hx,ha,Hp.row_cell hr (i:=0) rfl⟩
 obtain⟨n,b,o,hn,ha,hc⟩:=opAt (i:=e) (by omega) (Hp.le_refl h)
 have wn:=W _ _ hn;refine⟨b,o,⟨ha,by omega,by omega⟩,_,hc,Q9 ⟨_,rfl,?_⟩⟩
 have Q0:=Qh6.open B .nil hn;rw [dY] at Q0;refine⟨fun vs hh=>hh=h/\∃ from' need:Nat,vs=[vi from',vi need]/\from'<=e/\need<=2*(e+1-from')/\Qh6 l f from' need,fun vs hh=>(Qm vs 0).toNat,⟨rfl,e,(arI n.op).toNat,by rw [show (((arI n.op).toNat:Nat):Int)=arI n.op by have:=wn.a;omega],cJ _,by rcases QM wn.a with h|h|h<;>omega,Q0⟩,?_⟩
 rintro vs hh ⟨rfl,from',need,rfl,hfe,hnd,Q⟩;refine⟨from',need,rfl,fun g=>?_,fun g=>?_⟩
 ·have g:=bC g;cases Q with
  | nil=>exact absurd g (by decide)
  | @cons g' _ k B' Q'=>
   have hlt':=B'.lt;obtain⟨i,rfl⟩:∃ i,from'=i+1:=⟨from'-1,by omega⟩
   obtain⟨n',b',o',hn',ha',hc'⟩:=opAt (i:=i) (by omega) (Hp.le_refl hh)
   have wn':=W _ _ hn';have Q2:=Qh6.open B' Q' hn';have hI:IsW ((i:Nat):Int) (((i+1:Nat):Int)-1):=by
    have:=isW (e:=(((i+1:Nat):Int)-1)) (by unfold InR;omega)
    rw [show (((i+1:Nat):Int)-1)=(i:Int) by omega] at this ⊢
    exact this
   have r2:=QM wn'.a;refine⟨i,hI,b',o',⟨ha',by omega,by omega⟩,_,hc',Q9 ⟨_,rfl,_,iW,_,iW,⟨rfl,i,k+(arI n'.op).toNat,?_,by omega,by omega,Q2⟩,by simp [Qm]⟩⟩
   rw [show ((k+(arI n'.op).toNat:Nat):Int)=((k+1:Nat):Int)+(arI n'.op-1) by have:=wn'.a;omega]
 have g:=bB g;have h0:need=0:=by omega
 subst h0;cases Q;refine⟨_,iW,_,_,_,QiM (e:=250) (by kernel_rfl) (by kernel_rfl) (by omega) (by omega) (by omega),?_⟩
 have hsz:szT Pg 250=6:=by kernel_rfl
 rw [hsz,show ((e:Int)+1).toNat=e+1 by omega,bG]
 have Sseg:SlP ZC hh (MT a f c 6) (e+1-f) (seg l f (e+1)):=(S.drop QL (i:=f) (c:=c) (by omega) hcap).take QL (by omega)
 have hsl:(seg l f (e+1)).length=e+1-f:=Sseg.1.symm;have sget:∀{i:Nat} {n:Nd},(seg l f (e+1))[i]?=some n->l[f+i]?=some n:=by
  intro i n hi;unfold seg at hi;rw [gH] at hi
  split at hi
  ·rw [fK] at hi;exact hi
  ·cases hi
 have ecut:ZX l f (e+1)=(seg l f (e+1)).map (shN (-(f:Int))):=rfl;rw [ecut] at hK;generalize seg l f (e+1)=s at *
 refine QfW Sseg (by omega) fun a29 c29 h28 V28=>⟨_,_,_,rfl,?_⟩
 refine⟨fun vs h'=>∃(i:Nat) (outs:List Nd),vs=[vi i]/\i<=s.length/\outs.length=s.length/\outs.take i=(s.take i).map (shN (-(f:Int)))/\outs.drop i=s.drop i/\Uc hh h' a29 c29 outs,fun vs hh=>s.length-(Qm vs 0).toNat,⟨0,s,rfl,cH _,rfl,rfl,rfl,V28⟩,?_⟩
 rintro vs h34 ⟨i,outs,rfl,hi,hlo,ht,hd,V⟩;refine⟨i,rfl,fun g=>?_,fun g=>?_⟩
 ·have hlt2:i<s.length:=by have:=bC g;omega
  have hx:s[i]?=some s[i]:=bD hlt2
  have hox:outs[i]?=some s[i]:=by
   have:=congrArg List.head? hd;rw [kJ,kJ,hx] at this
   exact this
  have wn2:=W _ _ (sget hx);have hset:(outs.set i (shN (-(f:Int)) s[i])).take (i+1)=(s.take (i+1)).map (shN (-(f:Int))):=by
   rw [bJ (by rw [dG];omega),mJ (cJ _),j0,ht,bJ hlt2,cD]
   rfl
  have hset2:∀ n',(outs.set i n').drop (i+1)=s.drop (i+1):=by
   intro n';have:(outs.drop i).drop 1=(s.drop i).drop 1:=by rw [hd]
   rw [gZ,gZ] at this;rw [List.drop_set_of_lt (jG i)];exact this
  generalize s[i]=y at *
  intro J70;have hJ:∀ h',Uc hh h' a29 c29 (outs.set i (shN (-(f:Int)) y))->J70 h':=by
   intro h' V';exact⟨_,iW,⟨i+1,_,rfl,by omega,by rw [dG];exact hlo,hset,hset2 _,V'⟩,by simp [Qm];omega⟩
  clear_value J70;have acc:∀{h':Hp} {outs':List Nd} {z:Nd},Uc hh h' a29 c29 outs'->outs'[i]?=some z->outs'.length=s.length->∃ b o,(a29=some ⟨b,o,none⟩/\(0:Int)<=i/\(i:Int)<(s.length:Nat))/\h'.row b (o+(i:Int).toNat*6) 6=some (ZC z):=by
   intro h' outs' z V' hz hl';obtain⟨b,o,ha,hr⟩:=(V'.slp QL (by decide)).get QL (by decide) hz
   exact⟨b,o,⟨ha,by omega,by omega⟩,hr⟩
  obtain⟨b1,o1,A1,r1⟩:=acc V hox hlo;refine⟨b1,o1,A1,_,Hp.row_cell r1 (i:=0) rfl,Q9 ⟨_,rfl,?_⟩⟩
  intro J53;have hJ53:∀ h' (z:Nd),z={ y with x:=(shN (-(f:Int)) y).x }->Uc hh h' a29 c29 (outs.set i z)->J53 h':=by
   rintro h' z hz V';have hz1:(outs.set i z)[i]?=some z:=fC (by omega)
   obtain⟨b2,o2,A2,r2⟩:=acc V' hz1 (by rw [dG];exact hlo)
   have eop:z.op=y.op:=by rw [hz]
   have ey:z.y=y.y:=by rw [hz]
   refine⟨b2,o2,A2,_,Hp.row_cell r2 (i:=0) rfl,Q9 ⟨_,rfl,fun g=>?_,fun g=>?_⟩⟩
   ·have g:=bC g;rw [eop] at g;have hy:=wn2.y (by omega)
    have hfin:({ z with y:=y.y-f }:Nd)=shN (-(f:Int)) y:=by
     rw [hz];unfold shN;simp only;rw [bH (show 1<arI y.op by omega)]
     rfl
    obtain⟨b3,o3,ha3,hp⟩:=V'.put QL (x':={ z with y:=y.y-f }) (k:=2) (vs:=[vi (y.y-f)]) hz1 (pG 0) (show 2+1<=6 by decide) rfl
    refine⟨b2,o2,A2,_,Hp.row_cell r2 (i:=2) rfl,_,isW (by rw [ey];unfold InR;omega),b3,o3,⟨ha3,A2.2⟩,?_⟩
    rw [ey];refine hp _ fun h67 V67=>hJ h67 ?_
    rw [List.set_set,hfin] at V67;exact V67
   ·have g:=bB g;rw [eop] at g;have hfin:z=shN (-(f:Int)) y:=by rw [hz];unfold shN;simp only;rw [bE (show ¬ 1<arI y.op by omega)]
    rw [hfin] at V';exact hJ h' V'
  clear_value J53;refine⟨fun g=>?_,fun g=>?_⟩
  ·have g:=bC g;have hX:=wn2.x (by omega)
   obtain⟨b3,o3,ha3,hp⟩:=V.put QL (x':={ y with x:=y.x-f }) (k:=1) (vs:=[vi (y.x-f)]) hox (pG 0) (show 1+1<=6 by decide) rfl
   refine⟨b1,o1,A1,_,Hp.row_cell r1 (i:=1) rfl,_,iW,b3,o3,⟨ha3,A1.2⟩,?_⟩
   refine hp _ fun h50 V50=>hJ53 h50 _ ?_ V50
   unfold shN;simp only;rw [bH (show 0<arI y.op by omega)]
   rfl
  ·have g:=bB g;refine hJ53 h34 y ?_ ?_
   ·unfold shN;simp only;rw [bE (show ¬ 0<arI y.op by omega)]
   ·have:outs.set i y=outs:=by
     refine gQ fun k=>?_
     rw [g9]
     split
     ·rename_i h1;subst h1;rw [bH (by omega),hox]
     ·rfl
    rw [this];exact V
 ·have hge:i=s.length:=by have:=bB g;omega
  subst hge;rw [cQ (by omega),cQ (cJ _)] at ht
  rw [ht] at V;have:=hK a29 c29 h34 V;rw [bU] at this;exact this
theorem Uu {op:Int}{a2:OaT}{m2 c2:Nat}{l2:List Nd}(S:SlP ZC h a m l)(S2:SlP ZC h a2 m2 l2)(W2:WfL l2)(hm:l.length<=1000000)(hm2:l2.length<=1000000){R:RtT}
  (hK:∀ a' c' h',Uc h h' a' c' (Z6 op l l2)->R (vsl a' (Z6 op l l2).length c') h'):Qa Pg 223 [vi op,vsl a m c,vsl a2 m2 c2] h R:=by
 refine Qg8 ?_
 obtain rfl:=S.1;obtain rfl:=S2.1;refine QfW S hm fun a3 c3 h2 V2=>⟨_,_,_,rfl,_,iW,?_⟩
 refine⟨fun vs hh=>∃(i:Nat) (a:OaT) (c:Nat),vs=[vsl a (l++(l2.take i).map (shN l.length)).length c,vi i]/\i<=l2.length/\Uc h hh a c (l++(l2.take i).map (shN l.length)),fun vs hh=>l2.length-(Qm vs 1).toNat,
  ⟨0,a3,c3,by simp,cH _,by simpa using V2⟩,?_⟩
 rintro vs hh ⟨i,a4,c4,rfl,hi,V⟩;have hlen:(l++(l2.take i).map (shN l.length)).length=l.length+i:=by simp;omega
 refine⟨_,_,_,_,rfl,fun g=>?_,fun g=>?_⟩
 ·have hlt:i<l2.length:=by have:=bC g;omega
  have hx:l2[i]?=some l2[i]:=bD hlt
  have wn:=W2 _ _ hx;obtain⟨b,o,ha,hr⟩:=(S2.le V.le0).get QL (by decide) hx
  have tk:(l2.take (i+1)).map (shN l.length)=(l2.take i).map (shN l.length)++[shN l.length l2[i]]:=by rw [bJ hlt,cD];rfl
  generalize l2[i]=y at *
  refine⟨b,o,⟨ha,by omega,by omega⟩,_,_,_,_,_,_,hr,Q9 ⟨_,rfl,?_⟩⟩
  intro J28;have fin:∀(x' y':Int),x'=(shN (l.length:Int) y).x->y'=(shN (l.length:Int) y).y->∀(b49:Nat),hh b49=none->Qh Pg (Builtin.append_ #[28,28] 28 #[(vsl a4 (l++(l2.take i).map (shN l.length)).length c4),(vsl (some (⟨b49,0,none⟩:Addr)) 1 1)]) (Hp.set hh b49 (Qb [(vi y.op),(vi x'),(vi y'),(vi y.n),(vi y.v.1),(vi y.v.2)] 250)) fun v51 h52=>∃(a53:OaT) (n53 c53:Nat),v51=(vsl a53 n53 c53)/\(∃(x55:Int),(IsW x55 ((i:Int)+1))/\((∃(i':Nat) (a:OaT) (c:Nat),[vsl a53 n53 c53,vi x55]=[vsl a (l++(l2.take i').map (shN l.length)).length c,vi i']/\i'<=l2.length/\Uc h h52 a c (l++(l2.take i').map (shN l.length)))/\l2.length-(Qm [vsl a53 n53 c53,vi x55] 1).toNat<l2.length-(Qm [vsl a4 (l++(l2.take i).map (shN l.length)).length c4,vi i] 1).toNat)):=by
   rintro x' y' rfl rfl b49 hb49;refine V.app (x:=shN (l.length:Int) y) Ql9 QL VK (by omega) (by omega) hb49 fun a' c' h' V'=>⟨_,_,_,rfl,_,iW,⟨i+1,a',c',?_,by omega,?_⟩,by simp [Qm];omega⟩
   ·rw [tk,<-cG];rfl
   ·rw [tk,<-cG];exact V'
  have hJ:∀ x',x'=(shN (l.length:Int) y).x->J28 x':=by
   intro x' hx';refine Q9 ⟨_,rfl,?_⟩
   intro J45;refine⟨fun g=>?_,fun g=>?_⟩
   ·have g:=bC g;have hy:=wn.y (by omega)
    refine⟨_,iW,fin _ _ hx' ?_⟩
    unfold shN;simp only;rw [bH (show 1<arI y.op by omega)]
   ·have g:=bB g;refine fin _ _ hx' ?_
    unfold shN;simp only;rw [bE (show ¬ 1<arI y.op by omega)]
  clear_value J28;refine⟨fun g=>?_,fun g=>?_⟩
  ·have g:=bC g;have hX:=wn.x (by omega)
   refine⟨_,iW,hJ _ ?_⟩
   unfold shN;simp only;rw [bH (show 0<arI y.op by omega)]
  ·have g:=bB g;refine hJ _ ?_
   unfold shN;simp only;rw [bE (show ¬ 0<arI y.op by omega)]
 ·have hge:i=l2.length:=by have:=bB g;omega
  subst hge;rw [cQ (cJ _)] at V hlen ⊢;refine Q9 ⟨_,rfl,?_⟩
  intro J62;have hJ:∀ y',y'=(if 1<arI op then((l.length+l2.length:Nat):Int)-1 else 0)->J62 y':=by
   rintro y' rfl b66 hb66;intro h67;exact V.app (x:=⟨op,(l.length:Int)-1,if 1<arI op then((l.length+l2.length:Nat):Int)-1 else 0,0,(0,0)⟩) Ql9 QL VK (by omega) (by omega) hb66 fun a' c' h' V'=>⟨_,_,_,rfl,hK a' c' h' V'⟩
  clear_value J62;refine⟨fun g=>?_,fun g=>?_⟩
  ·have g:=bC g;refine⟨_,iW,hJ _ ?_⟩
   rw [bH (show 1<arI op by omega),hlen]
  ·have g:=bB g;refine hJ _ ?_
   rw [bE (show ¬ 1<arI op by omega)]
end
open Go.Txt
structure Yc (h0 h:Hp)(g:Nat)(s:RS):Prop where
 b:∃ a c,h g=some (Qb [vsl a s.ws.length c,vi s.deep,ifv (QG s.f)] 167)/\SlB h0 a s.ws.length s.ws/\s.ws.length<=c
 l:h0.le h
 n:h0 g=none
 w:∀ x ∈ s.ws,x.length<=1000000
theorem Jz {h0 h:Hp}{g:Nat}(l:h0.le h)(hg:h0 g=none)(o:Obj):h0.le (h.set g o):=fun b p hb=>by
 rw [Hp.set_other _ _ (fun e=>by rw [e,hg] at hb;cases hb)]
 exact l b p hb
theorem U6 {a:OaT}{n c:Nat}{l:List Wd}{w:Wd}{h:Hp}(S:SlB h a n l)(hn:n<=1000000){R:RtT}(hK:R (vi (if w ∈ l then(l.idxOf w:Int) else -1)) h):Qa Pg 141 [vsl a n c,vs (bs w)] h R:=by
 refine W5 ?_
 have hl:=S.1;refine⟨fun v hh=>hh=h/\∃ i:Nat,v=[vi i]/\i<=n/\w ∉ l.take i,fun v _=>n-(Qm v 0).toNat,⟨rfl,0,rfl,cH _,by simp⟩,?_⟩
 rintro v hh ⟨rfl,i,rfl,hi,hno⟩;refine⟨i,rfl,fun e=>?_,fun e=>?_⟩
 ·have hlt:i<n:=by have:=bC e;omega
  obtain⟨b,o,ha,hc⟩:=SlP.get1 S hlt;refine⟨b,o,⟨ha,by omega,by omega⟩,_,hc,_,QH,fun e2=>?_,fun e2=>?_⟩
  ·have e3:=bC e2;have hx:l.getD i []=l[i]'(by omega):=by rw [bK,bD (by omega)];rfl
   rw [hx] at e3;have hm:w ∈ l:=by rw [e3];exact cM _
   have hidx:l.idxOf w=i:=by
    have hsp:l=l.take i++l[i]'(by omega) :: l.drop (i+1):=by rw [<-dM,dV]
    rw [hsp,List.idxOf_append,bE hno,<-e3,List.idxOf_cons_self,bV];omega
   rw [bH hm,hidx] at hK;exact hK
  ·have e3:=bB e2;have hx:l.getD i []=l[i]'(by omega):=by rw [bK,bD (by omega)];rfl
   rw [hx] at e3;refine⟨_,iW,⟨rfl,i+1,rfl,by omega,?_⟩,?_⟩
   ·rw [bJ (by omega)]
    intro hm;rcases cP.1 hm with h1|h1
    ·exact hno h1
    ·exact e3 (by simpa using h1)
   ·show n-((i:Int)+1).toNat<n-(i:Int).toNat;omega
 ·have hge:i=n:=by have:=bB e;omega
  rw [hge,cQ (by omega)] at hno
  rw [bE hno] at hK;exact hK
theorem NM {a:OaT}{n c:Nat}{l:List Wd}{w:Wd}{h:Hp}(S:SlB h a n l)(hn:n<=1000000){R:RtT}(hK:R (vb (decide (w ∈ l))) h):Qa Pg 142 [vsl a n c,vs (bs w)] h R:=by
 refine Wi ?_
 refine U6 S hn ⟨_,rfl,?_⟩
 have:decide ((if w ∈ l then(l.idxOf w:Int) else -1)>=0)=decide (w ∈ l):=by
  by_cases hm:w ∈ l
  ·simp [hm]
  ·simp [hm]
 rw [this];exact hK
def At (g:Nat):NpT:=fun b=>b=g
theorem WT (h:Hp)(g:Nat)(o:Obj):Mut (At g) h (At g) (h.set g o):=⟨fun b o2 hb ho=>by rw [Hp.set_other _ _ (fun e=>hb e)];exact ho,fun b hb=>.inl hb⟩
theorem Vx {h:Hp}{g:Nat}{x y z:Value}{T:TypeId}(hb:h g=some (Qb [x,y,z] T)):h.cell g 0=some x/\h.cell g (0+1)=some y/\h.cell g (0+2)=some z:=⟨Qc hb rfl,Qc hb rfl,Qc hb rfl⟩
theorem QcV {h:Hp}{g:Nat}{x y z x':Value}{T:TypeId}(hb:h g=some (Qb [x,y,z] T)){K:HpT}(hK:K (h.set g (Qb [x',y,z] T))):h.store g 0 [x'] K:=QR hb (by simp) hK
theorem QlF {h:Hp}{g:Nat}{x y z z':Value}{T:TypeId}(hb:h g=some (Qb [x,y,z] T)){K:HpT}(hK:K (h.set g (Qb [x,y,z'] T))):h.store g (0+2) [z'] K:=QR hb (by simp) hK
theorem QkR (h:Hp):SlB h none 0 []:=⟨rfl,(Qw.nil h 9 1).row⟩
theorem VE {h0 h:Hp}{g:Nat}{s:RS}(D:Yc h0 h g s){f:Int}(hf:f≠0){R:RtT}(hK:∀ h',Yc h0 h' g (s.fail f)->Mut (At g) h (At g) h'->R (Qe []) h'):Qa Pg 140 [vhp g 0,ifv (some (119,vi f))] h R:=by
 obtain⟨a,c,hb,hS,hc⟩:=D.b;refine Gt ?_
 refine⟨_,(Vx hb).2.2,?_⟩
 intro J5;refine⟨fun e=>?_,fun e=>?_⟩
 ·have e0:s.f=0:=by unfold QG at e;split at e<;>simp_all
  refine QlF hb (QcV (Hp.set_same _ _ _) ?_)
  refine hK _ ⟨⟨none,0,?_,QkR _,cJ _⟩,Jz (Jz D.l D.n _) D.n _,D.n,fun x hx=>by cases hx⟩ ((WT _ _ _).trans (WT _ _ _))
  rw [Hp.set_same];show _=some (Qb [vsl none 0 0,vi s.deep,ifv (QG (if s.f=0 then f else s.f))] 167)
  rw [bH e0];unfold QG;rw [bE hf]
 ·have e0:s.f≠0:=by intro e1;rw [e1] at e;cases e
  refine QcV hb ?_
  refine hK _ ⟨⟨none,0,?_,QkR _,cJ _⟩,Jz D.l D.n _,D.n,fun x hx=>by cases hx⟩ (WT _ _ _)
  rw [Hp.set_same];show _=some (Qb [vsl none 0 0,vi s.deep,ifv (QG (if s.f=0 then f else s.f))] 167)
  rw [bE e0]
theorem YH {h0 h:Hp}{g:Nat}{s:RS}(D:Yc h0 h g s){wa:OaT}{wn wc:Nat}{l:List Wd}(S:SlB h wa wn l)(hwn:wn<=1000)(hwl:s.ws.length<=1000000){R:RtT}(hK:∀ h',Yc h0 h' g (s.is l).2->Mut (At g) h (At g) h'->R (vs (bs (s.is l).1)) h'):Qa Pg 85 [vhp g 0,vsl wa wn wc] h R:=by
 obtain⟨a,c,hb,hS,hc⟩:=D.b;refine No ?_
 obtain⟨ws,dp,f⟩:=s;simp only at hb hS hc hwl;have hcell:=(Vx hb).1;cases ws with
 | nil=>
  refine⟨_,_,_,hcell,none,0,0,fun e=>by simp at e,0,0,fun e=>by simp at e,⟨#[]⟩,fun e=>by simp at e,fun v hh=>hh=h/\v=.t (.one (.v (vb false))),fun e=>by simp at e,fun _=>⟨rfl,rfl⟩,?_⟩
  rintro h10 p11 ⟨rfl,e⟩;cases e;refine⟨fun _=>hK _ D (Mut.of_le (Hp.le_refl _)),fun e=>by simp at e⟩
 | cons w r=>
  obtain⟨b,o,ha,hc0⟩:=SlP.get1 (SlP.le D.l hS) (i:=0) (by simp)
  have hc1:h.cell b (o+(0:Int).toNat*1)=some (vs (bs w)):=hc0;refine⟨_,_,_,hcell,_,_,_,fun _=>hcell,b,o,fun _=>⟨ha,by decide,by simp⟩,_,fun _=>hc1,fun v hh=>hh=h/\v=.t (.one (.v (vb (decide (w ∈ l))))),fun _=>NM S (by omega) ⟨_,rfl,rfl,rfl⟩,fun e=>absurd (by simp;omega) e,?_⟩
  rintro h10 p11 ⟨rfl,e⟩;cases e;refine⟨fun e=>?_,fun e=>?_⟩
  ·have hno:w ∉ l:=by intro hm;simp [hm] at e;omega
   have h1:(⟨w :: r,dp,f⟩:RS).is l=([],⟨w :: r,dp,f⟩):=by unfold RS.is;simp only;rw [bE hno]
   rw [h1] at hK;exact hK _ D (Mut.of_le (Hp.le_refl _))
  ·have hm:w ∈ l:=by
    rcases Decidable.em (w ∈ l) with hm|hm
    ·exact hm
    ·simp [hm] at e
   have h1:(⟨w :: r,dp,f⟩:RS).is l=(w,⟨r,dp,f⟩):=by unfold RS.is;simp only;rw [bH hm]
   rw [h1] at hK;have hsz:szT Pg 9=1:=by kernel_rfl
   have hr:=YC (P:=Pg) (h:=h10) (t:=162) (e:=9) (by kernel_rfl) (by kernel_rfl) (a:=a) (n:=(w :: r).length) (c:=c) (x:=1) (by decide) (by simp;omega)
   rw [hsz] at hr;refine⟨_,_,_,hcell,b,o,⟨ha,by decide,by simp⟩,_,hc1,_,_,_,hcell,_,_,_,hr,QcV hb ?_⟩
   have hS2:=SlP.drop ZM hS (i:=1) (by simp) hc
   exact hK _ ⟨⟨_,_,Hp.set_same _ _ _,⟨rfl,hS2.2⟩,by simp at hc ⊢;omega⟩,Jz D.l D.n _,D.n,fun x hx=>D.w x (bY _ hx)⟩ (WT _ _ _)
theorem Yc.le {h0 h h':Hp}{g:Nat}{s:RS}(D:Yc h0 h g s)(l:h.le h'):Yc h0 h' g s:=by
 obtain⟨a,c,hb,hS,hc⟩:=D.b;exact⟨⟨a,c,l g _ hb,hS,hc⟩,Hp.le_trans D.l l,D.n,D.w⟩
theorem Ms (h:Hp)(b:Nat)(w:Wd):SlB (h.set b (Qb [vs (bs w)] 9)) (some ⟨b,0,none⟩) 1 [w]:=⟨rfl,(Qw.new h b 9 (sz:=1) (n:=1) [vs (bs w)] rfl (by decide)).row⟩
theorem Yv {h0 h:Hp}{g:Nat}{s:RS}(D:Yc h0 h g s)(hwl:s.ws.length<=1000000){w:Wd}{R:RtT}(hK:∀ h',Yc h0 h' g (s.must w)->Mut (At g) h (At g) h'->R (Qe []) h'):Qa Pg 83 [vhp g 0,vs (bs w)] h R:=by
 refine Gz ?_
 intro b1 hb1 h2;have hl:h.le h2:=Hp.le_set (Hp.le_refl h) hb1 _;unfold RS.must at hK;refine YH (D.le hl) (Ms h b1 w) (by decide) hwl fun h4 D4 M4=>⟨_,rfl,_,QH (b:=[]),fun e=>?_,fun e=>?_⟩
 ·rw [bH (bC e)] at hK;exact VE D4 (by decide) fun h5 D5 M5=>⟨rfl,hK h5 D5 (((Mut.of_le hl).trans M4).trans M5)⟩
 ·rw [bE (bB e)] at hK;exact hK h4 D4 ((Mut.of_le hl).trans M4)
structure KV (hB h:Hp)(a:OaT)(n:Nat)(l:List Nd):Prop where
 s:SlP ZC h a n l
 nw:∀ b o,a=some ⟨b,o,none⟩->hB b=none
theorem KV.base {hB hC h:Hp}{a:OaT}{n:Nat}{l:List Nd}(N:KV hC h a n l)(hh:∀ b,hC b=none->hB b=none):KV hB h a n l:=⟨N.s,fun b o e=>hh b (N.nw b o e)⟩
theorem KV.mut {hB h h':Hp}{g:Nat}{a:OaT}{n:Nat}{l:List Nd}(N:KV hB h a n l)(hg:hB g≠none)(M:Mut (At g) h (At g) h'):KV hB h' a n l:=by
 have ne:∀ b o,a=some ⟨b,o,none⟩->b≠g:=fun b o e q=>hg (by rw [<-q];exact N.nw b o e)
 refine⟨⟨N.s.1,(Qf.del N.s.2 ne).le fun b o hb=>?_⟩,N.nw⟩
 by_cases e:b=g
 ·subst e;simp [Hp.del] at hb
 ·refine M.keep b o (fun h=>e h) ?_
  simpa [Hp.del,e] using hb
theorem Jv (hB h:Hp):KV hB h none 0 []:=⟨⟨rfl,(Qw.nil h 250 6).row⟩,fun b o e=>by cases e⟩
theorem _root_.Go.Vc.Mut.up {h h':Hp}{g:Nat}(M:Mut (At g) h (At g) h')(hg:h' g≠none):∀ b,h' b=none->h b=none:=by
 intro b hb;cases e:h b with
 | none=>rfl
 | some o=>
  by_cases q:b=g
  ·subst q;exact absurd hb hg
  ·rw [M.keep b o (fun h=>q h) e] at hb;cases hb
theorem Yc.al {h0 h:Hp}{g:Nat}{s:RS}(D:Yc h0 h g s):h g≠none:=by
 obtain⟨a,c,hb,_⟩:=D.b;rw [hb];simp
end Go.Proofs.YthicpjafcpfjoaaGreatDoor
namespace Go.Txt
open Go.Lib
theorem Qf2:∀(l:LuT) (a u:Nat),parseUint10 a l=.ok u->(∀ c ∈ l,isD c)/\u=Wl a l
 | [],a,u,h=>by
  rw [parseUint10] at h;injection h with h
  exact⟨by simp,h.symm⟩
 | c :: l,a,u,h=>by
  rw [parseUint10] at h;split at h
  ·rename_i hc;split at h
   ·cases h
   ·split at h
    ·cases h
    ·obtain⟨h1,h2⟩:=Qf2 l _ u h;refine⟨fun x hx=>?_,?_⟩
     ·rcases bX.1 hx with rfl|hx
      ·exact hc
      ·exact h1 x hx
     ·rw [h2,kY];rfl
  ·cases h
theorem Qpm {l:LuT}(hl:l≠[])(most:Int):Z4 l most false=VP most 0 l:=by
 unfold Z4;rw [bE];rintro(h|⟨h,_⟩)
 ·exact hl h
 ·cases h
theorem QcU {l:LuT}(hl:l≠[]){most:Int}(hm:0<=most):Z4 l most false=if (∀ c ∈ l,isD c)/\(Wl 0 l:Int)<=most then(Wl 0 l:Int) else -1:=by
 rw [Qpm hl];exact Je most l 0 hm
theorem QoQ {l:LuT}{most:Int}(hm:0<=most):-1<=Z4 l most false/\Z4 l most false<=most:=by
 by_cases hl:l=[]
 ·subst hl;unfold Z4;simp;omega
 ·rw [QcU hl hm];split<;>omega
theorem Qco {c:UInt8}{r:LuT}(hc:isD c){v:Int}(h:atoiAll (c :: r)=.ok v):(∀ x ∈ c :: r,isD x)/\v=Wl 0 (c :: r):=by
 have hc':=hc;unfold isD at hc';unfold atoiAll at h;simp only at h;rw [bE (by omega)] at h
 unfold parseMag at h;rw [bE (by simp)] at h
 cases hp:parseUint10 0 (c :: r) with
 | ok u=>
  rw [hp] at h;simp only at h;rw [bE (show ¬(c.toNat=45/\9223372036854775808<u) by omega),bE (show ¬ c.toNat=45 by omega)] at h
  split at h
  ·cases h
  ·injection h with h
   obtain⟨h1,h2⟩:=Qf2 _ _ _ hp;exact⟨h1,by rw [<-h,h2]⟩
 | range=>rw [hp] at h;cases h
 | _=>rw [hp] at h;cases h
theorem QeV {l:LuT}(hl:l≠[])(hd:∀ x ∈ l,isD x)(hv:Wl 0 l<=1000000000000):atoiAll l=.ok (Wl 0 l):=by
 match l,hl with
 | c :: r,hl=>
  have hc:=hd c (bS ..);unfold isD at hc;have hp:=UK (c :: r) 0 hd (by omega)
  unfold atoiAll;simp only;rw [bE (by omega)]
  unfold parseMag;rw [bE (by simp),hp]
  simp only;rw [bE (by omega),bE (by omega),bE (by omega)]
theorem QnN {c:UInt8}{r:LuT}{v:Int}(h:atoiAll (c :: r)=.ok v){most:Int}(hm:0<=most):Z4 (c :: r) most false=if isD c/\v<=most then v else -1:=by
 by_cases hc:isD c
 ·obtain⟨h1,h2⟩:=Qco hc h;rw [QcU (by simp) hm,h2]
  by_cases h3:(Wl 0 (c :: r):Int)<=most
  ·rw [bH ⟨h1,h3⟩,bH ⟨hc,h3⟩]
  ·rw [bE (fun e=>h3 e.2),bE (fun e=>h3 e.2)]
 ·rw [QcU (by simp) hm,bE (fun e=>hc (e.1 c (bS ..))),bE (fun e=>hc e.1)]
theorem Qmu {l:LuT}(h:∀ v,atoiAll l≠.ok v){most:Int}(hm:0<=most)(hm2:most<=1000000000000):Z4 l most false=-1:=by
 by_cases hl:l=[]
 ·subst hl;unfold Z4;simp
 ·rw [QcU hl hm];by_cases h3:(∀ c ∈ l,isD c)/\(Wl 0 l:Int)<=most
  ·exact absurd (QeV hl h3.1 (by omega)) (h _)
  ·rw [bE h3]
end Go.Txt
namespace Go.Proofs.YthicpjafcpfjoaaGreatDoor
open Go Go.Vc Go.Txt
def Qll:List Wd:=[[],QW,QW,UF,UO,Ut]
structure QgC (h:Hp):Prop where
 p:UV h
 e:N9 h
 f:∃ a c,Hp.cell h 9 0=some (vsl a 4 c)/\SlB h a 4 ZF
 a:∃ a c,Hp.cell h 0 0=some (vsl a 6 c)/\SlB h a 6 Qll
theorem QgC.le {h h':Hp}(T:QgC h)(l:h.le h'):QgC h':=by
 obtain⟨p,e,⟨a,c,h1,h2⟩,b,d,h3,h4⟩:=T;exact⟨p.le l,e.le l,⟨a,c,Hp.cell_le l h1,SlP.le l h2⟩,b,d,Hp.cell_le l h3,SlP.le l h4⟩
structure QfL (h0 h:Hp)(g:Nat):Prop where
 t:QgC h0
 l:h0.le h
 n:h0 g=none
theorem QfL.mut {h0 h h':Hp}{g:Nat}(E:QfL h0 h g)(M:Mut (At g) h (At g) h'):QfL h0 h' g:=
 ⟨E.t,fun b o hb=>M.keep b o (fun e=>by rw [show b=g from e,E.n] at hb;cases hb) (E.l b o hb),E.n⟩
theorem QfL.now {h0 h:Hp}{g:Nat}(E:QfL h0 h g):QgC h:=E.t.le E.l
structure QpE {α:Type}(enc:α->List Value)(h:Hp)(g:Nat)(a:OaT)(n:Nat)(l:List α):Prop where
 s:SlP enc h a n l
 ne:∀ b o,a=some ⟨b,o,none⟩->b≠g
theorem QpE.mut {α:Type}{enc:α->List Value}{h h':Hp}{g:Nat}{a:OaT}{n:Nat}{l:List α}(N:QpE enc h g a n l)(M:Mut (At g) h (At g) h'):QpE enc h' g a n l:=by
 refine⟨⟨N.s.1,(Qf.del N.s.2 N.ne).le fun b o hb=>?_⟩,N.ne⟩
 by_cases e:b=g
 ·subst e;simp [Hp.del] at hb
 ·refine M.keep b o (fun h=>e h) ?_
  simpa [Hp.del,e] using hb
theorem Yc.c0 {h0 h:Hp}{g:Nat}{s:RS}(D:Yc h0 h g s):∃ a c,h.cell g 0=some (vsl a s.ws.length c):=by
 obtain⟨a,c,hb,_⟩:=D.b;exact⟨a,c,(Vx hb).1⟩
theorem Yc.c2 {h0 h:Hp}{g:Nat}{s:RS}(D:Yc h0 h g s):h.cell g (0+2)=some (ifv (QG s.f)):=by
 obtain⟨a,c,hb,_⟩:=D.b;exact(Vx hb).2.2
theorem Yc.put2 {h0 h:Hp}{g:Nat}{s:RS}(D:Yc h0 h g s){f:Int}{K:HpT}(hK:∀ h',Yc h0 h' g ⟨s.ws,s.deep,f⟩->Mut (At g) h (At g) h'->K h'):h.store g (0+2) [ifv (QG f)] K:=by
 obtain⟨a,c,hb,hS,hc⟩:=D.b;exact QlF hb (hK _ ⟨⟨a,c,Hp.set_same _ _ _,hS,hc⟩,Jz D.l D.n _,D.n,D.w⟩ (WT _ _ _))
theorem Qql {c:UInt8}:(decide (((c.toNat:Nat):Int)<48)=false/\decide (((c.toNat:Nat):Int)>57)=false)↔isD c:=by
 unfold isD;constructor
 ·rintro⟨h1,h2⟩;have h1:=bB h1;have h2:=bB h2;omega
 ·intro h;exact⟨cE (by omega),cE (by omega)⟩
theorem Uk {h0 h:Hp}{g:Nat}{s:RS}(D:Yc h0 h g s)(E:QfL h0 h g)(hl:s.ws.length<=1000000){most:Int}(hm:0<=most)(hm2:most<=1000000000000){R:RtT}(hK:∀ h',Yc h0 h' g (s.number most).2->Mut (At g) h (At g) h'->R (vi (s.number most).1) h'):Qa Pg 87 [vhp g 0,vi most] h R:=by
 have hfail:(s.number most)=(0,s.fail 4)->Qa Pg 140 [vhp g 0,ifv (some (119,vi 4))] h fun v2 h3=>v2=Qe []/\R (vi 0) h3:=by intro e;rw [e] at hK;exact VE D (by decide) fun h' D' M=>⟨rfl,hK h' D' M⟩
 obtain⟨a,c,hb,hS,hc⟩:=D.b;refine UZ ?_
 have hcell:=(Vx hb).1;have hw:=D.w;obtain⟨ws,dp,f⟩:=s;simp only at hb hS hc hcell hw hl;refine⟨_,_,_,hcell,fun e=>?_,fun e=>?_⟩
 ·have:ws=[]:=by have:=bC e;exact fX.1 (by omega)
  subst this;exact hfail rfl
 cases ws with
 | nil=>simp at e
 | cons w r=>
  obtain⟨b,o,ha,hc0⟩:=SlP.get1 (SlP.le D.l hS) (i:=0) (by simp)
  have hc1:h.cell b (o+(0:Int).toNat*1)=some (vs (bs w)):=hc0;have hlen:(0:Int)<(((w :: r).length:Nat):Int):=by simp
  have hwl:=hw w (bS ..);refine⟨_,_,_,hcell,b,o,⟨ha,by decide,hlen⟩,_,hc1,?_⟩
  refine strconv_Atoi_ok hwl E.now.e (fun v hv=>?_) fun hn x e=>?_
  ·match w,hv with
   | [],hv=>exact absurd hv (by simp [Lib.atoiAll])
   | c0 :: cs,hv=>
   have hx:Rd Pg (Instr.index 9 (vs (bs (c0 :: cs))) (vi 0)) h (vk .u8 (c0.toNat:Nat)):=YW (by kernel_rfl) (l:=c0 :: cs) (i:=0) (by decide) (by simp)
   refine⟨_,_,rfl,_,_,_,fun _=>hcell,b,o,fun _=>⟨ha,by decide,hlen⟩,_,fun _=>hc1,_,fun _=>hx,_,_,_,fun _=>hcell,b,o,fun _=>⟨ha,by decide,hlen⟩,_,fun _=>hc1,_,fun _=>hx,?_⟩
   have hnat:=QnN hv hm;have hnum:(⟨(c0 :: cs) :: r,dp,f⟩:RS).number most=if Z4 (c0 :: cs) most false<0 then(0,(⟨(c0 :: cs) :: r,dp,f⟩:RS).fail 4) else(Z4 (c0 :: cs) most false,⟨r,dp,f⟩):=rfl
   have hcond:(bif (bif (bif (Option.isSome (none:OtT)) then true else(decide (((c0.toNat:Nat):Int)<48))) then true else(decide (((c0.toNat:Nat):Int)>57))) then true else(decide ((v:Int)>most)))=!decide (isD c0/\v<=most):=by
    have hi:=@Qql c0;rw [show (decide (v>most))=!decide (v<=most) by rw [QjH];exact d9.2 (by omega)]
    cases h1:decide (((c0.toNat:Nat):Int)<48)<;>cases h2:decide (((c0.toNat:Nat):Int)>57)<;>simp only [h1,h2] at hi<;>simp at hi<;>simp [hi]
   rw [hcond];refine⟨fun e=>?_,fun e=>?_⟩
   ·have e2:¬(isD c0/\v<=most):=by rw [QjH] at e;exact bC e
    rw [bE e2] at hnat;rw [hnat,bH (by decide)] at hnum
    exact hfail hnum
   ·have e2:isD c0/\v<=most:=by rw [QjH] at e;exact fS.1 (bB e)
    rw [bH e2] at hnat;obtain⟨_,hv2⟩:=Qco e2.1 hv;rw [hnat,bE (by omega)] at hnum
    rw [hnum] at hK;have hsz:szT Pg 9=1:=by kernel_rfl
    have hr:=YC (P:=Pg) (h:=h) (t:=162) (e:=9) (by kernel_rfl) (by kernel_rfl) (a:=a) (n:=((c0 :: cs) :: r).length) (c:=c) (x:=1) (by decide) (by simp;omega)
    rw [hsz] at hr;refine⟨_,_,_,hcell,_,_,_,hr,QcV hb ?_⟩
    have hS2:=SlP.drop ZM hS (i:=1) (by simp) hc
    exact hK _ ⟨⟨_,_,Hp.set_same _ _ _,⟨rfl,hS2.2⟩,by simp at hc ⊢;omega⟩,Jz D.l D.n _,D.n,fun x hx=>hw x (bY _ hx)⟩ (WT _ _ _)
  ·have no:∀{p:Prop},Option.isSome (some e)=false->p:=fun q=>by cases q
   refine⟨x,some e,rfl,none,0,0,no,0,0,no,⟨#[]⟩,no,0,no,none,0,0,(fun q=>by cases q),0,0,(fun q=>by cases q),⟨#[]⟩,(fun q=>by cases q),0,(fun q=>by cases q),(fun _=>?_),(fun q=>by cases q)⟩
   have hnat:=Qmu hn hm hm2;refine hfail ?_
   show (if Z4 w most false<0 then(0,(⟨w :: r,dp,f⟩:RS).fail 4) else(Z4 w most false,⟨r,dp,f⟩))=_
   rw [hnat,bH (by decide)]
structure SOk (n:Nat)(s:RS):Prop where
 good:s.good
 len:s.ws.length<n
 big:s.ws.length<=1000
 d0:0<=s.deep
 d1:s.deep+s.ws.length<=1000000
theorem SOk.goes {n:Nat}{s t:RS}(S:SOk n s)(G:YS t s):SOk n t:=by
 have h1:=G.len;have h2:=G.deep;have:=S.len;have:=S.big;have:=S.d0;have:=S.d1;exact⟨G.ok,by omega,by omega,by omega,by omega⟩
structure QOk (q:Qy):Prop where
 n1:1<=q.aggs.length
 n2:q.aggs.length<=4
 g:∀ a ∈ q.aggs,1<=a.1/\a.1<=5/\(a.1≠1->YN a.2=0)/\(a.1=1->a.2=[])
 w:q.wh≠[]->YN q.wh=0
 b:q.by_≠[]->YN q.by_=0
 s:1<=q.size/\q.size<=1000
 l:1<=q.slide/\q.slide<=1000
 d:0<=q.delay/\q.delay<=1000
 t:0<=q.late/\q.late<=1000
 r:q.slide<=q.size/\q.size<=4*q.slide
 ga:∀ a ∈ q.aggs,a.1≠1->Zs a.2 (if a.1=2 then 0 else 1)=0
 wa:q.wh≠[]->Zs q.wh 2=0
 ba:q.by_≠[]->Zs q.by_ 0=0
theorem VH {l:List Nd}{k:Int}(h:Zs l k=0):YN l=0:=by
 unfold Zs at h;split at h
 ·rename_i q;exact absurd h q
 ·rename_i q;exact fS.1 q
theorem QqE {q:Qy}(h:UD q=0):QOk q:=by
 unfold UD at h;split at h
 ·cases h
 rename_i h1;split at h
 ·rename_i h2;exact absurd h h2
 rename_i h2;have h2:=QeH (fS.1 h2);have h3:=QeH h;have ha:∀ a ∈ q.aggs,Xw a=0:=fun a ha=>h2 _ (dI.2 ⟨a,ha,rfl⟩)
 have hw:=h3 (if q.wh=[] then 0 else Zs q.wh 2) (by simp)
 have hb:=h3 (if q.by_=[] then 0 else Zs q.by_ 0) (by simp)
 have hn:=h3 (Ww q) (by simp)
 have hga:∀ a ∈ q.aggs,1<=a.1/\a.1<=5/\(a.1≠1->Zs a.2 (if a.1=2 then 0 else 1)=0)/\(a.1=1->a.2=[]):=by
  intro a h4;have h5:=ha a h4;unfold Xw at h5;split at h5
  ·cases h5
  ·rename_i h6;refine⟨by omega,by omega,fun h7=>?_,fun h7=>?_⟩
   ·rw [bE h7] at h5;exact h5
   ·exact d5 fun h8=>h6 (.inr (.inr ⟨h7,h8⟩))
 have hwa:q.wh≠[]->Zs q.wh 2=0:=fun h4=>by rw [bE h4] at hw;exact hw
 have hba:q.by_≠[]->Zs q.by_ 0=0:=fun h4=>by rw [bE h4] at hb;exact hb
 have hnn:¬(q.size<1\/q.size>1000\/q.slide<1\/q.slide>1000\/q.delay<0\/q.delay>1000\/q.late<0\/q.late>1000)/\¬(q.slide>q.size\/q.size>4*q.slide):=by
  unfold Ww at hn;split at hn
  ·cases hn
  ·rename_i h4;split at hn
   ·cases hn
   ·rename_i h5;exact⟨h4,h5⟩
 exact⟨by omega,by omega,fun a h4=>⟨(hga a h4).1,(hga a h4).2.1,fun h5=>VH ((hga a h4).2.2.1 h5),(hga a h4).2.2.2⟩,fun h4=>VH (hwa h4),fun h4=>VH (hba h4),by omega,by omega,by omega,by omega,by omega,fun a h4 h5=>(hga a h4).2.2.1 h5,hwa,hba⟩
end Go.Proofs.YthicpjafcpfjoaaGreatDoor
namespace Go.Proofs.YthicpjafcpfjoaaGreatDoor
open Go Go.Vc
theorem Qd5 {u0:OaT}{u1 u2:Nat}{u3:Int}{h:Hp}{R:RtT}(H:Qa Pg 203 [vsl u0 u1 u2] h fun v1 h2=>∃ e3,v1=ifv e3/\((Option.isSome e3)=true->R (ifv e3) h2)/\((Option.isSome e3)=false->Qa Pg 204 [vsl u0 u1 u2] h2 fun v5 h6=>∃ x7 e8,v5=Qe [vi x7,ifv e8]/\let J11:OtT->Prop:=fun e12=>R (ifv e12) h6;((cond (cond (cond (Option.isNone e8) (decide (u3≠0)) false) (decide (x7≠u3)) false) (decide (x7≠0)) false)=true->J11 (some (119,vi 3)))/\((cond (cond (cond (Option.isNone e8) (decide (u3≠0)) false) (decide (x7≠u3)) false) (decide (x7≠0)) false)=false->J11 e8))):Qa Pg 146 [vsl u0 u1 u2,vi u3] h R:=callO Tryz.func146 [.one (.v (vsl u0 u1 u2)),.one (.v (vi u3))] H
theorem Qbp {u0:OaT}{u1 u2:Nat}{u3:OaT}{u4 u5:Nat}{u6:OaT}{u7 u8:Nat}{u9:Int}{u10:Int}{u11:Int}{u12:Int}{h:Hp}{R:RtT}(H:∀ b1,h b1=none->let h2:=Hp.set h b1 (Qb [vi u9,vi u10] 3);∃(I4:LtT) (m5:LmT),I4 [vi 0] h2/\∀ vs6 h7,I4 vs6 h7->∃ x8,vs6=[vi x8]/\((decide (x8<((2:Nat):Int)))=true->∃ b11 o12,((some (⟨b1,0,none⟩:Addr))=some ⟨b11,o12,none⟩/\(0:Int)<=x8/\x8<((2:Nat):Int))/\∃ x13,Hp.cell h7 b11 (o12+x8.toNat*1)=some (vi x13)/\((cond (decide (x13<1)) true (decide (x13>1000)))=true->R (ifv (some (119,vi 1))) h7)/\((cond (decide (x13<1)) true (decide (x13>1000)))=false->∃ x15,IsW x15 (x8+1)/\I4 [vi x15] h7/\m5 [vi x15] h7<m5 vs6 h7))/\((decide (x8<((2:Nat):Int)))=false->∀ b16,h7 b16=none->let h17:=Hp.set h7 b16 (Qb [vi u11,vi u12] 3);∃(I19:LtT) (m20:LmT),I19 [vi 0] h17/\∀ vs21 h22,I19 vs21 h22->∃ x23,vs21=[vi x23]/\((decide (x23<((2:Nat):Int)))=true->∃ b26 o27,((some (⟨b16,0,none⟩:Addr))=some ⟨b26,o27,none⟩/\(0:Int)<=x23/\x23<((2:Nat):Int))/\∃ x28,Hp.cell h22 b26 (o27+x23.toNat*1)=some (vi x28)/\((cond (decide (x28<0)) true (decide (x28>1000)))=true->R (ifv (some (119,vi 1))) h22)/\((cond (decide (x28<0)) true (decide (x28>1000)))=false->∃ x30,IsW x30 (x23+1)/\I19 [vi x30] h22/\m20 [vi x30] h22<m20 vs21 h22))/\((decide (x23<((2:Nat):Int)))=false->∃ x31,((decide (u10>u9))=false->IsW x31 (4*u10))/\((cond (decide (u10>u9)) true (decide (u9>x31)))=true->R (ifv (some (119,vi 3))) h22)/\((cond (decide (u10>u9)) true (decide (u9>x31)))=false->R (ifv none) h22)))):Qa Pg 147 [vag [vsl u0 u1 u2,vsl u3 u4 u5,vsl u6 u7 u8,vi u9,vi u10,vi u11,vi u12]] h R:=callC ⟨[],[(2,([13],[.one (.int .i64)],[])),(8,([31],[.one (.int .i64)],[]))],[]⟩ Tryz.func147 [.ag [.v (vsl u0 u1 u2),.v (vsl u3 u4 u5),.v (vsl u6 u7 u8),.v (vi u9),.v (vi u10),.v (vi u11),.v (vi u12)]] H
theorem Gr {u0:OaT}{u1 u2:Nat}{u3:OaT}{u4 u5:Nat}{u6:OaT}{u7 u8:Nat}{u9:Int}{u10:Int}{u11:Int}{u12:Int}{h:Hp}{R:RtT}(H:((cond (decide ((u1:Int)<1)) true (decide ((u1:Int)>4)))=true->R (ifv (some (119,vi 2))) h)/\((cond (decide ((u1:Int)<1)) true (decide ((u1:Int)>4)))=false->∃(I3:LtT) (m4:LmT),I3 [vi 0] h/\∀ vs5 h6,I3 vs5 h6->∃ x7,vs5=[vi x7]/\((decide (x7<(u1:Int)))=true->let J25:HpT:=fun h26=>(∃ x27,IsW x27 (x7+1)/\I3 [vi x27] h26/\m4 [vi x27] h26<m4 vs5 h6);∃ b10 o11,Ix u0 b10 o11 x7 u1/\∃ x12 a13 n13 c13,Hp.row h6 b10 (o11+x7.toNat*2) 2=some [vi x12,vsl a13 n13 c13]/\((cond (cond (decide (x12<1)) true (decide (x12>5))) true (cond (decide (x12=1)) (decide ((n13:Int)>0)) false))=true->R (ifv (some (119,vi 3))) h6)/\((cond (cond (decide (x12<1)) true (decide (x12>5))) true (cond (decide (x12=1)) (decide ((n13:Int)>0)) false))=false->((decide (x12=1))=true->J25 h6)/\((decide (x12=1))=false->let J19:Int->Prop:=fun x20=>(Qa Pg 146 [vsl a13 n13 c13,vi x20] h6 fun v21 h22=>∃ e23,v21=ifv e23/\((Option.isSome e23)=true->R (ifv e23) h22)/\((Option.isSome e23)=false->J25 h22));((decide (x12=2))=true->J19 0)/\((decide (x12=2))=false->J19 1))))/\((decide (x7<(u1:Int)))=false->let J33:HpT:=fun h34=>(let J40:HpT:=fun h41=>(Qa Pg 147 [vag [vsl u0 u1 u2,vsl u3 u4 u5,vsl u6 u7 u8,vi u9,vi u10,vi u11,vi u12]] h41 fun v42 h43=>∃ e44,v42=ifv e44/\R (ifv e44) h43);((decide ((u7:Int)>0))=true->Qa Pg 146 [vsl u6 u7 u8,vi 0] h34 fun v35 h36=>∃ e37,v35=ifv e37/\((Option.isSome e37)=true->R (ifv e37) h36)/\((Option.isSome e37)=false->J40 h36))/\((decide ((u7:Int)>0))=false->J40 h34));((decide ((u4:Int)>0))=true->Qa Pg 146 [vsl u3 u4 u5,vi 2] h6 fun v28 h29=>∃ e30,v28=ifv e30/\((Option.isSome e30)=true->R (ifv e30) h29)/\((Option.isSome e30)=false->J33 h29))/\((decide ((u4:Int)>0))=false->J33 h6)))):Qa Pg 89 [vag [vsl u0 u1 u2,vsl u3 u4 u5,vsl u6 u7 u8,vi u9,vi u10,vi u11,vi u12]] h R:=callC ⟨[],[(4,([23],[.one (.int .i64)],[]))],[]⟩ Tryz.func89 [.ag [.v (vsl u0 u1 u2),.v (vsl u3 u4 u5),.v (vsl u6 u7 u8),.v (vi u9),.v (vi u10),.v (vi u11),.v (vi u12)]] H
theorem QiI {u0:Int}{u1:Int}{u2:Int}{u3:Int}{u4:Int}{u5:Int}{h:Hp}{R:RtT}(H:Qa Pg 180 [vi u0] h fun v1 h2=>∃ x3,v1=vi x3/\((decide (x3<0))=true->R (ifv (some (119,vi 3))) h2)/\((decide (x3<0))=false->∃ p5,((decide (u0≠1))=true->RdG .neq 54 (.tmp 15) (.tmp 16) (vag [vi u4,vi u5]) (vag [vi 0,vi 0]) h2 (vb p5))/\((cond (cond (cond (cond (decide (u0≠1)) p5 false) true (cond (decide (u0≠2)) (decide (u3≠0)) false)) true (cond (decide (x3<2)) (decide (u2≠0)) false)) true (cond (decide (x3<1)) (decide (u1≠0)) false))=true->R (ifv (some (119,vi 3))) h2)/\((cond (cond (cond (cond (decide (u0≠1)) p5 false) true (cond (decide (u0≠2)) (decide (u3≠0)) false)) true (cond (decide (x3<2)) (decide (u2≠0)) false)) true (cond (decide (x3<1)) (decide (u1≠0)) false))=false->((cond (decide (u0=2)) (cond (decide (u3<0)) true (decide (u3>3))) false)=true->R (ifv (some (119,vi 1))) h2)/\((cond (decide (u0=2)) (cond (decide (u3<0)) true (decide (u3>3))) false)=false->Qa Pg 159 [vag [vi u4,vi u5]] h2 fun v8 h9=>∃ e10,v8=ifv e10/\R (ifv e10) h9)))):Qa Pg 246 [vag [vi u0,vi u1,vi u2,vi u3,vi u4,vi u5]] h R:=callO Tryz.func246 [.ag [.v (vi u0),.v (vi u1),.v (vi u2),.v (vi u3),.v (vi u4),.v (vi u5)]] H
theorem Qfi {u0:OaT}{u1 u2:Nat}{h:Hp}{R:RtT}(H:((decide ((u1:Int)>40))=true->R (ifv (some (119,vi 2))) h)/\((decide ((u1:Int)>40))=false->∃(I3:LtT) (m4:LmT),I3 [vsl none 0 0,vi 0] h/\∀ vs5 h6,I3 vs5 h6->∃ a7 n7 c7 x8,vs5=[vsl a7 n7 c7,vi x8]/\((decide (x8<(u1:Int)))=true->∃ b11 o12,Ix u0 b11 o12 x8 u1/\∃ x13 x14 x15 x16 x17 x18,Hp.row h6 b11 (o12+x8.toNat*6) 6=some [vi x13,vi x14,vi x15,vi x16,vi x17,vi x18]/\Qa Pg 246 [vag [vi x13,vi x14,vi x15,vi x16,vi x17,vi x18]] h6 fun v19 h20=>∃ e21,v19=ifv e21/\((Option.isSome e21)=true->R (ifv e21) h20)/\((Option.isSome e21)=false->Qa Pg 180 [vi x13] h20 fun v23 h24=>∃ x25,v23=vi x25/\((decide (x25>(n7:Int)))=true->R (ifv (some (119,vi 3))) h24)/\((decide (x25>(n7:Int)))=false->∃ x27,IsW x27 ((n7:Int)-x25)/\∃ a28 n28 c28,Rd Pg (Instr.sliceAt 46 (vsl a7 n7 c7) (some (vi x27)) none none) h24 (vsl a28 n28 c28)/\∃ b29 o30,((decide (x25>0))=true->Ix a28 b29 o30 0 n28)/\∃ x31,((decide (x25>0))=true->Hp.cell h24 b29 (o30+(0:Int).toNat*1)=some (vi x31))/\∃ b32 o33,(((cond (decide (x25>0)) (decide (x31≠x14)) false)=false/\(decide (x25>1))=true)->Ix a28 b32 o33 1 n28)/\∃ x34,(((cond (decide (x25>0)) (decide (x31≠x14)) false)=false/\(decide (x25>1))=true)->Hp.cell h24 b32 (o33+(1:Int).toNat*1)=some (vi x34))/\((cond (cond (decide (x25>0)) (decide (x31≠x14)) false) true (cond (decide (x25>1)) (decide (x34≠x15)) false))=true->R (ifv (some (119,vi 3))) h24)/\((cond (cond (decide (x25>0)) (decide (x31≠x14)) false) true (cond (decide (x25>1)) (decide (x34≠x15)) false))=false->∃ x36,IsW x36 ((n7:Int)-x25)/\∃ a37 n37 c37,Rd Pg (Instr.sliceAt 46 (vsl a7 n7 c7) none (some (vi x36)) none) h24 (vsl a37 n37 c37)/\∀ b38,h24 b38=none->let h39:=Hp.set h24 b38 (Qb [vi x8] 3);Qh Pg (Builtin.append_ #[46,46] 46 #[vsl a37 n37 c37,(vsl (some (⟨b38,0,none⟩:Addr)) 1 1)]) h39 fun v40 h41=>∃ a42 n42 c42,v40=vsl a42 n42 c42/\∃ x44,IsW x44 (x8+1)/\I3 [vsl a42 n42 c42,vi x44] h41/\m4 [vsl a42 n42 c42,vi x44] h41<m4 vs5 h6))))/\((decide (x8<(u1:Int)))=false->((decide ((n7:Int)≠1))=true->R (ifv (some (119,vi 3))) h6)/\((decide ((n7:Int)≠1))=false->R (ifv none) h6)))):Qa Pg 203 [vsl u0 u1 u2] h R:=callC ⟨[],[(5,([3,15],[.one (.slice),.one (.int .i64)],[]))],[(14,[0,1,2,3,4,5,6,7,8,9,10,11,12,13,14,15,16,17,18,19,20,21])]⟩ Tryz.func203 [.one (.v (vsl u0 u1 u2))] H
theorem QdN {u0:Int}{u1:Int}{h:Hp}{R:RtT}(H:let J4:Bool->Prop:=fun p5=>((p5=true->R (ifv none) h)/\(p5=false->R (ifv (some (119,vi 3))) h));((cond (decide (u0=0)) (decide (u1=0)) false)=true->J4 (cond (decide (u0=0)) (decide (u1=0)) false))/\((cond (decide (u0=0)) (decide (u1=0)) false)=false->((cond (cond (decide (u0=1)) (decide (u1>=(-1000000000))) false) (decide (u1<=1000000000)) false)=true->J4 (cond (cond (decide (u0=1)) (decide (u1>=(-1000000000))) false) (decide (u1<=1000000000)) false))/\((cond (cond (decide (u0=1)) (decide (u1>=(-1000000000))) false) (decide (u1<=1000000000)) false)=false->J4 (cond (decide (u0=2)) (cond (decide (u1=0)) true (decide (u1=1))) false)))):Qa Pg 159 [vag [vi u0,vi u1]] h R:=callO Tryz.func159 [.ag [.v (vi u0),.v (vi u1)]] H
theorem VJ {v:Int × Int}{h:Hp}{R:RtT}(hK:R (ifv (QG (if Qo v then 0 else 3))) h):Qa Pg 159 [vag (Qq v)] h R:=by
 refine QdN ?_
 intro J4;have yes:Qo v->J4 true:=fun hg=>⟨fun _=>by rw [bH hg] at hK;exact hK,fun e=>by cases e⟩
 have no:¬ Qo v->J4 false:=fun hg=>⟨fun e=>(by cases e),fun _=>by rw [bE hg] at hK;exact hK⟩
 refine⟨fun e=>?_,fun e=>⟨fun e2=>?_,fun e2=>?_⟩⟩
 ·rw [e];exact yes (by unfold Qo;simp [bT] at e;omega)
 ·rw [e2];exact yes (by unfold Qo;simp [bT] at e2;omega)
 ·by_cases hg:Qo v
  ·have:(bif (decide (v.1=2)) then(bif (decide (v.2=0)) then true else(decide (v.2=1))) else false)=true:=by unfold Qo at hg;simp [bT] at e e2 ⊢;omega
   rw [this];exact yes hg
  ·have:(bif (decide (v.1=2)) then(bif (decide (v.2=0)) then true else(decide (v.2=1))) else false)=false:=by unfold Qo at hg;simp [bT];omega
   rw [this];exact no hg
theorem Qhr (v:Int × Int):(v=(0,0))=(v.1=0/\v.2=0):=propext ⟨fun h=>by rw [h];exact⟨rfl,rfl⟩,fun h=>Prod.ext h.1 h.2⟩
theorem Qih {n:Nd}{h:Hp}{R:RtT}(hK:R (ifv (QG (QX n))) h):Qa Pg 246 [vag (ZC n)] h R:=by
 refine QiI ?_
 unfold QX at hK;refine Q9 ⟨_,rfl,fun q=>?_,fun q=>⟨_,fun _=>QcT (a:=n.v) (b:=(0,0)),fun q2=>?_,fun q2=>⟨fun q3=>?_,fun q3=>VJ (v:=n.v) ⟨_,rfl,?_⟩⟩⟩⟩
 ·rw [bH (bC q)] at hK;exact hK
 all_goals
  have c1:=bB q;simp only [ZP,cor,QjH] at *
 ·have c2:=bC q2;rw [bE c1,bH (by simp only [ne_eq,Qhr] at c2 ⊢;omega)] at hK
  exact hK
 ·have c2:=bB q2;have c3:=bC q3;rw [bE c1,bE (by simp only [ne_eq,Qhr] at c2 ⊢;omega),bH c3] at hK
  exact hK
 ·have c2:=bB q2;have c3:=bB q3;rw [bE c1,bE (by simp only [ne_eq,Qhr] at c2 ⊢;omega),bE c3] at hK
  by_cases hg:Qo n.v
  ·rw [bE (by simp [hg])] at hK
   rw [bH hg];exact hK
  ·rw [bH hg] at hK;rw [bE hg];exact hK
theorem Qfw {a:OaT}{k c:Nat}{l:List Nd}{h:Hp}{R:RtT}(S:SlP ZC h a k l)(hK:∀ h',h.le h'->R (ifv (QG (YN l))) h'):Qa Pg 203 [vsl a k c] h R:=by
 refine Qfi ?_
 have hk:=S.1;subst hk;refine⟨fun e=>?_,fun e=>?_⟩
 ·have:YN l=2:=by unfold YN;rw [bH (by have:=bC e;omega)]
  rw [this] at hK;exact hK h (Hp.le_refl h)
 have h40:l.length<=40:=by have:=bB e;omega
 have e1:YN l=Ze [] 0 l:=by unfold YN;rw [bE (by omega)]
 rw [e1] at hK;refine⟨fun vs hh=>∃(i:Nat) (a:OaT) (c:Nat) (st:List Int),vs=[vsl a st.length c,vi i]/\i<=l.length/\st.length<=i/\Ze [] 0 l=Ze st i (l.drop i)/\Qg h hh 3 1 a st.length c (st.reverse.map vi),fun vs hh=>l.length-(Qm vs 1).toNat,
  ⟨0,none,0,[],rfl,cH _,cJ _,rfl,Qg.nil (Hp.le_refl h) _ _⟩,?_⟩
 rintro vs hh ⟨i,a1,c1,st,rfl,hi,hst,hc,O⟩;refine⟨_,_,_,_,rfl,fun q=>?_,fun q=>?_⟩
 ·have hlt:i<l.length:=by have:=bC q;omega
  have hx:l[i]?=some l[i]:=bD hlt
  rw [Qdw hlt] at hc;obtain⟨b,o,ha,hr⟩:=(S.le O.le).get QL (by decide) hx
  generalize l[i]=n at *
  refine⟨b,o,⟨ha,by omega,by omega⟩,_,_,_,_,_,_,hr,Qih (n:=n) ⟨_,rfl,fun q2=>?_,fun q2=>Q9 ⟨_,rfl,?_⟩⟩⟩
  ·rw [Zj] at q2;have hf:QX n≠0:=by simpa using q2
   rw [JN rfl hf] at hc;rw [hc] at hK;exact hK hh O.le
  rw [Zj] at q2;have hf:QX n=0:=by simpa using q2
  have har:0<=arI n.op:=Qap hf;have SI:SlI hh a1 st.length st.reverse:=by have:=O.sli;exact this
  have hbad:ZN n st=none->R (ifv (QG 3)) hh:=fun hp=>by
   rw [QiZ hf hp] at hc;rw [hc] at hK;exact hK hh O.le
  have hcap:=O.own.cap;have hgood:∀ s,ZN n st=some s->∀ x:Int,x=(st.length:Nat)-arI n.op->∀ K:RtT,(∀(a46:OaT) (n46 c46:Nat) (h45:Hp),Qg h h45 3 1 a46 n46 c46 ((((i:Int) :: s).reverse).map vi)->n46=s.length+1->K (vsl a46 n46 c46) h45) ->
    ∃(a38:OaT) (n38 c38:Nat),(Rd Pg (Instr.sliceAt 46 (vsl a1 st.length c1) none (some (vi x)) none) hh (vsl a38 n38 c38))/\(∀(b42:Nat),hh b42=none->Qh Pg (Builtin.append_ #[46,46] 46 #[(vsl a38 n38 c38),(vsl (some (⟨b42,0,none⟩:Addr)) 1 1)]) (Hp.set hh b42 (Qb [(vi i)] 3)) K):=by
   intro s hs x hx K hK;rw [hx];obtain⟨p1,p2⟩:=Ub har hs;rw [<-p1];refine⟨_,_,_,XK (e:=3) (by kernel_rfl) (by kernel_rfl) (by omega) (by omega),fun b42 hb42=>?_⟩
   rw [bG];have OC:Qg h hh 3 1 a1 s.length c1 (s.reverse.map vi):=by
    have:=O.cut (m:=s.length) (by omega)
    rw [f8,<-gK,p2] at this;exact this
   refine Qg.append KQ (Qg.set hb42 _ OC) (Qf.new _ _ [vi i] _) (m:=1) rfl (by simp [Value.oneCell']) (by omega) (by omega) fun a2 c2 h2 O2 _ _=>hK _ _ _ _ ?_ rfl
   rw [fO,cD];exact O2
  have hnext:∀ s,ZN n st=some s->∀(a46:OaT) (n46 c46:Nat) (h45:Hp),Qg h h45 3 1 a46 n46 c46 ((((i:Int) :: s).reverse).map vi)->n46=s.length+1->∃(x48:Int),IsW x48 ((i:Int)+1)/\(∃(i':Nat) (a:OaT) (c:Nat) (st:List Int),[vsl a46 n46 c46,vi x48]=[vsl a st.length c,vi i']/\i'<=l.length/\st.length<=i'/\Ze [] 0 l=Ze st i' (l.drop i')/\Qg h h45 3 1 a st.length c (st.reverse.map vi))/\l.length-(Qm [vsl a46 n46 c46,vi x48] 1).toNat<l.length-(Qm [vsl a1 st.length c1,vi i] 1).toNat:=by
   intro s hs a46 n46 c46 h45 O45 hn;subst hn;obtain⟨p1,p2⟩:=Ub har hs;refine⟨_,iW,⟨i+1,a46,c46,(i:Int) :: s,rfl,by omega,by simp;omega,?_,O45⟩,by simp [Qm];omega⟩
   rw [hc,Qix hf hs]
  refine⟨fun q3=>?_,fun q3=>?_⟩
  ·have hlt2:=bC q3;have:ZN n st=none:=by
    cases hp:ZN n st with
    | none=>rfl
    | some s=>have:=(Ub har hp).1;omega
   exact hbad this
  have hge:=bB q3;have hw:∀{K:Int->Prop},K ((st.length:Nat)-arI n.op)->∃ x,IsW x (((st.length:Nat):Int)-arI n.op)/\K x:=fun hk=>⟨_,iW,hk⟩
  refine hw ?_
  have hsz:szT Pg 3=1:=by kernel_rfl
  have rdl:=fun(x:Int) (h0:0<=x) (h1:x<=st.length)=>YC (P:=Pg) (h:=hh) (t:=46) (e:=3) (by kernel_rfl) (by kernel_rfl) (a:=a1) (n:=st.length) (c:=c1) h0 h1
  rw [hsz] at rdl;refine⟨_,_,_,rdl _ (by omega) (by omega),?_⟩
  have SD:=SI.drop (i:=((st.length:Nat)-arI n.op).toNat) (c:=c1) (by omega) hcap
  rcases QM har with h0|h0|h0
  ·have hs:ZN n st=some st:=by unfold ZN;rw [bH h0]
   rw [h0];refine⟨0,0,fun g=>(by cases g),0,fun g=>(by cases g),0,0,fun g=>(by cases g.2),0,fun g=>(by cases g.2),fun g=>?_,fun _=>⟨_,iW,hgood st hs _ (by rw [h0]) _ fun a46 n46 c46 h45 O e=>⟨_,_,_,rfl,hnext st hs a46 n46 c46 h45 O e⟩⟩⟩
   exfalso;simp only [ZP,cor] at g;have:=bC g;omega
  ·match st with
   | []=>exfalso;simp at hge;omega
   | z :: s=>
    have hx29:(((z :: s).length:Nat):Int)-arI n.op=(s.length:Nat):=by rw [h0];simp
    rw [hx29] at SD ⊢;rw [bG] at SD ⊢;have ed:((z :: s).reverse).drop s.length=[z]:=by rw [fO,pY (by simp)]
    rw [ed] at SD;obtain⟨q,p,hq,hcell⟩:=SD.get (i:=0) (by simp)
    rw [h0];by_cases hz:z=n.x
    ·have hs:ZN n (z :: s)=some s:=by unfold ZN;rw [bE (by omega),bH h0];simp [hz]
     refine⟨q,p,fun g=>⟨hq,by omega,by simp⟩,z,fun g=>hcell,0,0,fun g=>(by cases g.2),0,fun g=>(by cases g.2),fun g=>?_,fun _=>?_⟩
     ·exfalso;simp only [ZP,cor] at g;have:=bC g;omega
     ·exact⟨_,isW (by have:(z :: s).length<=i:=hst;unfold InR;omega),hgood s hs _ hx29.symm _ fun a46 n46 c46 h45 O e=>⟨_,_,_,rfl,hnext s hs a46 n46 c46 h45 O e⟩⟩
    ·have hs:ZN n (z :: s)=none:=by unfold ZN;rw [bE (by omega),bH h0];simp [hz]
     have:=hbad hs;refine⟨q,p,fun g=>⟨hq,by omega,by simp⟩,z,fun g=>hcell,0,0,fun g=>(by cases g.2),0,fun g=>(by cases g.2),fun _=>this,fun g=>?_⟩
     exfalso;simp only [ZP,cor] at g;have:=bB g;omega
  ·match st with
   | []=>exfalso;simp at hge;omega
   | [z]=>exfalso;simp at hge;omega
   | z :: y :: s=>
    have hx29:(((z :: y :: s).length:Nat):Int)-arI n.op=(s.length:Nat):=by rw [h0];simp;omega
    rw [hx29] at SD ⊢;rw [bG] at SD ⊢;have ed:((z :: y :: s).reverse).drop s.length=[y,z]:=by rw [fO,fO,cG,pY (by simp)];rfl
    rw [ed] at SD;have en:(z :: y :: s).length-s.length=2:=by simp;omega
    rw [en] at SD ⊢;obtain⟨q,p,hq,hcell⟩:=SD.get (i:=0) (by simp)
    obtain⟨q',p',hq',hcell'⟩:=SD.get (i:=1) (by simp)
    rw [h0];by_cases hz:y=n.x/\z=n.y
    ·have hs:ZN n (z :: y :: s)=some s:=by unfold ZN;rw [bE (by omega),bE (by omega)];simp [hz.1,hz.2]
     refine⟨q,p,fun g=>⟨hq,by omega,by decide⟩,y,fun g=>hcell,q',p',fun g=>⟨hq',by omega,by decide⟩,z,fun g=>hcell',fun g=>?_,fun _=>?_⟩
     ·exfalso;simp only [ZP,cor] at g;have:=bC g;omega
     ·exact⟨_,isW (by have:(z :: y :: s).length<=i:=hst;unfold InR;omega),hgood s hs _ hx29.symm _ fun a46 n46 c46 h45 O e=>⟨_,_,_,rfl,hnext s hs a46 n46 c46 h45 O e⟩⟩
    ·have hs:ZN n (z :: y :: s)=none:=by unfold ZN;rw [bE (by omega),bE (by omega)];simp;intro h1 h2;exact hz ⟨h1,h2⟩
     have:=hbad hs;refine⟨q,p,fun g=>⟨hq,by omega,by decide⟩,y,fun g=>hcell,q',p',fun g=>⟨hq',by omega,by decide⟩,z,fun g=>hcell',fun _=>this,fun g=>?_⟩
     exfalso;simp only [ZP,cor] at g;have:=bB g;omega
 ·have hge:i=l.length:=by have:=bB q;omega
  subst hge;rw [fQ (cJ _),Ze] at hc;refine⟨fun q2=>?_,fun q2=>?_⟩
  ·rw [bE (by have:=bC q2;omega)] at hc
   rw [hc] at hK;exact hK hh O.le
  ·rw [bH (by have:=bB q2;omega)] at hc
   rw [hc] at hK;exact hK hh O.le
open Go.Txt
def Nc:Int->Value->List Value:=fun k v=>[vi k,v]
theorem XX (k:Int)(v:Value):(Nc k v).length=2:=rfl
structure QAt (h:Hp)(q:Qy)(a1:OaT)(n1:Nat)(a2:OaT)(n2:Nat)(a3:OaT)(n3:Nat):Prop where
 g:Ky ZC Nc h a1 n1 q.aggs
 w:SlP ZC h a2 n2 q.wh
 b:SlP ZC h a3 n3 q.by_
theorem QAt.le {h h':Hp}{q:Qy}{a1 a2 a3:OaT}{n1 n2 n3:Nat}(Q:QAt h q a1 n1 a2 n2 a3 n3)(l:h.le h'):QAt h' q a1 n1 a2 n2 a3 n3:=⟨Q.g.le l,Q.w.le l,Q.b.le l⟩
abbrev qV (a1:OaT)(n1 c1:Nat)(a2:OaT)(n2 c2:Nat)(a3:OaT)(n3 c3:Nat)(q:Qy):Value:=vag [vsl a1 n1 c1,vsl a2 n2 c2,vsl a3 n3 c3,vi q.size,vi q.slide,vi q.delay,vi q.late]
structure Qmy (q:Qy):Prop where
 w:q.wh.length<=1000000
 b:q.by_.length<=1000000
 g:∀ a ∈ q.aggs,a.2.length<=1000000
 n:q.aggs.length<=1000000
theorem Ja {a:OaT}{k c:Nat}{l:List Nd}{kind:Int}{h:Hp}{R:RtT}(S:SlP ZC h a k l)(hl:l.length<=1000000)(hK:∀ h',h.le h'->R (ifv (QG (Zs l kind))) h'):Qa Pg 146 [vsl a k c,vi kind] h R:=by
 refine Qd5 ?_
 unfold Zs at hK;refine Qfw S fun h2 l2=>⟨_,rfl,fun e=>?_,fun e=>?_⟩
 ·rw [Zj] at e;have e2:YN l≠0:=by simpa using e
  rw [bH e2] at hK;exact hK h2 l2
 ·rw [Zj] at e;have e2:YN l=0:=by simpa using e
  rw [bE (fun h=>h e2)] at hK
  refine UJ (S.le l2) (Yb e2).1 hl fun h6 l6=>⟨_,_,rfl,?_⟩
  have hc:(bif (bif (bif (Option.isNone (QG (Zn l).2)) then(decide ((kind:Int)≠0)) else false) then(decide (((Zn l).1:Int)≠kind)) else false) then(decide (((Zn l).1:Int)≠0)) else false)=decide ((((Zn l).2=0/\kind≠0)/\(Zn l).1≠kind)/\(Zn l).1≠0):=by rw [Md,ZP,ZP,ZP]
  rw [hc];intro J11;refine⟨fun q=>?_,fun q=>?_⟩
  ·have q:=bC q;rw [bE (fun h=>h q.1.1.1),bH ⟨q.1.1.2,q.1.2,q.2⟩] at hK
   exact hK h6 (Hp.le_trans l2 l6)
  ·have q:=bB q;have:=hK h6 (Hp.le_trans l2 l6);by_cases h5:(Zn l).2≠0
   ·rw [bH h5] at this;exact this
   ·have h5:(Zn l).2=0:=fS.1 h5;rw [bE (fun h=>h h5),bE (fun h=>q ⟨⟨⟨h5,h.1⟩,h.2.1⟩,h.2.2⟩)] at this
    show R (ifv (QG (Zn l).2)) h6;rw [h5];exact this
theorem Qgw (h:Hp)(b:Nat)(x y:Int)(T:TypeId){i:Nat}(hi:i<2):(h.set b (Qb [vi x,vi y] T)).cell b (0+(i:Int).toNat*1)=some (vi (if i=0 then x else y)):=by
 match i,hi with
 | 0,_=>exact Qc (Hp.set_same _ _ _) rfl
 | 1,_=>exact Qc (Hp.set_same _ _ _) rfl
theorem Um {q:Qy}{a1:OaT}{n1 c1:Nat}{a2:OaT}{n2 c2:Nat}{a3:OaT}{n3 c3:Nat}{h:Hp}{R:RtT}(hK:∀ h',h.le h'->R (ifv (QG (Ww q))) h'):Qa Pg 147 [qV a1 n1 c1 a2 n2 c2 a3 n3 c3 q] h R:=by
 refine Qbp ?_
 intro b1 hb1 h2;have l2:h.le h2:=Hp.le_set (Hp.le_refl h) hb1 _;refine⟨fun vs' hh=>hh=h2/\∃ i:Nat,vs'=[vi i]/\i<=2/\(1<=i->1<=q.size/\q.size<=1000)/\(2<=i->1<=q.slide/\q.slide<=1000),fun vs' hh=>2-(Qm vs' 0).toNat,⟨rfl,0,rfl,by omega,by omega,by omega⟩,?_⟩
 rintro vs' hh ⟨rfl,i,rfl,hi,i1,i2⟩;refine⟨i,rfl,fun e=>?_,fun e=>?_⟩
 ·have hlt:i<2:=by have:=bC e;omega
  refine⟨b1,0,⟨rfl,by omega,by omega⟩,_,Qgw h b1 q.size q.slide 3 hlt,?_⟩
  rw [cor];refine⟨fun g=>?_,fun g=>?_⟩
  ·have g:=bC g;have e1:Ww q=1:=by unfold Ww;rw [bH];split at g<;>omega
   rw [e1] at hK;exact hK _ l2
  ·have g:=bB g;refine⟨_,iW,⟨rfl,i+1,rfl,by omega,fun h=>?_,fun h=>?_⟩,by simp [Qm];omega⟩
   ·by_cases h0:i=0
    ·rw [bH h0] at g;omega
    ·exact i1 (by omega)
   ·have h0:¬ i=0:=by omega
    rw [bE h0] at g;omega
 ·have hge:i=2:=by have:=bB e;omega
  subst hge;have j1:=i1 (by omega)
  have j2:=i2 (by omega)
  intro b16 hb16 h17;have l17:h.le h17:=Hp.le_set l2 hb16 _;refine⟨fun vs' hh=>hh=h17/\∃ i:Nat,vs'=[vi i]/\i<=2/\(1<=i->0<=q.delay/\q.delay<=1000)/\(2<=i->0<=q.late/\q.late<=1000),fun vs' hh=>2-(Qm vs' 0).toNat,⟨rfl,0,rfl,by omega,by omega,by omega⟩,?_⟩
  rintro vs' hh ⟨rfl,i,rfl,hi,i1,i2⟩;refine⟨i,rfl,fun e=>?_,fun e=>?_⟩
  ·have hlt:i<2:=by have:=bC e;omega
   refine⟨b16,0,⟨rfl,by omega,by omega⟩,_,Qgw h2 b16 q.delay q.late 3 hlt,?_⟩
   rw [cor];refine⟨fun g=>?_,fun g=>?_⟩
   ·have g:=bC g;have e1:Ww q=1:=by unfold Ww;rw [bH];split at g<;>omega
    rw [e1] at hK;exact hK _ l17
   ·have g:=bB g;refine⟨_,iW,⟨rfl,i+1,rfl,by omega,fun h=>?_,fun h=>?_⟩,by simp [Qm];omega⟩
    ·by_cases h0:i=0
     ·rw [bH h0] at g;omega
     ·exact i1 (by omega)
    ·have h0:¬ i=0:=by omega
     rw [bE h0] at g;omega
  ·have hge:i=2:=by have:=bB e;omega
   subst hge;have j3:=i1 (by omega)
   have j4:=i2 (by omega)
   refine⟨4*q.slide,fun _=>iW,?_⟩
   rw [cor];have hn:Ww q=if q.slide>q.size\/q.size>4*q.slide then 3 else 0:=by
    unfold Ww;rw [bE (by omega)]
   rw [hn] at hK;refine⟨fun g=>?_,fun g=>?_⟩
   ·rw [bH (bC g)] at hK;exact hK _ l17
   ·rw [bE (bB g)] at hK;exact hK _ l17
theorem Qi6 {α:Type}{l:List α}{g:α->Int}{i:Nat}(hi:i<l.length)(h:∀ y ∈ l.take i,g y=0)(h2:g l[i]=0):∀ y ∈ l.take (i+1),g y=0:=by
 intro y hy;rw [bJ hi] at hy;rcases cP.1 hy with h3|h3
 ·exact h y h3
 ·rw [cB.1 h3];exact h2
theorem Wh {α:Type}{l:List α}:l=[]↔l.length=0:=fX.symm
theorem Qe3 {q:Qy}{a1:OaT}{n1 c1:Nat}{a2:OaT}{n2 c2:Nat}{a3:OaT}{n3 c3:Nat}{h:Hp}{R:RtT}(Q:QAt h q a1 n1 a2 n2 a3 n3)(B:Qmy q)(hK:∀ h',h.le h'->R (ifv (QG (UD q))) h'):Qa Pg 89 [qV a1 n1 c1 a2 n2 c2 a3 n3 c3 q] h R:=by
 refine Gr ?_
 have hn1:=Q.g.len;have hn2:=Q.w.1;have hn3:=Q.b.1;have hB:=B.n;rw [cor];refine⟨fun e=>?_,fun e=>?_⟩
 ·have e:=bC e;have:UD q=2:=by unfold UD;rw [bH (by omega)]
  rw [this] at hK;exact hK h (Hp.le_refl h)
 have e:=bB e;have hq:UD q=if Q5 (q.aggs.map Xw)≠0 then Q5 (q.aggs.map Xw) else Qf3 q:=by unfold UD;rw [bE (by omega)]
 rw [hq] at hK;clear hq;refine⟨fun vs' hh=>h.le hh/\∃ i:Nat,vs'=[vi i]/\i<=n1/\∀ y ∈ q.aggs.take i,Xw y=0,fun vs' hh=>n1-(Qm vs' 0).toNat,⟨Hp.le_refl h,0,rfl,cH _,by simp⟩,?_⟩
 rintro vs' hh ⟨lh,i,rfl,hi,hz⟩;refine⟨i,rfl,fun g=>?_,fun g=>?_⟩
 ·have hlt:i<n1:=by have:=bC g;omega
  have hlt2:i<q.aggs.length:=by omega
  have hx:q.aggs[i]?=some q.aggs[i]:=bD hlt2
  have hbig:=B.g _ (bZ hx);have hall:=@Qi6 _ q.aggs Xw i hlt2 hz;generalize q.aggs[i]=y at hx hbig hall;obtain⟨k,l⟩:=y;obtain⟨b,o,a',c',ha,hrow,hS⟩:=(Q.g.le lh).row XX (by decide) hx
  have bad:∀ f,f≠0->Xw (k,l)=f->∀ h',h.le h'->R (ifv (QG f)) h':=by
   intro f hf hk h' l';have h1:=Qgf (g:=Xw) hz hx (by rw [hk];exact hf)
   rw [h1,hk,bH hf] at hK;exact hK h' l'
  intro J25;refine⟨b,o,⟨ha,by omega,by omega⟩,k,a',l.length,c',by rw [bG];exact hrow,?_⟩
  have good:Xw (k,l)=0->∀ h',h.le h'->J25 h':=fun hk h' l'=>⟨_,iW,⟨l',i+1,rfl,by omega,hall hk⟩,by simp [Qm];omega⟩
  clear_value J25;rw [cor,ZP,cor];have hnil:l≠[]↔(l.length:Int)>0:=by rw [ne_eq,Wh];omega
  refine⟨fun g2=>?_,fun g2=>⟨fun g3=>?_,fun g3=>?_⟩⟩
  ·have g2:=bC g2;refine bad 3 (by decide) ?_ hh lh
   unfold Xw;rw [bH (by simp only [hnil];omega)]
  ·have g2:=bB g2;have g3:=bC g3;refine good ?_ hh lh
   unfold Xw;rw [bE (by simp only [hnil];omega),bH g3]
  ·have g2:=bB g2;have g3:=bB g3;have hf:Xw (k,l)=Zs l (if k=2 then 0 else 1):=by unfold Xw;rw [bE (by simp only [hnil];omega),bE g3]
   intro J19;have hJ:J19 (if k=2 then 0 else 1):=by
    refine Ja hS hbig fun h' l'=>⟨_,rfl,fun g4=>?_,fun g4=>?_⟩
    ·rw [Zj] at g4;exact bad _ (by simpa using g4) hf h' (Hp.le_trans lh l')
    ·rw [Zj] at g4;exact good (by rw [hf];simpa using g4) h' (Hp.le_trans lh l')
   clear_value J19;refine⟨fun g4=>?_,fun g4=>?_⟩
   ·rw [bH (bC g4)] at hJ;exact hJ
   ·rw [bE (bB g4)] at hJ;exact hJ
 ·have hge:i=n1:=by have:=bB g;omega
  have hz0:Q5 (q.aggs.map Xw)=0:=Jo (by
   intro x hx;obtain⟨y,hy,rfl⟩:=dI.1 hx;exact hz y (by rw [cQ (by omega)];exact hy))
  rw [hz0,bE (fun h=>h rfl)] at hK
  unfold Qf3 at hK;have Q:=Q.le lh;intro J33;have hJ33:∀ h',hh.le h'->(if q.wh=[] then 0 else Zs q.wh 2)=0->J33 h':=by
   intro h' l' hw;rw [hw,Q5,bE (fun h=>h rfl)] at hK
   unfold J33;intro J40;have hJ40:∀ h2,h'.le h2->(if q.by_=[] then 0 else Zs q.by_ 0)=0->J40 h2:=by
    intro h2 l2 hb;rw [hb,Q5,bE (fun h=>h rfl)] at hK
    refine Um (q:=q) fun h3 l3=>⟨_,rfl,?_⟩
    have:=hK h3 (Hp.le_trans lh (Hp.le_trans l' (Hp.le_trans l2 l3)));rw [Q5,Q5] at this;by_cases hn:Ww q≠0
    ·rw [bH hn] at this;exact this
    ·rw [bE hn] at this;rw [fS.1 hn];exact this
   clear_value J40;refine⟨fun g2=>?_,fun g2=>?_⟩
   ·have hne:¬ q.by_=[]:=by have:=bC g2;rw [Wh];omega
    rw [bE hne] at hJ40 hK;refine Ja (Q.le l').b B.b fun h2 l2=>⟨_,rfl,fun g4=>?_,fun g4=>?_⟩
    ·rw [Zj] at g4;rw [Q5,bH (by simpa using g4)] at hK
     exact hK h2 (Hp.le_trans lh (Hp.le_trans l' l2))
    ·rw [Zj] at g4;exact hJ40 h2 l2 (by simpa using g4)
   ·have hnil:q.by_=[]:=by have:=bB g2;rw [Wh];omega
    exact hJ40 h' (Hp.le_refl h') (bH hnil)
  clear_value J33;refine⟨fun g2=>?_,fun g2=>?_⟩
  ·have hne:¬ q.wh=[]:=by have:=bC g2;rw [Wh];omega
   rw [bE hne] at hJ33 hK;refine Ja Q.w B.w fun h2 l2=>⟨_,rfl,fun g4=>?_,fun g4=>?_⟩
   ·rw [Zj] at g4;rw [Q5,bH (by simpa using g4)] at hK
    exact hK h2 (Hp.le_trans lh l2)
   ·rw [Zj] at g4;exact hJ33 h2 l2 (by simpa using g4)
  ·have hnil:q.wh=[]:=by have:=bB g2;rw [Wh];omega
   exact hJ33 hh (Hp.le_refl hh) (bH hnil)
end Go.Proofs.YthicpjafcpfjoaaGreatDoor
namespace Go.Vc
open Go
section
variable {α:Type}
def ftE (fs:List (α × (Nat->Prop))):NpT:=fun b=>∃ x ∈ fs,x.2 b
def QqM (fs:List (α × (Nat->Prop))):Prop:=fs.Pairwise fun x y=>∀ b,x.2 b->¬ y.2 b
def Zh (P:α->Hp->(Nat->Prop)->Prop)(l:List α)(h:Hp)(F:NpT):Prop:=
 ∃ fs:List (α × (Nat->Prop)),fs.map Prod.fst=l/\F=ftE fs/\QqM fs/\∀ x ∈ fs,P x.1 h x.2
variable {P:α->Hp->(Nat->Prop)->Prop}
theorem Zh.fp (fp:∀ x,Fp (P x))(l:List α):Fp (Zh P l) where
 al:=by
  rintro h F ⟨fs,_,rfl,_,H⟩ b ⟨x,hx,hb⟩;exact(fp x.1).al (H x hx) b hb
 keep:=by
  rintro h h' F ⟨fs,e,rfl,A,H⟩ hk;exact⟨fs,e,rfl,A,fun x hx=>(fp x.1).keep (H x hx) fun b hb=>hk b ⟨x,hx,hb⟩⟩
theorem Zh.nil (h:Hp):Zh P [] h (fun _=>False):=⟨[],rfl,by funext b;simp [ftE],List.Pairwise.nil,fun x hx=>by cases hx⟩
theorem Zh.perm {l l':List α}{h:Hp}{F:NpT}(E:Zh P l h F)(p:l'.Perm l):Zh P l' h F:=by
 obtain⟨fs,rfl,rfl,A,H⟩:=E;have key:∀{m m':List α},m.Perm m'->∀ gs:List (α × (Nat->Prop)),gs.map Prod.fst=m'->∃ gs':List (α × (Nat->Prop)),gs'.map Prod.fst=m/\gs'.Perm gs:=by
  intro m m' q;induction q with
  | nil=>intro gs e;exact⟨gs,e,List.Perm.refl _⟩
  | cons x q ih=>
   intro gs e;match gs,e with
   | g :: gs,e=>
    simp only [dE,jK] at e;obtain⟨gs',e2,p2⟩:=ih gs e.2;exact⟨g :: gs',by rw [dE,e2,e.1],p2.cons g⟩
  | swap x y q=>
   intro gs e;match gs,e with
   | g1 :: g2 :: gs,e=>
    simp only [dE,jK] at e;exact⟨g2 :: g1 :: gs,by simp [e],List.Perm.swap _ _ _⟩
  | trans q1 q2 ih1 ih2=>
   intro gs e;obtain⟨g1,e1,p1⟩:=ih2 gs e;obtain⟨g2,e2,p2⟩:=ih1 g1 e1;exact⟨g2,e2,p2.trans p1⟩
 obtain⟨gs,e,q⟩:=key p fs rfl;refine⟨gs,e,?_,?_,fun x hx=>H x (q.mem_iff.1 hx)⟩
 ·funext b
  apply propext;constructor
  ·rintro⟨x,hx,hb⟩;exact⟨x,q.mem_iff.2 hx,hb⟩
  ·rintro⟨x,hx,hb⟩;exact⟨x,q.mem_iff.1 hx,hb⟩
 ·exact(q.pairwise_iff (fun {x y} hxy b hb hb2=>hxy b hb2 hb)).2 A
theorem Zh.cons {l:List α}{x:α}{h:Hp}{F G:NpT}(E:Zh P l h F)(X:P x h G)(d:∀ b,G b->¬ F b):Zh P (x :: l) h (fun b=>G b\/F b):=by
 obtain⟨fs,rfl,rfl,A,H⟩:=E;refine⟨(x,G) :: fs,rfl,?_,fD.2 ⟨fun y hy b hb hb2=>d b hb ⟨y,hy,hb2⟩,A⟩,?_⟩
 ·funext b
  apply propext;constructor
  ·rintro(hb|⟨y,hy,hb⟩)
   ·exact⟨_,bS ..,hb⟩
   ·exact⟨y,bY _ hy,hb⟩
  ·rintro⟨y,hy,hb⟩;rcases bX.1 hy with rfl|hy
   ·exact .inl hb
   ·exact .inr ⟨y,hy,hb⟩
 ·intro y hy;rcases bX.1 hy with rfl|hy
  ·exact X
  ·exact H y hy
theorem Zh.snoc {l:List α}{x:α}{h:Hp}{F G:NpT}(E:Zh P l h F)(X:P x h G)(d:∀ b,G b->¬ F b):Zh P (l++[x]) h (fun b=>G b\/F b):=(E.cons X d).perm (List.perm_append_comm (l₁:=l) (l₂:=[x]))
theorem Zh.uncons {l:List α}{x:α}{h:Hp}{F:NpT}(E:Zh P (x :: l) h F):∃ G F',P x h G/\Zh P l h F'/\(∀ b,G b->¬ F' b)/\∀ b,F b↔(G b\/F' b):=by
 obtain⟨fs,e,rfl,A,H⟩:=E;match fs,e with
 | (y,G) :: fs,e=>
  simp only [dE,jK] at e;obtain⟨rfl,rfl⟩:=e;obtain⟨A1,A2⟩:=fD.1 A;refine⟨G,ftE fs,H _ (bS ..),⟨fs,rfl,rfl,A2,fun z hz=>H z (bY _ hz)⟩,?_,?_⟩
  ·rintro b hb ⟨z,hz,hb2⟩;exact A1 z hz b hb hb2
  ·intro b;constructor
   ·rintro⟨z,hz,hb⟩;rcases bX.1 hz with rfl|hz
    ·exact .inl hb
    ·exact .inr ⟨z,hz,hb⟩
   ·rintro(hb|⟨z,hz,hb⟩)
    ·exact⟨_,bS ..,hb⟩
    ·exact⟨z,bY _ hz,hb⟩
theorem QdG {l:List α}{i:Nat}(hi:i<l.length):(l[i] :: l.eraseIdx i).Perm l:=by
 rw [List.eraseIdx_eq_take_drop_succ];have e:l=l.take i++l[i] :: l.drop (i+1):=by rw [<-dM,dV]
 have p:=(List.perm_middle (a:=l[i]) (l₁:=l.take i) (l₂:=l.drop (i+1)));rw [<-e] at p;exact p.symm
theorem Zh.at (fp:∀ x,Fp (P x)){l:List α}{h:Hp}{F:NpT}(E:Zh P l h F){i:Nat}{x:α}(hx:l[i]?=some x):∃ G,P x h G/\(∀ b,G b->F b) /\
  ∀(h':Hp) (G':NpT) (x':α),Mut G h G' h'->P x' h' G'->∃ F',Zh P (l.set i x') h' F'/\Mut F h F' h':=by
 obtain⟨hi,rfl⟩:=bI.1 hx
 have p:(l[i] :: l.eraseIdx i).Perm l:=QdG hi;obtain⟨G,F1,X,E1,d,hF⟩:=(E.perm p).uncons;refine⟨G,X,fun b hb=>(hF b).2 (.inl hb),fun h' G' x' M X'=>?_⟩
 obtain⟨k,d'⟩:=M.apart ((Zh.fp fp _).al E1) d;have E2:=((Zh.fp fp _).keep E1 k).cons X' d';have p2:(l.set i x').Perm (x' :: l.eraseIdx i):=by
  have hi2:i<(l.set i x').length:=by rw [dG];exact hi
  have:=QdG hi2;rw [j0,List.eraseIdx_set_eq] at this;exact this.symm
 refine⟨_,E2.perm p2,⟨fun b o hb ho=>M.keep b o (fun q=>hb ((hF b).2 (.inl q))) ho,fun b hb=>?_⟩⟩
 rcases hb with hb|hb
 ·rcases M.new b hb with q|q
  ·exact .inl ((hF b).2 (.inl q))
  ·exact .inr q
 ·exact .inl ((hF b).2 (.inr hb))
end
def Uz (e:TypeId)(sz:Nat)(a:OaT)(n c:Nat)(xs:List Value)(h:Hp)(F:NpT):Prop:=Qw h e sz a n c xs/\F=fun b=>a=some ⟨b,0,none⟩
theorem Uz.fp (e:TypeId)(sz:Nat)(a:OaT)(n c:Nat)(xs:List Value):Fp (Uz e sz a n c xs) where
 al:=by
  rintro h F ⟨⟨_,O⟩,rfl⟩ b hb;rcases O with ⟨ha,_⟩|⟨g,cur,ha,hg,_⟩
  ·rw [ha] at hb;cases hb
  ·rw [ha] at hb;cases hb;rw [hg];simp
 keep:=by
  rintro h h' F ⟨⟨h1,O⟩,rfl⟩ hk;refine⟨⟨h1,?_⟩,rfl⟩
  rcases O with O|⟨g,cur,ha,hg,O⟩
  ·exact .inl O
  ·exact .inr ⟨g,cur,ha,hk g ha _ hg,O⟩
structure QqB (a:OaT)(h h':Hp):Prop where
 keep:∀ b o,h b=some o->a≠some ⟨b,0,none⟩->h' b=some o
section
variable {α:Type}{enc:α->List Value}{sz:Nat}{T:TypeId}{h0 h:Hp}{a:OaT}{c:Nat}{l:List α}
theorem Vec.putF (he:∀ x,(enc x).length=sz)(V:Vec enc sz T h0 h a c l){i:Nat}{x x':α}(hx:l[i]?=some x){k:Nat}{vs:List Value}(hv:0<vs.length)(hk:k+vs.length<=sz)(hx':enc x'=QJ (enc x) k vs) :
  ∃ b o,a=some ⟨b,o,none⟩/\∀ K:HpT,(∀ h',Vec enc sz T h0 h' a c (l.set i x')->QqB a h h'->K h')->h.store b (o+i*sz+k) vs K:=by
 have hi:i<l.length:=(bI.1 hx).1
 have hb:(i+1)*sz<=l.length*sz:=fE _ hi;rw [jV] at hb;rcases V.own.2 with ⟨ha,hn,_⟩|⟨g,cur,ha,_⟩
 ·omega
 ·refine⟨g,0,ha,fun K hK=>?_⟩
  rw [mY];refine Qg.store V (j:=i*sz+k) hv (by omega) ha fun ob V'=>hK _ ?_ ⟨fun b o ho hn=>?_⟩
  ·unfold Vec;rw [<-Qbn he hk l i x x' hx hx',dG];exact V'
  ·have e:b≠g:=fun q=>hn (by rw [ha,q])
   rw [Hp.set_other _ _ e];exact ho
variable {P:Program}
theorem Vec.ownF (V:Vec enc sz T h0 h a c l):Uz T sz a l.length c (l.flatMap enc) h (fun b=>a=some ⟨b,0,none⟩):=⟨V.own,rfl⟩
end
end Go.Vc
namespace Go.Proofs.YthicpjafcpfjoaaGreatDoor
open Go Go.Vc
theorem YI {u0:OaT}{u1 u2:Nat}{u3:Value}{h:Hp}{R:RtT}(H:∃(I2:LtT) (m3:LmT),I2 [vi 0] h/\∀ vs4 h5,I2 vs4 h5->∃ x6,vs4=[vi x6]/\((decide (x6<(u1:Int)))=true->∃ b9 o10,Ix u0 b9 o10 x6 u1/\∃ x11 x12 x13 a14 n14 c14 p15,Hp.row h5 b9 (o10+x6.toNat*5) 5=some [vi x11,vi x12,vi x13,vsl a14 n14 c14,vb p15]/\Xl Pg u3 [vag [vi x11,vi x12,vi x13,vsl a14 n14 c14,vb p15]] h5 fun v16 h17=>∃ p18,v16=vb p18/\(p18=true->R (vi x6) h17)/\(p18=false->∃ x20,IsW x20 (x6+1)/\I2 [vi x20] h17/\m3 [vi x20] h17<m3 vs4 h5))/\((decide (x6<(u1:Int)))=false->R (vi (-1)) h5)):Qa Pg 74 [vsl u0 u1 u2,u3] h R:=callC ⟨[],[(2,([8],[.one (.int .i64)],[]))],[]⟩ Tryz.func74 [.one (.v (vsl u0 u1 u2)),.one (.v u3)] H
theorem QaY {u0:Int}{u1:Int}{u2:Int}{u3:OaT}{u4 u5:Nat}{u6:Bool}{h:Hp}{R:RtT}(H:let J30:Int->Int->Int->OaT->Nat->Nat->Hp->Prop:=fun x41 x42 x43 a44 n44 c44 h45=>R (vag [vi x41,vi x42,vi x43,vsl a44 n44 c44]) h45;∃(I2:LtT) (m3:LmT),I2 [vi 0,vi u0,vi u1,vi u2,vsl none 0 0] h/\∀ vs4 h5,I2 vs4 h5->∃ x6 x7 x8 x9 a10 n10 c10,vs4=[vi x6,vi x7,vi x8,vi x9,vsl a10 n10 c10]/\((decide (x6<(u4:Int)))=true->∃ b13 o14,Ix u3 b13 o14 x6 u4/\∃ x15 x16 x17 x18,Hp.row h5 b13 (o14+x6.toNat*4) 4=some [vi x15,vi x16,vi x17,vi x18]/\Qa Pg 137 [vag [vi x15,vi x16,vi x17,vi x18]] h5 fun v19 h20=>∃ x21 x22,v19=vag [vi x21,vi x22]/\∀ b23,h20 b23=none->let h24:=Hp.set h20 b23 (Qb [vi x21,vi x22] 54);Qh Pg (Builtin.append_ #[91,91] 91 #[vsl a10 n10 c10,(vsl (some (⟨b23,0,none⟩:Addr)) 1 1)]) h24 fun v25 h26=>∃ a27 n27 c27,v25=vsl a27 n27 c27/\∃ x29,IsW x29 (x6+1)/\I2 [vi x29,vi x7,vi x8,vi x9,vsl a27 n27 c27] h26/\m3 [vi x29,vi x7,vi x8,vi x9,vsl a27 n27 c27] h26<m3 vs4 h5)/\((decide (x6<(u4:Int)))=false->J30 x7 x8 x9 a10 n10 c10 h5)):Qa Pg 81 [vag [vi u0,vi u1,vi u2,vsl u3 u4 u5,vb u6]] h R:=callC ⟨[],[(3,([14],[.one (.int .i64)],[(2,[.int .i64,.int .i64,.int .i64,.slice])]))],[(5,[0,1,2,3,4,5,6,7])]⟩ Tryz.func81 [.ag [.v (vi u0),.v (vi u1),.v (vi u2),.v (vsl u3 u4 u5),.v (vb u6)]] H
structure YM (e:EvL):Prop where
 t:0<=e.1/\e.1<=9999
 k:Qo e.2.1/\e.2.1.1≠2
 a:Qo e.2.2.1/\e.2.2.1.1≠2
 b:Qo e.2.2.2/\e.2.2.2.1≠2
theorem Qhm {v:Int × Int}(h:Qcz v=0):Qo v/\v.1≠2:=by
 unfold Qcz at h;split at h
 ·cases h
 ·rename_i h1;constructor
  ·exact mQ fun q=>h1 (.inl q)
  ·exact fun q=>h1 (.inr q)
theorem QcX {e:EvL}(h:QcD e=0):YM e:=by
 unfold QcD at h;split at h
 ·cases h
 ·rename_i h0;simp only [QjX] at h;split at h
  ·rename_i h1;split at h
   ·rename_i h2;split at h
    ·rename_i h3;exact⟨by omega,Qhm h1,Qhm h2,Qhm h3⟩
    ·rename_i h3;exact absurd h h3
   ·rename_i h2;exact absurd h h2
  ·rename_i h1;exact absurd h h1
abbrev ev0:EvL:=(0,(0,0),(0,0),(0,0))
theorem QoX:YM ev0:=QcX (by decide +kernel)
theorem Ke (n:Int):Qo (Xa n)/\(Xa n).1≠2:=by
 unfold Xa Qo;split
 ·simp
 ·simp;omega
theorem UH (b:Bool):Qo (Zf b):=by
 unfold Zf Qo;cases b<;>simp
theorem Uh:Qo (0,0):=by unfold Qo;simp
theorem Qi5 (a b:Int × Int):Qo (Qad a b)/\(Qad a b).1≠1:=by
 unfold Qad Qo;split
 ·simp
 ·split<;>simp
theorem Qai (a:Int × Int):Qo (JB a)/\(JB a).1≠1:=by
 unfold JB;split
 ·exact⟨UH _,by unfold Zf;simp⟩
 ·exact⟨Uh,by simp⟩
theorem QiD (a:Int × Int):Qo (Qar a)/\(Qar a).1≠2:=by
 unfold Qar;split
 ·exact Ke _
 ·exact⟨Uh,by simp⟩
def opV (op:Int)(a b:Int × Int):Int × Int:=if op=3 then Qar a else if op=4 then JB a else if op=5 then Zf (decide (a.1=0)) else doV op a b
def Qfy (op:Int):Int:=if op=5\/op=11\/op=12 then 2 else Wy op
theorem Mc {op:Int}{a b:Option Int}{t:Int}(h:tyG op a b=some t):t=Qfy op:=by
 unfold Qfy;cases a with
 | none=>cases b<;>cases h
 | some a=>
  cases b with
  | none=>cases h
  | some b=>
   unfold tyG at h;simp only at h;split at h
   ·rename_i h1;rw [bH (.inl h1)];simpa using h.symm
   ·split at h
    ·cases h
    ·split at h
     ·rename_i h1 _ h2;rw [bH (.inr h2)];simpa using h.symm
     ·rename_i h1 _ h2;rw [bE (by omega)];simpa using h.symm
theorem Qdz {op:Int}(ho:3<=op/\op<=12)(a b:Int × Int):Qo (opV op a b)/\((opV op a b).1=0\/(opV op a b).1=Qfy op):=by
 have key:∀ v:Int × Int,Qo v->v.1=0\/v.1=1\/v.1=2:=by intro v h;unfold Qo at h;omega
 unfold opV Qfy Wy;split
 ·rename_i h;have:=QiD a;have:=key _ this.1;exact⟨(QiD a).1,by subst h;simp;omega⟩
 ·split
  ·rename_i _ h;have:=Qai a;have:=key _ this.1;exact⟨(Qai a).1,by subst h;simp;omega⟩
  ·split
   ·rename_i _ _ h;exact⟨UH _,by subst h;simp [Zf]⟩
   ·unfold doV;split
    ·rename_i h;have:=Qi5 a b;have:=key _ this.1;exact⟨(Qi5 a b).1,by subst h;simp;omega⟩
    ·split
     ·rename_i h;have:=Qai (Qad (JB a) (JB b));have:=key _ this.1;exact⟨(Qai _).1,by subst h;simp;omega⟩
     ·split
      ·split
       ·rename_i h;have:=Ke (w64 (a.2+b.2));have:=key _ this.1;exact⟨(Ke _).1,by subst h;simp;omega⟩
       ·split
        ·rename_i h;have:=Ke (w64 (a.2-b.2));have:=key _ this.1;exact⟨(Ke _).1,by subst h;simp;omega⟩
        ·split
         ·rename_i h;have:=Ke (w64 (a.2*b.2));have:=key _ this.1;exact⟨(Ke _).1,by subst h;simp;omega⟩
         ·split
          ·rename_i h;exact⟨UH _,by subst h;simp [Zf]⟩
          ·split
           ·rename_i h;exact⟨UH _,by subst h;simp [Zf]⟩
           ·exact⟨Uh,.inl rfl⟩
      ·exact⟨Uh,.inl rfl⟩
theorem GQ (e:EvL){n:Nd}(h1:¬ n.op=1)(h2:¬ n.op=2)(a b:Int × Int):Xi e n a b=opV n.op a b:=by
 unfold Xi opV;rw [bE h1,bE h2]
theorem Qj1 {e:EvL}(E:YM e)(n:Int):Qo (Nq e n)/\(Nq e n).1≠2:=by
 unfold Nq;split
 ·exact Ke _
 ·split
  ·exact E.k
  ·split
   ·exact E.a
   ·exact E.b
theorem Qc7 {n:Nd}(h:QX n=0):Qo n.v:=by
 unfold QX at h;split at h
 ·cases h
 ·split at h
  ·cases h
  ·split at h
   ·cases h
   ·split at h
    ·cases h
    ·rename_i hg;exact mQ fun q=>hg q
theorem Vw {l:List Nd}(O:OkE l){e:EvL}(E:YM e){i:Nat}(hi:i<l.length):Qo (vAt e l i)/\∀ t,tAt l i=some t->(vAt e l i).1=0\/(vAt e l i).1=t:=by
 have hx:l[i]?=some l[i]:=bD hi
 have W:=O.wf i _ hx;have h0:=O.n _ (cM hi);have hv:vAt e l i=_:=Ye (YJ e) hx W;have ht:tAt l i=_:=Ye YQ hx W;rw [hv,ht];generalize l[i]=n at *
 have ar:=ar0 W.a;by_cases h1:n.op=1
 ·have e1:∀ a b,Xi e n a b=n.v:=fun a b=>bH h1
  have e2:∀ a b,tyF n a b=some n.v.1:=fun a b=>bH h1
  rw [e1,e2];exact⟨Qc7 h0,fun t ht=>by cases ht;exact .inr rfl⟩
 ·by_cases h2:n.op=2
  ·have e1:∀ a b,Xi e n a b=Nq e n.n:=fun a b=>by unfold Xi;rw [bE h1,bH h2]
   have e2:∀ a b,tyF n a b=some 1:=fun a b=>by unfold tyF;rw [bE h1,bH h2]
   rw [e1,e2];have:=Qj1 E n.n;refine⟨this.1,fun t ht=>?_⟩
   cases ht;have h:=this.1;unfold Qo at h;omega
  ·rw [GQ e h1 h2,WL h1 h2];have ho:3<=n.op/\n.op<=12:=by rcases QM W.a with q|q|q<;>omega
   have:=Qdz ho;exact⟨(this _ _).1,fun t ht=>by rw [Mc ht];exact(this _ _).2⟩
theorem Qev {l:List Nd}(O:OkE l){i:Nat}(hi:i<l.length){t:Int}(h:tAt l i=some t):t=0\/t=1\/t=2:=by
 have hx:l[i]?=some l[i]:=bD hi
 have W:=O.wf i _ hx;have h0:=O.n _ (cM hi);have ht:tAt l i=_:=Ye YQ hx W;rw [ht] at h;generalize l[i]=n at *
 by_cases h1:n.op=1
 ·have e2:∀ a b,tyF n a b=some n.v.1:=fun a b=>bH h1
  rw [e2] at h;cases h;have:=Qc7 h0;unfold Qo at this;omega
 ·by_cases h2:n.op=2
  ·have e2:∀ a b,tyF n a b=some 1:=fun a b=>by unfold tyF;rw [bE h1,bH h2]
   rw [e2] at h;cases h;omega
  ·rw [WL h1 h2] at h;rw [Mc h];unfold Qfy Wy;split
   ·omega
   ·split<;>omega
structure Rep (P:EvL->Int × Int)(T:Option Int)(k:Nat)(z:List Nd):Prop where
 ok:OkE z
 len:z.length<=k
 val:∀ e,YM e->ZG e z=P e
 ty:∀ t,T=some t->∃ t',tAt z (z.length-1)=some t'/\(t'=0\/t'=t)
abbrev cst (v:Int × Int):List Nd:=[⟨1,0,0,0,v⟩]
theorem Qnf {v:Int × Int}(h:Qo v):OkE (cst v):=by
 refine KJ ?_
 have hF:QX ⟨1,0,0,0,v⟩=0:=by unfold QX;rw [bE (show ¬ arI 1<0 by decide),bE (by simp),bE (by simp),bE (by simp [h])]
 rw [Ze,bE (fun q=>q hF)]
 rfl
theorem Rep.cst {P:EvL->Int × Int}{T:Option Int}{k:Nat}{v:Int × Int}(h:Qo v)(hk:1<=k)(hP:∀ e,YM e->v=P e)(hT:∀ t,T=some t->v.1=0\/v.1=t):Rep P T k (cst v):=
 ⟨Qnf h,hk,fun e E=>hP e E,fun t ht=>⟨v.1,rfl,hT t ht⟩⟩
theorem Rep.leaf {n:Nd}(h:QX n=0)(ha:arI n.op=0):OkE [n]:=by
 refine KJ ?_
 rw [Ze,bE (fun q=>q h)]
 unfold ZN;rw [bH ha];rfl
open Go.Txt
def YP (a:AcS):List Value:=Qhq a.1 a.2
theorem YK (a:AcS):(YP a).length=4:=rfl
theorem Qkp (a:AcS):∀ u ∈ YP a,u.oneCell'=true:=by
 intro u hu;simp only [YP,Qhq,bX,dB,fZ] at hu;rcases hu with rfl|rfl|rfl|rfl<;>rfl
def AcB (a:AcS):Prop:=0<=a.2.1/\a.2.1<=1000000000/\-1000000000000000000<=a.2.2.1/\a.2.2.1<=1000000000000000000
theorem Gi {q:Qy}(B:QOk q){e:EvL}(E:YM e):∀ v ∈ Qn q e,ZW v:=by
 intro v hv;unfold Qn at hv;obtain⟨a,ha,rfl⟩:=dI.1 hv;split
 ·unfold ZW;decide
 ·rename_i h1;obtain⟨O,_⟩:=Yb ((B.g a ha).2.2.1 h1);exact(Vw O E (by have:=O.pos;omega)).1.small
theorem Qgy {ks:List Int}{rs:List (List Vl)}(hl:∀ r ∈ rs,r.length=ks.length)(hv:∀ r ∈ rs,∀ v ∈ r,ZW v)(hn:rs.length<=1000000000):∀ a ∈ Wf ks rs,AcB a:=by
 have hcol:∀(rs:List (List Vl)),(∀ r ∈ rs,∀ v ∈ r,ZW v)->∀ c ∈ Yh ks.length rs,c.length<=rs.length/\∀ v ∈ c,ZW v:=by
  intro rs;induction rs using Mp with
  | h0=>
   intro _ c hc;rw [fH hc];exact⟨cJ _,fun v hv=>by cases hv⟩
  | h1 rs r ih=>
   intro hv c hc;have ih:=ih fun x hx=>hv x (fL _ hx)
   rw [XU] at hc;unfold X8 at hc;obtain⟨i,hi,rfl⟩:=jP.1 hc;rw [jB] at hi;rw [jF];obtain⟨h1,h2⟩:=ih _ (cM (by omega:i<(Yh ks.length rs).length))
   refine⟨by simp;omega,fun v hv2=>?_⟩
   rcases cP.1 hv2 with h3|h3
   ·exact h2 v h3
   ·rw [cB.1 h3];exact hv r (by simp) _ (cM _)
 intro a ha;rw [Qdb ks hl] at ha;obtain⟨i,hi,rfl⟩:=jP.1 ha;rw [jB] at hi;rw [jF];obtain⟨h1,h2⟩:=hcol rs hv _ (cM (by omega:i<(Yh ks.length rs).length))
 generalize (Yh ks.length rs)[i]=c at h1 h2;have:=GJ (k:=ks[i]) c (0,0,0) h2 (fW _);unfold AcB Mz;simp only at this ⊢;omega
theorem QnZ:ElT Pg 148 155 4 32:=.of (by kernel_rfl) (by kernel_rfl) (by decide)
theorem Qid {acs:List AcS}{r:List Vl}(h:r.length=acs.length):(ZT acs r).length=acs.length:=by unfold ZT;rw [jB];omega
abbrev QnU:=Vec YP 4 155
end Go.Proofs.YthicpjafcpfjoaaGreatDoor
namespace Go.Proofs.YthicpjafcpfjoaaGreatDoor.D
open Go Go.Vd
open Go.Vc (Hp IsW Qax Qb vag vb vi vs vsl)
def cI (x y:Int):Int:=if x<y then -1 else if x>y then 1 else 0
def cV (a b:Int × Int):Int:=if cI a.1 b.1≠0 then cI a.1 b.1 else cI a.2 b.2
structure PRow where
 s:Int
 k:Int × Int
 a:OaT
 n:Nat
 c:Nat
 t:Bool
 deriving Inhabited
def PRow.enc (r:PRow):List Value:=[vi r.s,vi r.k.1,vi r.k.2,vsl r.a r.n r.c,vb r.t]
def PRow.cf (x y:PRow):Int:=if x.s≠y.s then x.s-y.s else cV x.k y.k
end Go.Proofs.YthicpjafcpfjoaaGreatDoor.D
namespace Go.Proofs.YthicpjafcpfjoaaGreatDoor
open Go Go.Vc Go.Txt
structure PR where
 k:PK
 a:OaT
 c:Nat
 acs:List AcS
 t:Bool
def QdY (r:PR):D.PRow:=⟨r.k.1,r.k.2,r.a,r.acs.length,r.c,r.t⟩
theorem QoK (r:D.PRow):∀ u ∈ r.enc,u.oneCell'=true:=by
 intro u hu;simp only [D.PRow.enc,bX,dB,fZ] at hu;rcases hu with rfl|rfl|rfl|rfl|rfl<;>rfl
section
variable {h0 h:Hp}{a:OaT}{c:Nat}{R:List PR}
theorem QbA:ElT Pg 128 150 5 56:=.of (by kernel_rfl) (by kernel_rfl) (by decide)
end
theorem ND:ElT Pg 91 54 2 16:=.of (by kernel_rfl) (by kernel_rfl) (by decide)
theorem QkW (v:Vl):∀ u ∈ Qq v,u.oneCell'=true:=by
 intro u hu;simp only [Qq,bX,dB,fZ] at hu;rcases hu with rfl|rfl<;>rfl
abbrev Qif:=Vec Qq 2 54
def ZS (a:AcS):Vl:=QdF a.1 a.2
theorem VV {r:PR}{h:Hp}{R':RtT}(S:SlP YP h r.a r.acs.length r.acs)(hn:r.acs.length<=1000)
  (hK:∀ a c h',Qif h h' a c (r.acs.map ZS)->R' (vag [vi r.k.1,vi r.k.2.1,vi r.k.2.2,vsl a (r.acs.map ZS).length c]) h'):Qa Pg 81 [vag (QdY r).enc] h R':=by
 refine QaY ?_
 intro J30;have hJ:∀ a c h',Qif h h' a c (r.acs.map ZS)->J30 r.k.1 r.k.2.1 r.k.2.2 a (r.acs.map ZS).length c h':=hK
 clear_value J30;refine⟨fun vs hh=>∃(i:Nat) (a:OaT) (c:Nat),vs=[vi i,vi r.k.1,vi r.k.2.1,vi r.k.2.2,vsl a ((r.acs.take i).map ZS).length c]/\i<=r.acs.length/\Qif h hh a c ((r.acs.take i).map ZS),fun vs hh=>r.acs.length-(Qm vs 0).toNat,⟨0,none,0,rfl,cH _,Qg.nil (Hp.le_refl h) _ _⟩,?_⟩
 rintro vs hh ⟨i,a,c,rfl,hi,V⟩;refine⟨_,_,_,_,_,_,_,rfl,fun e=>?_,fun e=>?_⟩
 ·have hlt:i<r.acs.length:=by have:=bC e;have h2:(QdY r).n=r.acs.length:=rfl;omega
  have hx:r.acs[i]?=some r.acs[i]:=bD hlt
  have tk:r.acs.take (i+1)=r.acs.take i++[r.acs[i]]:=bJ hlt;obtain⟨b,o,ea,hr⟩:=(S.le V.le0).get YK (by decide) hx
  have h2:(QdY r).n=r.acs.length:=rfl;refine⟨b,o,⟨ea,by omega,by omega⟩,_,_,_,_,by rw [bG];exact hr,Qcx (k:=(r.acs[i]).1) (s:=(r.acs[i]).2) ⟨_,_,rfl,?_⟩⟩
  intro b23 hb23 h24;have hl:((r.acs.take i).map ZS).length=i:=by rw [bU,bV];omega
  refine Vec.app ND (fun v=>rfl) QkW V (by rw [hl];omega) (by rw [hl];omega) (x:=ZS r.acs[i]) hb23 fun a' c' h' V'=>⟨_,_,_,rfl,_,iW,⟨i+1,a',c',?_,by omega,?_⟩,by simp [Qm];omega⟩
  ·rw [tk,cD];rfl
  ·rw [tk,cD];exact V'
 ·have hge:i=r.acs.length:=by have:=bB e;have h2:(QdY r).n=r.acs.length:=rfl;omega
  rw [hge,dR] at V ⊢;exact hJ a c hh V
end Go.Proofs.YthicpjafcpfjoaaGreatDoor
namespace Go.Proofs.YthicpjafcpfjoaaGreatDoor
open Go Go.Vc
theorem QhJ {at_ size slide:Int}{h:Hp}{R:RtT}(hs:1<=slide)(hz:0<=size)(hz2:size<=1048576)(ha:-1048576<=at_)(ha2:at_<=1048576)
  (hK:∀ a n c h',h.le h'->SlI h' a n (ZK at_ size slide)->(∀ g o,a=some ⟨g,o,none⟩->h g=none)->R (vsl a n c) h'):Qa Pg 47 [vi at_,vi size,vi slide] h R:=by
 refine Qiw ?_
 refine⟨_,iW,_,iW,
  fun vs hh=>∃(a:OaT) (n c:Nat) (k:Nat),vs=[vsl a n c,vi (at_-size+1+k)]/\k<=size.toNat/\Qg h hh 3 1 a n c ((upto (Zq slide) (at_-size) k).map vi),
  fun vs hh=>(at_+1-Qm vs 1).toNat,⟨none,0,0,0,by simp,cH _,Qg.nil (Hp.le_refl h) _ _⟩,?_⟩
 rintro vs hh ⟨a,n,c,k,rfl,hk,O⟩;have hn:n=(upto (Zq slide) (at_-size) k).length:=O.sli.1;have hn2:=Jq (Zq slide) (at_-size) k;refine⟨a,n,c,_,rfl,fun e=>?_,fun e=>?_⟩
 ·have hlt:at_-size+1+k<=at_:=by simpa using e
  have stp:∀ a' c' h',Qg h h' 3 1 a' (upto (Zq slide) (at_-size) (k+1)).length c' ((upto (Zq slide) (at_-size) (k+1)).map vi) ->
    (∃ y:Int,IsW y (at_-size+1+k+1)/\(∃(a:OaT) (n c:Nat) (k':Nat),[vsl a' (upto (Zq slide) (at_-size) (k+1)).length c',vi y]=[vsl a n c,vi (at_-size+1+k')]/\k'<=size.toNat/\Qg h h' 3 1 a n c ((upto (Zq slide) (at_-size) k').map vi)) /\
     (at_+1-Qm [vsl a' (upto (Zq slide) (at_-size) (k+1)).length c',vi y] 1).toNat<(at_+1-Qm [vsl a n c,vi (at_-size+1+k)] 1).toNat):=by
   intro a' c' h' O';refine⟨_,iW,⟨a',_,c',k+1,by simp;omega,by omega,O'⟩,by simp [Qm];omega⟩
  refine⟨by omega,fun e=>?_,fun e=>?_⟩
  ·intro b hb h11;refine Qg.append (m:=1) KQ (O.set hb _) (Qf.new hh b [vi (at_-size+1+k)] _) rfl (JT [_]) (by omega) (by omega) fun a' c' h' O' _ _=>⟨_,_,_,rfl,?_⟩
   have hu:upto (Zq slide) (at_-size) (k+1)=upto (Zq slide) (at_-size) k++[at_-size+1+k]:=by
    have e2:(at_-size+((k+1:Nat):Int))=at_-size+1+k:=by omega
    have hm:Zq slide (at_-size+1+k)=true:=by simpa [Zq] using e
    rw [upto,e2,hm];rfl
   have:=stp a' c' h';rw [hu,cD,bO,<-hn] at this;exact this O'
  ·have hu:upto (Zq slide) (at_-size) (k+1)=upto (Zq slide) (at_-size) k:=by
    have e2:(at_-size+((k+1:Nat):Int))=at_-size+1+k:=by omega
    have hm:Zq slide (at_-size+1+k)=false:=by simpa [Zq] using e
    rw [upto,e2,hm];simp
   have:=stp a c hh;rw [hu,<-hn] at this;exact this O
 ·have hge:k=size.toNat:=by simp at e;omega
  subst hge;exact hK a n c hh O.le O.sli fun g o e=>O.new g (by rw [e,Qw.at0 O.own g o e])
theorem QaD {at_ size slide:Int}{h:Hp}{R:RtT}(hs:1<=slide)(hsl2:slide<=1048576)(hz:0<=size)(hz2:size<=1048576)(ha:-1048576<=at_)(ha2:at_<=1048576)
  (hK:∀ a n c h',h.le h'->SlI h' a n (ZK at_ size slide)->(∀ g o,a=some ⟨g,o,none⟩->h g=none)->R (vsl a n c) h'):Qa Pg 71 [vi at_,vi size,vi slide] h R:=by
 refine QbZ ?_
 have h1:at_.tdiv slide*slide+at_.tmod slide=at_:=Int.tdiv_mul_add_tmod at_ slide;have h2:at_.tmod slide<slide:=Int.tmod_lt_of_pos at_ (by omega)
 have h3:-slide<at_.tmod slide:=Int.lt_tmod_of_pos at_ (by omega)
 have h4:Zq slide (at_.tdiv slide*slide)=true:=YL.2 ⟨at_.tdiv slide,Int.mul_comm _ _⟩;have h5:-1048576<=at_.tdiv slide/\at_.tdiv slide<=1048576:=by have:=Int.natAbs_tdiv_le_natAbs at_ slide;omega
 refine⟨⟨by omega,by unfold InR;omega⟩,_,iW,?_⟩
 intro J5;have fin:∀ x:Int,Zq slide x=true->x<=at_->at_<x+slide->J5 x:=by
  intro x hx1 hx2 hx3;have up:∀(y:Int) (k:Nat),Zq slide y=true->y+k<y+slide->∀ n,upto (Zq slide) y (k+n)=upto (Zq slide) (y+k) n:=by
   intro y k hy hk n;exact Mm _ k y n fun z z1 z2=>Jy hs hy z1 (by omega)
  refine⟨fun vs hh=>∃(a:OaT) (n c:Nat) (x:Int),vs=[vsl a n c,vi x]/\Zq slide x=true/\x<=at_/\at_-size<x+slide/\(SlI hh a n (upto (Zq slide) x (at_-x).toNat)/\∀ g o,a=some ⟨g,o,none⟩->h g=none)/\h.le hh/\-4194304<=x,
   fun vs hh=>(Qm vs 1-(at_-size)).toNat,⟨none,0,0,x,rfl,hx1,hx2,by omega,?_,Hp.le_refl h,by omega⟩,?_⟩
  ·have:=up x (at_-x).toNat hx1 (by omega) 0
   rw [gC] at this;rw [this];exact⟨⟨rfl,.inl rfl⟩,fun g o e=>by cases e⟩
  rintro vs hh ⟨a,n,c,y,rfl,hy1,hy2,hy3,⟨S,hnew⟩,hle,hy4⟩;refine⟨a,n,c,y,rfl,_,iW,fun e=>?_,fun e=>?_⟩
  ·have hlt:at_-size<y:=by simpa using e
   intro b hb h16;have hn:=S.1;have hn2:=Jq (Zq slide) y (at_-y).toNat;refine Qg.append (n:=1) (m:=n) (c2:=c) KQ (Qg.mk_new hle hb _ (n:=1) [vi y] rfl (by decide)) (S.2.le (Hp.le_set (Hp.le_refl hh) hb _)) (by rw [hn,bU,f8]) (JT _) (by omega) (by omega) fun a' c' h' O' _ _=>⟨_,_,_,rfl,_,iW,⟨a',_,c',_,rfl,?_,by omega,by omega,?_,O'.le,by omega⟩,by simp [Qm];omega⟩
   ·rw [YL] at hy1 ⊢;exact mV hy1 (kC _)
   ·have hm:Zq slide (y-slide)=true:=by rw [YL] at hy1 ⊢;exact mV hy1 (kC _)
    have e1:=up (y-slide) (slide-1).toNat hm (by omega) ((at_-y).toNat+1)
    have e2:(slide-1).toNat+((at_-y).toNat+1)=(at_-(y-slide)).toNat:=by omega
    have e3:y-slide+((slide-1).toNat:Int)=y-1:=by omega
    have e4:y-1+1=y:=by omega
    rw [e2,e3,Mn,e4,hy1,bH rfl] at e1;rw [e1];exact⟨O'.sli (l:=y :: upto (Zq slide) y (at_-y).toNat),fun g o e=>O'.new g (by rw [e,Qw.at0 O'.own g o e])⟩
  ·have hge:y<=at_-size:=by simpa using e
   refine hK a n c hh hle ?_ hnew
   have e1:=up y (at_-size-y).toNat hy1 (by omega) size.toNat
   have e2:(at_-size-y).toNat+size.toNat=(at_-y).toNat:=by omega
   have e3:y+((at_-size-y).toNat:Int)=at_-size:=by omega
   rw [e2,e3] at e1;rw [e1] at S;exact S
 refine⟨fun e=>?_,fun e=>?_⟩
 ·have hlt:at_<at_.tdiv slide*slide:=by simpa using e
  refine⟨_,iW,fin _ ?_ (by omega) (by omega)⟩
  rw [YL] at h4 ⊢;exact mV h4 (kC _)
 ·have hge:at_.tdiv slide*slide<=at_:=by simpa using e
  exact fin _ h4 hge (by omega)
theorem QiG {p:Int->Bool}{lo:Int}:∀{n:Nat} {x:Int},x ∈ upto p lo n->lo<x/\x<=lo+n
 | 0,x,h=>by cases h
 | n+1,x,h=>by
  rw [upto] at h;rcases cP.1 h with h1|h1
  ·have:=QiG h1;omega
  ·split at h1
   ·rw [cB.1 h1];omega
   ·cases h1
theorem QjS {t size slide x:Int}(hz:0<=size)(h:x ∈ ZK t size slide):t-size<x/\x<=t:=by
 have:=QiG h;omega
theorem QjJ {t size slide:Int}:(ZK t size slide).length<=size.toNat:=Jq _ _ _
open Go.Txt
def prT (r:PR):PK × List AcS × Bool:=(r.k,r.acs,r.t)
section
variable {ks:List Int}{A:List Ad}{R:List PR}
end
section
variable {h0 h:Hp}{a:OaT}{c:Nat}{R:List PR}
end
end Go.Proofs.YthicpjafcpfjoaaGreatDoor
namespace Go.Proofs.YthicpjafcpfjoaaGreatDoor
open Go Go.Vc
theorem QbV {u0:Int}{u1:Int}{u2:Int}{u3:Int}{h:Hp}{R:RtT}(H:Qa Pg 136 [vi u0,vi u2] h fun v1 h2=>∃ x3,v1=vi x3/\Qa Pg 136 [vi u1,vi u3] h2 fun v4 h5=>∃ x6,v4=vi x6/\∀ b7,h5 b7=none->let h8:=Hp.set h5 b7 (Qb [vi x3,vi x6] 3);Qa Pg 135 [(vsl (some (⟨b7,0,none⟩:Addr)) 2 2)] h8 fun v9 h10=>∃ x11,v9=vi x11/\R (vi x11) h10):Qa Pg 80 [vag [vi u0,vi u1],vag [vi u2,vi u3]] h R:=callC ⟨[],[],[(1,[0,1,2,3,5,6,7,8,4,9,10,11,12])]⟩ Tryz.func80 [.ag [.v (vi u0),.v (vi u1)],.ag [.v (vi u2),.v (vi u3)]] H
theorem Qfg {u0:OaT}{u1 u2:Nat}{h:Hp}{R:RtT}(H:∃(I2:LtT) (m3:LmT),I2 [vi 0] h/\∀ vs4 h5,I2 vs4 h5->∃ x6,vs4=[vi x6]/\((decide (x6<(u1:Int)))=true->∃ b9 o10,Ix u0 b9 o10 x6 u1/\∃ x11,Hp.cell h5 b9 (o10+x6.toNat*1)=some (vi x11)/\((decide (x11≠0))=true->R (vi x11) h5)/\((decide (x11≠0))=false->∃ x13,IsW x13 (x6+1)/\I2 [vi x13] h5/\m3 [vi x13] h5<m3 vs4 h5))/\((decide (x6<(u1:Int)))=false->R (vi 0) h5)):Qa Pg 135 [vsl u0 u1 u2] h R:=callC ⟨[],[(3,([8],[.one (.int .i64)],[]))],[]⟩ Tryz.func135 [.one (.v (vsl u0 u1 u2))] H
theorem Nz {u0:Int}{u1:Int}{h:Hp}{R:RtT}(H:Qa Pg 196 [vi u0] h fun v1 h2=>∃ p3,v1=vb p3/\Qa Pg 196 [vi u1] h2 fun v4 h5=>∃ p6,v4=vb p6/\(p3=true->(p6=true->R (vi 0) h5)/\(p6=false->R (vi (-1)) h5))/\(p3=false->(p6=true->R (vi 1) h5)/\(p6=false->((decide (u0<u1))=true->R (vi (-1)) h5)/\((decide (u0<u1))=false->((decide (u0>u1))=true->R (vi 1) h5)/\((decide (u0>u1))=false->R (vi 0) h5))))):Qa Pg 136 [vi u0,vi u1] h R:=callO Tryz.func136 [.one (.v (vi u0)),.one (.v (vi u1))] H
theorem QbT {u0:Int}{h:Hp}{R:RtT}(H:R (vb (decide (u0≠u0))) h):Qa Pg 196 [vi u0] h R:=callO Tryz.func196 [.one (.v (vi u0))] H
theorem K1 {x y:Int}{h:Hp}{R:RtT}(hK:R (vi (Nv x y)) h):Qa Pg 136 [vi x,vi y] h R:=by
 have nan:∀{z:Int} {K:RtT},K (vb false) h->Qa Pg 196 [vi z] h K:=by
  intro z K hk;refine QbT ?_
  simpa using hk
 refine Nz ?_
 unfold Nv at hK;refine nan ⟨_,rfl,nan ⟨_,rfl,fun e=>by (cases e),fun _=>⟨fun e=>by (cases e),fun _=>⟨fun e=>?_,fun e=>⟨fun e2=>?_,fun e2=>?_⟩⟩⟩⟩⟩
 ·rw [bH (bC e)] at hK;exact hK
 ·rw [bE (bB e),bH (bC e2)] at hK;exact hK
 ·rw [bE (bB e),bE (bB e2)] at hK;exact hK
theorem QeJ {x y:Int}{a:OaT}{c:Nat}{h:Hp}{R:RtT}(S:SlI h a 2 [x,y])(hK:R (vi (if x≠0 then x else y)) h):Qa Pg 135 [vsl a 2 c] h R:=by
 refine Qfg ?_
 refine⟨fun vs hh=>hh=h/\∃ i:Nat,vs=[vi i]/\i<=2/\(0<i->x=0)/\(1<i->y=0),fun vs hh=>2-(Qm vs 0).toNat,⟨rfl,0,rfl,by decide,by simp,by simp⟩,?_⟩
 rintro vs hh ⟨rfl,i,rfl,hi,h1,h2⟩;refine⟨i,rfl,fun e=>?_,fun e=>?_⟩
 ·have hlt:i<2:=by have:=bC e;omega
  obtain⟨b,o,ea,hc⟩:=S.get hlt;refine⟨b,o,⟨ea,by omega,by omega⟩,_,hc,fun e=>?_,fun e=>⟨_,iW,⟨rfl,i+1,rfl,by omega,?_,?_⟩,by simp [Qm];omega⟩⟩
  ·match i,hlt with
   | 0,_=>
    have hx:x≠0:=bC e;rw [bH hx] at hK;exact hK
   | 1,_=>
    have hx:=h1 (by decide)
    rw [bE (by simp [hx])] at hK;exact hK
  ·intro _;match i,hlt with
   | 0,_=>have:=bB e;simpa using this
   | 1,_=>exact h1 (by decide)
  ·intro hi1;match i,hlt with
   | 0,_=>omega
   | 1,_=>have:=bB e;simpa using this
 ·have hge:i=2:=by have:=bB e;omega
  subst hge;have hx:=h1 (by decide)
  have hy:=h2 (by decide)
  rw [bE (by simp [hx]),hy] at hK
  exact hK
theorem Qbm {a b:Int × Int}{h:Hp}{R:RtT}(hK:∀ h',h.le h'->R (vi (QmK a b)) h'):Qa Pg 80 [vag (Qq a),vag (Qq b)] h R:=by
 refine QbV ?_
 refine K1 ⟨_,rfl,K1 ⟨_,rfl,?_⟩⟩
 intro b7 hb7 h8;refine QeJ (x:=Nv a.1 b.1) (y:=Nv a.2 b.2) ⟨rfl,Qf.new _ _ [vi (Nv a.1 b.1),vi (Nv a.2 b.2)] _⟩ ⟨_,rfl,hK _ (Hp.le_set (Hp.le_refl h) hb7 _)⟩
end Go.Proofs.YthicpjafcpfjoaaGreatDoor
namespace Go.Vc
open Go
section
variable {P:Program}{h:Hp}
theorem Qfv (w:World)(dT sT ty elem:TypeId)(k g o dLen dCap:Nat)(a:Addr)(sLen sCap:Nat)(cur:Array Value)(t:TypeId)(cs:List Value)
  (hu:P.underlying dT=some (.slice elem)) (hs:(P.info? elem).map (·.size)=some k)
  (hg:w.heap[g]?=some (.cells cur t (0,0))) (hn:cs.length=Nat.min sLen dLen*k)
  (hsrc:∀ j v,cs[j]?=some v->w.cell? (a.add j)=some v) (hfit:o+cs.length<=cur.size) (h1:∀ v ∈ cs,v.oneCell'=true) :
  (Builtin.copy_ #[dT,sT] ty #[.slice (some ⟨g,o,none⟩) dLen dCap,.slice (some a) sLen sCap]).run P w =
   .ok (goInt (Nat.min sLen dLen)) (w.setRow g (cur.toList.take o++cs++cur.toList.drop (o+cs.length)).toArray):=by
 have hl:=run_firstCells_some (P:=P) w k (Nat.min sLen dLen) a sLen sCap cs hn hsrc;have hst:=run_storeCells_at P g o t cs 0 cur w hg (by simpa using hfit) h1
 cases hq:P.info? elem with
 | none=>simp [hq] at hs
 | some i=>
  have hi:i.size=k:=by simpa [hq] using hs
  simp [Builtin.copy_,run_underlying hu,Builtin.lenOf,sizeOf,typeInfo,hq,hi,hl,hst]
theorem Qma {dT sT ty e:TypeId}(hu:P.underlying dT=some (.slice e)){k:Nat}(hi:(P.info? e).map (·.size)=some k){g o dLen dCap:Nat}{a2:OaT}{sLen c2:Nat}{L ys:List Value}{t:TypeId}(hg:h g=some (Qb L t))(H:Qf h a2 ys)(hl:ys.length=Nat.min sLen dLen*k)(hfit:o+ys.length<=L.length)
  (h1:∀ u ∈ ys,u.oneCell'=true) (hne:ys≠[]) {K:RtT} (hK:K (vi (Nat.min sLen dLen:Nat)) (h.set g (Qb (QJ L o ys) t))):Qh P (Builtin.copy_ #[dT,sT] ty #[vsl (some ⟨g,o,none⟩) dLen dCap,vsl a2 sLen c2]) h K:=by
 intro w hs;rcases H with h4|⟨b2,o2,rfl,hr⟩
 ·exact absurd h4 hne
 ·have hrun:=Qfv (P:=P) w dT sT ty e k g o dLen dCap ⟨b2,o2,none⟩ sLen c2 L.toArray t ys hu hi (hs g _ hg) hl (fun j v hj=>by rw [Yq];exact Zt (Hp.row_cell hr hj) hs) (by simpa using hfit) h1
  exact⟨_,_,_,hrun,Jc hs hg,Uo hg,hK⟩
theorem QkM {t ty e:TypeId}{k bytes:Nat}(T:ElT P t e k bytes){z:List Value}(hz:(XV P e).map Qs=some z)(h1:∀ u ∈ z,u.oneCell'=true){g o n c:Nat}{L:List Value}(hn:0<n)(hg:h g=some (Qb L e))(hfit:o+n*k<=L.length){K:RtT}
  (hK:K (Qe []) (h.set g (Qb (QJ L o ((List.replicate n z).flatten)) e))):Qh P (Builtin.clear_ #[t] ty #[vsl (some ⟨g,o,none⟩) n c]) h K:=by
 intro w hs;obtain⟨i,zv,hi,hiz,hsz,hby,hzs⟩:=T.el;have hzl:z=zv.cells.toList:=by
  unfold XV at hz;rw [hi] at hz;simp only [jC,hiz,gJ,bQ] at hz;rw [<-hz,Jj]
 have hzl2:z.length=k:=by rw [hzl,fI];exact hzs
 have hfl:(Builtin.zeroCells zv.cells n).toList=(List.replicate n z).flatten:=by
  have e1:Builtin.zeroCells zv.cells n=((List.replicate n zv.cells.toList).flatten).toArray:=Mh zv.cells n (by rw [hzs];exact T.pos)
  rw [e1,hzl]
 have hlen:((List.replicate n z).flatten).length=n*k:=by rw [jR];simp [hzl2]
 have h1':∀ u ∈ (List.replicate n z).flatten,u.oneCell'=true:=by intro u hu;obtain⟨l,hl,hu⟩:=List.mem_flatten.1 hu;rw [fH hl] at hu;exact h1 u hu
 have hst:=run_storeCells_at P g o e ((List.replicate n z).flatten) 0 L.toArray w (hs g _ hg) (by simp only [gC,jA];rw [hlen];exact hfit) h1'
 have hrun:(Builtin.clear_ #[t] ty #[vsl (some ⟨g,o,none⟩) n c]).run P w=.ok (Qe []) (w.setRow g (QJ L o ((List.replicate n z).flatten)).toArray):=by
  obtain⟨m,rfl⟩:∃ m,n=m+1:=⟨n-1,by omega⟩
  simp only [gC] at hst;simp [Builtin.clear_,run_underlying T.sl,zeroValue,typeInfo,hi,hiz,hfl,hst,QJ]
 exact⟨_,_,_,hrun,Jc hs hg,Uo hg,hK⟩
theorem Qbh {t tn ty e:TypeId}{k bytes:Nat}(T:ElT P t e k bytes)(htn:P.underlying tn=some (.int .i64)){z:List Value}(hz:(XV P e).map Qs=some z){a:OaT}{n c m:Nat}{xs:List Value}(H:Qf h a xs)(hxs:xs.length=n*k)(hm:0<m)(hc:c<n+m)
  (hb:(n+m)*bytes<=140737488355328) (h63:n+m<=140737488355328) {K:RtT}
  (hK:∀ a' c' h',Qg h h' e k a' (n+m) c' (xs++(List.replicate m z).flatten)->K (vsl a' (n+m) c') h') :
  Qh P (Builtin.append_ #[t,tn] ty #[vsl a n c,vi (m:Int)]) h K:=by
 intro w hs;obtain⟨i,zv,hi,hiz,rfl,rfl,hzs⟩:=T.el;have hzl:z=zv.cells.toList:=by
  unfold XV at hz;rw [hi] at hz;simp only [jC,hiz,gJ,bQ] at hz;rw [<-hz,Jj]
 have hzl2:z.length=i.size:=by rw [hzl,fI];exact hzs
 have hfl:∀ m,(Builtin.zeroCells zv.cells m).toList=(List.replicate m z).flatten:=fun m=>by
  have e1:Builtin.zeroCells zv.cells m=((List.replicate m zv.cells.toList).flatten).toArray:=Mh zv.cells m (by rw [hzs];exact T.pos)
  rw [e1,hzl]
 have hlen:((List.replicate m z).flatten).length=m*i.size:=by rw [jR];simp [hzl2]
 have hold:(Builtin.firstCells i.size n (.slice a n c)).run P w.drew=.ok xs.toArray w.drew:=by
  cases a with
  | none=>
   have:xs=[]:=by
    rcases H with h4|⟨b,o,e,_⟩
    ·exact h4
    ·cases e
   subst this;exact run_firstCells_none _ _ _ _ _
  | some ad=>
   have hsrc:=Qf.cells hs H;exact run_firstCells_some w.drew i.size n ad n c xs hxs (fun j v hj=>hsrc j v hj)
 have hbm:m*i.bytes<=(n+m)*i.bytes:=fE _ (by omega)
 have hr:=Lib.run_append_grow_zeros (P:=P) w t tn ty e i zv .i64 .i64 T.sl htn hi hiz a n c xs hold m hm T.pos hc (by omega) (by omega) (growslice_fits hc hb)
 have hno:h w.heap.size=none:=Sub.none hs;refine⟨_,_,_,hr,Y4 hs _,XD h w _,hK _ _ _ ⟨Hp.le_set (Hp.le_refl h) hno _,⟨?_,.inr ⟨w.heap.size,_,rfl,Hp.set_same _ _ _,grownCap_ge w (n+m) c e,grownCap_le_maxLen w (n+m) c e (by simp only [maxLen];omega),?_,?_⟩⟩,fun g hg=>by cases hg;exact hno⟩⟩
 ·rw [bO,hlen,hxs,gE]
 ·have hge:=grownCap_ge w (n+m) c e;simp only [kZ,jA,size_zeroCells,hzs,hxs,<-gE];congr 1
  omega
 ·simp only [kE,hfl m];rw [jM (by rw [bO,hlen,hxs,gE])]
theorem QgN {f:FuncId}{fn:Func}{tS tR e:TypeId}(hf:P.funcs[f]?=some fn)(hname:(fn.name == "runtime.NumGoroutine")=false)(hb:fn.body.isNone=true)(hn:Extern.findNext fn=none)(he:Extern.find fn=some (Extern.SlicesOverlaps.overlaps #[tS,tS] #[tR]))
  (ht:P.underlying tS=some (.slice e)) (hi:(P.info? e).isSome=true) {b1 o1 b2 o2 la ca lb cb:Nat} (hne:b1≠b2) {L1 L2:List Value} {t1 t2:TypeId} (h1:h b1=some (Qb L1 t1)) (h2:h b2=some (Qb L2 t2)) (hL2:L2≠[]) {K:RtT} (hK:K (vb false) h) :
  Qf8 P f [vsl (some ⟨b1,o1,none⟩) la ca,vsl (some ⟨b2,o2,none⟩) lb cb] h K:=by
 intro w hs;obtain⟨i,hi⟩:=fJ.1 hi;have w1:=hs b1 _ h1;have w2:=hs b2 _ h2;refine⟨vb false,w,h,?_,hs,Fr.refl h w,hK⟩
 rw [run_callFunc_extern hf hname hb hn he];have:=Lib.run_overlaps_apart (P:=P) w tS tR e ht i.size (fun w=>by simp [sizeOf,typeInfo,hi]) ⟨b1,o1,none⟩ ⟨b2,o2,none⟩ la ca lb cb hne t1 t2 L1.length L2.length (by simp [World.shape?,w1]) (by simp [World.shape?,w2]) (by simpa using hL2) (by simp [World.frozen?,w1]) (by simp [World.frozen?,w1])
 show ((Extern.SlicesOverlaps.overlaps #[tS,tS] #[tR] #[.slice (some ⟨b1,o1,none⟩) la ca,.slice (some ⟨b2,o2,none⟩) lb cb]).run P w).andThen _=_;rw [this];rfl
theorem QqZ {t e ty:TypeId}(ht:P.underlying t=some (.slice e)){a:OaT}{n c:Nat}:Rd P (Builtin.cap_ #[t] ty #[vsl a n c]) h (vi (c:Int)):=by
 intro w _;simp [Builtin.cap_,run_underlying ht,goInt]
theorem Qg.grow {h0:Hp}{e:TypeId}{sz n m c:Nat}{a:OaT}{xs:List Value}(O:Qg h0 h e sz a n c xs)(h1:n<=m)(h2:m<=c):∃ ys,ys.length=(m-n)*sz/\Qg h0 h e sz a m c (xs++ys):=by
 obtain⟨l,⟨hl,O'⟩,nw⟩:=O;rcases O' with ⟨ha,hn,hc⟩|⟨g,cur,ha,hg,h3,h4,h5,h6⟩
 ·have:m=n:=by omega
  subst this;exact⟨[],by simp,l,by rw [d8];exact⟨hl,.inl ⟨ha,hn,hc⟩⟩,nw⟩
 ·have hb:n*sz<=m*sz:=fE _ h1;have hb2:m*sz<=c*sz:=fE _ h2;have hcl:cur.toList.length=c*sz:=by rw [fI];exact h5
  refine⟨(cur.toList.take (m*sz)).drop (n*sz),by rw [dO,bV,hcl,dX hb2,Nat.sub_mul],l,⟨?_,.inr ⟨g,cur,ha,hg,h2,h4,h5,?_⟩⟩,nw⟩
  ·rw [bO,hl,dO,bV,hcl,dX hb2];omega
  ·have h7:(cur.toList.take (m*sz)).take (n*sz)=xs:=by rw [jI,dX hb];exact h6
   have h8:=dV (n*sz) (cur.toList.take (m*sz));rw [h7] at h8;exact h8.symm
theorem Qg.blk {h0:Hp}{e:TypeId}{sz n c:Nat}{a:OaT}{xs:List Value}(O:Qg h0 h e sz a n c xs)(hc:0<c)(hz:0<sz):∃ g L,a=some ⟨g,0,none⟩/\h g=some (Qb L e)/\L≠[]:=by
 obtain⟨l,⟨hl,O'⟩,nw⟩:=O;rcases O' with ⟨ha,hn,hc'⟩|⟨g,cur,ha,hg,h3,h4,h5,h6⟩
 ·omega
 ·refine⟨g,cur.toList,ha,by rw [hg],fun e2=>?_⟩
  have:=congrArg List.length e2;rw [fI,h5] at this;have:=Nat.mul_pos hc hz;simp at *
  omega
theorem Qg.copy {h0:Hp}{dT sT ty e:TypeId}(hu:P.underlying dT=some (.slice e)){sz:Nat}(hi:(P.info? e).map (·.size)=some sz){n c:Nat}{a:OaT}{xs:List Value}(O:Qg h0 h e sz a n c xs){g j dLen dCap:Nat}(ha:a=some ⟨g,0,none⟩){a2:OaT}{sLen c2:Nat}{ys:List Value}(H:Qf h a2 ys)
  (hl:ys.length=Nat.min sLen dLen*sz) (hfit:j+ys.length<=n*sz) (h1:∀ u ∈ ys,u.oneCell'=true) (hne:ys≠[]) {K:RtT}
  (hK:∀ h',Qg h0 h' e sz a n c (QJ xs j ys)->(∀ b o,b≠g->h b=some o->h' b=some o)->K (vi (Nat.min sLen dLen:Nat)) h'):Qh P (Builtin.copy_ #[dT,sT] ty #[vsl (some ⟨g,j,none⟩) dLen dCap,vsl a2 sLen c2]) h K:=by
 obtain⟨l,⟨hl0,O'⟩,nw⟩:=O;rcases O' with ⟨ha',_⟩|⟨g',cur,ha',hg,h3,h4,h5,h6⟩
 ·rw [ha'] at ha;cases ha
 ·rw [ha'] at ha;cases ha;have hb:n*sz<=c*sz:=fE _ h3;have hcl:cur.toList.length=c*sz:=by rw [fI];exact h5
  refine Qma hu hi (L:=cur.toList) (t:=e) (by rw [hg]) H hl (by omega) h1 hne ?_
  refine hK _ ⟨fun b o ho=>?_,⟨?_,.inr ⟨g,_,ha',Hp.set_same _ _ _,h3,h4,?_,?_⟩⟩,nw⟩ fun b o hne ho=>(Hp.set_other h _ hne).trans ho
  ·have hne:b≠g:=fun q=>by subst q;rw [nw b ha'] at ho;cases ho
   exact(Hp.set_other h _ hne).trans (l b o ho)
  ·rw [Yy _ _ _ (by omega)];exact hl0
  ·show (QJ cur.toList j ys).length=_;rw [Yy _ _ _ (by omega)];exact hcl
  ·show (QJ cur.toList j ys).take (n*sz)=_;rw [QbY _ _ _ _ hfit (by rw [hcl];exact hb),h6]
theorem Qg.clear {h0:Hp}{t ty e:TypeId}{sz bytes:Nat}(T:ElT P t e sz bytes){z:List Value}(hz:(XV P e).map Qs=some z)(h1:∀ u ∈ z,u.oneCell'=true)(hzl:z.length=sz){n c:Nat}{a:OaT}{xs:List Value}(O:Qg h0 h e sz a n c xs){g j k dCap:Nat}(ha:a=some ⟨g,0,none⟩)(hk:0<k)(hfit:j+k*sz<=n*sz){K:RtT}
  (hK:∀ h',Qg h0 h' e sz a n c (QJ xs j ((List.replicate k z).flatten))->K (Qe []) h'):Qh P (Builtin.clear_ #[t] ty #[vsl (some ⟨g,j,none⟩) k dCap]) h K:=by
 have hlen:((List.replicate k z).flatten).length=k*sz:=by rw [jR];simp [hzl]
 obtain⟨l,⟨hl0,O'⟩,nw⟩:=O;rcases O' with ⟨ha',_⟩|⟨g',cur,ha',hg,h3,h4,h5,h6⟩
 ·rw [ha'] at ha;cases ha
 ·rw [ha'] at ha;cases ha;have hb:n*sz<=c*sz:=fE _ h3;have hcl:cur.toList.length=c*sz:=by rw [fI];exact h5
  refine QkM T hz h1 hk (L:=cur.toList) (by rw [hg]) (by omega) ?_
  refine hK _ ⟨fun b o ho=>?_,⟨?_,.inr ⟨g,_,ha',Hp.set_same _ _ _,h3,h4,?_,?_⟩⟩,nw⟩
  ·have hne:b≠g:=fun q=>by subst q;rw [nw b ha'] at ho;cases ho
   exact(Hp.set_other h _ hne).trans (l b o ho)
  ·rw [Yy _ _ _ (by omega)];exact hl0
  ·show (QJ cur.toList j _).length=_;rw [Yy _ _ _ (by omega)];exact hcl
  ·show (QJ cur.toList j _).take (n*sz)=_;rw [QbY _ _ _ _ (by omega) (by rw [hcl];exact hb),h6]
end
end Go.Vc
namespace Go.Proofs.YthicpjafcpfjoaaGreatDoor
open Go Go.Vc
theorem Mw {u0:OaT}{u1 u2:Nat}{u3:Int}{u4:Int}{u5:Int}{h:Hp}{R:RtT}(H:∀ b1,h b1=none->let h2:=Hp.set h b1 (Qb [vi u3] 3);Qa Pg 250 [vsl u0 u1 u2,vag [vi u4,vi u5],(Value.func (.func 251) #[] #[vhp b1 0])] h2 fun v3 h4=>∃ x5 p6,v3=Qe [vi x5,vb p6]/\R (Qe [vi x5,vb p6]) h4):Qa Pg 215 [vag [vsl u0 u1 u2],vi u3,vag [vi u4,vi u5]] h R:=callC ⟨[4],[],[]⟩ Tryz.func215 [.ag [.v (vsl u0 u1 u2)],.one (.v (vi u3)),.ag [.v (vi u4),.v (vi u5)]] H
theorem Ve {u0:Int}{u1:Int}{u2:Int}{u3:OaT}{u4 u5:Nat}{u6:Bool}{u7:Int}{u8:Int}{f_0b f_0o:Nat}{h:Hp}{R:RtT}(H:∃ x1,Hp.cell h f_0b f_0o=some (vi x1)/\Qa Pg 136 [vi u0,vi x1] h fun v2 h3=>∃ x4,v2=vi x4/\Qa Pg 80 [vag [vi u1,vi u2],vag [vi u7,vi u8]] h3 fun v5 h6=>∃ x7,v5=vi x7/\∀ b8,h6 b8=none->let h9:=Hp.set h6 b8 (Qb [vi x4,vi x7] 3);Qa Pg 135 [(vsl (some (⟨b8,0,none⟩:Addr)) 2 2)] h9 fun v10 h11=>∃ x12,v10=vi x12/\R (vi x12) h11):Qa Pg 251 [vag [vi u0,vi u1,vi u2,vsl u3 u4 u5,vb u6],vag [vi u7,vi u8],vhp f_0b f_0o] h R:=callC ⟨[],[],[(1,[0,1,2,4,5,6,3,7,8,9,10])]⟩ Tryz.func251 [.ag [.v (vi u0),.v (vi u1),.v (vi u2),.v (vsl u3 u4 u5),.v (vb u6)],.ag [.v (vi u7),.v (vi u8)],.one (.hp f_0b f_0o)] H
theorem Zv {u0:OaT}{u1 u2:Nat}{u3:Int}{u4:Int}{u5:Value}{h:Hp}{R:RtT}(H:∃(I2:LtT) (m3:LmT),I2 [vi 0,(vi (u1:Int))] h/\∀ vs4 h5,I2 vs4 h5->∃ x6 x7,vs4=[vi x6,vi x7]/\((decide (x6<x7))=true->∃ x10,IsW x10 (x6+x7)/\∃ x11,Rd Pg (binOp .shr 229 (vk .u64 (IntKind.wrap .u64 x10)) (vk .u64 1)) h5 (vk .u64 x11)/\∃ b12 o13,Ix u0 b12 o13 (IntKind.wrap .i64 x11) u1/\∃ x14 x15 x16 a17 n17 c17 p18,Hp.row h5 b12 (o13+(IntKind.wrap .i64 x11).toNat*5) 5=some [vi x14,vi x15,vi x16,vsl a17 n17 c17,vb p18]/\Xl Pg u5 [vag [vi x14,vi x15,vi x16,vsl a17 n17 c17,vb p18],vag [vi u3,vi u4]] h5 fun v19 h20=>∃ x21,v19=vi x21/\((decide (x21<0))=true->∃ x22,IsW x22 ((IntKind.wrap .i64 x11)+1)/\I2 [vi x22,vi x7] h20/\m3 [vi x22,vi x7] h20<m3 vs4 h5)/\((decide (x21<0))=false->I2 [vi x6,(vi (IntKind.wrap .i64 x11))] h20/\m3 [vi x6,(vi (IntKind.wrap .i64 x11))] h20<m3 vs4 h5))/\((decide (x6<x7))=false->∃ b23 o24,((decide (x6<(u1:Int)))=true->Ix u0 b23 o24 x6 u1)/\∃ x25 x26 x27 a28 n28 c28 p29,((decide (x6<(u1:Int)))=true->Hp.row h5 b23 (o24+x6.toNat*5) 5=some [vi x25,vi x26,vi x27,vsl a28 n28 c28,vb p29])/\∃(J30:ShT),((decide (x6<(u1:Int)))=true->Xl Pg u5 [vag [vi x25,vi x26,vi x27,vsl a28 n28 c28,vb p29],vag [vi u3,vi u4]] h5 fun v31 h32=>∃ x33,v31=vi x33/\J30 (.t (.one (.v (vi x33)))) h32)/\(¬((decide (x6<(u1:Int)))=true)->J30 (.t (.one (.v (vi 0)))) h5)/\∀ h34 x35,J30 (.t (.one (.v (vi x35)))) h34->R (Qe [vi x6,(vb (cond (decide (x6<(u1:Int))) (decide (x35=0)) false))]) h34)):Qa Pg 250 [vsl u0 u1 u2,vag [vi u3,vi u4],u5] h R:=callC ⟨[],[(3,([9,10],[.one (.int .i64),.one (.int .i64)],[]))],[(5,[0,1,2,3,4,5,6,7]),(8,[0,1,2,3,4,5,6,7,8,9,10,11,12,13,14,15])]⟩ Tryz.func250 [.one (.v (vsl u0 u1 u2)),.ag [.v (vi u3),.v (vi u4)],.one (.v u5)] H
theorem Y9 {u0:OaT}{u1 u2:Nat}{h:Hp}{R:RtT}(H:∃ p1,RdG .eql 128 (.tmp 3) (.const (vsl none 0 0)) (vsl u0 u1 u2) (vsl none 0 0) h (vb p1)/\(p1=true->R (vsl none 0 0) h)/\(p1=false->∀ b3,h b3=none->let h4:=Hp.set h b3 (Qb [] 150);Qh Pg (Builtin.append_ #[128,128] 128 #[(vsl (some (⟨b3,0,none⟩:Addr)) 0 0),vsl u0 u1 u2]) h4 fun v5 h6=>∃ a7 n7 c7,v5=vsl a7 n7 c7/\R (vsl a7 n7 c7) h6)):Qa Pg 171 [vsl u0 u1 u2] h R:=callO Tryz.func171 [.one (.v (vsl u0 u1 u2))] H
theorem Xc {u0:OaT}{u1 u2:Nat}{h:Hp}{R:RtT}(H:∃ p1,RdG .eql 148 (.tmp 3) (.const (vsl none 0 0)) (vsl u0 u1 u2) (vsl none 0 0) h (vb p1)/\(p1=true->R (vsl none 0 0) h)/\(p1=false->∀ b3,h b3=none->let h4:=Hp.set h b3 (Qb [] 155);Qh Pg (Builtin.append_ #[148,148] 148 #[(vsl (some (⟨b3,0,none⟩:Addr)) 0 0),vsl u0 u1 u2]) h4 fun v5 h6=>∃ a7 n7 c7,v5=vsl a7 n7 c7/\R (vsl a7 n7 c7) h6)):Qa Pg 217 [vsl u0 u1 u2] h R:=callO Tryz.func217 [.one (.v (vsl u0 u1 u2))] H
theorem YU {u0:OaT}{u1 u2:Nat}{u3:Int}{u4:OaT}{u5 u6:Nat}{h:Hp}{R:RtT}(H:∃ a1 n1 c1,Rd Pg (Instr.sliceAt 128 (vsl u0 u1 u2) (some (vi u3)) none none) h (vsl a1 n1 c1)/\((decide ((u5:Int)=0))=true->R (vsl u0 u1 u2) h)/\((decide ((u5:Int)=0))=false->((decide (u3=(u1:Int)))=true->Qh Pg (Builtin.append_ #[128,128] 128 #[vsl u0 u1 u2,vsl u4 u5 u6]) h fun v3 h4=>∃ a5 n5 c5,v3=vsl a5 n5 c5/\R (vsl a5 n5 c5) h4)/\((decide (u3=(u1:Int)))=false->∃ x7,IsW x7 ((u1:Int)+(u5:Int))/\∃ x8,Rd Pg (Builtin.cap_ #[128] 3 #[vsl u0 u1 u2]) h (vi x8)/\((decide (x7>x8))=true->∃ a9 n9 c9,Rd Pg (Instr.sliceAt 128 (vsl u0 u1 u2) none (some (vi u3)) none) h (vsl a9 n9 c9)/\∃ x10,IsW x10 ((u1:Int)+(u5:Int))/\∃ x11,IsW x11 (x10-u3)/\Qh Pg (Builtin.append_ #[128,3] 128 #[vsl a9 n9 c9,vi x11]) h fun v12 h13=>∃ a14 n14 c14,v12=vsl a14 n14 c14/\∃ a15 n15 c15,Rd Pg (Instr.sliceAt 128 (vsl a14 n14 c14) (some (vi u3)) none none) h13 (vsl a15 n15 c15)/\Qh Pg (Builtin.copy_ #[128,128] 3 #[vsl a15 n15 c15,vsl u4 u5 u6]) h13 fun v16 h17=>∃ x18,v16=vi x18/\∃ x19,IsW x19 (u3+(u5:Int))/\∃ a20 n20 c20,Rd Pg (Instr.sliceAt 128 (vsl a14 n14 c14) (some (vi x19)) none none) h17 (vsl a20 n20 c20)/\∃ a21 n21 c21,Rd Pg (Instr.sliceAt 128 (vsl u0 u1 u2) (some (vi u3)) none none) h17 (vsl a21 n21 c21)/\Qh Pg (Builtin.copy_ #[128,128] 3 #[vsl a20 n20 c20,vsl a21 n21 c21]) h17 fun v22 h23=>∃ x24,v22=vi x24/\R (vsl a14 n14 c14) h23)/\((decide (x7>x8))=false->∃ x26,IsW x26 ((u1:Int)+(u5:Int))/\∃ a27 n27 c27,Rd Pg (Instr.sliceAt 128 (vsl u0 u1 u2) none (some (vi x26)) none) h (vsl a27 n27 c27)/\∃ x28,IsW x28 (u3+(u5:Int))/\∃ a29 n29 c29,Rd Pg (Instr.sliceAt 128 (vsl a27 n27 c27) (some (vi x28)) none none) h (vsl a29 n29 c29)/\Qf8 Pg 252 [vsl u4 u5 u6,vsl a29 n29 c29] h fun v30 h31=>∃ p32,v30=vb p32/\((!p32)=true->∃ x33,IsW x33 (u3+(u5:Int))/\∃ a34 n34 c34,Rd Pg (Instr.sliceAt 128 (vsl a27 n27 c27) (some (vi x33)) none none) h31 (vsl a34 n34 c34)/\∃ a35 n35 c35,Rd Pg (Instr.sliceAt 128 (vsl a27 n27 c27) (some (vi u3)) none none) h31 (vsl a35 n35 c35)/\Qh Pg (Builtin.copy_ #[128,128] 3 #[vsl a34 n34 c34,vsl a35 n35 c35]) h31 fun v36 h37=>∃ x38,v36=vi x38/\∃ a39 n39 c39,Rd Pg (Instr.sliceAt 128 (vsl a27 n27 c27) (some (vi u3)) none none) h37 (vsl a39 n39 c39)/\Qh Pg (Builtin.copy_ #[128,128] 3 #[vsl a39 n39 c39,vsl u4 u5 u6]) h37 fun v40 h41=>∃ x42,v40=vi x42/\R (vsl a27 n27 c27) h41)/\((!p32)=false->∃ a44 n44 c44,Rd Pg (Instr.sliceAt 128 (vsl a27 n27 c27) (some (vi (u1:Int))) none none) h31 (vsl a44 n44 c44)/\Qh Pg (Builtin.copy_ #[128,128] 3 #[vsl a44 n44 c44,vsl u4 u5 u6]) h31 fun v45 h46=>∃ x47,v45=vi x47/\∃ a48 n48 c48,Rd Pg (Instr.sliceAt 128 (vsl a27 n27 c27) (some (vi u3)) none none) h46 (vsl a48 n48 c48)/\Qa Pg 253 [vsl a48 n48 c48,(vi (u5:Int))] h46 fun v49 h50=>v49=Qe []/\R (vsl a27 n27 c27) h50))))):Qa Pg 216 [vsl u0 u1 u2,vi u3,vsl u4 u5 u6] h R:=callC ⟨[],[],[(11,[0,1,2,3,4,5,6,7,8]),(15,[0,1,2,3,4,5,6,7,8])]⟩ Tryz.func216 [.one (.v (vsl u0 u1 u2)),.one (.v (vi u3)),.one (.v (vsl u4 u5 u6))] H
theorem NT {u0:OaT}{u1 u2:Nat}{u3:Int}{u4:Int}{u5:Int}{u6:OaT}{u7 u8:Nat}{u9:OaT}{u10 u11:Nat}{h:Hp}{R:RtT}(H:Qa Pg 215 [vag [vsl u0 u1 u2],vi u3,vag [vi u4,vi u5]] h fun v1 h2=>∃ x3 p4,v1=Qe [vi x3,vb p4]/\Qa Pg 171 [vsl u0 u1 u2] h2 fun v5 h6=>∃ a7 n7 c7,v5=vsl a7 n7 c7/\let J83:OaT->Nat->Nat->Int->Int->Int->OaT->Nat->Nat->Bool->Hp->Prop:=fun a315 n315 c315 x316 x317 x318 a319 n319 c319 p320 h321=>(∃ b322 o323,Ix a315 b322 o323 x3 n315/\∃ x324 x325 x326 a327 n327 c327 p328,Hp.row h321 b322 (o323+x3.toNat*5) 5=some [vi x324,vi x325,vi x326,vsl a327 n327 c327,vb p328]/\Qa Pg 217 [vsl a327 n327 c327] h321 fun v329 h330=>∃ a331 n331 c331,v329=vsl a331 n331 c331/\∃(I333:LtT) (m334:LmT),I333 [vi 0] h330/\∀ vs335 h336,I333 vs335 h336->∃ x337,vs335=[vi x337]/\((decide (x337<(u10:Int)))=true->∃ b340 o341,Ix u9 b340 o341 x337 u10/\∃ x342 x343,Hp.row h336 b340 (o341+x337.toNat*2) 2=some [vi x342,vi x343]/\∃ b344 o345,Ix a331 b344 o345 x337 n331/\∃ x346 x347 x348 x349,Hp.row h336 b344 (o345+x337.toNat*4) 4=some [vi x346,vi x347,vi x348,vi x349]/\Qa Pg 132 [vag [vi x346,vi x347,vi x348,vi x349],vag [vi x342,vi x343]] h336 fun v350 h351=>∃ x352 x353 x354 x355,v350=vag [vi x352,vi x353,vi x354,vi x355]/\∃ b356 o357,Ix a331 b356 o357 x337 n331/\Hp.store h351 b356 (o357+x337.toNat*4) [vi x352,vi x353,vi x354,vi x355] fun h358=>∃ x360,IsW x360 (x337+1)/\I333 [vi x360] h358/\m334 [vi x360] h358<m334 vs335 h336)/\((decide (x337<(u10:Int)))=false->∃ b361 o362,Ix a315 b361 o362 x3 n315/\Hp.store h336 b361 (o362+x3.toNat*5) [vi x324,vi x325,vi x326,vsl a331 n331 c331,vb p328] fun h363=>R (Qe [vag [vsl a315 n315 c315],vag [vi x316,vi x317,vi x318,vsl a319 n319 c319,vb p320],vb p4]) h363));(p4=true->∃ b8 o9,Ix a7 b8 o9 x3 n7/\∃ x10 x11 x12 a13 n13 c13 p14,Hp.row h6 b8 (o9+x3.toNat*5) 5=some [vi x10,vi x11,vi x12,vsl a13 n13 c13,vb p14]/\J83 a7 n7 c7 x10 x11 x12 a13 n13 c13 p14 h6)/\(p4=false->let J45:Int->Int->Int->OaT->Nat->Nat->Bool->Hp->Prop:=fun x71 x72 x73 a74 n74 c74 p75 h76=>(∀ b77,h76 b77=none->let h78:=Hp.set h76 b77 (Qb [vi x71,vi x72,vi x73,vsl a74 n74 c74,vb p75] 150);Qa Pg 216 [vsl a7 n7 c7,vi x3,(vsl (some (⟨b77,0,none⟩:Addr)) 1 1)] h78 fun v79 h80=>∃ a81 n81 c81,v79=vsl a81 n81 c81/\J83 a81 n81 c81 0 0 0 none 0 0 false h80);∃(I17:LtT) (m18:LmT),I17 [vi 0,vi u3,vi u4,vi u5,vsl none 0 0,vb false] h6/\∀ vs19 h20,I17 vs19 h20->∃ x21 x22 x23 x24 a25 n25 c25 p26,vs19=[vi x21,vi x22,vi x23,vi x24,vsl a25 n25 c25,vb p26]/\((decide (x21<(u7:Int)))=true->∃ b29 o30,Ix u6 b29 o30 x21 u7/\∃ x31,Hp.cell h20 b29 (o30+x21.toNat*1)=some (vi x31)/\Qa Pg 76 [vi x31] h20 fun v32 h33=>∃ x34 x35 x36 x37,v32=vag [vi x34,vi x35,vi x36,vi x37]/\∀ b38,h33 b38=none->let h39:=Hp.set h33 b38 (Qb [vi x34,vi x35,vi x36,vi x37] 155);Qh Pg (Builtin.append_ #[148,148] 148 #[vsl a25 n25 c25,(vsl (some (⟨b38,0,none⟩:Addr)) 1 1)]) h39 fun v40 h41=>∃ a42 n42 c42,v40=vsl a42 n42 c42/\∃ x44,IsW x44 (x21+1)/\I17 [vi x44,vi x22,vi x23,vi x24,vsl a42 n42 c42,vb p26] h41/\m18 [vi x44,vi x22,vi x23,vi x24,vsl a42 n42 c42,vb p26] h41<m18 vs19 h20)/\((decide (x21<(u7:Int)))=false->J45 x22 x23 x24 a25 n25 c25 p26 h20))):Qa Pg 167 [vag [vsl u0 u1 u2],vi u3,vag [vi u4,vi u5],vsl u6 u7 u8,vsl u9 u10 u11] h R:=callC ⟨[],[(7,([41],[.one (.int .i64)],[(4,[.int .i64,.int .i64,.int .i64,.slice,.bool])])),(15,([68],[.one (.int .i64)],[]))],[(9,[0,1,2,3,4,5,6,7]),(17,[0,1,2,3,4,5,6,7,8,9,10,11]),(20,[0,1,2,3,4,5,6])]⟩ Tryz.func167 [.ag [.v (vsl u0 u1 u2)],.one (.v (vi u3)),.ag [.v (vi u4),.v (vi u5)],.one (.v (vsl u6 u7 u8)),.one (.v (vsl u9 u10 u11))] H
theorem MS {u0:OaT}{u1 u2:Nat}{u3:Int}{u4:Int}{h:Hp}{R:RtT}(H:Qa Pg 171 [vsl u0 u1 u2] h fun v1 h2=>∃ a3 n3 c3,v1=vsl a3 n3 c3/\∃(I5:LtT) (m6:LmT),I5 [vsl none 0 0,vi 0] h2/\∀ vs7 h8,I5 vs7 h8->∃ a9 n9 c9 x10,vs7=[vsl a9 n9 c9,vi x10]/\((decide (x10<(n3:Int)))=true->let J38:OaT->Nat->Nat->Hp->Prop:=fun a41 n41 c41 h42=>(∃ x43,IsW x43 (x10+1)/\I5 [vsl a41 n41 c41,vi x43] h42/\m6 [vsl a41 n41 c41,vi x43] h42<m6 vs7 h8);∃ b13 o14,Ix a3 b13 o14 x10 n3/\∃ x15 x16 x17 a18 n18 c18 p19,Hp.row h8 b13 (o14+x10.toNat*5) 5=some [vi x15,vi x16,vi x17,vsl a18 n18 c18,vb p19]/\∃ x20,((!p19)=true->IsW x20 (x15+u3))/\((cond (!p19) (decide (x20<=u4)) false)=true->∃ b21 o22,Ix a3 b21 o22 x10 n3/\Hp.store h8 b21 ((o22+x10.toNat*5)+4) [vb true] fun h23=>∃ b24 o25,Ix a3 b24 o25 x10 n3/\∃ x26 x27 x28 a29 n29 c29 p30,Hp.row h23 b24 (o25+x10.toNat*5) 5=some [vi x26,vi x27,vi x28,vsl a29 n29 c29,vb p30]/\∀ b31,h23 b31=none->let h32:=Hp.set h23 b31 (Qb [vi x26,vi x27,vi x28,vsl a29 n29 c29,vb p30] 150);Qh Pg (Builtin.append_ #[128,128] 128 #[vsl a9 n9 c9,(vsl (some (⟨b31,0,none⟩:Addr)) 1 1)]) h32 fun v33 h34=>∃ a35 n35 c35,v33=vsl a35 n35 c35/\J38 a35 n35 c35 h34)/\((cond (!p19) (decide (x20<=u4)) false)=false->J38 a9 n9 c9 h8))/\((decide (x10<(n3:Int)))=false->R (Qe [vag [vsl a3 n3 c3],vsl a9 n9 c9]) h8)):Qa Pg 113 [vag [vsl u0 u1 u2],vi u3,vi u4] h R:=callC ⟨[],[(4,([9,17],[.one (.slice),.one (.int .i64)],[]))],[]⟩ Tryz.func113 [.ag [.v (vsl u0 u1 u2)],.one (.v (vi u3)),.one (.v (vi u4))] H
theorem MF {u0:OaT}{u1 u2:Nat}{u3:Int}{u4:Int}{h:Hp}{R:RtT}(H:∀ b1,h b1=none->let h2:=Hp.set h b1 (Qb [vi u3] 3);∀ b3,h2 b3=none->let h4:=Hp.set h2 b3 (Qb [vi u4] 3);Qa Pg 171 [vsl u0 u1 u2] h4 fun v5 h6=>∃ a7 n7 c7,v5=vsl a7 n7 c7/\Qa Pg 172 [vsl a7 n7 c7,(Value.func (.func 173) #[] #[vhp b1 0,vhp b3 0])] h6 fun v8 h9=>∃ a10 n10 c10,v8=vsl a10 n10 c10/\R (vag [vsl a10 n10 c10]) h9):Qa Pg 114 [vag [vsl u0 u1 u2],vi u3,vi u4] h R:=callC ⟨[4,5],[],[]⟩ Tryz.func114 [.ag [.v (vsl u0 u1 u2)],.one (.v (vi u3)),.one (.v (vi u4))] H
theorem Vk {u0:Int}{u1:Int}{u2:Int}{u3:OaT}{u4 u5:Nat}{u6:Bool}{f_0b f_0o:Nat}{f_1b f_1o:Nat}{h:Hp}{R:RtT}(H:∃ x1,Hp.cell h f_0b f_0o=some (vi x1)/\∃ x2,IsW x2 (u0+x1)/\∃ x3,Hp.cell h f_1b f_1o=some (vi x3)/\R (vb (decide (x2<=x3))) h):Qa Pg 173 [vag [vi u0,vi u1,vi u2,vsl u3 u4 u5,vb u6],vhp f_0b f_0o,vhp f_1b f_1o] h R:=callO Tryz.func173 [.ag [.v (vi u0),.v (vi u1),.v (vi u2),.v (vsl u3 u4 u5),.v (vb u6)],.one (.hp f_0b f_0o),.one (.hp f_1b f_1o)] H
theorem YD {u0:OaT}{u1 u2:Nat}{u3:Value}{h:Hp}{R:RtT}(H:Qa Pg 74 [vsl u0 u1 u2,u3] h fun v1 h2=>∃ x3,v1=vi x3/\((decide (x3=(-1)))=true->R (vsl u0 u1 u2) h2)/\((decide (x3=(-1)))=false->∃ x5,IsW x5 (x3+1)/\∃(I7:LtT) (m8:LmT),I7 [vi x3,vi x5] h2/\∀ vs9 h10,I7 vs9 h10->∃ x11 x12,vs9=[vi x11,vi x12]/\((decide (x12<(u1:Int)))=true->let J31:Int->Hp->Prop:=fun x34 h35=>(∃ x36,IsW x36 (x12+1)/\I7 [vi x34,vi x36] h35/\m8 [vi x34,vi x36] h35<m8 vs9 h10);∃ b15 o16,Ix u0 b15 o16 x12 u1/\∃ x17 x18 x19 a20 n20 c20 p21,Hp.row h10 b15 (o16+x12.toNat*5) 5=some [vi x17,vi x18,vi x19,vsl a20 n20 c20,vb p21]/\Xl Pg u3 [vag [vi x17,vi x18,vi x19,vsl a20 n20 c20,vb p21]] h10 fun v22 h23=>∃ p24,v22=vb p24/\((!p24)=true->∃ b25 o26,Ix u0 b25 o26 x11 u1/\Hp.store h23 b25 (o26+x11.toNat*5) [vi x17,vi x18,vi x19,vsl a20 n20 c20,vb p21] fun h27=>∃ x28,IsW x28 (x11+1)/\J31 x28 h27)/\((!p24)=false->J31 x11 h23))/\((decide (x12<(u1:Int)))=false->∃ a37 n37 c37,Rd Pg (Instr.sliceAt 128 (vsl u0 u1 u2) (some (vi x11)) none none) h10 (vsl a37 n37 c37)/\Qh Pg (Builtin.clear_ #[128] 0 #[vsl a37 n37 c37]) h10 fun v38 h39=>v38=Qe []/\∃ a40 n40 c40,Rd Pg (Instr.sliceAt 128 (vsl u0 u1 u2) none (some (vi x11)) none) h39 (vsl a40 n40 c40)/\R (vsl a40 n40 c40) h39))):Qa Pg 172 [vsl u0 u1 u2,u3] h R:=callC ⟨[],[(5,([5,6],[.one (.int .i64),.one (.int .i64)],[]))],[]⟩ Tryz.func172 [.one (.v (vsl u0 u1 u2)),.one (.v u3)] H
def Ql (r:PR):List Value:=(QdY r).enc
theorem Qp (r:PR):(Ql r).length=5:=rfl
theorem KN (r:PR):∀ u ∈ Ql r,u.oneCell'=true:=QoK _
theorem QgS (R:List PR):∀ u ∈ R.flatMap Ql,u.oneCell'=true:=by
 intro u hu;obtain⟨r,_,hr⟩:=fP.1 hu;exact KN r u hr
structure Tb (h:Hp)(a:OaT)(R:List PR):Prop where
 s:SlP Ql h a R.length R
 i:∀ r ∈ R,Qf h r.a (r.acs.flatMap YP)
theorem Tb.le {h h':Hp}{a:OaT}{R:List PR}(T:Tb h a R)(l:h.le h'):Tb h' a R:=⟨T.s.le l,fun r hr=>(T.i r hr).le l⟩
section
variable {h:Hp}{K':RtT}{a:OaT}{R:List PR}{c:Nat}
theorem JG (S:SlP Ql h a R.length R)(hn:R.length<=1000000)(hK:∀ a' c' h',Qg h h' 150 5 a' R.length c' (R.flatMap Ql)->K' (vsl a' R.length c') h'):Qa Pg 171 [vsl a R.length c] h K':=by
 refine Y9 ?_
 refine⟨_,XS (e:=150) (by kernel_rfl),fun e=>?_,fun e=>?_⟩
 ·have h0:R.flatMap Ql=[]:=by
   rcases S.2 with h1|⟨b,o,ha,_⟩
   ·exact h1
   ·rw [ha] at e;cases e
  have hn0:R=[]:=by have:=congrArg List.length h0;rw [Qi Qp] at this;exact dS (by simp at this;omega)
  subst hn0;exact hK none 0 h (Qg.nil (Hp.le_refl h) _ _)
 ·intro b3 hb3 h4;have O0:Qg h h4 150 5 (some ⟨b3,0,none⟩) 0 0 []:=Qg.mk_new (Hp.le_refl h) hb3 _ [] rfl (by simp [maxLen])
  refine Qg.append QbA O0 (S.le (Hp.le_set (Hp.le_refl h) hb3 _)).2 (Qi Qp R) (QgS R) (by omega) (by omega) fun a' c' h' O' _ _=>⟨_,_,_,rfl,?_⟩
  rw [dY,dC] at *
  exact hK a' c' h' O'
theorem Qg4 {l:List AcS}(S:Qf h a (l.flatMap YP))(hn:l.length<=1000000)(hK:∀ a' c' h',QnU h h' a' c' l->K' (vsl a' l.length c') h'):Qa Pg 217 [vsl a l.length c] h K':=by
 refine Xc ?_
 refine⟨_,XS (e:=155) (by kernel_rfl),fun e=>?_,fun e=>?_⟩
 ·have h0:l.flatMap YP=[]:=by
   rcases S with h1|⟨b,o,ha,_⟩
   ·exact h1
   ·rw [ha] at e;cases e
  have hn0:l=[]:=by have:=congrArg List.length h0;rw [Qi YK] at this;exact dS (by simp at this;omega)
  subst hn0;exact hK none 0 h (Qg.nil (Hp.le_refl h) _ _)
 ·intro b3 hb3 h4;have O0:Qg h h4 155 4 (some ⟨b3,0,none⟩) 0 0 []:=Qg.mk_new (Hp.le_refl h) hb3 _ [] rfl (by simp [maxLen])
  have h1:∀ u ∈ l.flatMap YP,u.oneCell'=true:=by intro u hu;obtain⟨r,_,hr⟩:=fP.1 hu;exact Qkp r u hr
  refine Qg.append QnZ O0 (S.le (Hp.le_set (Hp.le_refl h) hb3 _)) (Qi YK l) h1 (by omega) (by omega) fun a' c' h' O' _ _=>⟨_,_,_,rfl,?_⟩
  rw [dY,dC] at *
  exact hK a' c' h' O'
theorem M0 {fv:Value}{p:PR->Bool}(S:SlP Ql h a R.length R)(hn:R.length<=1000000)(hf:∀ r ∈ R,∀ K2:RtT,K2 (vb (p r)) h->Xl Pg fv [vag (Ql r)] h K2)
  (hy:∀(i:Nat) (r:PR),R[i]?=some r->p r=true->(∀ x ∈ R.take i,p x=false)->K' (vi i) h) (hno:(∀ r ∈ R,p r=false)->K' (vi (-1)) h):Qa Pg 74 [vsl a R.length c,fv] h K':=by
 refine YI ?_
 refine⟨fun vs hh=>hh=h/\∃ i:Nat,vs=[vi i]/\i<=R.length/\∀ r ∈ R.take i,p r=false,fun vs hh=>R.length-(Qm vs 0).toNat,⟨rfl,0,rfl,cH _,by simp⟩,?_⟩
 rintro vs hh ⟨rfl,i,rfl,hi,hz⟩;refine⟨i,rfl,fun e=>?_,fun e=>?_⟩
 ·have hlt:i<R.length:=by have:=bC e;omega
  have hx:R[i]?=some R[i]:=bD hlt
  have tk:R.take (i+1)=R.take i++[R[i]]:=bJ hlt;obtain⟨b,o,ea,hr⟩:=S.get Qp (by decide) hx
  refine⟨b,o,⟨ea,by omega,by omega⟩,_,_,_,_,_,_,_,by rw [bG];exact hr,hf _ (cM hlt) _ ⟨_,rfl,fun e2=>hy i _ hx e2 hz,fun e2=>?_⟩⟩
  refine⟨_,iW,⟨rfl,i+1,rfl,by omega,fun r hr=>?_⟩,by simp [Qm];omega⟩
  rw [tk] at hr;rcases cP.1 hr with h3|h3
  ·exact hz r h3
  ·rw [cB.1 h3];exact e2
 ·have hge:i=R.length:=by have:=bB e;omega
  refine hno ?_
  rw [hge,dR] at hz;exact hz
theorem Qdf {h0:Hp}{x:PR}{i b:Nat}(O:Qg h0 h 150 5 a R.length c (R.flatMap Ql))(hn:R.length<=1000000)(hi:i<=R.length)(hb:h b=some (Qb (Ql x) 150))(hab:a≠some ⟨b,0,none⟩)
  (hK:∀ a' c' h',Qg h0 h' 150 5 a' (R.length+1) c' ((R.take i++x :: R.drop i).flatMap Ql)->K' (vsl a' (R.length+1) c') h'):Qa Pg 216 [vsl a R.length c,vi i,vsl (some ⟨b,0,none⟩) 1 1] h K':=by
 refine YU ?_
 have hT:Pg.underlying 128=some (.slice 150):=by kernel_rfl
 have hI:(Pg.info? 150).isSome=true:=by kernel_rfl
 have hS:(Pg.info? 150).map (·.size)=some 5:=by kernel_rfl
 have hsz:szT Pg 150=5:=by kernel_rfl
 have hcap:=O.own.cap;have hHv:Qf h (some ⟨b,0,none⟩) (Ql x):=.inr ⟨b,0,rfl,Qx hb (by simp)⟩
 have hA:((R.take i).flatMap Ql).length=i*5:=by rw [Qi Qp,bV,dX hi]
 have hD:((R.drop i).flatMap Ql).length=(R.length-i)*5:=by rw [Qi Qp,dO]
 have hAD:R.flatMap Ql=(R.take i).flatMap Ql++(R.drop i).flatMap Ql:=by rw [<-cX,dV]
 have hres:(R.take i++x :: R.drop i).flatMap Ql=(R.take i).flatMap Ql++(Ql x++(R.drop i).flatMap Ql):=by rw [cX,dP]
 rw [hres] at hK;have S:SlP Ql h a R.length R:=⟨rfl,O.row⟩;have rdl:=fun(n c:Nat) (a:OaT) (x:Nat) (hh:Hp) (h1:x<=n)=>YC (P:=Pg) (h:=hh) (t:=128) (e:=150) hT hI (a:=a) (n:=n) (c:=c) (x:=(x:Int)) (by omega) (by omega)
 have rdh:=fun(n c:Nat) (a:OaT) (x:Nat) (hh:Hp) (h1:x<=c)=>XK (P:=Pg) (h:=hh) (t:=128) (e:=150) hT hI (a:=a) (n:=n) (c:=c) (x:=(x:Int)) (by omega) (by omega)
 simp only [bG,hsz] at rdl rdh;have cutG:∀(g x c:Nat),c≠x->MT (some ⟨g,0,none⟩) x c 5=some ⟨g,x*5,none⟩:=by
  intro g x c hne;unfold MT;rw [bE hne];simp only [gJ,Addr.add];split
  ·rename_i h0;simp [h0]
  ·simp
 refine⟨_,_,_,rdl R.length c a i h hi,fun e=>absurd (bC e) (by decide),fun _=>⟨fun e=>?_,fun e=>?_⟩⟩
 ·have hie:i=R.length:=by have:=bC e;omega
  refine Qg.append QbA O (m:=1) hHv rfl (KN x) (by omega) (by omega) fun a' c' h' O' _ _=>⟨_,_,_,rfl,hK a' c' h' ?_⟩
  subst hie;rw [dR,jU];simpa using O'
 ·have hlt:i<R.length:=by have:=bB e;omega
  have hDne:(R.drop i).flatMap Ql≠[]:=by intro e2;rw [e2] at hD;simp at hD;omega
  refine⟨_,iW,_,QqZ hT,fun e2=>?_,fun e2=>?_⟩
  ·have hgt:c<R.length+1:=by have:=bC e2;omega
   refine⟨_,_,_,rdh R.length c a i h (by omega),_,iW,_,iW,?_⟩
   have e3:((R.length:Int)+((1:Nat):Int)-(i:Int))=((R.length+1-i:Nat):Int):=by omega
   rw [e3];have hz:(XV Pg 150).map Qs=some [vi 0,vi 0,vi 0,vsl none 0 0,vb false]:=by kernel_rfl
   refine Qbh QbA (by kernel_rfl) hz (n:=i) (S.take Qp hi).2 hA (m:=R.length+1-i) (by omega) (by omega) (by omega) (by omega) fun a14 c14 h13 O13=>⟨_,_,_,rfl,?_⟩
   have hnn:i+(R.length+1-i)=R.length+1:=by omega
   rw [hnn] at O13 ⊢;have hc14:=O13.own.cap;obtain⟨g,L14,rfl,hg14,_⟩:=O13.blk (by omega) (by decide)
   have hZ:((List.replicate (R.length+1-i) [vi 0,vi 0,vi 0,vsl none 0 0,vb false]).flatten).length=(R.length+1-i)*5:=by rw [jR];simp
   generalize hZe:(List.replicate (R.length+1-i) [vi 0,vi 0,vi 0,vsl none 0 0,vb false]).flatten=Z at O13 hZ;have hga:h g=none:=O13.new g rfl;refine⟨_,_,_,rdl (R.length+1) c14 _ i h13 (by omega),?_⟩
   rw [cutG g i c14 (by omega)]
   refine Qg.copy hT hS O13 rfl (hHv.le O13.le) (by rw [Qp,show Nat.min 1 (R.length+1-i)=1 from dX (by omega)]) (by rw [Qp];omega) (KN x) (by simp [Ql,D.PRow.enc]) fun h17 O17 k17=>⟨_,rfl,_,iW,?_⟩
   have e4:((i:Int)+((1:Nat):Int))=((i+1:Nat):Int):=by omega
   rw [e4];refine⟨_,_,_,rdl (R.length+1) c14 _ (i+1) h17 (by omega),_,_,_,rdl R.length c a i h17 hi,?_⟩
   rw [cutG g (i+1) c14 (by omega)]
   have l17:h.le h17:=O17.le;refine Qg.copy hT hS O17 rfl (((S.drop Qp hi hcap).le l17).2) (by rw [hD];congr 1;simp only [Nat.min_def];split<;>omega) (by rw [hD];omega) (QgS _) hDne fun h23 O23 _=>⟨_,rfl,?_⟩
   refine hK _ _ h23 ?_
   have s1:QJ ((R.take i).flatMap Ql++Z) (i*5) (Ql x)=(R.take i).flatMap Ql++(Ql x++Z.drop 5):=by have:=XN ((R.take i).flatMap Ql) Z 0 (Ql x);rw [gC,hA] at this;rw [this];simp [QJ,Qp]
   have s2:QJ ((R.take i).flatMap Ql++(Ql x++Z.drop 5)) ((i+1)*5) ((R.drop i).flatMap Ql)=(R.take i).flatMap Ql++(Ql x++(R.drop i).flatMap Ql):=by
    have h1:=XN ((R.take i).flatMap Ql) (Ql x++Z.drop 5) 5 ((R.drop i).flatMap Ql);have h2:=XN (Ql x) (Z.drop 5) 0 ((R.drop i).flatMap Ql);rw [gC,Qp] at h2;rw [hA,show i*5+5=(i+1)*5 by omega] at h1
    rw [h1,h2];congr 2
    unfold QJ;have h3:(Z.drop 5).drop (0+((R.drop i).flatMap Ql).length)=[]:=fQ (by rw [dO,hZ,hD];omega)
    rw [kA,dC,h3,d8]
   rw [s1,s2] at O23;exact O23.trans O.le
  ·have hle:R.length+1<=c:=by have:=bB e2;omega
   obtain⟨Y,hY,O1⟩:=Qg.grow O (m:=R.length+1) (by omega) hle
   obtain⟨g,L0,ha,hg,hL0⟩:=O.blk (by omega) (by decide)
   subst ha;have e3:((R.length:Int)+((1:Nat):Int))=((R.length+1:Nat):Int):=by omega
   have e4:((i:Int)+((1:Nat):Int))=((i+1:Nat):Int):=by omega
   have hbg:b≠g:=fun e=>hab (by rw [e])
   refine⟨_,iW,?_⟩
   rw [e3];refine⟨_,_,_,rdh R.length c _ (R.length+1) h hle,_,iW,?_⟩
   rw [e4];refine⟨_,_,_,rdl (R.length+1) c _ (i+1) h (by omega),?_⟩
   rw [cutG g (i+1) c (by omega)]
   refine QgN (tR:=4) Tryz.func252 (by kernel_rfl) (by kernel_rfl) (by kernel_rfl) (by kernel_rfl) hT hI hbg hb hg hL0 ⟨_,rfl,fun _=>?_,fun e=>absurd e (by decide)⟩
   refine⟨_,iW,?_⟩
   refine⟨_,_,_,rdl (R.length+1) c _ (i+1) h (by omega),_,_,_,rdl (R.length+1) c _ i h (by omega),?_⟩
   rw [cutG g (i+1) c (by omega),cutG g i c (by omega)]
   have hsrc:=(S.drop Qp hi hcap).2;rw [cutG g i c (by omega)] at hsrc
   refine Qg.copy hT hS O1 rfl hsrc (by rw [hD];congr 1;simp only [Nat.min_def];split<;>omega) (by rw [hD];omega) (QgS _) hDne fun h37 O37 k37=>⟨_,rfl,?_⟩
   refine⟨_,_,_,rdl (R.length+1) c _ i h37 (by omega),?_⟩
   rw [cutG g i c (by omega)]
   have hHv37:Qf h37 (some ⟨b,0,none⟩) (Ql x):=.inr ⟨b,0,rfl,Qx (k37 b _ hbg hb) (by simp)⟩
   refine Qg.copy hT hS O37 rfl hHv37 (by rw [Qp,show Nat.min 1 (R.length+1-i)=1 from dX (by omega)]) (by rw [Qp];omega) (KN x) (by simp [Ql,D.PRow.enc]) fun h41 O41 _=>⟨_,rfl,?_⟩
   refine hK _ _ h41 ?_
   have hY5:Y.length=5:=by rw [hY];omega
   have s1:QJ (R.flatMap Ql++Y) ((i+1)*5) ((R.drop i).flatMap Ql)=(R.take i).flatMap Ql++(((R.drop i).flatMap Ql++Y).take 5++(R.drop i).flatMap Ql):=by
    have h1:=XN ((R.take i).flatMap Ql) ((R.drop i).flatMap Ql++Y) 5 ((R.drop i).flatMap Ql);rw [hA,show i*5+5=(i+1)*5 by omega,<-cG,<-hAD] at h1
    rw [h1];congr 1
    unfold QJ;have h3:((R.drop i).flatMap Ql++Y).drop (5+((R.drop i).flatMap Ql).length)=[]:=fQ (by rw [bO,hY5];omega)
    rw [h3,d8]
   have s2:QJ ((R.take i).flatMap Ql++(((R.drop i).flatMap Ql++Y).take 5++(R.drop i).flatMap Ql)) (i*5) (Ql x)=(R.take i).flatMap Ql++(Ql x++(R.drop i).flatMap Ql):=by
    have h1:=XN ((R.take i).flatMap Ql) (((R.drop i).flatMap Ql++Y).take 5++(R.drop i).flatMap Ql) 0 (Ql x);rw [gC,hA] at h1;rw [h1];congr 1
    unfold QJ;have h5:(((R.drop i).flatMap Ql++Y).take 5).length=5:=by rw [bV,bO,hY5];omega
    rw [kA,dC,dY,Qp,pY h5]
   rw [s1,s2] at O41;exact O41
end
theorem QbU {h:Hp}{b i:Nat}{xs:List Value}{t:TypeId}{v:Value}(hv:xs[i]?=some v):Hp.cell (h.set b (Qb xs t)) b i=some v:=by
 unfold Hp.cell;rw [Hp.set_same];simpa using hv
def Qjx (a k:PK):Int:=if Nv a.1 k.1≠0 then Nv a.1 k.1 else QmK a.2 k.2
theorem QkT (a k:PK):Qjx a k<0↔Qr a k:=by
 unfold Qjx Qr QmK Nv;repeat' split
 all_goals omega
theorem QpH (a k:PK):Qjx a k=0↔a=k:=by
 obtain⟨a1,a2,a3⟩:=a;obtain⟨k1,k2,k3⟩:=k;rw [fM,fM];unfold Qjx QmK Nv;simp only;repeat' split
 all_goals omega
section
variable {h:Hp}{K':RtT}{a:OaT}{R:List PR}{c:Nat}
theorem QoU {r:PR}{k:PK}{b:Nat}(h1:h.cell b 0=some (vi k.1))(hK:∀ h',h.le h'->K' (vi (Qjx r.k k)) h'):Qa Pg 251 [vag (Ql r),vag (Qq k.2),vhp b 0] h K':=by
 refine Ve ?_
 refine⟨_,h1,K1 ⟨_,rfl,Qbm fun h6 l6=>⟨_,rfl,?_⟩⟩⟩
 intro b8 hb8 h9;refine QeJ (x:=Nv r.k.1 k.1) (y:=QmK r.k.2 k.2) ⟨rfl,Qf.new _ _ [vi (Nv r.k.1 k.1),vi (QmK r.k.2 k.2)] _⟩ ⟨_,rfl,?_⟩
 exact hK _ (Hp.le_trans l6 (Hp.le_set (Hp.le_refl h6) hb8 _))
theorem Qeh {k:PK}{b:Nat}(S:SlP Ql h a R.length R)(hn:R.length<=1000000)(hs:(R.map (·.k)).Pairwise Qr)(h1:h.cell b 0=some (vi k.1))
  (hK:∀(i:Nat) (is:Bool) (h':Hp),h.le h'->i<=R.length->(∀ x ∈ R.take i,Qr x.k k)->(∀ x,R[i]?=some x->¬ Qr x.k k)->(is=true↔∃ x,R[i]?=some x/\x.k=k)->K' (Qe [vi i,vb is]) h') :
  Qa Pg 250 [vsl a R.length c,vag (Qq k.2),Value.func (.func 251) #[] #[vhp b 0]] h K':=by
 refine Zv ?_
 have inv:∀(r:PR) (hh:Hp) (K2:RtT),h.le hh->(∀ h',hh.le h'->K2 (vi (Qjx r.k k)) h')->Xl Pg (Value.func (.func 251) #[] #[vhp b 0]) [vag (Ql r),vag (Qq k.2)] hh K2:=by intro r hh K2 l hk;exact⟨251,#[],#[vhp b 0],rfl,⟨_,Tryz.func251,by kernel_rfl,rfl⟩,QoU (Hp.cell_le l h1) hk⟩
 have mono:∀{i j:Nat} {x y:PR},i<j->R[i]?=some x->R[j]?=some y->Qr x.k y.k:=by
  intro i j x y hij hx hy;obtain⟨hi,ex⟩:=bI.1 hx
  obtain⟨hj,ey⟩:=bI.1 hy
  have:=f6.1 hs i j (by simpa using hi) (by simpa using hj) hij
  simpa [ex,ey] using this
 refine⟨fun vs hh=>∃ i j:Nat,vs=[vi i,vi j]/\i<=j/\j<=R.length/\h.le hh/\(∀ m x,m<i->R[m]?=some x->Qr x.k k)/\(∀ m x,j<=m->R[m]?=some x->¬ Qr x.k k),fun vs hh=>(Qm vs 1-Qm vs 0).toNat,⟨0,R.length,rfl,cH _,cJ _,Hp.le_refl h,fun m x hm _=>absurd hm (pR _),fun m x hm hx=>absurd (bI.1 hx).1 (by omega)⟩,?_⟩
 rintro vs hh ⟨i,j,rfl,hij,hj,lh,hlo,hhi⟩;refine⟨i,j,rfl,fun e=>?_,fun e=>?_⟩
 ·have hlt:i<j:=by have:=bC e;omega
  have hw:IntKind.wrap .u64 ((i:Int)+(j:Int))=((i+j:Nat):Int):=by rw [IntKind.wrap_u64];omega
  refine⟨(i:Int)+(j:Int),iW,((i+j:Nat):Int) / 2 ^ 1,?_,?_⟩
  ·rw [hw];exact QpA (j:=1) (by decide) (by omega)
  have hm:IntKind.wrap .i64 (((i+j:Nat):Int) / 2 ^ 1)=(((i+j) / 2:Nat):Int):=by rw [IntKind.wrap_i64];omega
  rw [hm];have hm1:i<=(i+j) / 2:=by omega
  have hm2:(i+j) / 2<j:=by omega
  generalize (i+j) / 2=m at hm1 hm2;have hx:R[m]?=some (R[m]'(by omega)):=bD (by omega)
  obtain⟨b2,o2,ea,hr⟩:=(S.le lh).get Qp (by decide) hx
  generalize R[m]'(by omega)=r at hx hr
  refine⟨b2,o2,⟨ea,by omega,by omega⟩,_,_,_,_,_,_,_,by rw [bG];exact hr,inv r hh _ lh fun h20 l20=>⟨_,rfl,fun e2=>?_,fun e2=>?_⟩⟩
  ·have hah:=(QkT r.k k).1 (bC e2);refine⟨_,iW,⟨m+1,j,by simp,by omega,hj,Hp.le_trans lh l20,fun m' x hm' hx'=>?_,hhi⟩,by simp [Qm];omega⟩
   rcases g8 m' m with h5|h5
   ·exact Kv (mono h5 hx' hx) hah
   ·have:m'=m:=by omega
    subst this;rw [hx] at hx';cases hx';exact hah
  ·have hna:¬ Qr r.k k:=fun q=>bB e2 ((QkT r.k k).2 q)
   refine⟨⟨i,m,rfl,hm1,by omega,Hp.le_trans lh l20,hlo,fun m' x hm' hx'=>?_⟩,by simp [Qm];omega⟩
   rcases Nat.eq_or_lt_of_le hm' with h5|h5
   ·subst h5;rw [hx] at hx';cases hx';exact hna
   ·intro q;exact hna (Kv (mono h5 hx hx') q)
 ·have hge:i=j:=by have:=bB e;omega
  subst hge;have hlo':∀ x ∈ R.take i,Qr x.k k:=by
   intro x hx;obtain⟨m,hm⟩:=gX hx
   have hml:m<i:=by
    have:=(bI.1 hm).1
    rw [bV] at this;omega
   rw [gH,bH hml] at hm
   exact hlo m x hml hm
  by_cases hlt:i<R.length
  ·have hd:decide (((i:Nat):Int)<((R.length:Nat):Int))=true:=cC (by omega)
   have hx:R[i]?=some R[i]:=bD hlt
   obtain⟨b2,o2,ea,hr⟩:=(S.le lh).get Qp (by decide) hx
   generalize R[i]=r at hx hr;refine⟨b2,o2,fun _=>⟨ea,by omega,by omega⟩,_,_,_,_,_,_,_,fun _=>by rw [bG];exact hr,?_⟩
   refine⟨fun x hh'=>hh.le hh'/\x=.t (.one (.v (vi (Qjx r.k k)))),fun _=>inv r hh _ lh fun h' l'=>⟨_,rfl,l',rfl⟩,fun q=>absurd hd q,?_⟩
   rintro h34 x35 ⟨l34,e35⟩;cases e35;rw [hd];refine hK i _ h34 (Hp.le_trans lh l34) hj hlo' (fun x hx'=>hhi i x (cJ _) hx') ?_
   show decide (Qjx r.k k=0)=true↔_;rw [decide_eq_true_iff,QpH];constructor
   ·intro q;exact⟨r,hx,q⟩
   ·rintro⟨x,hx',q⟩;rw [hx] at hx';cases hx';exact q
  ·have hd:decide (((i:Nat):Int)<((R.length:Nat):Int))=false:=cE (by omega)
   refine⟨0,0,fun q=>(by rw [hd] at q;cases q),0,0,0,none,0,0,false,fun q=>(by rw [hd] at q;cases q),?_⟩
   refine⟨fun x hh'=>hh'=hh,fun q=>(by rw [hd] at q;cases q),fun _=>rfl,?_⟩
   rintro h34 x35 rfl;rw [hd];refine hK i _ h34 lh hj hlo' (fun x hx'=>hhi i x (cJ _) hx') ?_
   constructor
   ·intro q;cases q
   ·rintro⟨x,hx',q⟩;exact absurd (bI.1 hx').1 hlt
theorem Qfn {k:PK}(S:SlP Ql h a R.length R)(hn:R.length<=1000000)(hs:(R.map (·.k)).Pairwise Qr)
  (hK:∀(i:Nat) (is:Bool) (h':Hp),h.le h'->i<=R.length->(∀ x ∈ R.take i,Qr x.k k)->(∀ x,R[i]?=some x->¬ Qr x.k k)->(is=true↔∃ x,R[i]?=some x/\x.k=k)->K' (Qe [vi i,vb is]) h') :
  Qa Pg 215 [vag [vsl a R.length c],vi k.1,vag (Qq k.2)] h K':=by
 refine Mw ?_
 intro b1 hb1 h2;have l2:h.le h2:=Hp.le_set (Hp.le_refl h) hb1 _;refine Qeh (S.le l2) hn hs (QbU rfl) fun i is h' l' q1 q2 q3 q4=>⟨_,_,rfl,hK i is h' (Hp.le_trans l2 l') q1 q2 q3 q4⟩
theorem QdD {h0:Hp}{fv:Value}{p:PR->Bool}(O:Qg h0 h 150 5 a R.length c (R.flatMap Ql))(hn:R.length<=1000000)(hf:∀(hh:Hp) (r:PR),h0.le hh->∀ K2:RtT,r ∈ R->K2 (vb (p r)) hh->Xl Pg fv [vag (Ql r)] hh K2)
  (hK:∀ h',h0.le h'->SlP Ql h' a (R.filter fun r=>!p r).length (R.filter fun r=>!p r)->K' (vsl a (R.filter fun r=>!p r).length c) h'):Qa Pg 172 [vsl a R.length c,fv] h K':=by
 refine YD ?_
 have S:SlP Ql h a R.length R:=⟨rfl,O.row⟩;have hT:Pg.underlying 128=some (.slice 150):=by kernel_rfl
 have hI:(Pg.info? 150).isSome=true:=by kernel_rfl
 have hsz:szT Pg 150=5:=by kernel_rfl
 have hcap:=O.own.cap;refine M0 (p:=p) S hn (fun r hr K2 hk=>hf h r O.le K2 hr hk) (fun i0 r0 hr0 hp0 hz=>⟨_,rfl,fun e=>absurd (bC e) (by omega),fun _=>?_⟩) (fun hno=>⟨_,rfl,fun _=>?_,fun e=>absurd rfl (bB e)⟩)
 ·have hi0:=(bI.1 hr0).1
  have tk0:R.take (i0+1)=R.take i0++[r0]:=by rw [bJ hi0,(bI.1 hr0).2]
  have f0:(R.take (i0+1)).filter (fun r=>!p r)=R.take i0:=by rw [tk0,gT,dZ,hp0];simp only [mW,jE,jS,mG,d8];rw [List.filter_eq_self];intro x hx;rw [hz x hx];rfl
  refine⟨_,iW,?_⟩
  refine⟨fun vs hh=>∃(j:Nat) (Q:List PR),vs=[vi ((R.take j).filter fun r=>!p r).length,vi j]/\i0<j/\j<=R.length/\Q.length=R.length/\Qg h0 hh 150 5 a R.length c (Q.flatMap Ql)/\Q.take ((R.take j).filter fun r=>!p r).length=(R.take j).filter (fun r=>!p r)/\Q.drop j=R.drop j,fun vs hh=>R.length-(Qm vs 1).toNat,⟨i0+1,R,?_,by omega,hi0,rfl,O,?_,rfl⟩,?_⟩
  ·rw [f0,bV,dX (by omega)];simp
  ·rw [f0,bV,dX (by omega)]
  rintro vs hh ⟨j,Q,rfl,hij,hj,hQ,OQ,hQ1,hQ2⟩;have hle:((R.take j).filter fun r=>!p r).length<j:=by
   have h1:R.take j=R.take (i0+1)++(R.take j).drop (i0+1):=by
    have:=(dV (i0+1) (R.take j)).symm;rw [jI,dX (by omega)] at this
    exact this
   rw [h1,gT,f0,bO,bV];have:=jJ (fun r=>!p r) ((R.take j).drop (i0+1))
   rw [dO,bV] at this;omega
  have SQ:SlP Ql hh a R.length Q:=⟨hQ.symm,OQ.row⟩;refine⟨_,_,rfl,fun e=>?_,fun e=>?_⟩
  ·have hlt:j<R.length:=by have:=bC e;omega
   have hx:R[j]?=some R[j]:=bD hlt
   have hxQ:Q[j]?=some R[j]:=by
    have:=congrArg (fun l=>l[0]?) hQ2
    simpa [fK,hx] using this
   have tk:R.take (j+1)=R.take j++[R[j]]:=bJ hlt;have hmem:=cM hlt;obtain⟨b,o,ea,hr⟩:=SQ.get Qp (by decide) hxQ
   generalize R[j]=r at *
   have tkf:(R.take (j+1)).filter (fun r=>!p r)=(R.take j).filter (fun r=>!p r)++if p r then [] else [r]:=by rw [tk,gT,dZ,mG];cases p r<;>rfl
   generalize hkept:(R.take j).filter (fun r=>!p r)=kept at *
   intro J31;have hJ:∀(Q2:List PR) (h2:Hp),Q2.length=R.length->Qg h0 h2 150 5 a R.length c (Q2.flatMap Ql)->Q2.take ((R.take (j+1)).filter fun r=>!p r).length=(R.take (j+1)).filter (fun r=>!p r)->Q2.drop (j+1)=R.drop (j+1)->J31 (((R.take (j+1)).filter fun r=>!p r).length:Nat) h2:=by
    intro Q2 h2 q1 q2 q3 q4;exact⟨_,iW,⟨j+1,Q2,by simp,by omega,by omega,q1,q2,q3,q4⟩,by simp [Qm];omega⟩
   clear_value J31;have hd1:Q.drop (j+1)=R.drop (j+1):=by
    have:=congrArg (List.drop 1) hQ2;rw [gZ,gZ] at this;exact this
   refine⟨b,o,⟨ea,by omega,by omega⟩,_,_,_,_,_,_,_,by rw [bG];exact hr,hf hh r OQ.le _ hmem ⟨_,rfl,fun e2=>?_,fun e2=>?_⟩⟩
   ·have hp:p r=false:=by simpa using e2
    rw [hp] at tkf;simp only [jE,jS] at tkf;have hki:kept.length<Q.length:=by omega
    have hkx:Q[kept.length]?=some Q[kept.length]:=bD hki
    obtain⟨b2,o2,ea2,H2⟩:=Vec.putF (α:=PR) (enc:=Ql) (sz:=5) (T:=150) (h0:=h0) (h:=hh) (a:=a) (c:=c) (l:=Q) Qp (by unfold Vec;rw [hQ];exact OQ) hkx (x':=r) (k:=0) (vs:=Ql r) (by simp [Ql,D.PRow.enc]) (by simp [Qp]) (by simp [QJ,Qp,gL])
    refine⟨b2,o2,⟨ea2,by omega,by omega⟩,?_⟩
    rw [bG];refine H2 _ fun h27 V27 _=>⟨_,iW,?_⟩
    have e5:((kept.length:Int)+1)=((((R.take (j+1)).filter fun r=>!p r).length:Nat):Int):=by rw [tkf];simp
    rw [e5];unfold Vec at V27;rw [dG,hQ] at V27;refine hJ _ h27 (by rw [dG];exact hQ) V27 ?_ ?_
    ·rw [tkf,bO,fG,bJ (by rw [dG];exact hki),j0,mJ (cJ _),hQ1]
    ·rw [List.drop_set_of_lt (by omega),hd1]
   ·have hp:p r=true:=by simpa using e2
    rw [hp] at tkf;simp only [pM,d8] at tkf;have:=hJ Q hh hQ OQ (by rw [tkf];exact hQ1) hd1
    rw [tkf] at this;exact this
  ·have hge:j=R.length:=by have:=bB e;omega
   subst hge;rw [dR] at hQ1 hle ⊢;generalize hkept:R.filter (fun r=>!p r)=kept at *
   have rdl:=YC (P:=Pg) (h:=hh) (t:=128) (e:=150) hT hI (a:=a) (n:=R.length) (c:=c) (x:=(kept.length:Int)) (by omega) (by omega)
   rw [bG,hsz] at rdl;refine⟨_,_,_,rdl,?_⟩
   obtain⟨g,L,rfl,hg,_⟩:=OQ.blk (by omega) (by decide)
   have hcut:MT (some ⟨g,0,none⟩) kept.length c 5=some ⟨g,kept.length*5,none⟩:=by
    unfold MT;rw [bE (by omega)]
    simp only [gJ,Addr.add];split
    ·rename_i h0';simp [h0']
    ·simp
   rw [hcut];have hz:(XV Pg 150).map Qs=some [vi 0,vi 0,vi 0,vsl none 0 0,vb false]:=by kernel_rfl
   refine Qg.clear QbA hz (by intro u hu;simp at hu;rcases hu with rfl|rfl|rfl|rfl|rfl<;>rfl) rfl OQ rfl (by omega) (by omega) fun h39 O39=>⟨rfl,?_⟩
   have rdh:=XK (P:=Pg) (h:=h39) (t:=128) (e:=150) hT hI (a:=some ⟨g,0,none⟩) (n:=R.length) (c:=c) (x:=(kept.length:Int)) (by omega) (by omega)
   rw [bG] at rdh;refine⟨_,_,_,rdh,hK h39 O39.le ⟨rfl,?_⟩⟩
   have:=O39.own.cut (m:=kept.length) (by omega)
   have e6:(QJ (Q.flatMap Ql) (kept.length*5) ((List.replicate (R.length-kept.length) [vi 0,vi 0,vi 0,vsl none 0 0,vb false]).flatten)).take (kept.length*5)=kept.flatMap Ql:=by
    have hl1:((Q.flatMap Ql).take (kept.length*5)).length=kept.length*5:=by rw [bV,Qi Qp];omega
    unfold QJ;rw [cG,gP (by rw [hl1];exact cJ _),cQ (by rw [hl1];exact cJ _)]
    have h7:(Q.take kept.length).flatMap Ql=(Q.flatMap Ql).take (kept.length*5):=by
     have h8:Q.flatMap Ql=(Q.take kept.length).flatMap Ql++(Q.drop kept.length).flatMap Ql:=by rw [<-cX,dV]
     rw [h8,jM (by rw [Qi Qp,bV];omega)]
    rw [<-h7,hQ1]
   rw [e6] at this;exact this.row
 ·have e:R.filter (fun r=>!p r)=R:=by rw [List.filter_eq_self];intro x hx;rw [hno x hx];rfl
  rw [e] at hK;exact hK h O.le S
theorem QfM {size upto:Int}(T:Tb h a R)(hn:R.length<=1000000)(hb:∀ r ∈ R,InR (r.k.1+size))
  (hK:∀ a' c' h',h.le h'->Tb h' a' (R.filter fun r=>!decide (r.k.1+size<=upto))->K' (vag [vsl a' (R.filter fun r=>!decide (r.k.1+size<=upto)).length c']) h'):Qa Pg 114 [vag [vsl a R.length c],vi size,vi upto] h K':=by
 refine MF ?_
 intro b1 hb1 h2 b3 hb3 h4;have l2:h.le h2:=Hp.le_set (Hp.le_refl h) hb1 _;have l4:h2.le h4:=Hp.le_set (Hp.le_refl h2) hb3 _;have c1:h4.cell b1 0=some (vi size):=Hp.cell_le l4 (QbU rfl);have c3:h4.cell b3 0=some (vi upto):=QbU rfl;clear_value h4;clear_value h2;have l04:=Hp.le_trans l2 l4;refine JG (T.le l04).s hn fun a' c' h6 O6=>⟨_,_,_,rfl,?_⟩
 refine QdD (p:=fun r=>decide (r.k.1+size<=upto)) O6 hn (fun hh r lh K2 hr hk=>?_) fun h9 l9 S9=>⟨_,_,_,rfl,hK _ _ h9 (Hp.le_trans l04 l9) ⟨S9,fun r hr=>(T.i r (jX.1 hr).1).le (Hp.le_trans l04 l9)⟩⟩
 refine⟨173,#[],#[vhp b1 0,vhp b3 0],rfl,⟨_,Tryz.func173,by kernel_rfl,rfl⟩,?_⟩
 refine Vk ?_
 exact⟨_,Hp.cell_le lh c1,_,isW (hb r hr),_,Hp.cell_le lh c3,hk⟩
end
def QjA (size upto:Int)(r:PR):Bool:=decide (r.k.1+size<=upto)
def ZB (size upto:Int)(r:PR):PR:={ r with t:=r.t||QjA size upto r }
def Yp (size upto:Int)(r:PR):Bool:=!r.t&&QjA size upto r
def Zg (r:PR):PR:={ r with t:=true }
section
variable {h:Hp}{K':RtT}{a:OaT}{R:List PR}{c:Nat}
theorem Qg.apart {h0 h h':Hp}{e:TypeId}{sz n c:Nat}{a:OaT}{xs:List Value}(O:Qg h0 h e sz a n c xs)(l:h0.le h')(hk:∀ b o,a=some ⟨b,0,none⟩->h b=some o->h' b=some o):Qg h0 h' e sz a n c xs:=
 ⟨l,O.own.keep fun g o hg ho=>hk g o hg ho,O.new⟩
theorem Qg.self {h0 h:Hp}{e:TypeId}{sz n c:Nat}{a:OaT}{xs:List Value}(O:Qg h0 h e sz a n c xs):∃ hB:Hp,h0.le hB/\Qg hB h e sz a n c xs/\∀ b o,a≠some ⟨b,0,none⟩->h b=some o->hB b=some o:=by
 have e1:∀ b,a=some ⟨b,0,none⟩->(fun b=>if a=some ⟨b,0,none⟩ then none else h b:Hp) b=none:=fun b hb=>bH hb
 have e2:∀ b,¬ a=some ⟨b,0,none⟩->(fun b=>if a=some ⟨b,0,none⟩ then none else h b:Hp) b=h b:=fun b hb=>bE hb
 generalize (fun b=>if a=some ⟨b,0,none⟩ then none else h b:Hp)=hB at e1 e2
 refine⟨hB,fun b o ho=>?_,⟨fun b o ho=>?_,O.own,e1⟩,fun b o hn ho=>(e2 b hn).trans ho⟩
 ·have:¬ a=some ⟨b,0,none⟩:=fun q=>by rw [O.new b q] at ho;cases ho
  exact(e2 b this).trans (O.le b o ho)
 ·by_cases hq:a=some ⟨b,0,none⟩
  ·rw [e1 b hq] at ho;cases ho
  ·rw [e2 b hq] at ho;exact ho
theorem Qf.over {h h':Hp}{a:OaT}{xs:List Value}(H:Qf h a xs)(hk:∀ b o ob,a=some ⟨b,o,none⟩->h b=some ob->h' b=some ob):Qf h' a xs:=by
 rcases H with q|⟨b,o,q,hrw⟩
 ·exact .inl q
 ·refine .inr ⟨b,o,q,?_⟩
  unfold Hp.row at hrw ⊢;cases hq:h b with
  | none=>rw [hq] at hrw;cases hrw
  | some ob=>rw [hk b o ob q hq];rw [hq] at hrw;exact hrw
theorem QfJ {size upto:Int}(T:Tb h a R)(hn:R.length<=1000000)(hb:∀ r ∈ R,InR (r.k.1+size))
  (hK:∀ a' c' a2 c2 h',h.le h'->Tb h' a' (R.map (ZB size upto))->Tb h' a2 ((R.filter (Yp size upto)).map Zg)->K' (Qe [vag [vsl a' R.length c'],vsl a2 ((R.filter (Yp size upto)).map Zg).length c2]) h'):Qa Pg 113 [vag [vsl a R.length c],vi size,vi upto] h K':=by
 refine MS ?_
 refine JG T.s hn fun a3 c3 h2 O2=>⟨_,_,_,rfl,?_⟩
 refine⟨fun vs hh=>∃(i:Nat) (a9:OaT) (c9:Nat),vs=[vsl a9 (((R.take i).filter (Yp size upto)).map Zg).length c9,vi i]/\i<=R.length/\Qg h hh 150 5 a3 R.length c3 (((R.take i).map (ZB size upto)++R.drop i).flatMap Ql)/\Qg h hh 150 5 a9 (((R.take i).filter (Yp size upto)).map Zg).length c9 ((((R.take i).filter (Yp size upto)).map Zg).flatMap Ql)/\∀ g,a9=some ⟨g,0,none⟩->a3≠some ⟨g,0,none⟩,fun vs hh=>R.length-(Qm vs 1).toNat,⟨0,none,0,rfl,cH _,by simpa using O2,Qg.nil O2.le _ _,fun g hg=>by cases hg⟩,?_⟩
 rintro vs hh ⟨i,a9,c9,rfl,hi,OA,OB,hap⟩;refine⟨a9,_,c9,_,rfl,fun e=>?_,fun e=>?_⟩
 ·have hlt:i<R.length:=by have:=bC e;omega
  have hx:R[i]?=some R[i]:=bD hlt
  have tk:R.take (i+1)=R.take i++[R[i]]:=bJ hlt;have dr:R.drop i=R[i] :: R.drop (i+1):=dM hlt;have hbr:=hb _ (cM hlt);generalize R[i]=r at *
  have htl:((R.take i).map (ZB size upto)).length=i:=by rw [bU,bV];omega
  have hll:((R.take i).map (ZB size upto)++R.drop i).length=R.length:=by rw [bO,htl,dO];omega
  have hxi:((R.take i).map (ZB size upto)++R.drop i)[i]?=some r:=by rw [dA (by omega),htl,fT,dr];rfl
  have hnl:(((R.take i).filter (Yp size upto)).map Zg).length<=i:=by rw [bU];have:=jJ (Yp size upto) (R.take i);rw [bV] at this;omega
  have V:Vec Ql 5 150 h hh a3 c3 ((R.take i).map (ZB size upto)++R.drop i):=by unfold Vec;rw [hll];exact OA
  obtain⟨b,o,ea,hr⟩:=(V.slp Qp (by decide)).get Qp (by decide) hxi
  intro J38;have hJ:∀(a9:OaT) (c9:Nat) (h2:Hp),Qg h h2 150 5 a3 R.length c3 (((R.take (i+1)).map (ZB size upto)++R.drop (i+1)).flatMap Ql)->Qg h h2 150 5 a9 (((R.take (i+1)).filter (Yp size upto)).map Zg).length c9 ((((R.take (i+1)).filter (Yp size upto)).map Zg).flatMap Ql)->(∀ g,a9=some ⟨g,0,none⟩->a3≠some ⟨g,0,none⟩)->J38 a9 (((R.take (i+1)).filter (Yp size upto)).map Zg).length c9 h2:=by
   intro a9 c9 h2 q1 q2 q3;exact⟨_,iW,⟨i+1,a9,c9,by simp,by omega,q1,q2,q3⟩,by simp [Qm];omega⟩
  clear_value J38;have ecnd:(bif (!r.t) then(decide ((r.k.1+size:Int)<=upto)) else false)=Yp size upto r:=by unfold Yp QjA;cases r.t<;>rfl
  refine⟨b,o,⟨ea,by omega,by omega⟩,_,_,_,_,_,_,r.t,by rw [bG];exact hr,_,fun _=>isW hbr,?_⟩
  show ((bif (!r.t) then(decide ((r.k.1+size:Int)<=upto)) else false)=true->_)/\((bif (!r.t) then(decide ((r.k.1+size:Int)<=upto)) else false)=false->_);rw [ecnd];have tkf:((R.take (i+1)).filter (Yp size upto)).map Zg=((R.take i).filter (Yp size upto)).map Zg++if Yp size upto r=true then [Zg r] else []:=by
   rw [tk,gT,cD,dZ,mG];split<;>rfl
  have tkm:(R.take (i+1)).map (ZB size upto)=(R.take i).map (ZB size upto)++[ZB size upto r]:=by rw [tk,cD];rfl
  refine⟨fun e2=>?_,fun e2=>?_⟩
  ·rw [bH e2] at tkf;have etell:ZB size upto r=Zg r:=by
    unfold Yp at e2;unfold ZB Zg;cases ht:r.t<;>simp_all
   obtain⟨b2,o2,ea2,H2⟩:=V.putF Qp hxi (x':=Zg r) (k:=4) (vs:=[vb true]) (by simp) (by simp) (by simp [QJ,Ql,QdY,D.PRow.enc,Zg])
   have hset:((R.take i).map (ZB size upto)++R.drop i).set i (Zg r)=(R.take (i+1)).map (ZB size upto)++R.drop (i+1):=by rw [gF _ _ (by omega),htl,fT,dr,cZ,tkm,etell,cG];rfl
   refine⟨b2,o2,⟨ea2,by omega,by omega⟩,?_⟩
   rw [bG];refine H2 _ fun h23 V23 B23=>?_
   rw [hset] at V23;have hll2:((R.take (i+1)).map (ZB size upto)++R.drop (i+1)).length=R.length:=by rw [<-hset,dG,hll]
   have hxi2:((R.take (i+1)).map (ZB size upto)++R.drop (i+1))[i]?=some (Zg r):=by rw [<-hset,fC (by rw [hll];exact hlt)]
   obtain⟨b3,o3,ea3,hr3⟩:=(V23.slp Qp (by decide)).get Qp (by decide) hxi2
   have OB23:Qg h h23 150 5 a9 (((R.take i).filter (Yp size upto)).map Zg).length c9 ((((R.take i).filter (Yp size upto)).map Zg).flatMap Ql):=Qg.apart OB V23.le0 fun g o hg ho=>B23.keep g o ho (hap g hg)
   refine⟨b3,o3,⟨ea3,by omega,by omega⟩,_,_,_,_,_,_,_,hr3,?_⟩
   intro b31 hb31 h32;have V32:=V23.keep0 (Hp.le_set (Hp.le_refl h23) hb31 (Qb (Ql (Zg r)) 150));refine Qg.append QbA (Qg.set hb31 _ OB23) (Qf.new _ _ (Ql (Zg r)) _) (m:=1) rfl (KN _) (by omega) (by omega) fun a35 c35 h34 O34 k1 k2=>⟨_,_,_,rfl,?_⟩
   have hal:∀ g,a3=some ⟨g,0,none⟩->∃ ob,h23.set b31 (Qb (Ql (Zg r)) 150) g=some ob:=by
    intro g hg;have:=(Uz.fp _ _ _ _ _ _).al V32.ownF g hg;cases hq:h23.set b31 (Qb (Ql (Zg r)) 150) g with
    | none=>exact absurd hq this
    | some ob=>exact⟨ob,rfl⟩
   have:=hJ a35 c35 h34 ?_ ?_ ?_
   ·rw [tkf,bO] at this;exact this
   ·have V34:Vec Ql 5 150 h h34 a3 c3 ((R.take (i+1)).map (ZB size upto)++R.drop (i+1)):=Qg.apart V32 O34.le fun g o hg ho=>k1 g o ho fun q=>hap g q hg
    unfold Vec at V34;rw [hll2] at V34;exact V34
   ·rw [tkf,bO,cX,dW];exact O34
   ·intro g hg hg3;rcases k2 g hg with q|q
    ·exact hap g (q.trans hg) hg3
    ·obtain⟨ob,hob⟩:=hal g hg3;rw [hob] at q;cases q
  ·rw [bE (by rw [e2];decide),d8] at tkf
   have etell:ZB size upto r=r:=by unfold Yp at e2;unfold ZB;obtain⟨k,ra,rc,acs,t⟩:=r;cases t<;>simp_all
   have:=hJ a9 c9 hh ?_ ?_ hap
   ·rw [tkf] at this;exact this
   ·rw [tkm,etell,cG];rw [dr] at OA;exact OA
   ·rw [tkf];exact OB
 ·have hge:i=R.length:=by have:=bB e;omega
  subst hge;rw [dR,jU,d8] at OA;rw [dR] at OB ⊢;refine hK a3 c3 a9 c9 hh OA.le ⟨⟨rfl,by exact OA.row⟩,fun r hr=>?_⟩ ⟨⟨rfl,OB.row⟩,fun r hr=>?_⟩
  ·obtain⟨r0,h0,rfl⟩:=dI.1 hr;exact(T.i r0 h0).le OA.le
  ·obtain⟨r0,h0,rfl⟩:=dI.1 hr;exact(T.i r0 (jX.1 h0).1).le OA.le
theorem QhH {k:PK}{ka va:OaT}{kn kc vn vc:Nat}{ks:List Int}{v:List Vl}(T:Tb h a R)(hn:R.length<=900000)(hs:(R.map (·.k)).Pairwise Qr)(SK:SlI h ka kn ks)(SV:SlP Qq h va vn v)(hv:v.length=ks.length)(hks:ks.length<=1000)
  (hkd:∀ r ∈ R,r.acs.length=ks.length) (hbd:∀ r ∈ R,∀ x ∈ r.acs,AcB x) (hvs:∀ u ∈ v,ZW u)
  (hIn:∀(i:Nat) (r:PR) (a':OaT) (c':Nat) (a2:OaT) (c2:Nat) (h':Hp),R[i]?=some r->r.k=k->h.le h'->Tb h' a' (R.set i ⟨r.k,a2,c2,ZT r.acs v,r.t⟩)->K' (Qe [vag [vsl a' R.length c'],vag (Ql r),vb true]) h')
  (hNew:∀(i:Nat) (a':OaT) (c':Nat) (a2:OaT) (c2:Nat) (h':Hp),i<=R.length->(∀ x ∈ R.take i,Qr x.k k)->(∀ x,R[i]?=some x->¬ Qr x.k k)->(∀ x ∈ R,x.k≠k)->h.le h'->Tb h' a' (R.take i++⟨k,a2,c2,ZT (Xr ks) v,false⟩ :: R.drop i)->K' (Qe [vag [vsl a' (R.length+1) c'],vag [vi 0,vi 0,vi 0,vsl none 0 0,vb false],vb false]) h') :
  Qa Pg 167 [vag [vsl a R.length c],vi k.1,vag (Qq k.2),vsl ka kn kc,vsl va vn vc] h K':=by
 refine NT ?_
 refine Qfn T.s (by omega) hs fun i is h2 l2 hi hah hna his=>⟨_,_,rfl,?_⟩
 refine JG (T.le l2).s (by omega) fun a7 c7 h6 O6=>⟨_,_,_,rfl,?_⟩
 have l6:=Hp.le_trans l2 O6.le;have hvn:=SV.1;have hkn:=SK.1;intro J83;have hJ:∀(a315:OaT) (c315:Nat) (Q:List PR) (x316 x317 x318:Int) (a319:OaT) (n319 c319:Nat) (p320:Bool) (h321:Hp) (r:PR),Qg h2 h321 150 5 a315 Q.length c315 (Q.flatMap Ql)->Q.length<=1000000->Q[i]?=some r->r.acs.length=ks.length->(∀ x ∈ r.acs,AcB x)->Qf h321 r.a (r.acs.flatMap YP) ->
   (∀(a2:OaT) (c2:Nat) (h':Hp),Qg h2 h' 150 5 a315 Q.length c315 ((Q.set i ⟨r.k,a2,c2,ZT r.acs v,r.t⟩).flatMap Ql)->(∀ g xs,(∀ b o,g=some ⟨b,o,none⟩->a315≠some ⟨b,0,none⟩)->Qf h321 g xs->Qf h' g xs)->Qf h' a2 ((ZT r.acs v).flatMap YP)->K' (Qe [vag [vsl a315 Q.length c315],vag [vi x316,vi x317,vi x318,vsl a319 n319 c319,vb p320],vb is]) h')->J83 a315 Q.length c315 x316 x317 x318 a319 n319 c319 p320 h321:=by
  intro a315 c315 Q x316 x317 x318 a319 n319 c319 p320 h321 r OQ hQn hr hrl hrb hri hfin;have hiQ:=(bI.1 hr).1
  have VQ:Vec Ql 5 150 h2 h321 a315 c315 Q:=OQ;obtain⟨b,o,ea,hrow⟩:=(VQ.slp Qp (by decide)).get Qp (by decide) hr
  refine⟨b,o,⟨ea,by omega,by omega⟩,_,_,_,r.a,r.acs.length,r.c,r.t,by rw [bG];exact hrow,?_⟩
  refine Qg4 hri (by omega) fun a331 c331 h330 V330=>⟨_,_,_,rfl,?_⟩
  have l330:=V330.le0;have hacl:=Qid (acs:=r.acs) (r:=v) (by omega)
  refine⟨fun vs hh=>∃ m:Nat,vs=[vi m]/\m<=v.length/\QnU h321 hh a331 c331 ((ZT r.acs v).take m++r.acs.drop m),fun vs hh=>v.length-(Qm vs 0).toNat,⟨0,rfl,cH _,by simpa using V330⟩,?_⟩
  rintro vs hh ⟨m,rfl,hm,V5⟩;have hlen5:((ZT r.acs v).take m++r.acs.drop m).length=r.acs.length:=by rw [bO,bV,dO];omega
  refine⟨m,rfl,fun e=>?_,fun e=>?_⟩
  ·have hlt:m<v.length:=by have:=bC e;omega
   have hltA:m<r.acs.length:=by omega
   have lh:h.le hh:=Hp.le_trans l2 (Hp.le_trans OQ.le V5.le0);have hxv:v[m]?=some v[m]:=bD hlt
   obtain⟨b2,o2,ea2,hr2⟩:=(SV.le lh).get Ys (by decide) hxv
   have hxi:((ZT r.acs v).take m++r.acs.drop m)[m]?=some r.acs[m]:=by rw [dA (by rw [bV];omega),bV,dX (by omega),fT,fK,gC,bD hltA]
   obtain⟨b3,o3,ea3,hr3⟩:=(V5.slp YK (by decide)).get YK (by decide) hxi
   have hni:(ZT r.acs v)[m]'(by omega)=(r.acs[m].1,Q7 r.acs[m].1 r.acs[m].2 v[m]):=by unfold ZT;rw [jF]
   have hset:((ZT r.acs v).take m++r.acs.drop m).set m (r.acs[m].1,Q7 r.acs[m].1 r.acs[m].2 v[m])=(ZT r.acs v).take (m+1)++r.acs.drop (m+1):=by
    rw [<-hni,gF _ _ (by rw [bV];omega),bV,dX (by omega),fT,dM hltA,cZ,bJ (by omega:m<(ZT r.acs v).length),cG]
    rfl
   have hb1:=hrb _ (cM hltA);have hb2:=hvs _ (cM hlt);unfold AcB at hb1;unfold ZW at hb2;have hA0:QnU h321 hh a331 c331 ((ZT r.acs v).take m++r.acs.drop m):=V5;obtain⟨b4,o4,ea4,H4⟩:=V5.putF YK hxi (x':=(r.acs[m].1,Q7 r.acs[m].1 r.acs[m].2 v[m])) (k:=0) (vs:=YP (r.acs[m].1,Q7 r.acs[m].1 r.acs[m].2 v[m])) (by simp [YP,Qhq]) (by simp [YK]) (by simp [QJ,YK,gL])
   refine⟨b2,o2,⟨ea2,by omega,by omega⟩,_,_,by rw [bG];exact hr2,b3,o3,⟨ea3,by omega,by omega⟩,_,_,_,_,by rw [bG];exact hr3,?_⟩
   refine QfQ (k:=r.acs[m].1) (s:=r.acs[m].2) (v:=v[m]) (by unfold InR;omega) (by unfold InR;omega) ⟨_,_,_,_,rfl,b4,o4,⟨ea4,by omega,by omega⟩,?_⟩
   rw [bG];refine H4 _ fun h358 V358 _=>⟨_,iW,⟨m+1,by simp,by omega,?_⟩,by simp [Qm];omega⟩
   rw [hset] at V358;exact V358
  ·have hge:m=v.length:=by have:=bB e;omega
   subst hge;rw [cQ (by omega),gL (by omega),d8] at V5
   have VQ5:=VQ.keep0 V5.le0;obtain⟨b2,o2,ea2,H2⟩:=VQ5.putF Qp hr (x':=⟨r.k,a331,c331,ZT r.acs v,r.t⟩) (k:=0) (vs:=Ql ⟨r.k,a331,c331,ZT r.acs v,r.t⟩) (by simp [Ql,D.PRow.enc]) (by simp [Qp]) (by simp [QJ,Qp,gL])
   refine⟨b2,o2,⟨ea2,by omega,by omega⟩,?_⟩
   rw [bG];have est:Ql ⟨r.k,a331,c331,ZT r.acs v,r.t⟩=[vi r.k.1,vi r.k.2.1,vi r.k.2.2,vsl a331 r.acs.length c331,vb r.t]:=by unfold Ql QdY;simp [D.PRow.enc,hacl]
   rw [est,gC] at H2;refine H2 _ fun h363 V363 B363=>?_
   unfold Vec at V363;rw [dG] at V363;have keep:∀ g xs,(∀ b o,g=some ⟨b,o,none⟩->a315≠some ⟨b,0,none⟩)->Qf hh g xs->Qf h363 g xs:=by
    intro g xs hg H;rcases H with q|⟨b,o,q,hrw⟩
    ·exact .inl q
    ·refine .inr ⟨b,o,q,?_⟩
     unfold Hp.row at hrw ⊢;cases hq:hh b with
     | none=>rw [hq] at hrw;cases hrw
     | some ob=>rw [B363.keep b ob hq (hg b o q)];rw [hq] at hrw;exact hrw
   refine hfin a331 c331 h363 V363 (fun g xs hg H=>keep g xs hg (H.le V5.le0)) (keep _ _ (fun b o hb he=>?_) (Qg.row V5))
   have hb0:o=0:=Qw.at0 (Qg.own V5) b o hb;subst hb0;have:=V5.new b hb;have hal:=(Uz.fp _ _ _ _ _ _).al VQ.ownF b he;exact hal this
 clear_value J83;have hiold:∀{hx:Hp} {r:PR},r ∈ R->h6.le hx->∀(a315:OaT) (h2':h2.le hx),Qf hx r.a (r.acs.flatMap YP):=fun hr l _ _=>(T.i _ hr).le (Hp.le_trans l6 l)
 -- what is there stays behind a change of the own slice
 have kept:∀{hx h':Hp} {a315:OaT} {g:OaT} {xs:List Value},h2.le h'->Qf h2 g xs->Qf h' g xs:=fun l H=>H.le l
 refine⟨fun e=>?_,fun e=>?_⟩
 ·obtain⟨r,hr,hrk⟩:=his.1 e;have hmem:=bZ hr;have VQ:Vec Ql 5 150 h2 h6 a7 c7 R:=O6;obtain⟨b,o,ea,hrow⟩:=(VQ.slp Qp (by decide)).get Qp (by decide) hr
  have hil:=(bI.1 hr).1
  refine⟨b,o,⟨ea,by omega,by omega⟩,_,_,_,_,_,_,_,by rw [bG];exact hrow,?_⟩
  refine hJ a7 c7 R _ _ _ _ _ _ _ h6 r O6 (by omega) hr (hkd r hmem) (hbd r hmem) ((T.i r hmem).le l6) fun a2 c2 h' O' _ H2=>?_
  rw [e];refine hIn i r a7 c7 a2 c2 h' hr hrk (Hp.le_trans l2 O'.le) ⟨⟨by rw [dG],by exact O'.row⟩,fun r' hr'=>?_⟩
  rcases gO hr' with q|q
  ·exact(T.i r' q).le (Hp.le_trans l2 O'.le)
  ·rw [q];exact H2
 ·have hne:∀ x ∈ R,x.k≠k:=by
   intro x hx ek;obtain⟨m,hm⟩:=gX hx
   rcases Nat.lt_trichotomy m i with h5|h5|h5
   ·have:x ∈ R.take i:=by
     have:(R.take i)[m]?=some x:=by rw [gH,bH h5];exact hm
     exact bZ this
    have:=hah x this;rw [ek] at this;exact YB _ this
   ·subst h5;have:=his.2 ⟨x,hm,ek⟩;rw [e] at this;cases this
   ·have hil:i<R.length:=by have:=(bI.1 hm).1;omega
    have hy:R[i]?=some R[i]:=bD hil
    have h1:=hna _ hy;have:=f6.1 hs i m (by simpa using hil) (by simpa using (bI.1 hm).1) h5
    simp only [jH] at this;rw [(bI.1 hm).2,ek] at this
    exact h1 this
  intro J45;have hJ45:∀(a74:OaT) (c74:Nat) (h76:Hp),QnU h6 h76 a74 c74 (Xr ks)->J45 k.1 k.2.1 k.2.2 a74 (Xr ks).length c74 false h76:=by
   intro a74 c74 h76 VA b77 hb77 h78;have l78:h76.le h78:=Hp.le_set (Hp.le_refl h76) hb77 _;have k77:h78 b77=some (Qb (Ql ⟨k,a74,c74,Xr ks,false⟩) 150):=Hp.set_same _ _ _;clear_value h78;have O78:=(Qg.mono VA.le0 O6).mono l78;obtain⟨hB,lB,OB,kB⟩:=Qg.self O78;have hrowB:Qf hB a74 ((Xr ks).flatMap YP):=Qf.over ((Qg.row VA).le l78) fun b o ob hb ho=>kB b ob (fun q=>by
    have hb0:o=0:=Qw.at0 (Qg.own VA) b o hb;subst hb0;have h1:=VA.new b hb;exact(Uz.fp _ _ _ _ _ _).al (Vec.ownF (show Vec Ql 5 150 h2 h6 a7 c7 R from O6)) b q h1) ho
   refine Qdf (x:=⟨k,a74,c74,Xr ks,false⟩) OB (by omega) hi k77 (fun q=>?_) fun a81 c81 h80 O80=>⟨_,_,_,rfl,?_⟩
   ·have hal:=(Uz.fp _ _ _ _ _ _).al (Vec.ownF (show Vec Ql 5 150 h2 h6 a7 c7 R from O6)) b77 q
    exact hal (Hp.none_of_le VA.le0 hb77)
   have hQl:(R.take i++(⟨k,a74,c74,Xr ks,false⟩:PR) :: R.drop i).length=R.length+1:=by rw [bO,cO,bV,dO];omega
   have htl:(R.take i).length=i:=by rw [bV];omega
   have hQi:(R.take i++(⟨k,a74,c74,Xr ks,false⟩:PR) :: R.drop i)[i]?=some ⟨k,a74,c74,Xr ks,false⟩:=by rw [dA (by omega),htl,fT];rfl
   have ha0:(Xr ks).length=ks.length:=by unfold Xr;rw [bU]
   have hrow:Qf h80 a74 ((Xr ks).flatMap YP):=hrowB.le O80.le;have O80:=O80.trans lB;have:=hJ a81 c81 (R.take i++(⟨k,a74,c74,Xr ks,false⟩:PR) :: R.drop i) 0 0 0 none 0 0 false h80 ⟨k,a74,c74,Xr ks,false⟩ (by rw [hQl];exact O80) (by omega) hQi ha0 ?_ hrow fun a2 c2 h' O' _ H2=>?_
   ·rw [hQl] at this;exact this
   ·intro x hx;unfold Xr at hx;obtain⟨k0,_,rfl⟩:=dI.1 hx;unfold AcB;simp only;omega
   ·rw [e];have hset:(R.take i++(⟨k,a74,c74,Xr ks,false⟩:PR) :: R.drop i).set i ⟨k,a2,c2,ZT (Xr ks) v,false⟩=R.take i++⟨k,a2,c2,ZT (Xr ks) v,false⟩ :: R.drop i:=by
     rw [gF _ _ (by omega),htl,fT,cZ]
    rw [hset,hQl] at O';rw [hQl];have hQl2:(R.take i++(⟨k,a2,c2,ZT (Xr ks) v,false⟩:PR) :: R.drop i).length=R.length+1:=by rw [bO,cO,bV,dO];omega
    refine hNew i a81 c81 a2 c2 h' hi hah hna hne (Hp.le_trans l2 O'.le) ⟨⟨rfl,O'.row⟩,fun r' hr'=>?_⟩
    rcases cP.1 hr' with q|q
    ·exact(T.i r' (jO q)).le (Hp.le_trans l2 O'.le)
    ·rcases bX.1 q with rfl|q
     ·exact H2
     ·exact(T.i r' (List.mem_of_mem_drop q)).le (Hp.le_trans l2 O'.le)
  clear_value J45;refine⟨fun vs hh=>∃(m:Nat) (aa:OaT) (ca:Nat),vs=[vi m,vi k.1,vi k.2.1,vi k.2.2,vsl aa (Xr (ks.take m)).length ca,vb false]/\m<=ks.length/\QnU h6 hh aa ca (Xr (ks.take m)),fun vs hh=>ks.length-(Qm vs 0).toNat,⟨0,none,0,rfl,cH _,Qg.nil (Hp.le_refl _) _ _⟩,?_⟩
  rintro vs hh ⟨m,aa,ca,rfl,hm,V⟩;refine⟨_,_,_,_,aa,_,ca,false,rfl,fun e5=>?_,fun e5=>?_⟩
  ·have hltm:m<ks.length:=by have:=bC e5;omega
   have tkm:ks.take (m+1)=ks.take m++[ks[m]]:=bJ hltm;have hal:(Xr (ks.take m)).length=m:=by unfold Xr;rw [bU,bV];omega
   obtain⟨b,o,ea,hc⟩:=(SK.le (Hp.le_trans l6 V.le0)).get (i:=m) (by omega)
   have hgd:ks.getD m 0=ks[m]:=by rw [bK,bD hltm];rfl
   rw [hgd] at hc;generalize ks[m]=km at *
   refine⟨b,o,⟨ea,by omega,by omega⟩,_,by rw [bG];exact hc,Qff ⟨_,_,_,_,rfl,?_⟩⟩
   intro b38 hb38 h39;refine Vec.app QnZ YK Qkp V (by rw [hal];omega) (by rw [hal];omega) (x:=(km,(0,0,0))) hb38 fun a' c' h' V'=>⟨_,_,_,rfl,_,iW,⟨m+1,a',c',?_,by omega,?_⟩,by simp [Qm];omega⟩
   ·rw [tkm];unfold Xr;rw [cD];rfl
   ·rw [tkm];unfold Xr at V' ⊢;rw [cD];exact V'
  ·have hge:m=ks.length:=by have:=bB e5;omega
   rw [hge,dR] at V ⊢;exact hJ45 aa ca hh V
end
end Go.Proofs.YthicpjafcpfjoaaGreatDoor
namespace Go.Vc
open Go
structure Ow where
 e:TypeId
 sz:Nat
 a:OaT
 n:Nat
 c:Nat
 xs:List Value
def Ow.own (s:Ow)(h:Hp):Prop:=Qw h s.e s.sz s.a s.n s.c s.xs
def Ow.at (s:Ow)(b:Nat):Prop:=s.a=some ⟨b,0,none⟩
def Zz (g:Nat)(t:TypeId)(cs:List Value):Ow:=⟨t,cs.length,some ⟨g,0,none⟩,1,1,cs⟩
structure QC (hi h:Hp)(L:List Ow):Prop where
 le:hi.le h
 own:∀ s ∈ L,s.own h
 new:∀ s ∈ L,∀ b,s.at b->hi b=none
 dj:L.Pairwise fun s t=>∀ b,s.at b->¬ t.at b
theorem Ow.al {s:Ow}{h:Hp}(O:s.own h){b:Nat}(hb:s.at b):h b≠none:=by
 rcases O.2 with ⟨h1,_⟩|⟨g,cur,h1,h2,_⟩
 ·unfold Ow.at at hb;rw [h1] at hb;cases hb
 ·unfold Ow.at at hb;rw [h1] at hb;cases hb;rw [h2];simp
theorem Ow.keep {s:Ow}{h h':Hp}(O:s.own h)(hk:∀ b,s.at b->∀ o,h b=some o->h' b=some o):s.own h':=Qw.keep O fun g o hg ho=>hk g hg o ho
section
variable {hi h:Hp}{L:List Ow}
theorem QC.nil (l:hi.le h):QC hi h []:=⟨l,fun s hs=>(by cases hs),fun s hs=>(by cases hs),List.Pairwise.nil⟩
theorem QC.grow {h':Hp}(O:QC hi h L)(l:h.le h'):QC hi h' L:=⟨Hp.le_trans O.le l,fun s hs=>Ow.keep (O.own s hs) fun b _ o ho=>l b o ho,O.new,O.dj⟩
theorem QC.ownV (O:QC hi h L){s:Ow}(hs:s ∈ L):Qg hi h s.e s.sz s.a s.n s.c s.xs:=⟨O.le,O.own s hs,fun b hb=>O.new s hs b hb⟩
theorem QC.apart (O:QC hi h L){i j:Nat}{s t:Ow}(hs:L[i]?=some s)(ht:L[j]?=some t)(hne:i≠j){b:Nat}(hb:s.at b):¬ t.at b:=by
 obtain⟨hi',es⟩:=bI.1 hs
 obtain⟨hj',et⟩:=bI.1 ht
 have:=f6.1 O.dj;rcases Nat.lt_or_gt_of_ne hne with q|q
 ·have:=this i j hi' hj' q b;rw [es,et] at this;exact this hb
 ·have:=this j i hj' hi' q b;rw [es,et] at this;exact fun q2=>this q2 hb
theorem QC.upd {h':Hp}(O:QC hi h L){j:Nat}{s s':Ow}(hs:L[j]?=some s)(hk:∀ b o,h b=some o->¬ s.at b->h' b=some o)(O':s'.own h')(hn:∀ b,s'.at b->s.at b\/h b=none):QC hi h' (L.set j s'):=by
 have hsm:=bZ hs;have hj:=(bI.1 hs).1
 have key:∀{k:Nat} {t:Ow},(L.set j s')[k]?=some t->(k=j/\t=s')\/(k≠j/\L[k]?=some t):=by
  intro k t h1;by_cases hkj:k=j
  ·subst hkj;rw [fC hj] at h1
   exact .inl ⟨rfl,(dL h1).symm⟩
  ·rw [gU (fun e=>hkj e.symm)] at h1
   exact .inr ⟨hkj,h1⟩
 have out:∀{k:Nat} {t:Ow},k≠j->L[k]?=some t->∀ b,t.at b->¬ s'.at b:=by
  intro k t hkj ht b hb hb';rcases hn b hb' with q|q
  ·exact O.apart ht hs hkj hb q
  ·exact Ow.al (O.own t (bZ ht)) hb q
 refine⟨fun b o ho=>hk b o (O.le b o ho) fun q=>(by rw [O.new s hsm b q] at ho;cases ho),fun t ht=>?_,fun t ht b hb=>?_,?_⟩
 ·obtain⟨k,hk'⟩:=gX ht
  rcases key hk' with ⟨_,rfl⟩|⟨hkj,h1⟩
  ·exact O'
  ·exact Ow.keep (O.own t (bZ h1)) fun b hb o ho=>hk b o ho (O.apart h1 hs hkj hb)
 ·obtain⟨k,hk'⟩:=gX ht
  rcases key hk' with ⟨_,rfl⟩|⟨hkj,h1⟩
  ·rcases hn b hb with q|q
   ·exact O.new s hsm b q
   ·exact Hp.none_of_le O.le q
  ·exact O.new t (bZ h1) b hb
 ·rw [f6];intro i k hi' hk' hik b hb hb';have e1:=bD hi'
  have e2:=bD hk'
  rcases key e1 with ⟨q1,q2⟩|⟨q1,q2⟩
  ·rcases key e2 with ⟨q3,q4⟩|⟨q3,q4⟩
   ·omega
   ·rw [q2] at hb;exact out q3 q4 b hb' hb
  ·rcases key e2 with ⟨q3,q4⟩|⟨q3,q4⟩
   ·rw [q4] at hb';exact out q1 q2 b hb hb'
   ·exact O.apart q2 q4 (by omega) hb hb'
theorem QC.push {h':Hp}(O:QC hi h L)(l:h.le h'){s:Ow}(O':s.own h')(hn:∀ b,s.at b->h b=none):QC hi h' (L++[s]):=by
 have O2:=O.grow l;refine⟨O2.le,fun t ht=>?_,fun t ht b hb=>?_,j8.2 ⟨O.dj,by simp,fun x hx y hy b hb hb'=>?_⟩⟩
 ·rcases cP.1 ht with q|q
  ·exact O2.own t q
  ·rw [cB.1 q];exact O'
 ·rcases cP.1 ht with q|q
  ·exact O.new t q b hb
  ·rw [cB.1 q] at hb;exact Hp.none_of_le O.le (hn b hb)
 ·rw [cB.1 hy] at hb';exact Ow.al (O.own x hx) hb (hn b hb')
theorem QC.rebase {L':List Ow}(O:QC hi h L)(hs:L'.Sublist L):∃ hj:Hp,hi.le hj/\QC hj h L'/\∀ b o,h b=some o->(∀ s ∈ L',¬ s.at b)->hj b=some o:=by
 have e1:∀ b,(∃ s ∈ L',s.at b)->(open Classical in (fun b=>if ∃ s ∈ L',s.at b then none else h b:Hp)) b=none:=fun b hb=>bH hb
 have e2:∀ b,¬(∃ s ∈ L',s.at b)->(open Classical in (fun b=>if ∃ s ∈ L',s.at b then none else h b:Hp)) b=h b:=fun b hb=>bE hb
 generalize (open Classical in (fun b=>if ∃ s ∈ L',s.at b then none else h b:Hp))=hj at e1 e2
 have lj:Hp.le hj h:=fun b o ho=>by
  by_cases q:∃ s ∈ L',s.at b
  ·rw [e1 b q] at ho;cases ho
  ·rw [e2 b q] at ho;exact ho
 refine⟨hj,fun b o ho=>?_,⟨lj,fun s h1=>O.own s (hs.mem h1),fun s h1 b hb=>e1 b ⟨s,h1,hb⟩,O.dj.sublist hs⟩,fun b o ho hn=>(e2 b (fun⟨s,q1,q2⟩=>hn s q1 q2)).trans ho⟩
 refine(e2 b ?_).trans (O.le b o ho)
 rintro⟨s,q1,q2⟩;rw [O.new s (hs.mem q1) b q2] at ho;cases ho
theorem QC.rebase_new {h1:Hp}(O:QC hi h L)(l:h.le h1):∃ hj:Hp,hi.le hj/\QC hj h1 L/\(∀(a:OaT) (xs:List Value),Qf h1 a xs->(∀ b o,a=some ⟨b,o,none⟩->h b=none)->Qf hj a xs)/\∀ b o,h1 b=some o->h b=none->hj b=some o:=by
 obtain⟨hj,l1,O1,k1⟩:=(O.grow l).rebase (gY L);have key:∀ b o,h1 b=some o->h b=none->hj b=some o:=fun b o ho hn=>k1 b o ho fun s hs q=>Ow.al (O.own s hs) q hn
 refine⟨hj,l1,O1,fun a xs H hn=>?_,key⟩
 rcases H with q|⟨b,o,q,hrw⟩
 ·exact .inl q
 ·refine .inr ⟨b,o,q,?_⟩
  unfold Hp.row at hrw ⊢;cases hq:h1 b with
  | none=>rw [hq] at hrw;cases hrw
  | some ob=>rw [key b ob hq (hn b o q)];rw [hq] at hrw;exact hrw
theorem QC.blk (O:QC hi h L){g:Nat}{t:TypeId}{cs:List Value}(hs:Zz g t cs ∈ L):h g=some (Qb cs t):=by
 obtain⟨h1,h2⟩:=O.own _ hs;rcases h2 with ⟨q,_⟩|⟨b,cur,q1,q2,q3,q4,q5,q6⟩
 ·cases q
 ·simp only [Zz,bQ,Addr.mk.injEq,mC] at q1 q5 q6;subst q1;have:cur.toList=cs:=by
   rw [<-q6,j9,cQ (by rw [fI];omega)]
  rw [q2,<-this];simp [Zz]
theorem GR {g:Nat}{t:TypeId}{cs:List Value}(hg:h g=some (Qb cs t)):(Zz g t cs).own h:=
 ⟨by simp [Zz],.inr ⟨g,cs.toArray,rfl,hg,cJ _,by simp [Zz,maxLen],by simp [Zz],by simp [Zz]⟩⟩
theorem QC.store (O:QC hi h L){j:Nat}{s:Ow}(hs:L[j]?=some s){i:Nat}{vs:List Value}(hv:0<vs.length)(hfit:i+vs.length<=s.n*s.sz){b:Nat}(hb:s.at b){K:HpT}
  (hK:∀ h',QC hi h' (L.set j { s with xs:=QJ s.xs i vs })->(∀ b' o,b'≠b->h b'=some o->h' b'=some o)->K h'):h.store b (0+i) vs K:=by
 refine Qg.store (O.ownV (bZ hs)) hv hfit hb fun ob O'=>?_
 have kp:∀ b' o,b'≠b->h b'=some o->(h.set b ob) b'=some o:=fun b' o hne ho=>(Hp.set_other h _ hne).trans ho
 exact hK _ (O.upd hs (fun b' o ho hn=>kp b' o (fun q=>hn (by rw [q];exact hb)) ho) O'.own fun b' hb'=>.inl hb') kp
theorem QC.put (O:QC hi h L){j g:Nat}{t:TypeId}{cs:List Value}(hs:L[j]?=some (Zz g t cs)){i:Nat}{v:Value}(hi':i<cs.length){K:HpT}
  (hK:∀ h',QC hi h' (L.set j (Zz g t (cs.set i v)))->(∀ b' o,b'≠g->h b'=some o->h' b'=some o)->K h'):h.store g (0+i) [v] K:=by
 refine O.store hs (by simp) (by simp [Zz];omega) rfl fun h' O' kp=>hK h' ?_ kp
 have e:({ Zz g t cs with xs:=QJ (Zz g t cs).xs i [v] }:Ow)=Zz g t (cs.set i v):=by unfold Zz;simp only [dG];rw [Kf _ _ _ hi']
 rw [e] at O';exact O'
variable {P:Program}
theorem QC.app (O:QC hi h L){j:Nat}{s:Ow}(hs:L[j]?=some s){tS ty:TypeId}{bytes:Nat}(T:ElT P tS s.e s.sz bytes){b m:Nat}{news:List Value}{tn:TypeId}(hb:h b=none)(hl:news.length=m*s.sz)(h1:∀ u ∈ news,u.oneCell'=true)
  (hn:(s.n+m)*bytes<=140737488355328) (hn2:s.n+m<=140737488355328) {K:RtT}
  (hK:∀ a' c' h',QC hi h' (L.set j { s with a:=a',n:=s.n+m,c:=c',xs:=s.xs++news })->(∀ b' o,h b'=some o->¬ s.at b'->h' b'=some o)->K (vsl a' (s.n+m) c') h') :
  Qh P (Builtin.append_ #[tS,tS] ty #[vsl s.a s.n s.c,vsl (some ⟨b,0,none⟩) m m]) (h.set b (Qb news tn)) K:=by
 have l:h.le (h.set b (Qb news tn)):=Hp.le_set (Hp.le_refl h) hb _;have O1:=O.grow l;refine Qg.append T (O1.ownV (bZ hs)) (Qf.new _ _ news _) hl h1 hn hn2 fun a' c' h' O' k1 k2=>hK a' c' h' (O1.upd hs (fun b' o ho hn=>k1 b' o ho hn) O'.own fun b' hb'=>?_) fun b' o ho hn=>k1 b' o (l b' o ho) hn
 rcases k2 b' hb' with q|q
 ·exact .inl (show s.a=_ from q.trans hb')
 ·exact .inr q
theorem Qa.frame {f:FuncId}{args:List Value}{hA h:Hp}{K:RtT}(l:hA.le h)(H:Qa P f args hA K):Qa P f args h fun v h2=>∃ h1,h1.le h2/\(∀ b o,h b=some o->hA b=none->h2 b=some o/\h1 b=none)/\K v h1:=by
 intro w hs;refine(H w fun b o ho=>hs b o (l b o ho)).mono ?_
 rintro e w' ⟨v,h1,rfl,s1,F,k⟩;have out:∀ b o,h b=some o->hA b=none->w'.heap[b]?=some o/\h1 b=none:=by
  intro b o ho hn;have hb:=(cT.1 (hs b o ho)).1
  obtain⟨q1,q2⟩:=F.keep b hb hn;exact⟨q1.trans (hs b o ho),q2⟩
 have e1:∀ b,(h b≠none/\hA b=none)->(fun b=>if h b≠none/\hA b=none then h b else h1 b:Hp) b=h b:=fun b hb=>bH hb
 have e2:∀ b,¬(h b≠none/\hA b=none)->(fun b=>if h b≠none/\hA b=none then h b else h1 b:Hp) b=h1 b:=fun b hb=>bE hb
 generalize (fun b=>if h b≠none/\hA b=none then h b else h1 b:Hp)=h2 at e1 e2
 refine⟨v,h2,rfl,fun b o ho=>?_,⟨F.os,F.tape,F.output,F.size,fun b hb hn=>?_⟩,h1,fun b o ho=>?_,fun b o ho hn=>?_,k⟩
 ·by_cases q:h b≠none/\hA b=none
  ·rw [e1 b q] at ho;exact(out b o ho q.2).1
  ·rw [e2 b q] at ho;exact s1 b o ho
 ·have hna:hA b=none:=Hp.none_of_le l hn;obtain⟨q1,q2⟩:=F.keep b hb hna;exact⟨q1,(e2 b (fun q=>q.1 hn)).trans q2⟩
 ·refine(e2 b fun q=>?_).trans ho
  cases hq:h b with
  | none=>exact q.1 hq
  | some o2=>
   have:=(out b o2 hq q.2).2;rw [this] at ho;cases ho
 ·exact⟨(e1 b ⟨by rw [ho];simp,hn⟩).trans ho,(out b o ho hn).2⟩
theorem QC.frame (O:QC hi h L){f:FuncId}{args:List Value}{R':RtT}(H:Qa P f args hi fun v hk=>∀ h2,hk.le h2->QC hk h2 L->R' v h2):Qa P f args h R':=by
 intro w hs;refine(Qa.frame O.le H w hs).mono ?_
 rintro e w' ⟨v,h2,rfl,s2,F,h1,l1,kp,k⟩;refine⟨v,h2,rfl,s2,F,k h2 l1 ⟨l1,fun s hs'=>Ow.keep (O.own s hs') fun b hb o ho=>(kp b o ho (O.new s hs' b hb)).1,fun s hs' b hb=>?_,O.dj⟩⟩
 cases hq:h b with
 | none=>exact absurd hq (Ow.al (O.own s hs') hb)
 | some o=>exact(kp b o hq (O.new s hs' b hb)).2
theorem QC.inner (O:QC hi h L){b o:Nat}{l vs:List Value}{t:TypeId}(hb:hi b=some (Qb l t))(hfit:o+vs.length<=l.length){K:HpT}
  (hK:∀ h',QC (hi.set b (Qb (QJ l o vs) t)) h' L->K h'):h.store b o vs K:=by
 refine QR (O.le b _ hb) hfit (hK _ ⟨fun x p hp=>?_,fun s hs=>Ow.keep (O.own s hs) fun x hx p hp=>?_,fun s hs x hx=>?_,O.dj⟩)
 ·by_cases q:x=b
  ·subst q;rw [Hp.set_same] at hp ⊢;exact hp
  ·rw [Hp.set_other _ _ q] at hp ⊢;exact O.le x p hp
 ·have q:x≠b:=fun q=>by subst q;rw [O.new s hs x hx] at hb;cases hb
  exact(Hp.set_other h _ q).trans hp
 ·have q:x≠b:=fun q=>by subst q;rw [O.new s hs x hx] at hb;cases hb
  exact(Hp.set_other hi _ q).trans (O.new s hs x hx)
end
end Go.Vc
namespace Go.Proofs.YthicpjafcpfjoaaGreatDoor
open Go Go.Vc Go.Txt
structure QcE (q:Qy)(x:Ad):Prop where
 l:x.2.length=q.aggs.length
 v:∀ v ∈ x.2,ZW v
 s:-1000<=x.1.1/\x.1.1<=9999
theorem JZ {q:Qy}(B:QOk q){e:EvL}(E:YM e):∀ s ∈ ZK e.1 q.size q.slide,-1000<=s/\s<=9999:=by
 intro s hs;have h1:=B.s;have h2:=E.t;have:=QjS (by omega) hs
 omega
theorem VY {q:Qy}(B:QOk q){e:EvL}:(ZK e.1 q.size q.slide).length<=1000:=by
 have h1:=B.s;have:=QjJ (t:=e.1) (size:=q.size) (slide:=q.slide);omega
theorem QA (q:Qy):(Qd q).length=q.aggs.length:=by unfold Qd;rw [bU]
theorem UM {ks:List Int}{rs:List (List Vl)}(hl:∀ r ∈ rs,r.length=ks.length):(Wf ks rs).map (·.1)=ks:=by
 rw [Qdb ks hl,List.map_zipWith];have hc:=UR (n:=ks.length) hl;generalize Yh ks.length rs=cs at hc;clear hl;induction ks generalizing cs with
 | nil=>rfl
 | cons k ks ih=>
  match cs,hc with
  | c :: cs,hc=>
   rw [kU,ih cs (by simpa using hc)]
   rfl
end Go.Proofs.YthicpjafcpfjoaaGreatDoor
namespace Go.Proofs.YthicpjafcpfjoaaGreatDoor
open Go Go.Vc
theorem QgJ {u0:Int}{h:Hp}{R:RtT}(H:((cond (decide (u0<1)) true (decide (u0>3)))=true->R (Qe [vag [vsl none 0 0],(ifv (some (119,vi 1)))]) h)/\((cond (decide (u0<1)) true (decide (u0>3)))=false->let J18:OaT->Nat->Nat->Hp->Prop:=fun a20 n20 c20 h21=>R (Qe [vag [vsl a20 n20 c20],ifv none]) h21;∃(I3:LtT) (m4:LmT),I3 [vi 0,vsl none 0 0] h/\∀ vs5 h6,I3 vs5 h6->∃ x7 a8 n8 c8,vs5=[vi x7,vsl a8 n8 c8]/\((decide (x7<u0))=true->∀ b11,h6 b11=none->let h12:=Hp.set h6 b11 (Qb [(vi (-1))] 3);Qh Pg (Builtin.append_ #[46,46] 46 #[vsl a8 n8 c8,(vsl (some (⟨b11,0,none⟩:Addr)) 1 1)]) h12 fun v13 h14=>∃ a15 n15 c15,v13=vsl a15 n15 c15/\∃ x17,IsW x17 (x7+1)/\I3 [vi x17,vsl a15 n15 c15] h14/\m4 [vi x17,vsl a15 n15 c15] h14<m4 vs5 h6)/\((decide (x7<u0))=false->J18 a8 n8 c8 h6))):Qa Pg 124 [vi u0] h R:=callC ⟨[],[(5,([15],[.one (.int .i64)],[(1,[.slice])]))],[]⟩ Tryz.func124 [.one (.v (vi u0))] H
theorem NC {u0:OaT}{u1 u2:Nat}{u3:Int}{u4:Int}{h:Hp}{R:RtT}(H:Qh Pg (Builtin.append_ #[46,46] 46 #[vsl none 0 0,vsl u0 u1 u2]) h fun v1 h2=>∃ a3 n3 c3,v1=vsl a3 n3 c3/\∃ b4 o5,Ix a3 b4 o5 u3 n3/\∃ x6,Hp.cell h2 b4 (o5+u3.toNat*1)=some (vi x6)/\∃ x7,Rd Pg (Builtin.max_ #[3,3] 3 #[vi x6,vi u4]) h2 (vi x7)/\∃ b8 o9,Ix a3 b8 o9 u3 n3/\Hp.store h2 b8 (o9+u3.toNat*1) [vi x7] fun h10=>R (vag [vsl a3 n3 c3]) h10):Qa Pg 112 [vag [vsl u0 u1 u2],vi u3,vi u4] h R:=callO Tryz.func112 [.ag [.v (vsl u0 u1 u2)],.one (.v (vi u3)),.one (.v (vi u4))] H
theorem NI {u0:OaT}{u1 u2:Nat}{u3:Int}{h:Hp}{R:RtT}(H:∃(I2:LtT) (m3:LmT),I2 [vi 0,vi 0] h/\∀ vs4 h5,I2 vs4 h5->∃ x6 x7,vs4=[vi x6,vi x7]/\((decide (x7<(u1:Int)))=true->let J17:Int->Hp->Prop:=fun x20 h21=>(∃ x22,IsW x22 (x7+1)/\I2 [vi x20,vi x22] h21/\m3 [vi x20,vi x22] h21<m3 vs4 h5);Qa Pg 108 [vag [vsl u0 u1 u2],vi x7,vi u3] h5 fun v10 h11=>∃ x12 p13,v10=Qe [vi x12,vb p13]/\((!p13)=true->R (Qe [vi 0,vb false]) h11)/\((!p13)=false->((cond (decide (x7=0)) true (decide (x12<x6)))=true->J17 x12 h11)/\((cond (decide (x7=0)) true (decide (x12<x6)))=false->J17 x6 h11)))/\((decide (x7<(u1:Int)))=false->R (Qe [vi x6,vb true]) h5)):Qa Pg 62 [vag [vsl u0 u1 u2],vi u3] h R:=callC ⟨[],[(3,([6,13],[.one (.int .i64),.one (.int .i64)],[]))],[]⟩ Tryz.func62 [.ag [.v (vsl u0 u1 u2)],.one (.v (vi u3))] H
theorem MK {u0:OaT}{u1 u2:Nat}{u3:Int}{u4:Int}{h:Hp}{R:RtT}(H:∃ b1 o2,Ix u0 b1 o2 u3 u1/\∃ x3,Hp.cell h b1 (o2+u3.toNat*1)=some (vi x3)/\((decide (x3<0))=true->R (Qe [vi 0,vb false]) h)/\((decide (x3<0))=false->∃ x5,IsW x5 (x3-u4)/\R (Qe [vi x5,vb true]) h)):Qa Pg 108 [vag [vsl u0 u1 u2],vi u3,vi u4] h R:=callO Tryz.func108 [.ag [.v (vsl u0 u1 u2)],.one (.v (vi u3)),.one (.v (vi u4))] H
def see (l:List Int)(p:Nat)(t:Int):List Int:=l.set p (max (l.getD p 0) t)
theorem N7 (l:List Int)(p:Nat)(t:Int):(see l p t).length=l.length:=by simp [see]
theorem QgM (l:List Int)(p:Nat)(t:Int)(hl:∀ x ∈ l,-1<=x/\x<=9999)(ht:0<=t/\t<=9999)(hp:p<l.length):∀ x ∈ see l p t,-1<=x/\x<=9999:=by
 intro x hx;unfold see at hx;rcases gO hx with h|h
 ·exact hl x h
 ·have:l.getD p 0 ∈ l:=by rw [bK,bD hp];exact cM hp
  have:=hl _ this;rw [h];rcases Int.le_total (l.getD p 0) t with h1|h1
  ·rw [Int.max_eq_right h1];omega
  ·rw [Int.max_eq_left h1];omega
def Jh:List Int->Int
 | []=>0
 | x :: l=>l.foldl min x
theorem Ml (l:List Int)(x:Int)(h:l≠[]):Jh (l++[x])=min (Jh l) x:=by
 match l,h with
 | y :: l,_=>simp [Jh,f7]
theorem QeK {l:List Int}(h:l≠[]):Jh l ∈ l:=by
 match l,h with
 | y :: l,_=>
  have key:∀(l:List Int) (y:Int),l.foldl min y=y\/l.foldl min y ∈ l:=by
   intro l;induction l with
   | nil=>intro y;exact .inl rfl
   | cons z l ih=>
    intro y;simp only [jN];rcases ih (min y z) with e|e
    ·rw [e];by_cases h:y<=z
     ·exact .inl (Int.min_eq_left h)
     ·exact .inr (by rw [Int.min_eq_right (by omega)];simp)
    ·exact .inr (bY _ e)
  exact bX.2 (key l y)
def Wo (d:Int)(l:List Int):Int × Bool:=if ∀ x ∈ l,0<=x then(if l=[] then 0 else Jh l-d,true) else(0,false)
theorem Qh5 {p:Int}{h:Hp}{R:RtT}(h1:¬(1<=p/\p<=3)->R (Qe [vag [vsl none 0 0],ifv (some (119,vi 1))]) h)
  (h2:1<=p->p<=3->∀ a n c h',Qg h h' 3 1 a n c ((List.replicate p.toNat (-1:Int)).map vi)->R (Qe [vag [vsl a n c],ifv none]) h') :
  Qa Pg 124 [vi p] h R:=by
 refine QgJ ?_
 refine⟨fun e=>h1 (by simp [bT] at e;omega),fun e=>?_⟩
 have hp:1<=p/\p<=3:=by simp [bT] at e;omega
 intro J18;refine⟨fun vs hh=>∃(i:Nat) (a:OaT) (n c:Nat),vs=[vi i,vsl a n c]/\(i:Int)<=p/\Qg h hh 3 1 a n c ((List.replicate i (-1:Int)).map vi),fun vs hh=>p.toNat-(Qm vs 0).toNat,⟨0,_,_,_,rfl,by omega,Qg.nil (Hp.le_refl h) _ _⟩,?_⟩
 rintro vs hh ⟨i,a,n,c,rfl,hi,O⟩;refine⟨i,a,n,c,rfl,fun e=>?_,fun e=>?_⟩
 ·have hlt:(i:Int)<p:=by simpa using e
  intro b hb h12;have hn:=O.sli.1;simp at hn;refine Qg.append KQ (Qg.set hb _ O) (Qf.new _ _ [vi (-1)] _) (m:=1) rfl (by simp [Value.oneCell']) (by omega) (by omega) fun a' c' h' O' _ _=>⟨_,_,_,rfl,_,iW,⟨i+1,a',_,c',rfl,by omega,?_⟩,by simp [Qm];omega⟩
  rw [gV,cD];exact O'
 ·have:(i:Int)=p:=by simp at e;omega
  refine h2 hp.1 hp.2 a n c hh ?_
  rw [<-this];exact O
theorem Qhh {a:OaT}{n c:Nat}{l:List Int}{p t:Int}{h:Hp}{R:RtT}(S:SlI h a n l)(hn:n<=1000)(hp:0<=p)(hp':p<n)
  (hK:∀ a' c' h',Qg h h' 3 1 a' n c' ((see l p.toNat t).map vi)->R (vag [vsl a' n c']) h') :
  Qa Pg 112 [vag [vsl a n c],vi p,vi t] h R:=by
 refine NC ?_
 refine KL KQ S.2 (by simp [S.1]) (JT l) (by omega) (by omega) fun a' c' h' O=>⟨_,_,_,rfl,?_⟩
 obtain⟨b,o,ea,hc⟩:=O.sli.get (i:=p.toNat) (by omega)
 refine⟨b,o,⟨ea,hp,hp'⟩,_,hc,_,Qkh,b,o,⟨ea,hp,hp'⟩,O.store_i (by omega) ea fun ob O'=>hK _ _ _ O'⟩
theorem MZ {a:OaT}{n c:Nat}{l:List Int}{p d:Int}{h:Hp}{R:RtT}(S:SlI h a n l)(hp:0<=p)(hp':p<n)(hr:InR (l.getD p.toNat 0-d))
  (hK:R (if l.getD p.toNat 0<0 then Qe [vi 0,vb false] else Qe [vi (l.getD p.toNat 0-d),vb true]) h) :
  Qa Pg 108 [vag [vsl a n c],vi p,vi d] h R:=by
 refine MK ?_
 obtain⟨b,o,ea,hc⟩:=S.get (i:=p.toNat) (by omega)
 refine⟨b,o,⟨ea,hp,hp'⟩,_,hc,fun e=>?_,fun e=>?_⟩
 ·rw [bH (by simpa using e)] at hK;exact hK
 ·rw [bE (by simpa using e)] at hK;exact⟨_,isW hr,hK⟩
theorem QaI {a:OaT}{n c:Nat}{l:List Int}{d:Int}{h:Hp}{R:RtT}(S:SlI h a n l)(hn:n<=1000)(hl:∀ x ∈ l,-1<=x/\x<=9999)(hd:0<=d/\d<=1000)
  (hK:R (Qe [vi (Wo d l).1,vb (Wo d l).2]) h) :
  Qa Pg 62 [vag [vsl a n c],vi d] h R:=by
 refine NI ?_
 have hlen:=S.1;refine⟨fun vs hh=>hh=h/\∃(i:Nat) (m:Int),vs=[vi m,vi i]/\i<=n/\(∀ x ∈ l.take i,0<=x)/\m=(if l.take i=[] then 0 else Jh (l.take i)-d),fun vs hh=>n-(Qm vs 1).toNat,⟨rfl,0,0,rfl,by omega,by simp,by simp⟩,?_⟩
 rintro vs hh ⟨rfl,i,m,rfl,hi,hg,hm⟩;refine⟨m,i,rfl,fun e=>?_,fun e=>?_⟩
 ·have hlt:i<n:=by simpa using e
  intro J17;have hx:i<l.length:=by omega
  have hget:l.getD i 0=l[i]:=by rw [bK,bD hx];rfl
  have hb:=hl l[i] (cM hx);have tk:l.take (i+1)=l.take i++[l[i]]:=bJ hx;refine MZ S (by omega) (by omega) (by rw [bG,hget];unfold InR;omega) ?_
  rw [bG,hget];by_cases hneg:l[i]<0
  ·rw [bH hneg];refine⟨_,_,rfl,fun _=>?_,fun e=>by simp at e⟩
   have:¬ ∀ x ∈ l,0<=x:=fun hall=>by have:=hall _ (cM hx);omega
   unfold Wo at hK;rw [bE this] at hK;exact hK
  ·rw [bE hneg];have next:∀ m':Int,m'=Jh (l.take (i+1))-d->J17 m' hh:=by
    intro m' hm';refine⟨_,iW,⟨rfl,i+1,m',rfl,by omega,?_,?_⟩,by simp [Qm];omega⟩
    ·intro x hx';rw [tk] at hx';rcases cP.1 hx' with h1|h1
     ·exact hg x h1
     ·simp at h1;omega
    ·rw [bE (by rw [tk];exact List.append_ne_nil_of_right_ne_nil _ (by simp)),hm']
   refine⟨_,_,rfl,fun e=>by simp at e,fun _=>⟨fun e=>next _ ?_,fun e=>next _ ?_⟩⟩
   ·rw [tk];by_cases h0:l.take i=[]
    ·rw [h0];simp [Jh]
    ·rw [bE h0] at hm;rw [Ml _ _ h0];have hi0:i≠0:=fun h=>h0 (by rw [h];rfl)
     simp [bT,hi0] at e;rw [Int.min_def];split<;>omega
   ·rw [tk];by_cases h0:l.take i=[]
    ·have:i=0:=by have:=congrArg List.length h0;rw [bV] at this;simp only [fB] at this;omega
     simp [this] at e
    ·rw [bE h0] at hm;rw [Ml _ _ h0];simp [bT] at e;rw [Int.min_def];split<;>omega
 ·have hge:i=n:=by simp at e;omega
  have ht:l.take i=l:=cQ (by omega)
  rw [ht] at hg hm;unfold Wo at hK;rw [bH hg,<-hm] at hK;exact hK
structure Pn where
 k:PK
 rs:List (List Vl)
 t:Bool
abbrev Rw:=Bool × PK × List Vl
structure En where
 rd:List Nat
 far:List Int
 pn:List Pn
 late:Nat
 rows:List Rw
def KX (k:PK)(v:List Vl):List Pn->List Pn
 | []=>[⟨k,[v],false⟩]
 | p :: l=>if Qr p.k k then p :: KX k v l else if p.k=k then⟨k,p.rs++[v],p.t⟩ :: l else⟨k,[v],false⟩ :: p :: l
def atP (k:PK)(l:List Pn):Option Pn:=l.find? fun p=>decide (p.k=k)
def MN (ks:List Int)(k:PK)(v:List Vl):Option Pn->List Rw
 | some p=>if p.t=true/\Yx ks p.rs≠Yx ks (p.rs++[v]) then [(true,k,Yx ks p.rs),(false,k,Yx ks (p.rs++[v]))] else []
 | none=>[]
def Xu (q:Qy)(far:Int)(e:EvL)(st:En)(s:Int):En:=
 if QiT q far s then { st with late:=st.late+1 } else
 { st with pn:=KX (s,Zr q e) (Qn q e) st.pn,rows:=st.rows++MN (Qd q) (s,Zr q e) (Qn q e) (atP (s,Zr q e) st.pn) }
def QbK (size upto:Int)(p:Pn):Bool:=decide (p.k.1+size<=upto)
def YX (size upto:Int)(l:List Pn):List Pn:=l.map fun p=>⟨p.k,p.rs,p.t||QbK size upto p⟩
def NO (size upto:Int)(l:List Pn):List Pn:=l.filter fun p=>!p.t&&QbK size upto p
def GE (size upto:Int)(l:List Pn):List Pn:=l.filter fun p=>!QbK size upto p
def QaT (ks:List Int)(p:Pn):Rw:=(false,p.k,Yx ks p.rs)
def MG (q:Qy)(st:En):En:=
 if (Wo q.delay st.far).2 then { st with pn:=GE q.size ((Wo q.delay st.far).1-q.late) (YX q.size (Wo q.delay st.far).1 st.pn),rows:=st.rows++(NO q.size (Wo q.delay st.far).1 st.pn).map (QaT (Qd q)) } else st
def Yu (q:Qy)(far:Int)(e:EvL)(st:En):En:=if Qin q e then(ZK e.1 q.size q.slide).foldl (Xu q far e) st else st
def Xf (p:Nat)(e:EvL)(st:En):En:={ st with rd:=st.rd.set p (st.rd.getD p 0+1),far:=see st.far p e.1 }
def Yl (q:Qy)(p:Nat)(e:EvL)(st:En):En:=MG q (Xf p e (Yu q (st.far.getD p 0) e st))
def YZ (parts:Nat):En:=⟨List.replicate parts 0,List.replicate parts (-1),[],0,[]⟩
theorem Qf1 (k:PK)(v:List Vl):∀ l:List Pn,(KX k v l).map (·.k)=UN k (l.map (·.k))
 | []=>rfl
 | p :: l=>by
  rw [KX,dE,UN];split
  ·rw [dE,Qf1 k v l]
  ·split
   ·rename_i h;rw [dE,h]
   ·rfl
theorem Qav {k:PK}{v:List Vl}:∀{l:List Pn} {p:Pn},p ∈ KX k v l->p ∈ l\/(p=⟨k,[v],false⟩/\True)\/∃ p0 ∈ l,p0.k=k/\p=⟨k,p0.rs++[v],p0.t⟩
 | [],p,h=>by rw [KX] at h;exact .inr (.inl ⟨cB.1 h,trivial⟩)
 | x :: l,p,h=>by
  rw [KX] at h;split at h
  ·rcases bX.1 h with rfl|h
   ·exact .inl (bS ..)
   ·rcases Qav h with h1|h1|⟨p0,h1,h2⟩
    ·exact .inl (bY _ h1)
    ·exact .inr (.inl h1)
    ·exact .inr (.inr ⟨p0,bY _ h1,h2⟩)
  ·split at h
   ·rename_i hk;rcases bX.1 h with rfl|h
    ·exact .inr (.inr ⟨x,bS ..,hk,rfl⟩)
    ·exact .inl (bY _ h)
   ·rcases bX.1 h with rfl|h
    ·exact .inr (.inl ⟨rfl,trivial⟩)
    ·exact .inl h
def Ki (l:List Pn):Nat:=(l.filter fun p=>!p.t).length
theorem QiH {k:PK}{v:List Vl}:∀ l:List Pn,(KX k v l).length<=l.length+1/\Ki (KX k v l)<=Ki l+1
 | []=>by simp [KX,Ki]
 | p :: l=>by
  obtain⟨h1,h2⟩:=QiH (k:=k) (v:=v) l;unfold Ki at *
  rw [KX];split
  ·rw [cO,cO];refine⟨by omega,?_⟩
   rw [dZ,dZ];split
   ·rw [cO,cO];omega
   ·omega
  ·split
   ·rw [cO,cO];refine⟨by omega,?_⟩
    rw [dZ,dZ];split
    ·rename_i h3;simp
    ·rename_i h3;omega
   ·refine⟨by simp,?_⟩
    rw [dZ];simp
theorem QnX {ks:List Int}{k:PK}{v:List Vl}{o:Option Pn}:(MN ks k v o).length<=2:=by
 unfold MN;split
 ·split<;>simp
 ·simp
structure EnB (q:Qy)(parts N:Nat)(st:En):Prop where
 rl:st.rd.length=parts
 rb:∀ x ∈ st.rd,x<=N
 fl:st.far.length=parts
 fb:∀ x ∈ st.far,-1<=x/\x<=9999
 ps:st.pn.Pairwise fun a b=>Qr a.k b.k
 pa:∀ p ∈ st.pn,p.rs.length<=N/\-1000<=p.k.1/\p.k.1<=9999/\∀ r ∈ p.rs,QcE q (p.k,r)
 pl:st.pn.length<=N
 ll:st.late<=N
 wl:st.rows.length+Ki st.pn<=3*N
 wo:∀ w ∈ st.rows,w.2.2.length=q.aggs.length
theorem Xd {l:List Pn}:(l.Pairwise fun a b=>Qr a.k b.k)↔(l.map (·.k)).Pairwise Qr:=by rw [List.pairwise_map]
theorem G7 {q:Qy}{k:PK}{rs:List (List Vl)}(h:∀ r ∈ rs,QcE q (k,r)):(Yx (Qd q) rs).length=q.aggs.length:=by
 unfold Yx;rw [bU,<-QA];have:=congrArg List.length (UM (ks:=Qd q) (rs:=rs) fun r hr=>by rw [(h r hr).l,QA])
 rw [bU] at this;exact this
theorem QmV {q:Qy}{k:PK}{v:List Vl}{o:Option Pn}(hv:QcE q (k,v))(ho:∀ p,o=some p->∀ r ∈ p.rs,QcE q (k,r)):∀ w ∈ MN (Qd q) k v o,w.2.2.length=q.aggs.length:=by
 intro w hw;unfold MN at hw;split at hw
 ·rename_i p;split at hw
  ·have h1:=ho p rfl;have h2:∀ r ∈ p.rs++[v],QcE q (k,r):=fun r hr=>by
    rcases cP.1 hr with h|h
    ·exact h1 r h
    ·rw [cB.1 h];exact hv
   simp only [bX,dB,fZ] at hw;rcases hw with rfl|rfl
   ·exact G7 h1
   ·exact G7 h2
  ·cases hw
 ·cases hw
theorem Qod {k:PK}{l:List Pn}{p:Pn}(h:atP k l=some p):p ∈ l/\p.k=k:=by
 unfold atP at h;exact⟨kD h,by have:=List.find?_some h;exact bC this⟩
theorem Qlx {l:List Pn}(hs:l.Pairwise fun a b=>Qr a.k b.k){p:Pn}(hp:p ∈ l):atP p.k l=some p:=by
 induction l with
 | nil=>cases hp
 | cons x l ih=>
  obtain⟨h1,h2⟩:=fD.1 hs;unfold atP;rw [List.find?_cons]
  rcases bX.1 hp with rfl|hp
  ·rw [cC rfl]
  ·have hne:¬ x.k=p.k:=fun e=>YB p.k (by have:=h1 p hp;rw [e] at this;exact this)
   rw [cE hne];exact ih h2 hp
theorem Qo4 {q:Qy}(B:QOk q){parts N:Nat}{st:En}(H:EnB q parts N st){far:Int}{e:EvL}(E:YM e){s:Int}(hs:-1000<=s/\s<=9999):EnB q parts (N+1) (Xu q far e st s):=by
 have hv:QcE q ((s,Zr q e),Qn q e):=⟨by simp [Qn],Gi B E,hs⟩
 unfold Xu;split
 ·exact⟨H.rl,fun x hx=>j5 (H.rb x hx),H.fl,H.fb,H.ps,fun p hp=>⟨j5 (H.pa p hp).1,(H.pa p hp).2⟩,j5 H.pl,by have:=H.ll;simp only;omega,by have:=H.wl;simp only;omega,H.wo⟩
 ·obtain⟨h1,h2⟩:=QiH (k:=(s,Zr q e)) (v:=Qn q e) st.pn;have h3:=QnX (ks:=Qd q) (k:=(s,Zr q e)) (v:=Qn q e) (o:=atP (s,Zr q e) st.pn);have hpl:=H.pl;have hwl:=H.wl;refine⟨H.rl,fun x hx=>j5 (H.rb x hx),H.fl,H.fb,?_,?_,by simp only;omega,by have:=H.ll;simp only;omega,?_,?_⟩
  ·rw [Xd];simp only;rw [Qf1];exact GI _ (Xd.1 H.ps)
  ·intro p hp;rcases Qav hp with h|⟨rfl,_⟩|⟨p0,h,hk,rfl⟩
   ·obtain⟨q1,q2⟩:=H.pa p h;exact⟨by omega,q2⟩
   ·refine⟨by simp,hs.1,hs.2,fun r hr=>?_⟩
    rw [cB.1 hr];exact hv
   ·obtain⟨q1,q2,q3,q4⟩:=H.pa p0 h;refine⟨by simp;omega,hs.1,hs.2,fun r hr=>?_⟩
    rcases cP.1 hr with h5|h5
    ·have:=q4 r h5;rw [hk] at this;exact this
    ·rw [cB.1 h5];exact hv
  ·simp only [bO];omega
  ·intro w hw;rcases cP.1 hw with h|h
   ·exact H.wo w h
   ·refine QmV hv (fun p hp r hr=>?_) w h
    obtain⟨h5,h6⟩:=Qod hp;have:=(H.pa p h5).2.2.2 r hr;rw [h6] at this;exact this
theorem K6 {q:Qy}(B:QOk q){parts:Nat}{far:Int}{e:EvL}(E:YM e):∀(ss:List Int) {N:Nat} {st:En},EnB q parts N st->(∀ s ∈ ss,-1000<=s/\s<=9999)->EnB q parts (N+ss.length) (ss.foldl (Xu q far e) st)
 | [],N,st,H,_=>H
 | s :: ss,N,st,H,hs=>by
  have:=K6 (far:=far) B E ss (Qo4 B H E (far:=far) (hs s (bS ..))) fun x hx=>hs x (bY _ hx)
  rw [cO,jN,show N+(ss.length+1)=N+1+ss.length by omega]
  exact this
theorem EnB.mono {q:Qy}{parts N M:Nat}{st:En}(H:EnB q parts N st)(h:N<=M):EnB q parts M st:=
 ⟨H.rl,fun x hx=>dJ (H.rb x hx) h,H.fl,H.fb,H.ps,fun p hp=>⟨dJ (H.pa p hp).1 h,(H.pa p hp).2⟩,dJ H.pl h,dJ H.ll h,by have:=H.wl;omega,H.wo⟩
theorem QdH {q:Qy}(B:QOk q){parts N:Nat}{st:En}(H:EnB q parts N st){far:Int}{e:EvL}(E:YM e):EnB q parts (N+1000) (Yu q far e st):=by
 unfold Yu;split
 ·exact(K6 B E _ H (JZ B E)).mono (by have:=VY B (e:=e);omega)
 ·exact H.mono (by omega)
theorem Qf5 {q:Qy}{far:Int}{e:EvL}{st:En}{s:Int}:(Xu q far e st s).rd=st.rd/\(Xu q far e st s).far=st.far:=by
 unfold Xu;split<;>exact⟨rfl,rfl⟩
theorem Qdn {q:Qy}{far:Int}{e:EvL}:∀(ss:List Int) (st:En),(ss.foldl (Xu q far e) st).rd=st.rd/\(ss.foldl (Xu q far e) st).far=st.far
 | [],st=>⟨rfl,rfl⟩
 | s :: ss,st=>by
  have:=Qdn (q:=q) (far:=far) (e:=e) ss (Xu q far e st s);rw [Qf5.1,Qf5.2] at this;exact this
theorem NK {q:Qy}{far:Int}{e:EvL}{st:En}:(Yu q far e st).rd=st.rd/\(Yu q far e st).far=st.far:=by
 unfold Yu;split
 ·exact Qdn _ _
 ·exact⟨rfl,rfl⟩
theorem QnT {q:Qy}{parts N:Nat}{st:En}(H:EnB q parts N st){p:Nat}(hp:p<parts){e:EvL}(E:YM e):EnB q parts (N+1) (Xf p e st):=by
 have H':=H.mono (Nat.le_succ N);refine⟨by simp only [Xf,dG];exact H.rl,fun x hx=>?_,by simp only [Xf,N7];exact H.fl,QgM _ _ _ H.fb E.t (by rw [H.fl];exact hp),H'.ps,H'.pa,H'.pl,H'.ll,H'.wl,H'.wo⟩
 simp only [Xf] at hx;rcases gO hx with h|h
 ·exact H'.rb x h
 ·have:st.rd.getD p 0 ∈ st.rd:=by rw [bK,bD (by rw [H.rl];exact hp)];exact cM _
  have:=H.rb _ this;omega
theorem Qcp (size upto:Int):∀ l:List Pn,(NO size upto l).length+Ki (YX size upto l)<=Ki l
 | []=>by simp [NO,Ki,YX]
 | p :: l=>by
  have ih:=Qcp size upto l;unfold NO Ki YX at *
  rw [dE,dZ,dZ,dZ];obtain⟨k,rs,t⟩:=p;simp only;cases t
  ·cases hd:QbK size upto ⟨k,rs,false⟩<;>simp [hd]<;>omega
  ·cases hd:QbK size upto ⟨k,rs,true⟩<;>simp [hd]<;>omega
theorem QpG {q:Qy}{parts N:Nat}{st:En}(H:EnB q parts N st):EnB q parts N (MG q st):=by
 unfold MG;split
 ·generalize (Wo q.delay st.far).1=u;have hk:(YX q.size u st.pn).map (·.k)=st.pn.map (·.k):=by unfold YX;rw [fN];rfl
  have hsub:(GE q.size (u-q.late) (YX q.size u st.pn)).Sublist (YX q.size u st.pn):=List.filter_sublist;have hlen:(YX q.size u st.pn).length=st.pn.length:=by unfold YX;rw [bU]
  have hu:=Qcp q.size u st.pn;have hu2:Ki (GE q.size (u-q.late) (YX q.size u st.pn))<=Ki (YX q.size u st.pn):=(hsub.filter _).length_le;have hpl:=H.pl;have hwl:=H.wl;refine⟨H.rl,H.rb,H.fl,H.fb,?_,?_,?_,H.ll,?_,?_⟩
  ·have:(YX q.size u st.pn).Pairwise fun a b=>Qr a.k b.k:=by rw [Xd,hk];exact Xd.1 H.ps
   exact this.sublist hsub
  ·intro p hp;have:=hsub.mem hp;unfold YX at this;obtain⟨p0,h0,rfl⟩:=dI.1 this;exact H.pa p0 h0
  ·have:=hsub.length_le;simp only;omega
  ·simp only [bO,bU];omega
  ·intro w hw;rcases cP.1 hw with h|h
   ·exact H.wo w h
   ·obtain⟨p,hp,rfl⟩:=dI.1 h;exact G7 (H.pa p (jX.1 hp).1).2.2.2
 ·exact H
theorem Qpi (q:Qy)(parts:Nat):EnB q parts 0 (YZ parts):=by
 unfold YZ;exact⟨dK ..,fun x hx=>by rw [fH hx];exact cJ _,dK ..,fun x hx=>by rw [fH hx];decide,List.Pairwise.nil,fun p hp=>(by cases hp),cJ _,cJ _,by simp [Ki],fun w hw=>(by cases hw)⟩
theorem QbE {u0:OaT}{u1 u2:Nat}{h:Hp}{R:RtT}(H:∃ b1 o2,((decide ((u1:Int)=1))=true->Ix u0 b1 o2 0 u1)/\∃ x3,((decide ((u1:Int)=1))=true->Hp.cell h b1 (o2+(0:Int).toNat*6)=some (vi x3))/\((cond (decide ((u1:Int)=1)) (decide (x3=1)) false)=true->∃ b4 o5,Ix u0 b4 o5 0 u1/\∃ x6 x7,Hp.row h b4 ((o5+(0:Int).toNat*6)+4) 2=some [vi x6,vi x7]/\R (Qe [vag [vi x6,vi x7],vb true]) h)/\((cond (decide ((u1:Int)=1)) (decide (x3=1)) false)=false->R (Qe [vag [vi 0,vi 0],vb false]) h)):Qa Pg 221 [vsl u0 u1 u2] h R:=callO Tryz.func221 [.one (.v (vsl u0 u1 u2))] H
theorem QjR {u0:Int}{u1:Int}{h:Hp}{R:RtT}(H:∀ b1,h b1=none->let h2:=Hp.set h b1 (Qb [vi 1,vi 0,vi 0,vi 0,vi u0,vi u1] 250);R (vsl (some (⟨b1,0,none⟩:Addr)) 1 1) h2 ):Qa Pg 222 [vag [vi u0,vi u1]] h R:=callO Tryz.func222 [.ag [.v (vi u0),.v (vi u1)]] H
theorem Qc3 {u0:OaT}{u1 u2:Nat}{h:Hp}{R:RtT}(H:Qa Pg 204 [vsl u0 u1 u2] h fun v1 h2=>∃ x3 e4,v1=Qe [vi x3,ifv e4]/\R (vb (cond (Option.isNone e4) (decide (x3≠1)) false)) h2 ):Qa Pg 224 [vsl u0 u1 u2] h R:=callO Tryz.func224 [.one (.v (vsl u0 u1 u2))] H
theorem QcN {u0:OaT}{u1 u2:Nat}{h:Hp}{R:RtT}(H:Qa Pg 204 [vsl u0 u1 u2] h fun v1 h2=>∃ x3 e4,v1=Qe [vi x3,ifv e4]/\R (vb (cond (Option.isNone e4) (decide (x3≠2)) false)) h2 ):Qa Pg 226 [vsl u0 u1 u2] h R:=callO Tryz.func226 [.one (.v (vsl u0 u1 u2))] H
theorem Qdv {u0:Int}{u1:OaT}{u2 u3:Nat}{h:Hp}{R:RtT}(H:Qa Pg 221 [vsl u1 u2 u3] h fun v1 h2=>∃ x3 x4 p5,v1=Qe [vag [vi x3,vi x4],vb p5]/\(p5=true->Qa Pg 222 [vag [vi x3,vi x4]] h2 fun v6 h7=>∃ a8 n8 c8,v6=vsl a8 n8 c8/\Qa Pg 223 [vi u0,vsl a8 n8 c8,vsl none 0 0] h7 fun v9 h10=>∃ a11 n11 c11,v9=vsl a11 n11 c11/\Qa Pg 109 [vsl a11 n11 c11,vag [vi 0,vi 0,vi 0,vi 0,vi 0,vi 0,vi 0]] h10 fun v12 h13=>∃ x14 x15,v12=vag [vi x14,vi x15]/\Qa Pg 222 [vag [vi x14,vi x15]] h13 fun v16 h17=>∃ a18 n18 c18,v16=vsl a18 n18 c18/\R (vsl a18 n18 c18) h17)/\(p5=false->∃ x20,IsW x20 ((u2:Int)-1)/\∃ b21 o22,Ix u1 b21 o22 x20 u2/\∃ x23 x24 x25 x26 x27 x28,Hp.row h2 b21 (o22+x20.toNat*6) 6=some [vi x23,vi x24,vi x25,vi x26,vi x27,vi x28]/\∃(J29:ShT),((cond (decide (u0=4)) (decide (x23=4)) false)=true->Qa Pg 225 [vsl u1 u2 u3,vi x24] h2 fun v30 h31=>∃ a32 n32 c32,v30=vsl a32 n32 c32/\J29 (.t (.one (.v (vsl a32 n32 c32)))) h31)/\(¬((cond (decide (u0=4)) (decide (x23=4)) false)=true)->J29 (.t (.one (.v (vsl none 0 0)))) h2)/\∀ h33 a34 n34 c34,J29 (.t (.one (.v (vsl a34 n34 c34)))) h33->∃(J35:ShT),((cond (decide (u0=4)) (decide (x23=4)) false)=true->Qa Pg 224 [vsl a34 n34 c34] h33 fun v36 h37=>∃ p38,v36=vb p38/\J35 (.t (.one (.v (vb p38)))) h37)/\(¬((cond (decide (u0=4)) (decide (x23=4)) false)=true)->J35 (.t (.one (.v (vb false)))) h33)/\∀ h39 p40,J35 (.t (.one (.v (vb p40)))) h39->let J55:Bool->Hp->Prop:=fun p57 h58=>((p57=true->Qa Pg 225 [vsl u1 u2 u3,vi x24] h58 fun v59 h60=>∃ a61 n61 c61,v59=vsl a61 n61 c61/\R (vsl a61 n61 c61) h60)/\(p57=false->Qa Pg 223 [vi u0,vsl u1 u2 u3,vsl none 0 0] h58 fun v63 h64=>∃ a65 n65 c65,v63=vsl a65 n65 c65/\R (vsl a65 n65 c65) h64));((cond (cond (decide (u0=4)) (decide (x23=4)) false) p40 false)=true->J55 (cond (cond (decide (u0=4)) (decide (x23=4)) false) p40 false) h39)/\((cond (cond (decide (u0=4)) (decide (x23=4)) false) p40 false)=false->∃(J42:ShT),((cond (decide (u0=3)) (decide (x23=3)) false)=true->Qa Pg 225 [vsl u1 u2 u3,vi x24] h39 fun v43 h44=>∃ a45 n45 c45,v43=vsl a45 n45 c45/\J42 (.t (.one (.v (vsl a45 n45 c45)))) h44)/\(¬((cond (decide (u0=3)) (decide (x23=3)) false)=true)->J42 (.t (.one (.v (vsl none 0 0)))) h39)/\∀ h46 a47 n47 c47,J42 (.t (.one (.v (vsl a47 n47 c47)))) h46->∃(J48:ShT),((cond (decide (u0=3)) (decide (x23=3)) false)=true->Qa Pg 226 [vsl a47 n47 c47] h46 fun v49 h50=>∃ p51,v49=vb p51/\J48 (.t (.one (.v (vb p51)))) h50)/\(¬((cond (decide (u0=3)) (decide (x23=3)) false)=true)->J48 (.t (.one (.v (vb false)))) h46)/\∀ h52 p53,J48 (.t (.one (.v (vb p53)))) h52->J55 (cond (cond (decide (u0=3)) (decide (x23=3)) false) p53 false) h52))):Qa Pg 181 [vi u0,vsl u1 u2 u3] h R:=callO Tryz.func181 [.one (.v (vi u0)),.one (.v (vsl u1 u2 u3))] H
theorem QdK {u0:Int}{u1:OaT}{u2 u3:Nat}{u4:Int}{u5:Int}{u6:Bool}{h:Hp}{R:RtT}(H:∃(J1:ShT),((decide (u0=9))=true->Qa Pg 110 [vb true] h fun v2 h3=>∃ x4 x5,v2=vag [vi x4,vi x5]/\J1 (.t (.ag [.v (vi x4),.v (vi x5)])) h3)/\(¬((decide (u0=9))=true)->J1 (.t (.ag [.v (vi 0),.v (vi 0)])) h)/\∀ h6 x7 x8,J1 (.t (.ag [.v (vi x7),.v (vi x8)])) h6->∃ p9,((decide (u0=9))=true->RdG .eql 54 (.tmp 14) (.tmp 15) (vag [vi u4,vi u5]) (vag [vi x7,vi x8]) h6 (vb p9))/\∃(J10:ShT),(((cond (decide (u0=9)) p9 false)=false/\(decide (u0=10))=true)->Qa Pg 110 [vb false] h6 fun v11 h12=>∃ x13 x14,v11=vag [vi x13,vi x14]/\J10 (.t (.ag [.v (vi x13),.v (vi x14)])) h12)/\(¬((cond (decide (u0=9)) p9 false)=false/\(decide (u0=10))=true)->J10 (.t (.ag [.v (vi 0),.v (vi 0)])) h6)/\∀ h15 x16 x17,J10 (.t (.ag [.v (vi x16),.v (vi x17)])) h15->∃ p18,(((cond (decide (u0=9)) p9 false)=false/\(decide (u0=10))=true)->RdG .eql 54 (.tmp 22) (.tmp 23) (vag [vi u4,vi u5]) (vag [vi x16,vi x17]) h15 (vb p18))/\∃(J19:ShT),((cond (cond (decide (u0=9)) p9 false) true (cond (decide (u0=10)) p18 false))=true->Qa Pg 224 [vsl u1 u2 u3] h15 fun v20 h21=>∃ p22,v20=vb p22/\J19 (.t (.one (.v (vb p22)))) h21)/\(¬((cond (cond (decide (u0=9)) p9 false) true (cond (decide (u0=10)) p18 false))=true)->J19 (.t (.one (.v (vb false)))) h15)/\∀ h23 p24,J19 (.t (.one (.v (vb p24)))) h23->((cond (cond (cond (decide (u0=9)) p9 false) true (cond (decide (u0=10)) p18 false)) p24 false)=true->R (Qe [vsl u1 u2 u3,vb true]) h23)/\((cond (cond (cond (decide (u0=9)) p9 false) true (cond (decide (u0=10)) p18 false)) p24 false)=false->∃(J25:ShT),((decide (u0=9))=true->Qa Pg 110 [vb false] h23 fun v26 h27=>∃ x28 x29,v26=vag [vi x28,vi x29]/\J25 (.t (.ag [.v (vi x28),.v (vi x29)])) h27)/\(¬((decide (u0=9))=true)->J25 (.t (.ag [.v (vi 0),.v (vi 0)])) h23)/\∀ h30 x31 x32,J25 (.t (.ag [.v (vi x31),.v (vi x32)])) h30->∃ p33,((decide (u0=9))=true->RdG .eql 54 (.tmp 36) (.tmp 37) (vag [vi u4,vi u5]) (vag [vi x31,vi x32]) h30 (vb p33))/\let J45:Bool->Hp->Prop:=fun p47 h48=>((p47=true->Qa Pg 222 [vag [vi u4,vi u5]] h48 fun v49 h50=>∃ a51 n51 c51,v49=vsl a51 n51 c51/\R (Qe [vsl a51 n51 c51,vb true]) h50)/\(p47=false->∃(J52:ShT),((decide (u0=6))=true->Qa Pg 197 [vi 0] h48 fun v53 h54=>∃ x55 x56,v53=vag [vi x55,vi x56]/\J52 (.t (.ag [.v (vi x55),.v (vi x56)])) h54)/\(¬((decide (u0=6))=true)->J52 (.t (.ag [.v (vi 0),.v (vi 0)])) h48)/\∀ h57 x58 x59,J52 (.t (.ag [.v (vi x58),.v (vi x59)])) h57->∃ p60,((decide (u0=6))=true->RdG .eql 54 (.tmp 53) (.tmp 54) (vag [vi u4,vi u5]) (vag [vi x58,vi x59]) h57 (vb p60))/\∃(J61:ShT),(((cond (decide (u0=6)) p60 false)=false/\(decide (u0=8))=true)->Qa Pg 197 [vi 1] h57 fun v62 h63=>∃ x64 x65,v62=vag [vi x64,vi x65]/\J61 (.t (.ag [.v (vi x64),.v (vi x65)])) h63)/\(¬((cond (decide (u0=6)) p60 false)=false/\(decide (u0=8))=true)->J61 (.t (.ag [.v (vi 0),.v (vi 0)])) h57)/\∀ h66 x67 x68,J61 (.t (.ag [.v (vi x67),.v (vi x68)])) h66->∃ p69,(((cond (decide (u0=6)) p60 false)=false/\(decide (u0=8))=true)->RdG .eql 54 (.tmp 61) (.tmp 62) (vag [vi u4,vi u5]) (vag [vi x67,vi x68]) h66 (vb p69))/\∃(J70:ShT),(((cond (cond (decide (u0=6)) p60 false) true (cond (decide (u0=8)) p69 false))=false/\(cond (decide (u0=7)) u6 false)=true)->Qa Pg 197 [vi 0] h66 fun v71 h72=>∃ x73 x74,v71=vag [vi x73,vi x74]/\J70 (.t (.ag [.v (vi x73),.v (vi x74)])) h72)/\(¬((cond (cond (decide (u0=6)) p60 false) true (cond (decide (u0=8)) p69 false))=false/\(cond (decide (u0=7)) u6 false)=true)->J70 (.t (.ag [.v (vi 0),.v (vi 0)])) h66)/\∀ h75 x76 x77,J70 (.t (.ag [.v (vi x76),.v (vi x77)])) h75->∃ p78,(((cond (cond (decide (u0=6)) p60 false) true (cond (decide (u0=8)) p69 false))=false/\(cond (decide (u0=7)) u6 false)=true)->RdG .eql 54 (.tmp 73) (.tmp 74) (vag [vi u4,vi u5]) (vag [vi x76,vi x77]) h75 (vb p78))/\∃(J79:ShT),((cond (cond (cond (decide (u0=6)) p60 false) true (cond (decide (u0=8)) p69 false)) true (cond (cond (decide (u0=7)) u6 false) p78 false))=true->Qa Pg 226 [vsl u1 u2 u3] h75 fun v80 h81=>∃ p82,v80=vb p82/\J79 (.t (.one (.v (vb p82)))) h81)/\(¬((cond (cond (cond (decide (u0=6)) p60 false) true (cond (decide (u0=8)) p69 false)) true (cond (cond (decide (u0=7)) u6 false) p78 false))=true)->J79 (.t (.one (.v (vb false)))) h75)/\∀ h83 p84,J79 (.t (.one (.v (vb p84)))) h83->((cond (cond (cond (cond (decide (u0=6)) p60 false) true (cond (decide (u0=8)) p69 false)) true (cond (cond (decide (u0=7)) u6 false) p78 false)) p84 false)=true->R (Qe [vsl u1 u2 u3,vb true]) h83)/\((cond (cond (cond (cond (decide (u0=6)) p60 false) true (cond (decide (u0=8)) p69 false)) true (cond (cond (decide (u0=7)) u6 false) p78 false)) p84 false)=false->((cond (cond (decide (u0≠9)) (decide (u0≠10)) false) (decide (u4=0)) false)=true->Qa Pg 222 [vag [vi u4,vi u5]] h83 fun v85 h86=>∃ a87 n87 c87,v85=vsl a87 n87 c87/\R (Qe [vsl a87 n87 c87,vb true]) h86)/\((cond (cond (decide (u0≠9)) (decide (u0≠10)) false) (decide (u4=0)) false)=false->R (Qe [vsl none 0 0,vb false]) h83))));((cond (decide (u0=9)) p33 false)=true->J45 (cond (decide (u0=9)) p33 false) h30)/\((cond (decide (u0=9)) p33 false)=false->∃(J35:ShT),((decide (u0=10))=true->Qa Pg 110 [vb true] h30 fun v36 h37=>∃ x38 x39,v36=vag [vi x38,vi x39]/\J35 (.t (.ag [.v (vi x38),.v (vi x39)])) h37)/\(¬((decide (u0=10))=true)->J35 (.t (.ag [.v (vi 0),.v (vi 0)])) h30)/\∀ h40 x41 x42,J35 (.t (.ag [.v (vi x41),.v (vi x42)])) h40->∃ p43,((decide (u0=10))=true->RdG .eql 54 (.tmp 43) (.tmp 44) (vag [vi u4,vi u5]) (vag [vi x41,vi x42]) h40 (vb p43))/\J45 (cond (decide (u0=10)) p43 false) h40))):Qa Pg 227 [vi u0,vsl u1 u2 u3,vag [vi u4,vi u5],vb u6] h R:=callC ⟨[],[],[(1,[0,1,2,3,4,5,6,7,8,9,10,11,12,13,14,15,16,17,18,19,20]),(3,[0,1,2,3,4,5,6,7]),(4,[0,1,2,3,4,5,6,7]),(6,[0,1,2,3,4,5,6,7,8,9,10,11,12,13,14,15,16,17,18,19,20,21,22,23,24,25,26,27,28,29,30,31,32])]⟩ Tryz.func227 [.one (.v (vi u0)),.one (.v (vsl u1 u2 u3)),.ag [.v (vi u4),.v (vi u5)],.one (.v (vb u6))] H
theorem QeF {u0:Int}{u1:OaT}{u2 u3:Nat}{u4:OaT}{u5 u6:Nat}{h:Hp}{R:RtT}(H:Qa Pg 221 [vsl u1 u2 u3] h fun v1 h2=>∃ x3 x4 p5,v1=Qe [vag [vi x3,vi x4],vb p5]/\Qa Pg 221 [vsl u4 u5 u6] h2 fun v6 h7=>∃ x8 x9 p10,v6=Qe [vag [vi x8,vi x9],vb p10]/\((cond p5 p10 false)=true->Qa Pg 165 [vi u0,vag [vi x3,vi x4],vag [vi x8,vi x9]] h7 fun v11 h12=>∃ x13 x14,v11=vag [vi x13,vi x14]/\Qa Pg 222 [vag [vi x13,vi x14]] h12 fun v15 h16=>∃ a17 n17 c17,v15=vsl a17 n17 c17/\R (vsl a17 n17 c17) h16)/\((cond p5 p10 false)=false->let J25:HpT:=fun h26=>(let J33:HpT:=fun h34=>(Qa Pg 223 [vi u0,vsl u1 u2 u3,vsl u4 u5 u6] h34 fun v35 h36=>∃ a37 n37 c37,v35=vsl a37 n37 c37/\R (vsl a37 n37 c37) h36);(p10=true->Qa Pg 227 [vi u0,vsl u1 u2 u3,vag [vi x8,vi x9],vb true] h26 fun v27 h28=>∃ a29 n29 c29 p30,v27=Qe [vsl a29 n29 c29,vb p30]/\(p30=true->R (vsl a29 n29 c29) h28)/\(p30=false->J33 h28))/\(p10=false->J33 h26));(p5=true->Qa Pg 227 [vi u0,vsl u4 u5 u6,vag [vi x3,vi x4],vb false] h7 fun v19 h20=>∃ a21 n21 c21 p22,v19=Qe [vsl a21 n21 c21,vb p22]/\(p22=true->R (vsl a21 n21 c21) h20)/\(p22=false->J25 h20))/\(p5=false->J25 h7))):Qa Pg 182 [vi u0,vsl u1 u2 u3,vsl u4 u5 u6] h R:=callO Tryz.func182 [.one (.v (vi u0)),.one (.v (vsl u1 u2 u3)),.one (.v (vsl u4 u5 u6))] H
theorem Qg7 {u0:OaT}{u1 u2:Nat}{h:Hp}{R:RtT}(H:∃(I2:LtT) (m3:LmT),I2 [vsl none 0 0,vi 0] h/\∀ vs4 h5,I2 vs4 h5->∃ a6 n6 c6 x7,vs4=[vsl a6 n6 c6,vi x7]/\((decide (x7<(u1:Int)))=true->∃ b10 o11,Ix u0 b10 o11 x7 u1/\∃ x12 x13 x14 x15 x16 x17,Hp.row h5 b10 (o11+x7.toNat*6) 6=some [vi x12,vi x13,vi x14,vi x15,vi x16,vi x17]/\Qa Pg 180 [vi x12] h5 fun v18 h19=>∃ x20,v18=vi x20/\∃ x21,IsW x21 ((n6:Int)-x20)/\∃ a22 n22 c22,Rd Pg (Instr.sliceAt 265 (vsl a6 n6 c6) (some (vi x21)) none none) h19 (vsl a22 n22 c22)/\let J43:OaT->Nat->Nat->Hp->Prop:=fun a46 n46 c46 h47=>(∃ a48 n48 c48,Rd Pg (Instr.sliceAt 265 (vsl a6 n6 c6) none (some (vi x21)) (some (vi x21))) h47 (vsl a48 n48 c48)/\∀ b49,h47 b49=none->let h50:=Hp.set h47 b49 (Qb [vsl a46 n46 c46] 28);Qh Pg (Builtin.append_ #[265,265] 265 #[vsl a48 n48 c48,(vsl (some (⟨b49,0,none⟩:Addr)) 1 1)]) h50 fun v51 h52=>∃ a53 n53 c53,v51=vsl a53 n53 c53/\∃ x55,IsW x55 (x7+1)/\I2 [vsl a53 n53 c53,vi x55] h52/\m3 [vsl a53 n53 c53,vi x55] h52<m3 vs4 h5);((decide ((n22:Int)=0))=true->∀ b23,h19 b23=none->let h24:=Hp.set h19 b23 (Qb [vi x12,vi x13,vi x14,vi x15,vi x16,vi x17] 250);J43 (some (⟨b23,0,none⟩:Addr)) 1 1 h24)/\((decide ((n22:Int)=0))=false->((decide ((n22:Int)=1))=true->∃ b26 o27,Ix a22 b26 o27 0 n22/\∃ a28 n28 c28,Hp.cell h19 b26 (o27+(0:Int).toNat*1)=some (vsl a28 n28 c28)/\Qa Pg 181 [vi x12,vsl a28 n28 c28] h19 fun v29 h30=>∃ a31 n31 c31,v29=vsl a31 n31 c31/\J43 a31 n31 c31 h30)/\((decide ((n22:Int)=1))=false->∃ b33 o34,Ix a22 b33 o34 0 n22/\∃ a35 n35 c35,Hp.cell h19 b33 (o34+(0:Int).toNat*1)=some (vsl a35 n35 c35)/\∃ b36 o37,Ix a22 b36 o37 1 n22/\∃ a38 n38 c38,Hp.cell h19 b36 (o37+(1:Int).toNat*1)=some (vsl a38 n38 c38)/\Qa Pg 182 [vi x12,vsl a35 n35 c35,vsl a38 n38 c38] h19 fun v39 h40=>∃ a41 n41 c41,v39=vsl a41 n41 c41/\J43 a41 n41 c41 h40)))/\((decide (x7<(u1:Int)))=false->∃ b56 o57,Ix a6 b56 o57 0 n6/\∃ a58 n58 c58,Hp.cell h5 b56 (o57+(0:Int).toNat*1)=some (vsl a58 n58 c58)/\R (vsl a58 n58 c58) h5)):Qa Pg 125 [vsl u0 u1 u2] h R:=callC ⟨[],[(3,([3,11],[.one (.slice),.one (.int .i64)],[]))],[(13,[0,1,2,3,4,5,6]),(9,[0,1,2,3,4,5,6,7,8,9])]⟩ Tryz.func125 [.one (.v (vsl u0 u1 u2))] H
theorem Qdc {β:Type}{d:β}{F:Nd->β->β->β}(hF:QoA F)(hS:∀(k:Int) n a b,F (shN k n) a b=F n a b){op:Int}(ho:1<=arI op){l m:List Nd}(W:WfL l)(W':WfL m)(hl:0<l.length)(hm:2<=arI op->0<m.length) :
  ∃ y,fAt d F (Z6 op l m) (l.length+m.length)=F ⟨op,(l.length:Int)-1,y,0,(0,0)⟩ (fAt d F l (l.length-1)) (if arI op=2 then fAt d F m (m.length-1) else fAt d F l (l.length-1)):=by
 have ha:=ar0 (op:=op) (by omega)
 have WJ:=WfL.join (op:=op) (by omega) W W' hl hm (by omega)
 have hj:(Z6 op l m)[l.length+m.length]?=some ⟨op,(l.length:Int)-1,if 1<arI op then((l.length+m.length:Nat):Int)-1 else 0,0,(0,0)⟩:=by
  unfold Z6;rw [dA (by simp)]
  simp
 refine⟨if 1<arI op then((l.length+m.length:Nat):Int)-1 else 0,(Ye hF hj (WJ _ _ hj)).trans ?_⟩
 refine hF _ _ _ _ _ (by simp only;omega) (fun _=>?_) fun h2=>?_
 ·simp only;rw [show ((l.length:Int)-1).toNat=l.length-1 by omega]
  unfold Z6;rw [cG];exact Qhy _ _ (by omega)
 ·simp only at h2 ⊢;have h2':arI op=2:=by rcases QM (op:=op) (by omega) with q|q|q<;>omega
  rw [bH (by omega:1<arI op),bH h2']
  have:=hm h2;rw [show (((l.length+m.length:Nat):Int)-1).toNat=l.length+(m.length-1) by omega]
  exact QoZ hF hS W' l _ _ (by omega)
theorem NW:WfL ([]:List Nd):=by intro i n hn;cases hn
theorem Rep.pos {P:EvL->Int × Int}{T:Option Int}{k:Nat}{z:List Nd}(R:Rep P T k z):0<z.length:=R.ok.pos
theorem Qgx {op:Int}{a b:Option Int}{t:Int}(h:tyG op a b=some t):∃ x y,a=some x/\b=some y:=by
 cases a with
 | none=>cases b<;>cases h
 | some x=>
  cases b with
  | none=>cases h
  | some y=>exact⟨x,y,rfl,rfl⟩
theorem Qiy {op x y x' y' t:Int}(h:tyG op (some x) (some y)=some t)(hx:x'=0\/x'=x)(hy:y'=0\/y'=y):tyG op (some x') (some y')=some t:=by
 unfold tyG at h ⊢;simp only at h ⊢;split at h
 ·rename_i h1;rw [bH h1];exact h
 ·rename_i h1;rw [bE h1];split at h
  ·cases h
  ·rename_i h2;rw [bE (by omega)]
   exact h
theorem Rep.join2 {P Q:EvL->Int × Int}{T U:Option Int}{k j:Nat}{x y:List Nd}{op:Int}(ho:arI op=2)(A:Rep P T k x)(B:Rep Q U j y):Rep (fun e=>opV op (P e) (Q e)) (tyG op T U) (k+j+1) (Z6 op x y):=by
 have ar:=ar0 (op:=op) (by omega)
 have hp:=A.pos;have hq:=B.pos;have hA:=A.len;have hB:=B.len;refine⟨KJ (Qki ho A.ok B.ok),by rw [Zx];omega,fun e E=>?_,fun t ht=>?_⟩
 ·rw [Qka e ho A.ok.wf B.ok.wf hp hq,A.val e E,B.val e E];unfold opV;rw [bE (by omega),bE (by omega),bE (by omega)]
 ·obtain⟨tx,ty,rfl,rfl⟩:=Qgx ht;obtain⟨tx',e1,h1⟩:=A.ty tx rfl;obtain⟨ty',e2,h2⟩:=B.ty ty rfl;obtain⟨y',hy⟩:=Qdc (d:=none) (F:=tyF) YQ (fun _ _ _ _=>rfl) (op:=op) (by omega) A.ok.wf B.ok.wf hp (fun _=>hq)
  rw [Zx,show x.length+y.length+1-1=x.length+y.length by omega]
  refine⟨t,?_,.inr rfl⟩
  rw [tAt,hy,WL (by simp only;omega) (by simp only;omega)]
  simp only;rw [bH ho,bH ho,show fAt none tyF x (x.length-1)=some tx' from e1,show fAt none tyF y (y.length-1)=some ty' from e2]
  exact Qiy ht h1 h2
theorem Rep.join1 {P:EvL->Int × Int}{T:Option Int}{k:Nat}{x:List Nd}{op:Int}(ho:arI op=1)(A:Rep P T k x):Rep (fun e=>opV op (P e) (P e)) (tyG op T T) (k+1) (Z6 op x []):=by
 have ar:=ar0 (op:=op) (by omega)
 have hp:=A.pos;have hA:=A.len;refine⟨KJ (QjI ho A.ok),by rw [Zx];simp;omega,fun e E=>?_,fun t ht=>?_⟩
 ·obtain⟨y',hy⟩:=Qdc (d:=(0,0)) (F:=Xi e) (YJ e) (Qjv e) (op:=op) (by omega) A.ok.wf NW hp (fun h=>by omega)
  unfold ZG;rw [Zx,show x.length+([]:List Nd).length+1-1=x.length+([]:List Nd).length by omega,vAt,hy,GQ e (by simp only;omega) (by simp only;omega),bE (by omega)]
  have:=A.val e E;unfold ZG vAt at this;rw [this]
 ·obtain⟨tx,ty,rfl,h2⟩:=Qgx ht;obtain⟨tx',e1,h1⟩:=A.ty tx rfl;obtain⟨y',hy⟩:=Qdc (d:=none) (F:=tyF) YQ (fun _ _ _ _=>rfl) (op:=op) (by omega) A.ok.wf NW hp (fun h=>by omega)
  rw [Zx,show x.length+([]:List Nd).length+1-1=x.length+([]:List Nd).length by omega]
  refine⟨t,?_,.inr rfl⟩
  rw [tAt,hy,WL (by simp only;omega) (by simp only;omega)]
  simp only;rw [show fAt none tyF x (x.length-1)=some tx' from e1]
  simp only [ho,show ¬(1:Int)=2 by decide,jS]
  exact Qiy ht h1 h1
theorem QmO {v:Int × Int}(h:Qo v)(h1:v.1≠1):JB (JB v)=v:=by
 obtain⟨a,b⟩:=v;have:(a=0/\b=0)\/(a=2/\b=0)\/(a=2/\b=1):=by
  unfold Qo at h;simp only at h h1;omega
 rcases this with ⟨rfl,rfl⟩|⟨rfl,rfl⟩|⟨rfl,rfl⟩<;>decide
theorem Qd7 {n:Int}(h:-1000000000<=n/\n<=1000000000):Xa (w64 n)=(1,n):=by
 rw [Qqp (by unfold InR;omega)]
 unfold Xa;rw [bE (by omega)]
theorem Qpt {v:Int × Int}(h:Qo v)(h1:v.1≠2):Qar (Qar v)=v:=by
 obtain⟨a,b⟩:=v;have:(a=0/\b=0)\/(a=1/\-1000000000<=b/\b<=1000000000):=by
  unfold Qo at h;simp only at h h1;omega
 rcases this with ⟨rfl,rfl⟩|⟨rfl,hb⟩
 ·decide
 ·have e1:Qar (1,b)=(1,-b):=by unfold Qar;rw [bH rfl];exact Qd7 (by simp only;omega)
  rw [e1];unfold Qar;rw [bH rfl];have:=Qd7 (n:=- -b) (by omega)
  simp only;rw [this];simp
theorem Qre {v:Int × Int}(h:Qo v)(h1:v.1≠1):v=(0,0)\/v=(2,0)\/v=(2,1):=by
 obtain⟨a,b⟩:=v;unfold Qo at h;simp only [fM] at *
 omega
theorem QkZ {v:Int × Int}(h:Qo v)(h1:v.1≠1):doV 9 v (2,1)=v/\doV 9 (2,1) v=v:=by
 rcases Qre h h1 with rfl|rfl|rfl<;>decide
theorem Qp9 {v:Int × Int}(h:Qo v)(h1:v.1≠1):doV 10 v (2,0)=v/\doV 10 (2,0) v=v:=by
 rcases Qre h h1 with rfl|rfl|rfl<;>decide
theorem QnI (v:Int × Int):doV 9 v (2,0)=(2,0)/\doV 9 (2,0) v=(2,0):=by
 unfold doV Qad;simp
theorem QiP (a b:Int × Int):doV 10 a b=JB (Qad (JB a) (JB b)):=by
 unfold doV;rw [bE (by decide),bH rfl]
theorem Qox (v:Int × Int):doV 10 v (2,1)=(2,1)/\doV 10 (2,1) v=(2,1):=by
 rw [QiP,QiP];have e:JB (2,1)=(2,0):=by decide
 rw [e];unfold Qad;constructor
 ·rw [bH (.inr rfl)];decide
 ·rw [bH (.inl rfl)];decide
theorem QlD {op:Int}(h9:op≠9)(h10:op≠10){a b:Int × Int}(h:a.1=0\/b.1=0):doV op a b=(0,0):=by
 unfold doV;rw [bE h9,bE h10,bE (by omega)]
theorem Qbc {v:Int × Int}(h:Qo v)(h1:v.1≠2):v=(0,0)\/∃ n,v=(1,n)/\-1000000000<=n/\n<=1000000000:=by
 obtain⟨a,b⟩:=v;unfold Qo at h;simp only at h h1;rcases h with ⟨rfl,rfl⟩|⟨rfl,hb⟩|⟨h2,_⟩
 ·exact .inl rfl
 ·exact .inr ⟨b,rfl,hb⟩
 ·exact absurd h2 h1
theorem Qqd {v:Int × Int}(h:Qo v)(h1:v.1≠2):doV 6 v (1,0)=v/\doV 6 (1,0) v=v:=by
 rcases Qbc h h1 with rfl|⟨n,rfl,hn⟩
 ·decide
 ·unfold doV;simp only [show ¬(6:Int)=9 by decide,show ¬(6:Int)=10 by decide,jS,qE,pM,Int.add_zero,Int.zero_add]
  exact Qd7 hn
theorem Qqa {v:Int × Int}(h:Qo v)(h1:v.1≠2):doV 8 v (1,1)=v/\doV 8 (1,1) v=v:=by
 rcases Qbc h h1 with rfl|⟨n,rfl,hn⟩
 ·decide
 ·unfold doV;simp only [show ¬(8:Int)=9 by decide,show ¬(8:Int)=10 by decide,show ¬(8:Int)=6 by decide,show ¬(8:Int)=7 by decide,jS,qE,pM,Int.mul_one,Int.one_mul]
  exact Qd7 hn
theorem Qrf {v:Int × Int}(h:Qo v)(h1:v.1≠2):doV 7 v (1,0)=v:=by
 rcases Qbc h h1 with rfl|⟨n,rfl,hn⟩
 ·decide
 ·unfold doV;simp only [show ¬(7:Int)=9 by decide,show ¬(7:Int)=10 by decide,show ¬(7:Int)=6 by decide,jS,qE,pM,Int.sub_zero]
  exact Qd7 hn
theorem QnW {x:List Nd}(O:OkE x){n:Nd}(hx:x[x.length-1]?=some n)(ha:arI n.op=1) :
  2<=x.length/\n.x=(x.length:Int)-2/\Blk x 0 (x.length-1)/\OkE (ZX x 0 (x.length-1))/\(∀ e,ZG e x=opV n.op (ZG e (ZX x 0 (x.length-1))) (ZG e (ZX x 0 (x.length-1))))/\tAt x (x.length-1)=tyG n.op (tAt x (x.length-2)) (tAt x (x.length-2))/\tAt (ZX x 0 (x.length-1)) ((ZX x 0 (x.length-1)).length-1)=tAt x (x.length-2):=by
 have hp:=O.pos;have W:=O.wf _ _ hx;have ar:=ar0 W.a;have key:∀{e:Nat},Blk x 0 e->e=x.length->Blk x 0 (x.length-1)/\n.x=(x.length:Int)-2:=by
  intro e B he;cases B with
  | @leaf i m h h0=>
   rw [show x.length-1=0 by omega,h] at hx
   cases hx;omega
  | @one f i m B h h0 hxx=>
   obtain rfl:i=x.length-1:=by omega
   rw [h] at hx;cases hx;exact⟨B,by omega⟩
  | @two f g i m B B' h h0 hxx hyy=>
   obtain rfl:i=x.length-1:=by omega
   rw [h] at hx;cases hx;omega
 obtain⟨B,hnx⟩:=key O.b rfl;have hB:=B.lt;have ec:ZX x 0 (x.length-1)=x.take (x.length-1):=by
  unfold ZX seg;rw [pZ,Nat.sub_zero];exact Qhj _
 have OC:=KJ (Qn6 O.n B);have lc:(ZX x 0 (x.length-1)).length-1=x.length-2:=by rw [GL B];omega
 have pre:∀{β:Type} (d:β) (F:Nd->β->β->β),fAt d F (ZX x 0 (x.length-1)) (x.length-2)=fAt d F x (x.length-2):=by intro β d F;rw [ec];exact Uj x (by omega) (by omega)
 refine⟨by omega,hnx,B,OC,fun e=>?_,?_,?_⟩
 ·have h1:vAt e x (x.length-1)=_:=Ye (YJ e) hx W;unfold ZG;rw [h1,lc,GQ e (by omega) (by omega),vAt,pre,show n.x.toNat=x.length-2 by omega]
  have:∀ a b b',opV n.op a b=opV n.op a b':=by
   intro a b b';unfold opV;split
   ·rfl
   ·split
    ·rfl
    ·split
     ·rfl
     ·omega
  exact this _ _ _
 ·have h1:tAt x (x.length-1)=_:=Ye YQ hx W;rw [h1,WL (by omega) (by omega),bE (by omega),show n.x.toNat=x.length-2 by omega]
 ·rw [lc];exact pre _ _
theorem Rep.twice {P:EvL->Int × Int}{T:Option Int}{k:Nat}{x:List Nd}{n:Nd}(A:Rep P T k x)(hx:x[x.length-1]?=some n)(h:(n.op=4/\(Zn (ZX x 0 (x.length-1))).1≠1)\/(n.op=3/\(Zn (ZX x 0 (x.length-1))).1≠2))(h0:(Zn (ZX x 0 (x.length-1))).2=0) :
  Rep (fun e=>opV n.op (P e) (P e)) (tyG n.op T T) (k+1) (ZX x 0 (x.length-1)):=by
 have ha:arI n.op=1:=by rcases h with ⟨h,_⟩|⟨h,_⟩<;>rw [h]<;>decide
 obtain⟨hl,hnx,B,OC,hv,ht,hc⟩:=QnW A.ok hx ha;have hp:=OC.pos;have hty:∃ t,tAt (ZX x 0 (x.length-1)) ((ZX x 0 (x.length-1)).length-1)=some t/\(Zn (ZX x 0 (x.length-1))).1=t:=by
  unfold Zn at h0 ⊢;cases hq:tAt (ZX x 0 (x.length-1)) ((ZX x 0 (x.length-1)).length-1) with
  | none=>rw [hq] at h0;cases h0
  | some t=>exact⟨t,rfl,rfl⟩
 obtain⟨t,e1,e2⟩:=hty;rw [e2] at h;have tr:=Qev OC (by omega) e1
 refine⟨OC,by rw [GL B];have:=A.len;omega,fun e E=>?_,fun u hu=>⟨t,e1,?_⟩⟩
 ·have g:=Vw OC E (i:=(ZX x 0 (x.length-1)).length-1) (by omega)
  have g2:=g.2 t e1;have n1:t≠1->(vAt e (ZX x 0 (x.length-1)) ((ZX x 0 (x.length-1)).length-1)).1≠1:=fun h q=>by rcases g2 with g2|g2<;>rw [g2] at q<;>omega
  have n2:t≠2->(vAt e (ZX x 0 (x.length-1)) ((ZX x 0 (x.length-1)).length-1)).1≠2:=fun h q=>by rcases g2 with g2|g2<;>rw [g2] at q<;>omega
  rw [<-A.val e E,hv e];show _=opV n.op _ _;rcases h with ⟨h,h1⟩|⟨h,h1⟩
  ·rw [h];exact(QmO g.1 (n1 h1)).symm
  ·rw [h];exact(Qpt g.1 (n2 h1)).symm
 ·have:=Mc hu;unfold Qfy Wy at this;rcases h with ⟨h,h1⟩|⟨h,h1⟩
  ·rw [h] at this;simp at this;omega
  ·rw [h] at this;simp at this;omega
structure QaL (P:EvL->Int × Int)(op:Int)(k:Nat)(z:List Nd):Prop where
 ok:OkE z
 len:z.length<=k
 val:∀ e,YM e->ZG e z=P e
 ty:∃ t',tAt z (z.length-1)=some t'/\(t'=0\/t'=Qfy op)
theorem QaL.rep {P:EvL->Int × Int}{op:Int}{k j:Nat}{z:List Nd}(A:QaL P op k z)(hj:k<=j)(T U:Option Int):Rep P (tyG op T U) j z:=
 ⟨A.ok,dJ A.len hj,A.val,fun t ht=>by rw [Mc ht];exact A.ty⟩
theorem QaL.cst {P:EvL->Int × Int}{op:Int}{k:Nat}{v:Int × Int}(h:Qo v)(hk:1<=k)(hP:∀ e,YM e->v=P e)(hT:v.1=0\/v.1=Qfy op):QaL P op k (cst v):=
 ⟨Qnf h,hk,hP,v.1,rfl,hT⟩
def Qg0 (right:Bool)(op:Int)(a v:Int × Int):Int × Int:=if right then doV op a v else doV op v a
theorem Qgb {x:List Nd}(h:(Zn x).2=0):tAt x (x.length-1)=some (Zn x).1:=by
 unfold Zn at h ⊢;cases hq:tAt x (x.length-1) with
 | none=>rw [hq] at h;cases h
 | some t=>rfl
theorem Qkx {x:List Nd}(O:OkE x){op:Int}{v:Int × Int}{right:Bool}(h:(op=9/\v=(2,1))\/(op=10/\v=(2,0)))(h0:(Zn x).2=0)(h1:(Zn x).1≠1):QaL (fun e=>Qg0 right op (ZG e x) v) op x.length x:=by
 have hp:=O.pos;have e1:=Qgb h0;have tr:=Qev O (by omega) e1
 refine⟨O,cJ _,fun e E=>?_,_,e1,?_⟩
 ·have g:=Vw O E (i:=x.length-1) (by omega)
  have g2:=g.2 _ e1;have n1:(vAt e x (x.length-1)).1≠1:=fun q=>by rcases g2 with g2|g2<;>rw [g2] at q<;>omega
  unfold Qg0;rcases h with ⟨rfl,rfl⟩|⟨rfl,rfl⟩
  ·cases right
   ·exact(QkZ g.1 n1).2.symm
   ·exact(QkZ g.1 n1).1.symm
  ·cases right
   ·exact(Qp9 g.1 n1).2.symm
   ·exact(Qp9 g.1 n1).1.symm
 ·have:Qfy op=2:=by rcases h with ⟨rfl,_⟩|⟨rfl,_⟩<;>decide
  omega
theorem Ql7 {x:List Nd}{op:Int}{v:Int × Int}{right:Bool}(h:(op=9/\v=(2,0))\/(op=10/\v=(2,1))):QaL (fun e=>Qg0 right op (ZG e x) v) op 1 (cst v):=by
 refine QaL.cst (by rcases h with ⟨_,rfl⟩|⟨_,rfl⟩<;>(unfold Qo;simp)) (cJ 1) (fun e E=>?_) (by rcases h with ⟨rfl,rfl⟩|⟨rfl,rfl⟩<;>decide)
 unfold Qg0;rcases h with ⟨rfl,rfl⟩|⟨rfl,rfl⟩
 ·cases right
  ·exact(QnI (ZG e x)).2.symm
  ·exact(QnI (ZG e x)).1.symm
 ·cases right
  ·exact(Qox (ZG e x)).2.symm
  ·exact(Qox (ZG e x)).1.symm
theorem Qi1 {x:List Nd}(O:OkE x){op:Int}{v:Int × Int}{right:Bool}(h:(op=6/\v=(1,0))\/(op=8/\v=(1,1))\/(op=7/\right=true/\v=(1,0)))(h0:(Zn x).2=0)(h1:(Zn x).1≠2):QaL (fun e=>Qg0 right op (ZG e x) v) op x.length x:=by
 have hp:=O.pos;have e1:=Qgb h0;have tr:=Qev O (by omega) e1
 refine⟨O,cJ _,fun e E=>?_,_,e1,?_⟩
 ·have g:=Vw O E (i:=x.length-1) (by omega)
  have g2:=g.2 _ e1;have n1:(vAt e x (x.length-1)).1≠2:=fun q=>by rcases g2 with g2|g2<;>rw [g2] at q<;>omega
  unfold Qg0;rcases h with ⟨rfl,rfl⟩|⟨rfl,rfl⟩|⟨rfl,rfl,rfl⟩
  ·cases right
   ·exact(Qqd g.1 n1).2.symm
   ·exact(Qqd g.1 n1).1.symm
  ·cases right
   ·exact(Qqa g.1 n1).2.symm
   ·exact(Qqa g.1 n1).1.symm
  ·exact(Qrf g.1 n1).symm
 ·have:Qfy op=1:=by rcases h with ⟨rfl,_⟩|⟨rfl,_⟩|⟨rfl,_⟩<;>decide
  omega
theorem Qnn {x:List Nd}{op:Int}{v:Int × Int}(hv:Qo v){right:Bool}(h9:op≠9)(h10:op≠10)(h0:v.1=0):QaL (fun e=>Qg0 right op (ZG e x) v) op 1 (cst v):=by
 have ev:v=(0,0):=by
  obtain⟨a,b⟩:=v;unfold Qo at hv;simp only [fM] at *
  omega
 subst ev;refine QaL.cst Uh (cJ 1) (fun e E=>?_) (.inl rfl)
 unfold Qg0;cases right
 ·exact(QlD h9 h10 (.inl rfl)).symm
 ·exact(QlD h9 h10 (.inr rfl)).symm
theorem Blk.uniq {l:List Nd}{f e:Nat}(B:Blk l f e):∀{f':Nat},Blk l f' e->f=f':=by
 induction B with
 | @leaf i n h h0=>
  intro f' B';cases B' with
  | leaf h' h0'=>rfl
  | one B1 h' h0' _=>rw [h] at h';cases h';omega
  | two B1 B2 h' h0' _ _=>rw [h] at h';cases h';omega
 | @one f i n B h h0 hx ih=>
  intro f' B';cases B' with
  | leaf h' h0'=>rw [h] at h';cases h';omega
  | one B1 h' h0' _=>exact ih B1
  | two B1 B2 h' h0' _ _=>rw [h] at h';cases h';omega
 | @two f g i n B B' h h0 hx hy ih1 ih2=>
  intro f' C;cases C with
  | leaf h' h0'=>rw [h] at h';cases h';omega
  | one B1 h' h0' _=>rw [h] at h';cases h';omega
  | @two _ g' _ n' B1 B2 h' h0' hx' hy'=>
   rw [h] at h';cases h';obtain rfl:g=g':=by omega
   exact ih1 B1
inductive UY (l:List Nd):List (List Nd)->Nat->Prop where
 | nil:UY l [] 0
 | push {s:List (List Nd)} {f e:Nat} {z:List Nd}:UY l s f->Blk l f e->Rep (fun ev=>vAt ev l (e-1)) (tAt l (e-1)) (e-f) z->UY l (z :: s) e
theorem UY.len {l:List Nd}{s:List (List Nd)}{e:Nat}(S:UY l s e):s.length<=e:=by
 induction S with
 | nil=>exact cJ _
 | push S B R ih=>have:=B.lt;simp;omega
theorem UY.all {l:List Nd}{s:List (List Nd)}{e:Nat}(S:UY l s e):e<=l.length:=by
 cases S with
 | nil=>exact cH _
 | push S B R=>exact B.lt.2
theorem UY.step {l:List Nd}(O:OkE l){s:List (List Nd)}{i:Nat}{n:Nd}(S:UY l s i)(hn:l[i]?=some n) :
  (arI n.op=0/\UY l ([n] :: s) (i+1)) \/
  (arI n.op=1/\∃ z s' P T k,s=z :: s'/\k<=i/\Rep P T k z/\∀ y,Rep (fun e=>opV n.op (P e) (P e)) (tyG n.op T T) (k+1) y->UY l (y :: s') (i+1)) \/
  (arI n.op=2/\∃ z z' s' P T k Q U j,s=z' :: z :: s'/\k+j<=i/\Rep P T k z/\Rep Q U j z'/\∀ y,Rep (fun e=>opV n.op (P e) (Q e)) (tyG n.op T U) (k+j+1) y->UY l (y :: s') (i+1)):=by
 have hlt:=(bI.1 hn).1
 have W:=O.wf _ _ hn;have ar:=ar0 W.a;have h0:=O.n n (bZ hn);obtain⟨g,_,B⟩:=O.b.sub i (cH _) hlt;have hv:∀ e,vAt e l i=_:=fun e=>Ye (YJ e) hn W
 have ht:tAt l i=_:=Ye YQ hn W;have inv:∀{s:List (List Nd)} {j f:Nat},UY l s j->Blk l f j->∃ z s',s=z :: s'/\UY l s' f/\Rep (fun ev=>vAt ev l (j-1)) (tAt l (j-1)) (j-f) z:=by
  intro s j f S B;cases S with
  | nil=>have:=B.lt;omega
  | push S B' R=>
   obtain rfl:=B'.uniq B;exact⟨_,_,rfl,S,R⟩
 have hB:=B;cases B with
 | leaf h ha=>
  rw [hn] at h;cases h;refine .inl ⟨ha,.push S hB ?_⟩
  have O1:=Rep.leaf h0 ha;have W1:=O1.wf 0 n rfl;refine⟨O1,by simp,fun e E=>?_,fun t e=>⟨t,?_,.inr rfl⟩⟩
  ·show ZG e [n]=vAt e l (i+1-1);rw [jD,hv e];have:ZG e [n]=_:=Ye (YJ e) (l:=[n]) (i:=0) rfl W1;rw [this];exact YJ e n _ _ _ _ W.a (fun h=>by omega) (fun h=>by omega)
  ·rw [jD,ht] at e;rw [<-e];have:tAt [n] 0=_:=Ye YQ (l:=[n]) (i:=0) rfl W1;show tAt [n] 0=_;rw [this];exact YQ n _ _ _ _ W.a (fun h=>by omega) (fun h=>by omega)
 | @one f _ n' B1 h ha hx=>
  rw [hn] at h;cases h;have hlt1:=B1.lt;obtain⟨z,s',rfl,S',R⟩:=inv S B1;refine .inr (.inl ⟨ha,z,s',_,_,_,rfl,Nat.sub_le _ _,R,fun y Y=>.push S' hB ?_⟩)
  rw [show i+1-g=i-g+1 by omega,jD]
  have ex:n.x.toNat=i-1:=by omega
  have:tAt l i=tyG n.op (tAt l (i-1)) (tAt l (i-1)):=by rw [ht,WL (by omega) (by omega),bE (by omega),ex]
  rw [this];refine⟨Y.ok,Y.len,fun e E=>?_,Y.ty⟩
  rw [Y.val e E,hv e,GQ e (by omega) (by omega),ex]
  have:∀ a b b',opV n.op a b=opV n.op a b':=by
   intro a b b';unfold opV;split
   ·rfl
   ·split
    ·rfl
    ·split
     ·rfl
     ·omega
  exact this _ _ _
 | @two f g' _ n' B1 B2 h ha hx hy=>
  rw [hn] at h;cases h;have hlt1:=B1.lt;have hlt2:=B2.lt;obtain⟨z',s1,rfl,S1,R'⟩:=inv S B2;obtain⟨z,s',rfl,S',R⟩:=inv S1 B1;refine .inr (.inr ⟨ha,z,z',s',_,_,_,_,_,_,rfl,?_,R,R',fun y Y=>.push S' hB ?_⟩)
  ·omega
  rw [show i+1-g=g'-g+(i-g')+1 by omega,jD]
  have ex:n.x.toNat=g'-1:=by omega
  have ey:n.y.toNat=i-1:=by omega
  have:tAt l i=tyG n.op (tAt l (g'-1)) (tAt l (i-1)):=by rw [ht,WL (by omega) (by omega),bH ha,ex,ey]
  rw [this];refine⟨Y.ok,Y.len,fun e E=>?_,Y.ty⟩
  rw [Y.val e E,hv e,GQ e (by omega) (by omega),ex,ey]
theorem UY.done {l:List Nd}(O:OkE l){s:List (List Nd)}(S:UY l s l.length):∃ z,s=[z]/\Rep (fun ev=>ZG ev l) (tAt l (l.length-1)) l.length z:=by
 have hB:=O.b;have hp:=O.pos;have key:∀{e:Nat},UY l s e->e=l.length->∃ z,s=[z]/\Rep (fun ev=>vAt ev l (e-1)) (tAt l (e-1)) e z:=by
  intro e S he;cases S with
  | nil=>omega
  | @push s f e z S' B R=>
   subst he;obtain rfl:=B.uniq hB;rw [Nat.sub_zero] at R;have k2:∀{f:Nat},UY l s f->f=0->s=[]:=by
    intro f S2 hf;cases S2 with
    | nil=>rfl
    | push _ B' _=>have:=B'.lt;omega
   rw [k2 S' rfl];exact⟨z,rfl,R⟩
 exact key S rfl
theorem QaL.mono {P:EvL->Int × Int}{op:Int}{k j:Nat}{z:List Nd}(A:QaL P op k z)(h:k<=j):QaL P op j z:=⟨A.ok,dJ A.len h,A.val,A.ty⟩
theorem Qnp {n:Nd}(h:QX n=0)(h1:n.op=1):[n]=cst n.v:=by
 obtain⟨op,x,y,k,v⟩:=n;simp only at h1;subst h1;unfold QX at h;split at h
 ·cases h
 ·split at h
  ·cases h
  ·rename_i h2;have e:arI 1=0:=by decide
   simp only [e] at h2;have hx:x=0:=by omega
   have hy:y=0:=by omega
   have hk:k=0:=by omega
   subst hx hy hk;rfl
theorem Rep.cst_val {P:EvL->Int × Int}{T:Option Int}{k:Nat}{v:Int × Int}(A:Rep P T k (Go.Proofs.YthicpjafcpfjoaaGreatDoor.cst v)):∀ e,YM e->P e=v:=fun e E=>(A.val e E).symm
theorem Qhu {op:Int}(h:6<=op)(a b:Int × Int):opV op a b=doV op a b:=by
 unfold opV;rw [bE (by omega),bE (by omega),bE (by omega)]
structure NS (h:Hp)(a:OaT)(n c:Nat)(l:List Nd):Prop where
 s:SlP ZC h a n l
 c:n<=c
theorem NS.le {h h':Hp}{a:OaT}{n c:Nat}{l:List Nd}(S:NS h a n c l)(hl:h.le h'):NS h' a n c l:=⟨S.s.le hl,S.c⟩
theorem NS.of {h h':Hp}{a:OaT}{c:Nat}{l:List Nd}(V:Uc h h' a c l):NS h' a l.length c l:=⟨V.slp QL (by decide),V.own.cap⟩
section
variable {a:OaT}{m c:Nat}{l:List Nd}{h:Hp}
theorem Y8 (S:SlP ZC h a m l){R:RtT}(hY:∀ n,l=[n]->n.op=1->R (Qe [vag (Qq n.v),vb true]) h)(hN:R (Qe [vag (Qq (0,0)),vb false]) h):Qa Pg 221 [vsl a m c] h R:=by
 refine QbE ?_
 obtain rfl:=S.1;by_cases h1:l.length=1
 ·obtain⟨n,rfl⟩:∃ n,l=[n]:=by
   match l,h1 with
   | [n],_=>exact⟨n,rfl⟩
  obtain⟨b,o,ha,hr⟩:=S.get QL (by decide) (i:=0) rfl
  have A:a=some ⟨b,o,none⟩/\(0:Int)<=0/\(0:Int)<(([n]:List Nd).length:Nat):=⟨ha,by decide,by simp⟩
  refine⟨b,o,fun _=>A,n.op,fun _=>Hp.row_cell hr (i:=0) rfl,fun g=>?_,fun g=>hN⟩
  rw [ZP] at g;have g:=bC g;refine⟨b,o,A,_,_,?_,hY n rfl g.2⟩
  exact Hp.row_sub hr (i:=4) (k:=2) (by decide)
 ·have e:decide (((l.length:Nat):Int)=1)=false:=cE (by omega)
  refine⟨0,0,fun g=>?_,0,fun g=>?_,fun g=>?_,fun _=>hN⟩
  ·rw [e] at g;cases g
  ·rw [e] at g;cases g
  ·rw [e] at g;cases g
theorem K8 {v:Int × Int}{R:RtT}(hK:∀ a' c' h',h.le h'->NS h' a' 1 c' (cst v)->R (vsl a' 1 c') h'):Qa Pg 222 [vag (Qq v)] h R:=by
 refine QjR ?_
 intro b1 hb1 h2;exact hK _ _ h2 (Hp.le_set (Hp.le_refl h) hb1 _) ⟨⟨rfl,Qf.new _ _ ((cst v).flatMap ZC) _⟩,cJ _⟩
theorem Qem {f:Int}(x:Int)(k:Int):(bif (QG f).isNone then decide (x≠k) else false)=decide (f=0/\x≠k):=by
 rw [Md,ZP]
theorem VC (S:SlP ZC h a m l)(O:OkE l)(hm:l.length<=1000000){R:RtT}(hK:∀ h',h.le h'->R (vb (decide ((Zn l).2=0/\(Zn l).1≠1))) h'):Qa Pg 224 [vsl a m c] h R:=by
 refine Qc3 ?_
 refine UJ S O hm fun h' l'=>⟨_,_,rfl,?_⟩
 rw [Qem];exact hK h' l'
theorem U3 (S:SlP ZC h a m l)(O:OkE l)(hm:l.length<=1000000){R:RtT}(hK:∀ h',h.le h'->R (vb (decide ((Zn l).2=0/\(Zn l).1≠2))) h'):Qa Pg 226 [vsl a m c] h R:=by
 refine QcN ?_
 refine UJ S O hm fun h' l'=>⟨_,_,rfl,?_⟩
 rw [Qem];exact hK h' l'
theorem Qdq {op:Int}(ho:arI op=1)(S:NS h a m c l){P:EvL->Int × Int}{T:Option Int}{k:Nat}(A:Rep P T k l)(hk:k<=1000000){R:RtT}
  (hK:∀ a' n' c' h' z,h.le h'->NS h' a' n' c' z->Rep (fun e=>opV op (P e) (P e)) (tyG op T T) (k+1) z->R (vsl a' n' c') h'):Qa Pg 181 [vi op,vsl a m c] h R:=by
 refine Qdv ?_
 have hm:=S.s.1;subst hm;have hl:=A.len;have hp:=A.pos;have ar:=ar0 (op:=op) (by omega)
 have WN:WfL ([]:List Nd):=NW;have J:=A.join1 ho;have join:∀ h',h.le h'->Qa Pg 223 [vi op,vsl a l.length c,vsl none 0 0] h' fun v64 h64=>∃(a65:OaT) (n65 c65:Nat),v64=vsl a65 n65 c65/\R (vsl a65 n65 c65) h64:=fun h' l'=>
  Uu (S.s.le l') (⟨rfl,.inl rfl⟩:SlP ZC h' none 0 []) WN (by omega) (by simp) fun a' c' h'' V=>⟨_,_,_,rfl,hK _ _ _ _ _ (Hp.le_trans l' V.le0) (NS.of V) J⟩
 refine Y8 S.s (fun n hn h1=>⟨_,_,true,rfl,fun _=>?_,fun g=>by cases g⟩) ⟨_,_,false,rfl,fun g=>by (cases g),fun _=>?_⟩
 ·subst hn;have hn0:=A.ok.n n (cB.2 rfl);have hc:=Qnp hn0 h1;rw [hc] at A J;refine K8 (v:=n.v) fun a8 c8 h7 l7 S8=>⟨_,_,_,rfl,?_⟩
  refine Uu S8.s (⟨rfl,.inl rfl⟩:SlP ZC h7 none 0 []) WN (by simp) (by simp) fun a11 c11 h10 V=>⟨_,_,_,rfl,?_⟩
  have hjl:(Z6 op (cst n.v) []).length=2:=Zx _ _ _;refine QaN (e:=ev0) (V.slp QL (by decide)) J.ok.wf (by omega) (by omega) fun h13 l13=>⟨_,_,rfl,?_⟩
  have ev:ZG ev0 (Z6 op (cst n.v) [])=opV op n.v n.v:=by rw [J.val ev0 QoX,A.cst_val ev0 QoX]
  rw [ev];refine K8 (v:=opV op n.v n.v) fun a18 c18 h17 l17 S18=>⟨_,_,_,rfl,hK _ _ _ _ _ (Hp.le_trans (Hp.le_trans (Hp.le_trans l7 V.le0) l13) l17) S18 ?_⟩
  have og:=Qdz (op:=op) (by omega) n.v n.v
  refine Rep.cst og.1 (by omega) (fun e E=>?_) fun t ht=>?_
  ·rw [A.cst_val e E]
  ·rw [Mc ht];exact og.2
 ·have hx:l[l.length-1]?=some (l[l.length-1]'(by omega)):=bD (by omega)
  obtain⟨b,o,ha,hr⟩:=S.s.get QL (by decide) hx
  generalize l[l.length-1]'(by omega)=n at *
  refine⟨_,iW,b,o,⟨ha,by omega,by omega⟩,n.op,n.x,n.y,n.n,n.v.1,n.v.2,?_,?_⟩
  ·rw [show (((l.length:Nat):Int)-1).toNat=l.length-1 by omega]
   exact hr
  have cut:∀(h':Hp),h.le h'->arI n.op=1->∀(K:RtT),(∀ a' n' c' h'',h'.le h''->NS h'' a' n' c' (ZX l 0 (l.length-1))->K (vsl a' n' c') h'')->Qa Pg 225 [vsl a l.length c,vi n.x] h' K:=by
   intro h' l' h1 K hK;obtain⟨hl2,hnx,B,OC,_⟩:=QnW A.ok hx h1;have e1:l.length-1=(l.length-2)+1:=by omega
   rw [e1] at B hK;exact Qjw (S.s.le l') S.c A.ok.wf (by omega) B (by omega) fun a' c' h'' V=>hK _ _ _ _ V.le0 (NS.of V)
  have lc:arI n.op=1->OkE (ZX l 0 (l.length-1))/\(ZX l 0 (l.length-1)).length<=1000000:=by intro h1;obtain⟨hl2,hnx,B,OC,_⟩:=QnW A.ok hx h1;exact⟨OC,by rw [GL B];omega⟩
  -- what is known of the first test
  refine⟨fun x h'=>h.le h'/\∃ a' n' c',x=.t (.one (.v (vsl a' n' c')))/\((op=4/\n.op=4)->NS h' a' n' c' (ZX l 0 (l.length-1))),fun g=>?_,fun g=>?_,?_⟩
  ·rw [ZP] at g;have g:=bC g;exact cut h (Hp.le_refl h) (by rw [g.2];decide) _ fun a' n' c' h'' l'' S'=>⟨_,_,_,rfl,l'',_,_,_,rfl,fun _=>S'⟩
  ·rw [ZP] at g;exact⟨Hp.le_refl h,none,0,0,rfl,fun q=>absurd (cC q) g⟩
  rintro h33 a34 n34 c34 ⟨l33,a',n',c',e,S33⟩;cases e;refine⟨fun x h'=>h.le h'/\∃ p,x=.t (.one (.v (vb p)))/\((op=4/\n.op=4)->p=decide ((Zn (ZX l 0 (l.length-1))).2=0/\(Zn (ZX l 0 (l.length-1))).1≠1)),fun g=>?_,fun g=>?_,?_⟩
  ·rw [ZP] at g;have g:=bC g;obtain⟨OC,hC⟩:=lc (by rw [g.2];decide)
   exact VC (S33 g).s OC hC fun h' l'=>⟨_,rfl,Hp.le_trans l33 l',_,rfl,fun _=>rfl⟩
  ·rw [ZP] at g;exact⟨l33,false,rfl,fun q=>absurd (cC q) g⟩
  rintro h39 p40 ⟨l39,p,e,hp40⟩;cases e;intro J55;have yes:∀ h',h.le h'->((op=4/\n.op=4/\(Zn (ZX l 0 (l.length-1))).2=0/\(Zn (ZX l 0 (l.length-1))).1≠1)\/(op=3/\n.op=3/\(Zn (ZX l 0 (l.length-1))).2=0/\(Zn (ZX l 0 (l.length-1))).1≠2))->J55 true h':=by
   intro h' l' hc;have eop:n.op=op:=by omega
   refine⟨fun _=>?_,fun g=>by cases g⟩
   refine cut h' l' (by rw [eop];exact ho) _ fun a' n' c' h'' l'' S'=>⟨_,_,_,rfl,hK _ _ _ _ _ (Hp.le_trans l' l'') S' ?_⟩
   have:=A.twice hx (by omega) (by omega)
   rw [eop] at this;exact this
  have no:∀ h',h.le h'->J55 false h':=fun h' l'=>⟨fun g=>by (cases g),fun _=>join h' l'⟩
  clear_value J55;rw [ZP];by_cases hc:op=4/\n.op=4
  ·have hp:=hp40 hc;subst hp;have e1:decide (op=4/\n.op=4)=true:=cC hc;rw [e1];by_cases ht:(Zn (ZX l 0 (l.length-1))).2=0/\(Zn (ZX l 0 (l.length-1))).1≠1
   ·rw [cC ht];exact⟨fun _=>yes _ l39 (by omega),fun g=>by cases g⟩
   ·rw [cE ht];refine⟨fun g=>by (cases g),fun _=>?_⟩
    have n3:(bif decide (op=3) then decide (n.op=3) else false)=false:=by rw [ZP];exact cE (by omega)
    rw [n3];refine⟨fun x h'=>h'=h39/\x=.t (.one (.v (vsl none 0 0))),fun g=>by (cases g),fun _=>⟨rfl,rfl⟩,?_⟩
    rintro h46 a47 n47 c47 ⟨rfl,e⟩;cases e;refine⟨fun x h'=>h'=h46/\x=.t (.one (.v (vb false))),fun g=>by (cases g),fun _=>⟨rfl,rfl⟩,?_⟩
    rintro h52 p53 ⟨rfl,e⟩;cases e;exact no _ l39
  ·have e1:decide (op=4/\n.op=4)=false:=cE hc;rw [e1];refine⟨fun g=>by (cases g),fun _=>?_⟩
   rw [ZP];refine⟨fun x h'=>h.le h'/\∃ a' n' c',x=.t (.one (.v (vsl a' n' c')))/\((op=3/\n.op=3)->NS h' a' n' c' (ZX l 0 (l.length-1))),fun g=>?_,fun g=>?_,?_⟩
   ·have g:=bC g;exact cut _ l39 (by rw [g.2];decide) _ fun a' n' c' h'' l'' S'=>⟨_,_,_,rfl,Hp.le_trans l39 l'',_,_,_,rfl,fun _=>S'⟩
   ·exact⟨l39,none,0,0,rfl,fun q=>absurd (cC q) g⟩
   rintro h46 a47 n47 c47 ⟨l46,a',n',c',e,S46⟩;cases e;refine⟨fun x h'=>h.le h'/\∃ p,x=.t (.one (.v (vb p)))/\((op=3/\n.op=3)->p=decide ((Zn (ZX l 0 (l.length-1))).2=0/\(Zn (ZX l 0 (l.length-1))).1≠2)),fun g=>?_,fun g=>?_,?_⟩
   ·have g:=bC g;obtain⟨OC,hC⟩:=lc (by rw [g.2];decide)
    exact U3 (S46 g).s OC hC fun h' l'=>⟨_,rfl,Hp.le_trans l46 l',_,rfl,fun _=>rfl⟩
   ·exact⟨l46,false,rfl,fun q=>absurd (cC q) g⟩
   rintro h52 p53 ⟨l52,p,e,hp53⟩;cases e;by_cases hc3:op=3/\n.op=3
   ·have hp:=hp53 hc3;subst hp;rw [cC hc3];by_cases ht:(Zn (ZX l 0 (l.length-1))).2=0/\(Zn (ZX l 0 (l.length-1))).1≠2
    ·rw [cC ht];exact yes _ l52 (by omega)
    ·rw [cE ht];exact no _ l52
   ·rw [cE hc3];exact no _ l52
end
abbrev svV (v:Int × Int):SV:=.t (.ag [.v (vi v.1),.v (vi v.2)])
theorem gd {p:Prop}[Decidable p]{v b c:Int × Int}(h:p->b=c):(bif decide p then decide (v=b) else false)=decide (p/\v=c):=by
 by_cases hp:p
 ·rw [h hp];simp [hp]
 ·simp [hp]
theorem Qq6:Xa 0=(1,0):=by decide
theorem Qrn:Xa 1=(1,1):=by decide
section
variable {a:OaT}{m c:Nat}{l:List Nd}{h:Hp}
theorem VT {op:Int}(S:NS h a m c l)(O:OkE l)(hm:l.length<=1000000){v:Int × Int}(hv:Qo v){right:Bool}{R:RtT}
  (hY:∀ a' n' c' h' z,h.le h'->NS h' a' n' c' z->QaL (fun e=>Qg0 right op (ZG e l) v) op l.length z->R (Qe [vsl a' n' c',vb true]) h') (hN:∀ h',h.le h'->R (Qe [vsl none 0 0,vb false]) h') :
  Qa Pg 227 [vi op,vsl a m c,vag (Qq v),vb right] h R:=by
 refine QdK ?_
 have hp:=O.pos;refine⟨fun x h'=>h.le h'/\∃ b,x=svV b/\(op=9->b=(2,1)),fun g=>QP ⟨_,_,rfl,Hp.le_refl h,_,rfl,fun _=>rfl⟩,fun g=>⟨Hp.le_refl h,(0,0),rfl,fun q=>absurd (cC q) g⟩,?_⟩
 rintro h6 x7 x8 ⟨l6,b,e,hb⟩;cases e;refine⟨_,fun _=>XI (a:=v) (b:=b),?_⟩
 rw [gd hb];refine⟨fun x h'=>h.le h'/\∃ b,x=svV b/\(op=10->b=(2,0)),fun g=>QP ⟨_,_,rfl,l6,_,rfl,fun _=>rfl⟩,fun g=>⟨l6,(0,0),rfl,fun q=>absurd ⟨cE (by omega),cC q⟩ g⟩,?_⟩
 rintro h15 x16 x17 ⟨l15,b2,e,hb2⟩;cases e;refine⟨_,fun _=>XI (a:=v) (b:=b2),?_⟩
 rw [gd hb2,cor];refine⟨fun x h'=>h.le h'/\∃ p,x=.t (.one (.v (vb p)))/\(p=true->(Zn l).2=0/\(Zn l).1≠1),fun g=>VC (S.s.le l15) O hm fun h' l'=>⟨_,rfl,Hp.le_trans l15 l',_,rfl,fun q=>bC q⟩,fun g=>⟨l15,false,rfl,fun q=>by cases q⟩,?_⟩
 rintro h23 p24 ⟨l23,p,e,hp24⟩;cases e;have e24:∀(q:Prop) [Decidable q],(bif decide q then p24 else false)=true->q/\p24=true:=by
  intro q _ g;by_cases hq:q
  ·rw [cC hq] at g;exact⟨hq,g⟩
  ·rw [cE hq] at g;cases g
 refine⟨fun g=>?_,fun _=>?_⟩
 ·obtain⟨g1,g2⟩:=e24 _ g;have ht:=hp24 g2;exact hY _ _ _ _ _ l23 (S.le l23) (Qkx O g1 ht.1 ht.2)
 refine⟨fun x h'=>h.le h'/\∃ b,x=svV b/\(op=9->b=(2,0)),fun g=>QP ⟨_,_,rfl,l23,_,rfl,fun _=>rfl⟩,fun g=>⟨l23,(0,0),rfl,fun q=>absurd (cC q) g⟩,?_⟩
 rintro h30 x31 x32 ⟨l30,b3,e,hb3⟩;cases e;refine⟨_,fun _=>XI (a:=v) (b:=b3),?_⟩
 rw [gd hb3];intro J45;have yes:∀ h',h.le h'->(op=9/\v=(2,0))\/(op=10/\v=(2,1))->J45 true h':=by
  intro h' l' hc;refine⟨fun _=>?_,fun g=>by cases g⟩
  exact K8 (v:=v) fun a' c' h'' l'' S'=>⟨_,_,_,rfl,hY _ _ _ _ _ (Hp.le_trans l' l'') S' ((Ql7 (x:=l) hc).mono hp)⟩
 have no:∀ h',h.le h'->J45 false h':=by
  intro h48 l48;refine⟨fun g=>by (cases g),fun _=>?_⟩
  refine⟨fun x h'=>h.le h'/\∃ b,x=svV b/\(op=6->b=(1,0)),fun g=>QK ⟨_,_,rfl,l48,_,rfl,fun _=>Qq6⟩,fun g=>⟨l48,(0,0),rfl,fun q=>absurd (cC q) g⟩,?_⟩
  rintro h57 x58 x59 ⟨l57,b,e,hb⟩;cases e;refine⟨_,fun _=>XI (a:=v) (b:=b),?_⟩
  rw [gd hb];refine⟨fun x h'=>h.le h'/\∃ b,x=svV b/\(op=8->b=(1,1)),fun g=>QK ⟨_,_,rfl,l57,_,rfl,fun _=>Qrn⟩,fun g=>⟨l57,(0,0),rfl,fun q=>absurd ⟨cE (by omega),cC q⟩ g⟩,?_⟩
  rintro h66 x67 x68 ⟨l66,b2,e,hb2⟩;cases e;refine⟨_,fun _=>XI (a:=v) (b:=b2),?_⟩
  rw [gd hb2,cor];have er:(bif decide (op=7) then right else false)=decide (op=7/\right=true):=by
   by_cases h7:op=7<;>cases right<;>simp [h7]
  rw [er];refine⟨fun x h'=>h.le h'/\∃ b,x=svV b/\(op=7/\right=true->b=(1,0)),fun g=>QK ⟨_,_,rfl,l66,_,rfl,fun _=>Qq6⟩,fun g=>⟨l66,(0,0),rfl,fun q=>absurd ⟨cE (by omega),cC q⟩ g⟩,?_⟩
  rintro h75 x76 x77 ⟨l75,b3,e,hb3⟩;cases e;refine⟨_,fun _=>XI (a:=v) (b:=b3),?_⟩
  rw [gd hb3,cor];refine⟨fun x h'=>h.le h'/\∃ p,x=.t (.one (.v (vb p)))/\(p=true->(Zn l).2=0/\(Zn l).1≠2),fun g=>U3 (S.s.le l75) O hm fun h' l'=>⟨_,rfl,Hp.le_trans l75 l',_,rfl,fun q=>bC q⟩,fun g=>⟨l75,false,rfl,fun q=>by cases q⟩,?_⟩
  rintro h83 p84 ⟨l83,p,e,hp84⟩;cases e;refine⟨fun g=>?_,fun _=>⟨fun g=>?_,fun _=>hN _ l83⟩⟩
  ·have e84:∀(q:Prop) [Decidable q],(bif decide q then p84 else false)=true->q/\p84=true:=by
    intro q _ g;by_cases hq:q
    ·rw [cC hq] at g;exact⟨hq,g⟩
    ·rw [cE hq] at g;cases g
   obtain⟨g1,g2⟩:=e84 _ g;have ht:=hp84 g2;refine hY _ _ _ _ _ l83 (S.le l83) (Qi1 O ?_ ht.1 ht.2)
   rcases g1 with (g1|g1)|⟨⟨g1,g3⟩,g4⟩
   ·exact .inl g1
   ·exact .inr (.inl g1)
   ·exact .inr (.inr ⟨g1,g3,g4⟩)
  ·simp only [ZP] at g;have g:=bC g;exact K8 (v:=v) fun a' c' h'' l'' S'=>⟨_,_,_,rfl,hY _ _ _ _ _ (Hp.le_trans l83 l'') S' ((Qnn (x:=l) hv g.1.1 g.1.2 g.2).mono hp)⟩
 clear_value J45;refine⟨fun g=>?_,fun _=>?_⟩
 ·rw [g];exact yes _ l30 (.inl (bC g))
 refine⟨fun x h'=>h.le h'/\∃ b,x=svV b/\(op=10->b=(2,1)),fun g=>QP ⟨_,_,rfl,l30,_,rfl,fun _=>rfl⟩,fun g=>⟨l30,(0,0),rfl,fun q=>absurd (cC q) g⟩,?_⟩
 rintro h40 x41 x42 ⟨l40,b4,e,hb4⟩;cases e;refine⟨_,fun _=>XI (a:=v) (b:=b4),?_⟩
 rw [gd hb4];by_cases hc:op=10/\v=(2,1)
 ·rw [cC hc];exact yes _ l40 (.inr hc)
 ·rw [cE hc];exact no _ l40
theorem QeT {op:Int}(ho:arI op=2)(S:NS h a m c l){P:EvL->Int × Int}{T:Option Int}{k:Nat}(A:Rep P T k l)(hk:k<=1000000)
  {a2:OaT} {m2 c2:Nat} {l2:List Nd} (S2:NS h a2 m2 c2 l2) {Q:EvL->Int × Int} {U:Option Int} {j:Nat} (B:Rep Q U j l2) (hj:j<=1000000) {R:RtT}
  (hK:∀ a' n' c' h' z,h.le h'->NS h' a' n' c' z->Rep (fun e=>opV op (P e) (Q e)) (tyG op T U) (k+j+1) z->R (vsl a' n' c') h'):Qa Pg 182 [vi op,vsl a m c,vsl a2 m2 c2] h R:=by
 refine QeF ?_
 have hA:=A.len;have hB:=B.len;have hpA:=A.pos;have hpB:=B.pos;have ar:=ar0 (op:=op) (by omega)
 have m1:=S.s.1;have mm2:=S2.s.1;subst m1 mm2;have cnst:∀{x:List Nd} {n:Nd},OkE x->x=[n]->n.op=1->x=cst n.v/\Qo n.v:=by intro x n O e h1;subst e;have hn:=O.n n (cB.2 rfl);exact⟨Qnp hn h1,Qc7 hn⟩
 have Y:∀(p5 p10:Bool) (v w:Int × Int),(p5=true->l=cst v/\Qo v)->(p10=true->l2=cst w/\Qo w) ->
   (((bif p5 then p10 else false)=true->(Qa Pg 165 [(vi op),(vag [(vi v.1),(vi v.2)]),(vag [(vi w.1),(vi w.2)])] h fun v11 h12=>∃(x13:Int) (x14:Int),v11=(vag [(vi x13),(vi x14)])/\(Qa Pg 222 [(vag [(vi x13),(vi x14)])] h12 fun v15 h16=>∃(a17:OaT) (n17 c17:Nat),v15=(vsl a17 n17 c17)/\R (vsl a17 n17 c17) h16)))/\((bif p5 then p10 else false)=false->(let J25:HpT:=fun(h26:Hp)=>(let J33:HpT:=fun(h34:Hp)=>(Qa Pg 223 [(vi op),(vsl a l.length c),(vsl a2 l2.length c2)] h34 fun v35 h36=>∃(a37:OaT) (n37 c37:Nat),v35=(vsl a37 n37 c37)/\R (vsl a37 n37 c37) h36);((p10=true->(Qa Pg 227 [(vi op),(vsl a l.length c),(vag [(vi w.1),(vi w.2)]),(vb true)] h26 fun v27 h28=>∃(a29:OaT) (n29 c29:Nat) (p30:Bool),v27=(Qe [(vsl a29 n29 c29),(vb p30)])/\((p30=true->R (vsl a29 n29 c29) h28)/\(p30=false->(J33 h28)))))/\(p10=false->(J33 h26))));((p5=true->(Qa Pg 227 [(vi op),(vsl a2 l2.length c2),(vag [(vi v.1),(vi v.2)]),(vb false)] h fun v19 h20=>∃(a21:OaT) (n21 c21:Nat) (p22:Bool),v19=(Qe [(vsl a21 n21 c21),(vb p22)])/\((p22=true->R (vsl a21 n21 c21) h20)/\(p22=false->(J25 h20)))))/\(p5=false->(J25 h)))))):=by
  intro p5 p10 v w hp5 hp10;refine⟨fun g=>?_,fun _=>?_⟩
  ·have g1:p5=true/\p10=true:=by revert g;cases p5<;>cases p10<;>simp
   obtain⟨hl,hgv⟩:=hp5 g1.1;obtain⟨hl2,hgw⟩:=hp10 g1.2;rw [hl] at A;rw [hl2] at B;refine Qb4 (a:=v) (b:=w) ⟨_,_,rfl,K8 (v:=doV op v w) fun a' c' h' l' S'=>⟨_,_,_,rfl,hK _ _ _ _ _ l' S' ?_⟩⟩
   have og:=Qdz (op:=op) (by omega) v w
   rw [Qhu (by omega)] at og
   refine Rep.cst og.1 (by omega) (fun e E=>?_) fun t ht=>?_
   ·rw [A.cst_val e E,B.cst_val e E,Qhu (by omega)]
   ·rw [Mc ht];exact og.2
  intro J25;have j25:∀ h',h.le h'->J25 h':=by
   intro h26 l26;have j33:∀ h',h.le h'->Qa Pg 223 [(vi op),(vsl a l.length c),(vsl a2 l2.length c2)] h' fun v35 h36=>∃(a37:OaT) (n37 c37:Nat),v35=(vsl a37 n37 c37)/\R (vsl a37 n37 c37) h36:=fun h' l'=>Uu (S.s.le l') (S2.s.le l') B.ok.wf (by omega) (by omega) fun a' c' h'' V=>⟨_,_,_,rfl,hK _ _ _ _ _ (Hp.le_trans l' V.le0) (NS.of V) (A.join2 ho B)⟩
   refine⟨fun g=>?_,fun _=>j33 _ l26⟩
   obtain⟨hl2,hgw⟩:=hp10 g;refine VT (v:=w) (S.le l26) A.ok (by omega) hgw (fun a' n' c' h' z l' S' Z=>⟨_,_,_,true,rfl,fun _=>hK _ _ _ _ _ (Hp.le_trans l26 l') S' ?_,fun g=>by cases g⟩) fun h' l'=>⟨_,_,_,false,rfl,fun g=>by (cases g),fun _=>j33 _ (Hp.le_trans l26 l')⟩
   rw [hl2] at B;have Z2:=Z.rep (j:=k+j+1) (by omega) T U
   refine⟨Z2.ok,Z2.len,fun e E=>?_,Z2.ty⟩
   rw [Z2.val e E,B.cst_val e E,Qhu (by omega),A.val e E]
   rfl
  clear_value J25;refine⟨fun g=>?_,fun _=>j25 _ (Hp.le_refl h)⟩
  obtain⟨hl,hgv⟩:=hp5 g;refine VT (v:=v) S2 B.ok (by omega) hgv (fun a' n' c' h' z l' S' Z=>⟨_,_,_,true,rfl,fun _=>hK _ _ _ _ _ l' S' ?_,fun g=>by cases g⟩) fun h' l'=>⟨_,_,_,false,rfl,fun g=>by (cases g),fun _=>j25 _ l'⟩
  rw [hl] at A;have Z2:=Z.rep (j:=k+j+1) (by omega) T U
  refine⟨Z2.ok,Z2.len,fun e E=>?_,Z2.ty⟩
  rw [Z2.val e E,A.cst_val e E,Qhu (by omega),B.val e E]
  rfl
 refine Y8 S.s (fun n hn h1=>⟨_,_,true,rfl,?_⟩) ⟨_,_,false,rfl,?_⟩
 ·refine Y8 S2.s (fun n2 hn2 h2=>⟨_,_,true,rfl,?_⟩) ⟨_,_,false,rfl,?_⟩
  ·exact Y true true n.v n2.v (fun _=>cnst A.ok hn h1) (fun _=>cnst B.ok hn2 h2)
  ·exact Y true false n.v (0,0) (fun _=>cnst A.ok hn h1) (fun g=>by cases g)
 ·refine Y8 S2.s (fun n2 hn2 h2=>⟨_,_,true,rfl,?_⟩) ⟨_,_,false,rfl,?_⟩
  ·exact Y false true (0,0) n2.v (fun g=>by cases g) (fun _=>cnst B.ok hn2 h2)
  ·exact Y false false (0,0) (0,0) (fun g=>by cases g) (fun g=>by cases g)
end
theorem Qq3:ElT Pg 265 28 1 24:=.of (by kernel_rfl) (by kernel_rfl) (by decide)
def QlU (r:K0 Nd):List Value:=[QiB r]
theorem W9 (r:K0 Nd):(QlU r).length=1:=rfl
structure Qq9 (h:Hp)(a:OaT)(n c:Nat)(R:List (K0 Nd)):Prop where
 s:SlP QlU h a n R
 c:n<=c
 r:∀ r ∈ R,NS h r.1.1 r.2.length r.1.2 r.2
theorem QcS {α β:Type}{f:α->β}{R:List α}{z:β}{s:List β}(h:(R.map f).reverse=z :: s):∃ r,R=R.take (R.length-1)++[r]/\f r=z/\((R.take (R.length-1)).map f).reverse=s/\1<=R.length/\R[R.length-1]?=some r:=by
 have h1:R.map f=s.reverse++[z]:=by rw [<-mE (R.map f),h,fO]
 have hlen:R.length=s.length+1:=by have:=congrArg List.length h1;simpa using this
 have hx:R[R.length-1]?=some (R[R.length-1]'(by omega)):=bD (by omega)
 refine⟨_,?_,?_,?_,by omega,hx⟩
 ·have:=dV (R.length-1) R;rw [dM (by omega),show R.length-1+1=R.length by omega,jU] at this
  exact this.symm
 ·have:(R.map f)[R.length-1]?=some z:=by rw [h1,dA (by simp;omega)];simp [hlen]
  rw [cU,hx] at this
  simpa using this
 ·rw [gK,h1,jM (by simp;omega),mE]
section
variable {a:OaT}{m c:Nat}{l:List Nd}{h:Hp}
structure Stp (l:List Nd)(F:List (List Nd)->Nat->Prop):Prop where
 z:F [] 0
 len:∀ s i,F s i->s.length<=i
 stp:∀ s i n,F s i->l[i]?=some n->(arI n.op=0/\F ([n] :: s) (i+1)) \/
  (arI n.op=1/\∃ z s',s=z :: s'/\∀(a:OaT) (m c:Nat) (h:Hp) (R:RtT),NS h a m c z->(∀ a' n' c' h' y,h.le h'->NS h' a' n' c' y->F (y :: s') (i+1)->R (vsl a' n' c') h')->Qa Pg 181 [vi n.op,vsl a m c] h R) \/
  (arI n.op=2/\∃ z z' s',s=z' :: z :: s'/\∀(a:OaT) (m c:Nat) (a2:OaT) (m2 c2:Nat) (h:Hp) (R:RtT),NS h a m c z->NS h a2 m2 c2 z'->(∀ a' n' c' h' y,h.le h'->NS h' a' n' c' y->F (y :: s') (i+1)->R (vsl a' n' c') h')->Qa Pg 182 [vi n.op,vsl a m c,vsl a2 m2 c2] h R)
theorem QfB {F0S:List (List Nd)->Nat->Prop}{Z:List Nd->Prop}(S:SlP ZC h a m l)(H:Stp l F0S)(hz:∀ s,F0S s l.length->∃ z,s=[z]/\Z z)(hm:l.length<=100000){R:RtT}
  (hK:∀ a' n' c' h' z,h.le h'->NS h' a' n' c' z->Z z->R (vsl a' n' c') h'):Qa Pg 125 [vsl a m c] h R:=by
 refine Qg7 ?_
 obtain rfl:=S.1;refine⟨fun vs hh=>∃(i:Nat) (a:OaT) (c:Nat) (Q:List (K0 Nd)),vs=[vsl a Q.length c,vi i]/\i<=l.length/\h.le hh/\Qq9 hh a Q.length c Q/\F0S (Q.map Prod.snd).reverse i,fun vs hh=>l.length-(Qm vs 1).toNat,
  ⟨0,none,0,[],rfl,cH _,Hp.le_refl h,⟨⟨rfl,.inl rfl⟩,cJ _,fun r hr=>by cases hr⟩,H.z⟩,?_⟩
 rintro vs hh ⟨i,a1,c1,Q,rfl,hi,hle,SQ,F⟩;refine⟨_,_,_,_,rfl,fun g=>?_,fun g=>?_⟩
 ·have hlt:i<l.length:=by have:=bC g;omega
  have hx:l[i]?=some l[i]:=bD hlt
  obtain⟨b,o,ha,hr⟩:=(S.le hle).get QL (by decide) hx
  have st:=H.stp _ _ _ F hx;have fl:=H.len _ _ F;rw [List.length_reverse,bU] at fl;generalize l[i]=n at *
  refine⟨b,o,⟨ha,by omega,by omega⟩,_,_,_,_,_,_,hr,Q9 ⟨_,rfl,?_⟩⟩
  have hsz:szT Pg 28=1:=by kernel_rfl
  have hcap:=SQ.c; -- what is behind a node's own is put there
  have fin:∀(kk:Nat),kk<=Q.length->∀(z:List Nd) (a46:OaT) (n46 c46:Nat) (h47:Hp),hh.le h47->NS h47 a46 n46 c46 z->F0S (z :: ((Q.take kk).map Prod.snd).reverse) (i+1) ->
    (∃(a48:OaT) (n48 c48:Nat),(Rd Pg (Instr.sliceAt 265 (vsl a1 Q.length c1) none (some (vi kk)) (some (vi kk))) h47 (vsl a48 n48 c48))/\(∀(b49:Nat),h47 b49=none->let h50:Hp:=Hp.set h47 b49 (Qb [(vsl a46 n46 c46)] 28);(Qh Pg (Builtin.append_ #[265,265] 265 #[(vsl a48 n48 c48),(vsl (some (⟨b49,0,none⟩:Addr)) 1 1)]) h50 fun v51 h52=>∃(a53:OaT) (n53 c53:Nat),v51=(vsl a53 n53 c53)/\(∃(x55:Int),(IsW x55 ((i:Int)+1))/\((∃(i:Nat) (a:OaT) (c:Nat) (Q:List (K0 Nd)),[(vsl a53 n53 c53),(vi x55)]=[vsl a Q.length c,vi i]/\i<=l.length/\h.le h52/\Qq9 h52 a Q.length c Q/\F0S (Q.map Prod.snd).reverse i)/\l.length-(Qm [(vsl a53 n53 c53),(vi x55)] 1).toNat<l.length-(Qm [vsl a1 Q.length c1,vi i] 1).toNat))))):=by
   intro kk hkk z a46 n46 c46 h47 l47 SZ FZ;obtain rfl:=SZ.s.1;refine⟨_,_,_,Qiu (e:=28) (by kernel_rfl) (by kernel_rfl) (by omega) (fW _) (by omega),fun b49 hb49=>?_⟩
   intro h50;rw [bG];have l50:h47.le h50:=Hp.le_set (Hp.le_refl h47) hb49 _;have SK:=(SQ.s.le (Hp.le_trans l47 l50)).take W9 hkk;have hfl:((Q.take kk).flatMap QlU).length=kk*1:=by rw [Qi W9,<-SK.1]
   refine QcL Qq3 SK.2 hfl (fun hn=>?_) (Qf.new _ _ [vsl a46 z.length c46] _) (m:=1) rfl (pG 0) (by omega) (by omega) fun a' c' h' O'=>⟨_,_,_,rfl,_,iW,⟨i+1,a',c',Q.take kk++[((a46,c46),z)],?_,by omega,?_,⟨?_,?_,?_⟩,?_⟩,by simp [Qm];omega⟩
   ·rcases SK.2 with h1|⟨b',o',h1,_⟩
    ·rw [h1] at hfl;simp at hfl;omega
    ·rw [hn] at h1;cases h1
   ·rw [bO,<-SK.1];rfl
   ·exact Hp.le_trans (Hp.le_trans (Hp.le_trans hle l47) l50) O'.le
   ·have:(Q.take kk++[((a46,c46),z)]).flatMap QlU=(Q.take kk).flatMap QlU++[vsl a46 z.length c46]:=by rw [cX];rfl
    rw [<-this] at O';have:=Qg.slp W9 (by decide) O'
    rw [bO,<-SK.1];exact this
   ·rw [bO,<-SK.1];exact O'.own.cap
   ·intro r hr;rcases cP.1 hr with h1|h1
    ·exact(SQ.r r (jO h1)).le (Hp.le_trans (Hp.le_trans l47 l50) O'.le)
    ·rw [cB] at h1;subst h1;exact SZ.le (Hp.le_trans l50 O'.le)
   ·rw [cD,List.reverse_append];exact FZ
  have own:∀(kk:Nat),kk<=Q.length->Rd Pg (Instr.sliceAt 265 (vsl a1 Q.length c1) (some (vi kk)) none none) hh (vsl (MT a1 kk c1 1) (Q.length-kk) (c1-kk))/\SlP QlU hh (MT a1 kk c1 1) (Q.length-kk) (Q.drop kk):=by
   intro kk hkk;have:=YC (P:=Pg) (h:=hh) (t:=265) (e:=28) (by kernel_rfl) (by kernel_rfl) (a:=a1) (n:=Q.length) (c:=c1) (x:=(kk:Int)) (by omega) (by omega)
   rw [hsz,bG] at this;exact⟨this,SQ.s.drop W9 hkk hcap⟩
  rcases st with ⟨h0,F0⟩|⟨h1,z,s',hs,C1⟩|⟨h2,z,z',s',hs,C2⟩
  ·rw [h0];refine⟨(Q.length:Nat),by have:=isW (e:=((Q.length:Nat):Int)-0) (by unfold InR;omega);rw [Int.sub_zero] at this ⊢;exact this,_,_,_,(own Q.length (cJ _)).1,fun _=>?_,fun g=>?_⟩
   ·intro b23 hb23 h24;refine fin Q.length (cJ _) [n] _ _ _ h24 (Hp.le_set (Hp.le_refl hh) hb23 _) ⟨⟨rfl,Qf.new _ _ (ZC n) _⟩,cJ _⟩ ?_
    rw [dR];exact F0
   ·exfalso;have:=bB g;omega
  ·obtain⟨r,eQ,er,es,hQ1,hr1⟩:=QcS hs;rw [h1];refine⟨((Q.length-1:Nat):Int),by have:=isW (e:=((Q.length:Nat):Int)-1) (by unfold InR;omega);rw [show ((Q.length:Nat):Int)-1=((Q.length-1:Nat):Int) by omega] at this ⊢;exact this,_,_,_,(own (Q.length-1) (by omega)).1,fun g=>?_,fun g=>⟨fun _=>?_,fun g=>?_⟩⟩
   ·exfalso;have:=bC g;omega
   ·have S1:=(own (Q.length-1) (by omega)).2
    obtain⟨b1,o1,ha1,hc1⟩:=S1.get W9 (by decide) (i:=0) (x:=r) (by rw [fK];exact hr1)
    have NR:=SQ.r r (bZ hr1);refine⟨b1,o1,⟨ha1,by decide,by omega⟩,_,_,_,Hp.row_cell hc1 (i:=0) rfl,?_⟩
    rw [er] at NR ⊢;refine C1 _ _ _ _ _ NR fun a' n' c' h' y l' SY Y=>⟨_,_,_,rfl,?_⟩
    refine fin (Q.length-1) (by omega) y _ _ _ _ l' SY ?_
    rw [es];exact Y
   ·exfalso;have:=bB g;omega
  ·obtain⟨r',eQ,er',es',hQ1,hr1⟩:=QcS hs;obtain⟨r,eQ2,er,es,hQ2,hr2⟩:=QcS es';rw [bV] at eQ2 es hQ2 hr2;have e2:min (Q.length-1) Q.length-1=Q.length-2:=by omega
   rw [e2] at eQ2 es hr2;rw [jI,show min (Q.length-2) (Q.length-1)=Q.length-2 by omega] at es
   rw [gH,bH (by omega)] at hr2
   rw [h2];refine⟨((Q.length-2:Nat):Int),by have:=isW (e:=((Q.length:Nat):Int)-2) (by unfold InR;omega);rw [show ((Q.length:Nat):Int)-2=((Q.length-2:Nat):Int) by omega] at this ⊢;exact this,_,_,_,(own (Q.length-2) (by omega)).1,fun g=>?_,fun g=>⟨fun g=>?_,fun g=>?_⟩⟩
   ·exfalso;have:=bC g;omega
   ·exfalso;have:=bC g;omega
   ·have S1:=(own (Q.length-2) (by omega)).2
    obtain⟨b1,o1,ha1,hc1⟩:=S1.get W9 (by decide) (i:=0) (x:=r) (by rw [fK];exact hr2)
    obtain⟨b2,o2,ha2,hc2⟩:=S1.get W9 (by decide) (i:=1) (x:=r') (by rw [fK,show Q.length-2+1=Q.length-1 by omega];exact hr1)
    have NR:=SQ.r r (bZ hr2);have NR':=SQ.r r' (bZ hr1);refine⟨b1,o1,⟨ha1,by decide,by omega⟩,_,_,_,Hp.row_cell hc1 (i:=0) rfl,b2,o2,⟨ha2,by decide,by omega⟩,_,_,_,Hp.row_cell hc2 (i:=0) rfl,?_⟩
    rw [er] at NR ⊢;rw [er'] at NR' ⊢;refine C2 _ _ _ _ _ _ _ _ NR NR' fun a' n' c' h' y l' SY Y=>⟨_,_,_,rfl,?_⟩
    refine fin (Q.length-2) (by omega) y _ _ _ _ l' SY ?_
    rw [es];exact Y
 ·have hge:i=l.length:=by have:=bB g;omega
  subst hge;obtain⟨z,hz,A⟩:=hz _ F;obtain⟨r,eQ,er,es,hQ1,hr1⟩:=QcS hz;have hQ:Q.length=1:=by have:=congrArg List.length hz;simpa using this
  rw [hQ] at hr1;obtain⟨b1,o1,ha1,hc1⟩:=SQ.s.get W9 (by decide) (i:=0) (x:=r) hr1
  have NR:=SQ.r r (bZ hr1);refine⟨b1,o1,⟨ha1,by decide,by omega⟩,_,_,_,Hp.row_cell hc1 (i:=0) rfl,?_⟩
  rw [er] at NR ⊢;exact hK _ _ _ _ _ hle NR A
theorem Us (S:SlP ZC h a m l)(O:OkE l)(hm:l.length<=100000){R:RtT}
  (hK:∀ a' n' c' h' z,h.le h'->NS h' a' n' c' z->Rep (fun ev=>ZG ev l) (tAt l (l.length-1)) l.length z->R (vsl a' n' c') h'):Qa Pg 125 [vsl a m c] h R:=by
 refine QfB (F0S:=UY l) S ⟨.nil,fun s i F=>F.len,fun s i n F hn=>?_⟩ (fun s F=>F.done O) hm hK
 have hi:=F.all;rcases F.step O hn with h0|⟨h1,z,s',P,T,k,hs,hk,A,F1⟩|⟨h2,z,z',s',P,T,k,Q2,U,j,hs,hk,A,B,F2⟩
 ·exact .inl h0
 ·exact .inr (.inl ⟨h1,z,s',hs,fun a m c h R N hR=>Qdq h1 N A (by omega) fun a' n' c' h' y l' SY Y=>hR _ _ _ _ _ l' SY (F1 y Y)⟩)
 ·exact .inr (.inr ⟨h2,z,z',s',hs,fun a m c a2 m2 c2 h R N N' hR=>QeT h2 N A (by omega) N' B (by omega) fun a' n' c' h' y l' SY Y=>hR _ _ _ _ _ l' SY (F2 y Y)⟩)
end
structure Nf (q qf:Qy):Prop where
 sz:qf.size=q.size
 sl:qf.slide=q.slide
 de:qf.delay=q.delay
 la:qf.late=q.late
 an:qf.aggs.length=q.aggs.length
 ag:∀(i:Nat) (a b:Ag),q.aggs[i]?=some a->qf.aggs[i]?=some b->b.1=a.1/\(a.1=1->b.2=[])/\(a.1≠1->Rep (fun e=>ZG e a.2) (tAt a.2 (a.2.length-1)) a.2.length b.2)
 w0:q.wh=[]->qf.wh=[]
 w1:q.wh≠[]->Rep (fun e=>ZG e q.wh) (tAt q.wh (q.wh.length-1)) q.wh.length qf.wh
 b0:q.by_=[]->qf.by_=[]
 b1:q.by_≠[]->Rep (fun e=>ZG e q.by_) (tAt q.by_ (q.by_.length-1)) q.by_.length qf.by_
theorem Nf.wn {q qf:Qy}(F:Nf q qf):qf.wh=[]↔q.wh=[]:=by
 constructor
 ·intro h;refine d5 fun q'=>?_
  have:=(F.w1 q').pos;rw [h] at this;exact absurd this (Nat.lt_irrefl 0)
 ·exact F.w0
theorem Nf.bn {q qf:Qy}(F:Nf q qf):qf.by_=[]↔q.by_=[]:=by
 constructor
 ·intro h;refine d5 fun q'=>?_
  have:=(F.b1 q').pos;rw [h] at this;exact absurd this (Nat.lt_irrefl 0)
 ·exact F.b0
theorem QdQ {l:List Nd}(O:OkE l)(hl:l.length<=1000000){a:OaT}{n c:Nat}{h:Hp}(S:SlP ZC h a n l){e:EvL}{R:RtT}(hK:∀ h',h.le h'->R (vag (Qq (ZG e l))) h'):Qa Pg 109 [vsl a n c,vag (Xo e)] h R:=
 QaN S O.wf (by have:=O.pos;omega) (by omega) hK
structure Yr (hi h:Hp)(g:Nat)(cs:List Value)(ar:OaT)(cr:Nat)(rd:List Nat)(aw:OaT)(wn cw:Nat)(ws:List Value):Prop where
 blk:h g=some (Qb cs 132)
 gn:hi g=none
 r:Qg hi h 3 1 ar rd.length cr (rd.map fun n:Nat=>vi n)
 w:Qg hi h 95 5 aw wn cw ws
 rg:ar≠some ⟨g,0,none⟩
 wg:aw≠some ⟨g,0,none⟩
 rw_:∀ b,ar=some ⟨b,0,none⟩->aw≠some ⟨b,0,none⟩
section
variable {hi h:Hp}{g:Nat}{cs:List Value}{ar:OaT}{cr:Nat}{rd:List Nat}{aw:OaT}{wn cw:Nat}{ws:List Value}
theorem Yr.le0 (M:Yr hi h g cs ar cr rd aw wn cw ws):hi.le h:=M.r.le
theorem Yr.le {h':Hp}(M:Yr hi h g cs ar cr rd aw wn cw ws)(l:h.le h'):Yr hi h' g cs ar cr rd aw wn cw ws:=
 ⟨l _ _ M.blk,M.gn,M.r.mono l,M.w.mono l,M.rg,M.wg,M.rw_⟩
theorem Qdt {h0 h:Hp}{e:TypeId}{sz n c:Nat}{a:OaT}{xs:List Value}(O:Qg h0 h e sz a n c xs){b:Nat}(hb:a=some ⟨b,0,none⟩):h b≠none:=(Uz.fp e sz a n c xs).al (⟨O.own,rfl⟩:Uz e sz a n c xs h (fun b=>a=some ⟨b,0,none⟩)) b hb
theorem Yr.rebase (M:Yr hi h g cs ar cr rd aw wn cw ws):∃ hj:Hp,hi.le hj/\Yr hj h g cs ar cr rd aw wn cw ws/\∀ b o,h b=some o->b≠g->ar≠some ⟨b,0,none⟩->aw≠some ⟨b,0,none⟩->hj b=some o:=by
 have e1:∀ b,(b=g\/ar=some ⟨b,0,none⟩\/aw=some ⟨b,0,none⟩)->(fun b=>if b=g\/ar=some ⟨b,0,none⟩\/aw=some ⟨b,0,none⟩ then none else h b:Hp) b=none:=fun b hb=>bH hb
 have e2:∀ b,¬(b=g\/ar=some ⟨b,0,none⟩\/aw=some ⟨b,0,none⟩)->(fun b=>if b=g\/ar=some ⟨b,0,none⟩\/aw=some ⟨b,0,none⟩ then none else h b:Hp) b=h b:=fun b hb=>bE hb
 generalize (fun b=>if b=g\/ar=some ⟨b,0,none⟩\/aw=some ⟨b,0,none⟩ then none else h b:Hp)=hj at e1 e2
 have lj:Hp.le hj h:=fun b o ho=>by
  by_cases q:b=g\/ar=some ⟨b,0,none⟩\/aw=some ⟨b,0,none⟩
  ·rw [e1 b q] at ho;cases ho
  ·rw [e2 b q] at ho;exact ho
 refine⟨hj,fun b o ho=>?_,⟨M.blk,e1 g (.inl rfl),⟨lj,M.r.own,fun b hb=>e1 b (.inr (.inl hb))⟩,⟨lj,M.w.own,fun b hb=>e1 b (.inr (.inr hb))⟩,M.rg,M.wg,M.rw_⟩,fun b o ho n1 n2 n3=>(e2 b (by
  rintro(q|q|q)
  ·exact n1 q
  ·exact n2 q
  ·exact n3 q)).trans ho⟩
 refine(e2 b ?_).trans (M.le0 b o ho)
 rintro(q|q|q)
 ·rw [q,M.gn] at ho;cases ho
 ·rw [M.r.new b q] at ho;cases ho
 ·rw [M.w.new b q] at ho;cases ho
theorem Yr.rebase_new {h1:Hp}(M:Yr hi h g cs ar cr rd aw wn cw ws)(l:h.le h1):∃ hj:Hp,hi.le hj/\Yr hj h1 g cs ar cr rd aw wn cw ws/\(∀(a:OaT) (xs:List Value),Qf h1 a xs->(∀ b o,a=some ⟨b,o,none⟩->h b=none)->Qf hj a xs)/\∀ b o,h1 b=some o->h b=none->hj b=some o:=by
 obtain⟨hj,l1,M1,k1⟩:=(M.le l).rebase;have key:∀ b o,h1 b=some o->h b=none->hj b=some o:=fun b o ho hn=>k1 b o ho (fun q=>by rw [q,M.blk] at hn;cases hn) (fun q=>Qdt M.r q hn) (fun q=>Qdt M.w q hn)
 refine⟨hj,l1,M1,fun a xs H hn=>Qf.over H fun b o ob hb ho=>key b ob ho (hn b o hb),key⟩
theorem Yr.put (M:Yr hi h g cs ar cr rd aw wn cw ws){j:Nat}{v:Value}(hj:j<cs.length){K:HpT}(hK:∀ h',Yr hi h' g (cs.set j v) ar cr rd aw wn cw ws->K h'):h.store g j [v] K:=by
 refine QR M.blk (by simp only [fG];omega) ?_
 rw [Kf _ _ _ hj];refine hK _ ⟨Hp.set_same _ _ _,M.gn,Qg.apart M.r (fun b o ho=>?_) (fun b o hb ho=>?_),Qg.apart M.w (fun b o ho=>?_) (fun b o hb ho=>?_),M.rg,M.wg,M.rw_⟩
 ·exact(Hp.set_other h _ (fun q=>by rw [q,M.gn] at ho;cases ho)).trans (M.le0 b o ho)
 ·exact(Hp.set_other h _ (fun q=>M.rg (by rw [hb,q]))).trans ho
 ·exact(Hp.set_other h _ (fun q=>by rw [q,M.gn] at ho;cases ho)).trans (M.le0 b o ho)
 ·exact(Hp.set_other h _ (fun q=>M.wg (by rw [hb,q]))).trans ho
theorem Yr.read (M:Yr hi h g cs ar cr rd aw wn cw ws){p:Nat}{x:Nat}(hp:p<rd.length):∃ b,ar=some ⟨b,0,none⟩/\h.cell b (0+p*1)=some (vi (rd.getD p 0:Nat))/\∀ K:HpT,(∀ h',Yr hi h' g cs ar cr (rd.set p x) aw wn cw ws->K h')->h.store b (0+p*1) [vi (x:Int)] K:=by
 have S:SlI h ar rd.length (rd.map fun n:Nat=>(n:Int)):=by
  have:=M.r;rw [show (rd.map fun n:Nat=>vi n)=(rd.map fun n:Nat=>(n:Int)).map vi by rw [fN];rfl] at this
  exact this.sli
 obtain⟨b,o,ea,hc⟩:=S.get hp;have ho:=M.r.own.at0 b o ea;subst ho;have hg:(rd.map fun n:Nat=>(n:Int)).getD p 0=((rd.getD p 0:Nat):Int):=by
  rw [bK,bK,cU,bD hp];rfl
 rw [hg] at hc;refine⟨b,ea,hc,fun K hK=>?_⟩
 have O:Qg hi h 3 1 ar rd.length cr ((rd.map fun n:Nat=>(n:Int)).map vi):=by rw [fN];exact M.r
 refine O.store_i (x:=(x:Int)) hp ea fun ob O'=>hK _ ?_
 have e:((rd.map fun n:Nat=>(n:Int)).set p (x:Int)).map vi=(rd.set p x).map fun n:Nat=>vi n:=by rw [<-gB,fN];rfl
 rw [e] at O';have hbg:g≠b:=fun q=>M.rg (by rw [ea,q])
 refine⟨(Hp.set_other h _ hbg).trans M.blk,M.gn,by rw [dG];exact O',Qg.apart M.w O'.le (fun b' o hb ho=>(Hp.set_other h _ (fun q=>M.rw_ b ea (by rw [hb,q]))).trans ho),M.rg,M.wg,M.rw_⟩
theorem QkH:ElT Pg 48 95 5 56:=.of (by kernel_rfl) (by kernel_rfl) (by decide)
theorem Yr.rows (M:Yr hi h g cs ar cr rd aw wn cw ws){m b:Nat}{news:List Value}(hb:h b=none)(hl:news.length=m*5)(h1:∀ u ∈ news,u.oneCell'=true)(hn:wn+m<=100000000){ty:TypeId}{K:RtT}
  (hK:∀ aw' cw' h',Yr hi h' g cs ar cr rd aw' (wn+m) cw' (ws++news)->K (vsl aw' (wn+m) cw') h') :
  Qh Pg (Builtin.append_ #[48,48] ty #[vsl aw wn cw,vsl (some ⟨b,0,none⟩) m m]) (h.set b (Qb news 95)) K:=by
 have M1:=M.le (Hp.le_set (Hp.le_refl h) hb (Qb news 95));refine Qg.append QkH M1.w (Qf.new _ _ news _) hl h1 (by omega) (by omega) fun a' c' h' O' k1 k2=>hK a' c' h' ?_
 refine⟨k1 g _ M1.blk M.wg,M.gn,Qg.apart M1.r O'.le (fun b' o hb' ho=>k1 b' o ho (M.rw_ b' hb')),O',M.rg,fun q=>?_,fun b' hb' q=>?_⟩
 ·rcases k2 g q with e|e
  ·exact M.wg (e.trans q)
  ·rw [M1.blk] at e;cases e
 ·rcases k2 b' q with e|e
  ·exact M.rw_ b' hb' (e.trans q)
  ·exact Qdt M1.r hb' e
end
def QT (b:Bool × PK)(v:Value):List Value:=[vb b.1,vi b.2.1,vi b.2.2.1,vi b.2.2.2,v]
theorem JM (b:Bool × PK)(v:Value):(QT b v).length=5:=rfl
def ZI (w:Rw):(Bool × PK) × List Vl:=((w.1,w.2.1),w.2.2)
def pnT (ks:List Int)(p:Pn):PK × List AcS × Bool:=(p.k,Wf ks p.rs,p.t)
def Kg (a1:OaT)(n1 c1:Nat)(a2:OaT)(n2 c2:Nat)(a3:OaT)(n3 c3:Nat)(qf:Qy)(ak:OaT)(nk ck:Nat)(ar:OaT)(nr cr:Nat)(ac:OaT)(nc cc:Nat)(tb:OaT)(tn tc:Nat)(late:Nat)(aw:OaT)(wn cw:Nat):List Value:=
 [vsl a1 n1 c1,vsl a2 n2 c2,vsl a3 n3 c3,vi qf.size,vi qf.slide,vi qf.delay,vi qf.late,vsl ak nk ck,vsl ar nr cr,vsl ac nc cc,vsl tb tn tc,vi (late:Nat),vsl aw wn cw]
structure QjN (q qf:Qy)(hi:Hp)(a1:OaT)(n1:Nat)(a2:OaT)(n2:Nat)(a3:OaT)(n3:Nat)(ak:OaT)(nk:Nat)(ac:OaT)(nc:Nat)(tb:OaT)(R:List PR)(RW:List (XA Vl (Bool × PK)))(st:En):Prop where
 f:Nf q qf
 qa:QAt hi qf a1 n1 a2 n2 a3 n3
 k:SlI hi ak nk (Qd q)
 c:SlI hi ac nc st.far
 t:Tb hi tb R
 p:R.map prT=st.pn.map (pnT (Qd q))
 w:QO RW=st.rows.map ZI
 wi:∀ r ∈ RW,Qf hi r.2.1.1 (r.2.2.flatMap Qq)
theorem QjN.le {q qf:Qy}{hi hj:Hp}{a1:OaT}{n1:Nat}{a2:OaT}{n2:Nat}{a3:OaT}{n3:Nat}{ak:OaT}{nk:Nat}{ac:OaT}{nc:Nat}{tb:OaT}{R:List PR}{RW:List (XA Vl (Bool × PK))}{st:En}(I:QjN q qf hi a1 n1 a2 n2 a3 n3 ak nk ac nc tb R RW st)(l:hi.le hj):QjN q qf hj a1 n1 a2 n2 a3 n3 ak nk ac nc tb R RW st:=
 ⟨I.f,I.qa.le l,I.k.le l,I.c.le l,I.t.le l,I.p,I.w,fun r hr=>(I.wi r hr).le l⟩
def Wr (q:Qy)(h0 h:Hp)(g:Nat)(st:En):Prop:=
 ∃(qf:Qy) (hi:Hp) (a1:OaT) (n1 c1:Nat) (a2:OaT) (n2 c2:Nat) (a3:OaT) (n3 c3:Nat) (ak:OaT) (nk ck:Nat) (ar:OaT) (cr:Nat) (ac:OaT) (nc cc:Nat) (tb:OaT) (tc:Nat) (aw:OaT) (cw:Nat) (R:List PR) (RW:List (XA Vl (Bool × PK))),
  h0.le hi/\Yr hi h g (Kg a1 n1 c1 a2 n2 c2 a3 n3 c3 qf ak nk ck ar st.rd.length cr ac nc cc tb R.length tc st.late aw RW.length cw) ar cr st.rd aw RW.length cw (RW.flatMap (Zc QT))/\QjN q qf hi a1 n1 a2 n2 a3 n3 ak nk ac nc tb R RW st
theorem Wr.le {q:Qy}{h0 h h':Hp}{g:Nat}{st:En}(X:Wr q h0 h g st)(l:h.le h'):Wr q h0 h' g st:=by
 obtain⟨qf,hi,a1,n1,c1,a2,n2,c2,a3,n3,c3,ak,nk,ck,ar,cr,ac,nc,cc,tb,tc,aw,cw,R,RW,l0,M,I⟩:=X;exact⟨qf,hi,a1,n1,c1,a2,n2,c2,a3,n3,c3,ak,nk,ck,ar,cr,ac,nc,cc,tb,tc,aw,cw,R,RW,l0,M.le l,I⟩
theorem Wr.le0 {q:Qy}{h0 h:Hp}{g:Nat}{st:En}(X:Wr q h0 h g st):h0.le h:=by
 obtain⟨qf,hi,a1,n1,c1,a2,n2,c2,a3,n3,c3,ak,nk,ck,ar,cr,ac,nc,cc,tb,tc,aw,cw,R,RW,l0,M,I⟩:=X;exact Hp.le_trans l0 M.le0
theorem Qjd {ks:List Int}{R:List PR}{L:List Pn}(h:R.map prT=L.map (pnT ks)):R.map (·.k)=L.map (·.k):=by
 have:=congrArg (List.map Prod.fst) h;rw [fN,fN] at this;exact this
theorem Qnc {ks:List Int}{R:List PR}{L:List Pn}(h:R.map prT=L.map (pnT ks)){i:Nat}{r:PR}(hr:R[i]?=some r):∃ p,L[i]?=some p/\r.k=p.k/\r.acs=Wf ks p.rs/\r.t=p.t:=by
 have h1:(R.map prT)[i]?=some (prT r):=by rw [cU,hr];rfl
 rw [h,cU,dD] at h1
 obtain⟨p,hp,e⟩:=h1;simp only [pnT,prT,fM] at e;exact⟨p,hp,e.1.symm,e.2.1.symm,e.2.2.symm⟩
theorem QhV {k:PK}{v:List Vl}:∀{l:List Pn} {i:Nat} {p:Pn},l.Pairwise (fun a b=>Qr a.k b.k)->l[i]?=some p->p.k=k->KX k v l=l.set i ⟨k,p.rs++[v],p.t⟩
 | [],i,p,_,h,_=>by simp at h
 | x :: l,0,p,hs,h,hk=>by
  simp only [List.getElem?_cons_zero,bQ] at h
  subst h;rw [KX,bE (by rw [hk];exact YB k),bH hk,cZ]
 | x :: l,i+1,p,hs,h,hk=>by
  obtain⟨h1,h2⟩:=fD.1 hs;simp only [kP] at h
  have hx:=h1 p (bZ h);rw [hk] at hx;rw [KX,bH hx,dQ,QhV h2 h hk]
theorem QeX {k:PK}{v:List Vl}:∀{l:List Pn} {i:Nat},i<=l.length->(∀ x ∈ l.take i,Qr x.k k)->(∀ x,l[i]?=some x->¬ Qr x.k k)->(∀ x ∈ l,x.k≠k)->KX k v l=l.take i++⟨k,[v],false⟩ :: l.drop i
 | [],0,_,_,_,_=>rfl
 | [],i+1,h,_,_,_=>by simp at h
 | x :: l,0,_,_,h,hn=>by
  rw [KX,bE (h x rfl),bE (hn x (bS ..))];rfl
 | x :: l,i+1,hi,h1,h,hn=>by
  rw [KX,bH (h1 x (by simp)),QeX (by simpa using hi) (fun y hy=>h1 y (by simp [hy])) (fun y hy=>h y (by simpa using hy)) (fun y hy=>hn y (bY _ hy))]
  rfl
theorem Qoo {q:Qy}{parts N:Nat}{st:En}(H:EnB q parts N st)(hN:N<=1000000000){R:List PR}(hp:R.map prT=st.pn.map (pnT (Qd q))):∀ r ∈ R,r.acs.length=(Qd q).length/\(∀ x ∈ r.acs,AcB x)/\-1000<=r.k.1/\r.k.1<=9999:=by
 intro r hr;obtain⟨i,hi⟩:=gX hr
 obtain⟨p,hp1,e1,e2,e3⟩:=Qnc hp hi;obtain⟨q1,q2,q3,q4⟩:=H.pa p (bZ hp1);have hl:∀ r ∈ p.rs,r.length=(Qd q).length:=fun r hr=>by rw [(q4 r hr).l,QA]
 rw [e1,e2];refine⟨?_,Qgy hl (fun r hr=>(q4 r hr).v) (by omega),q2,q3⟩
 have:=congrArg List.length (UM hl);rw [bU] at this;exact this
end Go.Proofs.YthicpjafcpfjoaaGreatDoor
