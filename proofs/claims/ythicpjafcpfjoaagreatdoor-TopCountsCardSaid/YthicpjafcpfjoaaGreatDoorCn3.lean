/-
  Laws and contracts on which the statement's proof stands, part 3. Conditions: those stated at each.
-/
import Derived.Lib.Join
import Derived.Sort.Grow
import Derived.Lib.Overlaps
import Derived.Lib.AppendZerosOnto
import Derived.Test.YthicpjafcpfjoaaGreatDoorCn2
set_option linter.unusedVariables false
set_option maxRecDepth 100000
namespace Go.Proofs.YthicpjafcpfjoaaGreatDoor
open Go Go.Vc
theorem QgF {e:EvL}{n:Int}(hn:0≤n∧n≤3){h:Hp}{R:Value→Hp→Prop}(hK:R (vag (Qw (Qcp e n))) h):Qa Tryz.prog 162 [vag (Ww e),vi n] h R:=by
 refine QgU ?_
 unfold NZ
 refine QC ⟨_,_,rfl,?_⟩
 have r:n=0∨n=1∨n=2∨n=3:=by omega
 rcases r with rfl|rfl|rfl|rfl
 ·exact⟨_,_,fun w _=>by kernel_rfl,hK⟩
 ·exact⟨_,_,fun w _=>by kernel_rfl,hK⟩
 ·exact⟨_,_,fun w _=>by kernel_rfl,hK⟩
 ·exact⟨_,_,fun w _=>by kernel_rfl,hK⟩
theorem QrI:ElT Tryz.prog 91 54 2 16:=.of (by kernel_rfl) (by kernel_rfl) (by decide)
theorem QeU {β:Type}{d:β}{F:Nd→β→β→β}{l:List Nd}{outs:List β}{i k:Nat}(ho:outs.take i=fwd d F (l.take i))(hi:i≤l.length)(hk:k < i):outs[k]?=some (fAt d F l k):=by
 have h1:outs[k]?=(outs.take i)[k]?:=by rw [List.getElem?_take,if_pos hk]
 rw [h1,ho]
 have hlen:(fwd d F (l.take i)).length=i:=by rw [WC,List.length_take];omega
 rw [←UQ l hk hi,List.getD_eq_getElem?_getD,List.getElem?_eq_getElem (by omega)]
 rfl
theorem Qkn {β:Type}{d:β}{F:Nd→β→β→β}{l:List Nd}{outs:List β}{i:Nat}{n:Nd}(ho:outs.take i=fwd d F (l.take i))(hn:l[i]?=some n)(hl:outs.length=l.length):(outs.set i (fAt d F l i)).take (i+1)=fwd d F (l.take (i+1)):=by
 have hlt:=(List.getElem?_eq_some_iff.1 hn).1
 rw [Qpj l hn,←ho,List.take_succ_eq_append_getElem (by rw [List.length_set];omega),List.take_set_of_le (Nat.le_refl _),List.getElem_set_self]
section
variable {a:Option Addr}{m c:Nat}{l:List Nd}{h:Hp}
theorem Qb9 (S:SlP ZY h a m l)(W:WfL l)(hl:0 < l.length)(hm:l.length≤1000000){e:EvL}{R:Value→Hp→Prop}(hK:∀ h',h.le h'→R (vag (Qw (ZX e l))) h'):Qa Tryz.prog 109 [vsl a m c,vag (Ww e)] h R:=by
 refine Qio ?_
 unfold Qbt
 obtain rfl:=S.1
 refine Vec.make (enc:=Qw) (x:=(0,0)) QrI (z:=[vi 0,vi 0]) (by kernel_rfl) rfl rfl hm (by omega) fun a3 h2 V2=>⟨_,_,_,rfl,?_⟩
 refine⟨fun vs hh=>∃(i:Nat) (outs:List (Int × Int)),vs=[vi i]∧i≤l.length∧outs.length=l.length∧outs.take i=fwd (0,0) (XJ e) (l.take i)∧Vec Qw 2 54 h hh a3 l.length outs,fun vs hh=>l.length - (Qr vs 0).toNat,
  ⟨0,_,rfl,Nat.zero_le _,by simp,rfl,V2⟩,?_⟩
 rintro vs hh ⟨i,outs,rfl,hi,hlo,ho,V⟩
 refine⟨i,rfl,fun q=>?_,fun q=>?_⟩
 ·have hlt:i < l.length:=by have:=of_decide_eq_true q;omega
  have hx:l[i]?=some l[i]:=List.getElem?_eq_getElem hlt
  have Wn:=W _ _ hx
  have hv:vAt e l i=_:=YG (YW e) hx Wn
  have hset:=Qkn ho hx hlo
  obtain⟨b,o,ha,hr⟩:=(S.le V.le0).get Za (by decide) hx
  generalize l[i]=n at *
  have hout:outs[i]?=some (outs[i]'(by omega)):=List.getElem?_eq_getElem (by omega)
  obtain⟨b3,o3,ha3,hput⟩:=V.put Yz (x':=vAt e l i) (k:=0) (vs:=Qw (vAt e l i)) hout (by rw [Yz];decide) (by rw [Yz];decide) rfl
  have A3:∀{x:Int},0≤x→x < l.length→a3=some ⟨b3,o3,none⟩∧(0:Int)≤x∧x < (l.length:Nat):=fun h0 h1=>⟨ha3,h0,h1⟩
  have rdo:∀{x:Int},0≤x→x < i→hh.row b3 (o3+x.toNat*2) 2=some (Qw (vAt e l x.toNat)):=by
   intro x h0 h1
   obtain⟨b',o',ha',hr'⟩:=(V.slp Yz (by decide)).get Yz (by decide) (QeU ho hi (k:=x.toNat) (by omega))
   rw [ha3] at ha'
   cases ha'
   exact hr'
  intro J83
  have hJ:∀ h',Vec Qw 2 54 h h' a3 l.length (outs.set i (vAt e l i))→J83 h':=by
   intro h' V'
   exact⟨_,isW (by unfold InR;omega),⟨i+1,_,rfl,by omega,by rw [List.length_set];exact hlo,hset,V'⟩,by simp [Qr];omega⟩
  clear_value J83
  have fin:∀{v:Int × Int},v=vAt e l i→hh.store b3 (o3+i*2) (Qw v) J83:=by
   rintro v rfl
   exact hput _ hJ
  have ar:=ar0 Wn.a
  have hfold:vAt e l=fAt (0,0) (XJ e) l:=rfl
  rw [←hfold] at hv
  unfold XJ at hv
  have Ai:a3=some ⟨b3,o3,none⟩∧(0:Int)≤i∧(i:Int) < (l.length:Nat):=A3 (by omega) (by omega)
  refine⟨b,o,⟨ha,by omega,by omega⟩,_,_,_,_,_,_,hr,fun q=>?_,fun q1=>⟨fun q=>?_,fun q2=>⟨fun q=>?_,fun q3=>⟨fun q=>?_,fun q4=>⟨fun q=>?_,fun q5=>?_⟩⟩⟩⟩⟩
  ·rw [if_pos (of_decide_eq_true q)] at hv
   exact⟨b3,o3,Ai,fin hv.symm⟩
  ·rw [if_neg (of_decide_eq_false q1),if_pos (of_decide_eq_true q)] at hv
   exact QgF (Wn.f (of_decide_eq_true q)) ⟨_,_,rfl,b3,o3,Ai,fin hv.symm⟩
  ·rw [if_neg (of_decide_eq_false q1),if_neg (of_decide_eq_false q2),if_pos (of_decide_eq_true q)] at hv
   have:=of_decide_eq_true q
   have hX:=Wn.x (by omega)
   exact⟨b3,o3,A3 (by omega) (by omega),_,_,rdo hX.1 hX.2,QiE ⟨_,_,rfl,b3,o3,Ai,fin hv.symm⟩⟩
  ·rw [if_neg (of_decide_eq_false q1),if_neg (of_decide_eq_false q2),if_neg (of_decide_eq_false q3),if_pos (of_decide_eq_true q)] at hv
   have:=of_decide_eq_true q
   have hX:=Wn.x (by omega)
   exact⟨b3,o3,A3 (by omega) (by omega),_,_,rdo hX.1 hX.2,Jb ⟨_,_,rfl,b3,o3,Ai,fin hv.symm⟩⟩
  ·rw [if_neg (of_decide_eq_false q1),if_neg (of_decide_eq_false q2),if_neg (of_decide_eq_false q3),if_neg (of_decide_eq_false q4),if_pos (of_decide_eq_true q)] at hv
   have:=of_decide_eq_true q
   have hX:=Wn.x (by omega)
   exact⟨b3,o3,A3 (by omega) (by omega),_,Hp.row_cell (rdo hX.1 hX.2) (i:=0) rfl,QK ⟨_,_,rfl,b3,o3,Ai,fin hv.symm⟩⟩
  ·have p1:=of_decide_eq_false q1
   have p2:=of_decide_eq_false q2
   have p3:=of_decide_eq_false q3
   have p4:=of_decide_eq_false q4
   have p5:=of_decide_eq_false q5
   rw [if_neg p1,if_neg p2,if_neg p3,if_neg p4,if_neg p5] at hv
   have h2:arI n.op=2:=by rcases Q3 Wn.a with h|h|h<;>omega
   have hX:=Wn.x (by omega)
   have hY:=Wn.y (by omega)
   exact⟨b3,o3,A3 (by omega) (by omega),_,_,rdo hX.1 hX.2,b3,o3,A3 (by omega) (by omega),_,_,rdo hY.1 hY.2,QdA ⟨_,_,rfl,b3,o3,Ai,fin hv.symm⟩⟩
 ·have hge:i=l.length:=by have:=of_decide_eq_false q;omega
  subst hge
  obtain⟨b',o',ha',hr'⟩:=(V.slp Yz (by decide)).get Yz (by decide) (QeU ho (Nat.le_refl _) (k:=l.length - 1) (by omega))
  refine⟨_,isW (by unfold InR;omega),b',o',⟨ha',by omega,by omega⟩,_,_,?_,hK hh V.le0⟩
  have e1:(((l.length:Nat):Int) - 1).toNat=l.length - 1:=by omega
  rw [e1]
  exact hr'
theorem Qi1 {x y:Int}{R:Value→Hp→Prop}(hK:R (Qg [vi (if x=0 then y else if y=0∨x=y then x else 0),vb (decide (x=0∨y=0∨x=y))]) h):Qa Tryz.prog 247 [vi x,vi y] h R:=by
 refine Qin ?_
 unfold QbW
 refine⟨fun q=>?_,fun q=>?_⟩
 ·have q:=of_decide_eq_true q
  rw [if_pos q,decide_eq_true (.inl q)] at hK;exact hK
 have q:=of_decide_eq_false q
 rw [if_neg q] at hK
 intro J3
 refine⟨fun q2=>⟨fun _=>?_,fun q3=>?_⟩,fun q2=>⟨fun q3=>?_,fun q3=>?_⟩⟩
 ·have q2:=of_decide_eq_true q2
  rw [if_pos (.inl q2),decide_eq_true (.inr (.inl q2))] at hK;exact hK
 ·rw [q2] at q3;cases q3
 ·have q3:=of_decide_eq_true q3
  rw [if_pos (.inr q3),decide_eq_true (.inr (.inr q3))] at hK;exact hK
 ·have q2:=of_decide_eq_false q2
  have q3:=of_decide_eq_false q3
  rw [if_neg (by omega),decide_eq_false (by omega)] at hK;exact hK
def QkW (x:Int):List Value:=[vi x]
theorem U1 (x:Int):(QkW x).length=1:=rfl
theorem Vt (S:SlP ZY h a m l)(O:OkE l)(hm:l.length≤1000000){R:Value→Hp→Prop}(hK:∀ h',h.le h'→R (Qg [vi (Zz l).1,ifv (Qz (Zz l).2)]) h'):Qa Tryz.prog 204 [vsl a m c] h R:=by
 have W:=O.wf
 have hl:=O.pos
 refine QiQ ?_
 unfold Qbm
 obtain rfl:=S.1
 refine Vec.make (enc:=QkW) (x:=0) Qfo (z:=[vi 0]) (by kernel_rfl) rfl rfl hm (by omega) fun a3 h2 V2=>⟨_,_,_,rfl,?_⟩
 refine⟨fun vs hh=>∃(i:Nat) (outs:List Int),vs=[vi i]∧i≤l.length∧outs.length=l.length∧(outs.map some).take i=fwd none tyF (l.take i)∧Vec QkW 1 3 h hh a3 l.length outs,fun vs hh=>l.length - (Qr vs 0).toNat,
  ⟨0,_,rfl,Nat.zero_le _,by simp,rfl,V2⟩,?_⟩
 rintro vs hh ⟨i,outs,rfl,hi,hlo,ho,V⟩
 have get:∀{k:Nat},k < i→∃ t,outs[k]?=some t∧tAt l k=some t:=by
  intro k hk
  have:=QeU ho hi hk
  rw [List.getElem?_map,Option.map_eq_some_iff] at this
  obtain⟨t,h1,h2⟩:=this
  exact⟨t,h1,h2.symm⟩
 refine⟨i,rfl,fun q=>?_,fun q=>?_⟩
 ·have hlt:i < l.length:=by have:=of_decide_eq_true q;omega
  have hx:l[i]?=some l[i]:=List.getElem?_eq_getElem hlt
  have Wn:=W _ _ hx
  have hv:tAt l i=_:=YG Xv hx Wn
  have hset:=fun t (e:tAt l i=some t)=>(by
   have:=Qkn (outs:=outs.map some) ho hx (by simpa using hlo)
   rw [show fAt none tyF l i=some t from e,←List.map_set] at this
   exact this:((outs.set i t).map some).take (i+1)=fwd none tyF (l.take (i+1)))
  obtain⟨b,o,ha,hr⟩:=(S.le V.le0).get Za (by decide) hx
  generalize l[i]=n at *
  have hout:outs[i]?=some (outs[i]'(by omega)):=List.getElem?_eq_getElem (by omega)
  obtain⟨b3,o3,ha3,_⟩:=V.put U1 (x':=0) (k:=0) (vs:=[vi 0]) hout (by decide) (by decide) rfl
  have A3:∀{x:Int},0≤x→x < l.length→a3=some ⟨b3,o3,none⟩∧(0:Int)≤x∧x < (l.length:Nat):=fun h0 h1=>⟨ha3,h0,h1⟩
  have put:∀(outs':List Int) (hh':Hp),outs'.length=l.length→Vec QkW 1 3 h hh' a3 l.length outs'→∀(t:Int) (K:Hp→Prop),(∀ h',Vec QkW 1 3 h h' a3 l.length (outs'.set i t)→K h')→hh'.store b3 (o3+i*1) [vi t] K:=by
   intro outs' hh' h1 V' t K hK
   obtain⟨b',o',ha',hp⟩:=V'.put U1 (i:=i) (x:=outs'[i]'(by omega)) (x':=t) (k:=0) (vs:=[vi t]) (List.getElem?_eq_getElem (by omega)) (Nat.succ_pos 0) (Nat.le_refl 1) rfl
   rw [ha3] at ha'
   cases ha'
   exact hp K hK
  intro J95
  have hJ:∀ t,tAt l i=some t→∀ h',Vec QkW 1 3 h h' a3 l.length (outs.set i t)→J95 h':=by
   intro t e h' V'
   exact⟨_,isW (by unfold InR;omega),⟨i+1,_,rfl,by omega,by rw [List.length_set];exact hlo,hset t e,V'⟩,by simp [Qr];omega⟩
  clear_value J95
  have ar:=ar0 Wn.a
  have hfold:tAt l=fAt none tyF l:=rfl
  rw [←hfold] at hv
  have Ai:a3=some ⟨b3,o3,none⟩∧(0:Int)≤i∧(i:Int) < (l.length:Nat):=A3 (by omega) (by omega)
  refine⟨b,o,⟨ha,by omega,by omega⟩,_,_,_,_,_,_,hr,?_⟩
  intro J39
  have bad:tAt l i=none→∀ h',h.le h'→R (Qg [vi 0,ifv (Qz 3)]) h':=by
   intro e h' l'
   have:Zz l=(0,3):=by
    unfold Zz
    cases ht:tAt l (l.length - 1) with
    | none=>rfl
    | some t=>exact absurd e (O.b.ty W (by rw [ht];simp) i (Nat.zero_le _) hlt)
   rw [this] at hK
   exact hK h' l'
  have hJ39:¬ n.op=1→¬ n.op=2→¬ n.op=5→J39 (JB n.op):=by
   intro p1 p2 p5
   have har:1≤arI n.op:=by rcases Q3 Wn.a with h|h|h<;>omega
   rw [Kr p1 p2] at hv
   have hX:=Wn.x har
   obtain⟨tx,ox,ex⟩:=get (k:=n.x.toNat) (by omega)
   have hy:∃ ty,2≤arI n.op→outs[n.y.toNat]?=some ty∧tAt l n.y.toNat=some ty:=by
    by_cases h2:2≤arI n.op
    ·have hY:=Wn.y h2
     obtain⟨ty,q⟩:=get (k:=n.y.toNat) (by omega)
     exact⟨ty,fun _=>q⟩
    ·exact⟨0,fun h=>absurd h h2⟩
   obtain⟨ty,hy⟩:=hy
   have hv2:tAt l i=tyG n.op (some tx) (some (if arI n.op=2 then ty else tx)):=by
    rw [hv,ex]
    by_cases h2:arI n.op=2
    ·rw [if_pos h2,if_pos h2,(hy (by omega)).2]
    ·rw [if_neg h2,if_neg h2]
   rw [Qjt,if_neg p5] at hv2
   have hw0:JB n.op≠0:=by unfold JB;split<;>decide
   generalize hwd:JB n.op=want at *
   refine Q4 ⟨_,rfl,fun b64 hb64=>?_⟩
   intro h65
   have S65:SlI h65 (some ⟨b64,0,none⟩) 2 [n.x,n.y]:=⟨rfl,Qf.new _ _ [vi n.x,vi n.y] _⟩
   have V65:Vec QkW 1 3 h h65 a3 l.length outs:=V.keep0 (Hp.le_set (Hp.le_refl hh) hb64 _)
   clear_value h65
   refine⟨_,_,_,WE (e:=3) (by kernel_rfl) (by kernel_rfl) (by omega) (by rcases Q3 Wn.a with h|h|h<;>omega),?_⟩
   have rdo:∀{x t:Int},0≤x→outs[x.toNat]?=some t→h65.cell b3 (o3+x.toNat*1)=some (vi t):=by
    intro x t h0 h1
    obtain⟨b',o',ha',hr'⟩:=(V65.slp U1 (by decide)).cell (j:=0) U1 (by decide) h1 rfl
    rw [ha3] at ha'
    cases ha'
    exact hr'
   refine⟨fun vs h'=>h'=h65∧∃ j:Nat,vs=[vi j]∧(j:Int)≤arI n.op∧(1≤j→tx=0∨tx=want)∧(2≤j→ty=0∨ty=want),fun vs hh=>(arI n.op).toNat - (Qr vs 0).toNat,⟨rfl,0,rfl,by omega,by omega,by omega⟩,?_⟩
   rintro vs h71 ⟨rfl,j,rfl,hj,f1,f2⟩
   refine⟨j,rfl,fun g=>?_,fun g=>?_⟩
   ·have hj2:(j:Int) < arI n.op:=by have:=of_decide_eq_true g;omega
    have fact:∃ x t:Int,[n.x,n.y].getD j 0=x∧0≤x∧x < l.length∧outs[x.toNat]?=some t∧(¬(t=0∨t=want)→tAt l i=none)∧(j=0→t=tx)∧(j=1→t=ty):=by
     by_cases hj0:j=0
     ·subst hj0
      refine⟨n.x,tx,rfl,hX.1,by omega,ox,fun hb=>?_,fun _=>rfl,fun h=>by omega⟩
      rw [hv2,if_pos (by omega)]
     ·have hj1:j=1:=by rcases Q3 Wn.a with h|h|h<;>omega
      subst hj1
      have hY:=Wn.y (by omega)
      refine⟨n.y,ty,rfl,hY.1,by omega,(hy (by omega)).1,fun hb=>?_,fun h=>by omega,fun _=>rfl⟩
      rw [hv2,if_pos]
      rw [if_pos (by rcases Q3 Wn.a with h|h|h<;>omega)]
      omega
    obtain⟨x,t,e0,h0,h1,e1,hb,u1,u2⟩:=fact
    obtain⟨q,p,hq,hcell⟩:=S65.get (i:=j) (by rcases Q3 Wn.a with h|h|h<;>omega)
    rw [e0] at hcell
    refine⟨q,p,⟨hq,by omega,by omega⟩,_,hcell,b3,o3,A3 h0 h1,_,rdo h0 e1,Qi1 ⟨_,_,rfl,fun g=>?_,fun g=>?_⟩⟩
    ·rw [Qm5] at g
     have g:=of_decide_eq_true g
     exact bad (hb (by omega)) h71 V65.le0
    ·rw [Qm5] at g
     have g:=of_decide_eq_false g
     refine⟨_,isW (by unfold InR;rcases Q3 Wn.a with h|h|h<;>omega),⟨rfl,j+1,rfl,by omega,fun _=>?_,fun h=>?_⟩,by simp [Qr];omega⟩
     ·by_cases hj0:j=0
      ·have:=u1 hj0;omega
      ·exact f1 (by omega)
     ·have:=u2 (by rcases Q3 Wn.a with h|h|h<;>omega);omega
   ·have hje:(j:Int)=arI n.op:=by have:=of_decide_eq_false g;omega
    have hfine:tAt l i=some (if n.op=11∨n.op=12 then 2 else want):=by
     rw [hv2,if_neg]
     ·split<;>rfl
     ·have:=f1 (by omega)
      by_cases h2:arI n.op=2
      ·rw [if_pos h2]
       have:=f2 (by omega)
       omega
      ·rw [if_neg h2]
       omega
    refine⟨b3,o3,Ai,put outs _ hlo V65 want _ fun h89 V89=>⟨fun g=>?_,fun g=>?_⟩⟩
    ·rw [cor] at g
     have g:=of_decide_eq_true g
     rw [if_pos g] at hfine
     refine⟨b3,o3,Ai,put _ h89 (by rw [List.length_set];exact hlo) V89 2 _ fun h92 V92=>hJ 2 hfine h92 ?_⟩
     rw [List.set_set] at V92
     exact V92
    ·rw [cor] at g
     have g:=of_decide_eq_false g
     rw [if_neg g] at hfine
     exact hJ want hfine h89 V89
  clear_value J39
  refine⟨fun q=>?_,fun q1=>⟨fun q=>?_,fun q2=>⟨fun q=>?_,fun q5=>?_⟩⟩⟩
  ·have e:tAt l i=some n.v.1:=by rw [hv];unfold tyF;exact if_pos (of_decide_eq_true q)
   exact⟨b3,o3,Ai,put outs hh hlo V _ _ (hJ _ e)⟩
  ·have e:tAt l i=some 1:=by rw [hv];unfold tyF;rw [if_neg (of_decide_eq_false q1)];exact if_pos (of_decide_eq_true q)
   exact⟨b3,o3,Ai,put outs hh hlo V _ _ (hJ _ e)⟩
  ·have h5:=of_decide_eq_true q
   have hX:=Wn.x (by omega)
   obtain⟨tx,ox,ex⟩:=get (k:=n.x.toNat) (by omega)
   have e:tAt l i=some 2:=by
    rw [hv,Kr (by omega) (by omega),if_neg (by omega),ex,Qjt,if_pos h5]
   exact⟨b3,o3,Ai,put outs hh hlo V _ _ (hJ _ e)⟩
  ·have p1:=of_decide_eq_false q1
   have p2:=of_decide_eq_false q2
   have p5:=of_decide_eq_false q5
   have hw:=hJ39 p1 p2 p5
   unfold JB at hw
   intro J35
   refine⟨fun g=>⟨fun _=>?_,fun g2=>?_⟩,fun g1=>⟨fun g=>⟨fun _=>?_,fun g2=>?_⟩,fun g2=>⟨fun g=>?_,fun g=>?_⟩⟩⟩
   ·rw [if_pos (.inl (of_decide_eq_true g))] at hw;exact hw
   ·rw [g] at g2;cases g2
   ·rw [if_pos (.inr (.inl (of_decide_eq_true g)))] at hw;exact hw
   ·rw [g] at g2;cases g2
   ·rw [if_pos (.inr (.inr (of_decide_eq_true g)))] at hw;exact hw
   ·have a1:=of_decide_eq_false g1
    have a2:=of_decide_eq_false g2
    have a3:=of_decide_eq_false g
    rw [if_neg (by omega)] at hw;exact hw
 ·have hge:i=l.length:=by have:=of_decide_eq_false q;omega
  subst hge
  obtain⟨t,ot,et⟩:=get (k:=l.length - 1) (by omega)
  obtain⟨b',o',ha',hr'⟩:=(V.slp U1 (by decide)).cell (j:=0) U1 (by decide) ot rfl
  refine⟨_,isW (by unfold InR;omega),b',o',⟨ha',by omega,by omega⟩,t,?_,?_⟩
  ·have e1:(((l.length:Nat):Int) - 1).toNat=l.length - 1:=by omega
   rw [e1]
   exact hr'
  ·have:Zz l=(t,0):=by unfold Zz;rw [et]
   rw [this] at hK
   exact hK hh V.le0
end
abbrev Qaf:=Vec ZY 6 250
theorem QhC {a:Option Addr}{n c:Nat}{l:List Nd}{h:Hp}{R:Value→Hp→Prop}(S:SlP ZY h a n l)(hn:n≤1000000)(hK:∀ a' c' h',Qaf h h' a' c' l→R (vsl a' l.length c') h') :
  Qa Tryz.prog 260 [vsl a n c] h R:=by
 refine XR ?_
 unfold ZT
 have hl:=S.1
 subst hl
 have hfl:(l.flatMap ZY).length=l.length*6:=by rw [Ql Za]
 refine⟨_,Jj (e:=250) (by kernel_rfl),fun e=>?_,fun e=>?_⟩
 ·have h0:l.flatMap ZY=[]:=by
   rcases S.2 with h1|⟨b,o,ha,_⟩
   ·exact h1
   ·rw [ha] at e;cases e
  rw [h0] at hfl
  have hn0:l=[]:=List.eq_nil_of_length_eq_zero (by simp at hfl;omega)
  subst hn0
  exact hK none 0 h (Qh.nil (Hp.le_refl h) _ _)
 ·intro b3 hb3 h4
  have O0:Qh h h4 250 6 (some ⟨b3,0,none⟩) 0 0 []:=Qh.mk_new (Hp.le_refl h) hb3 _ [] rfl (by simp [maxLen])
  refine Qh.append Qrl O0 (S.le (Hp.le_set (Hp.le_refl h) hb3 _)).2 hfl (QpI l) (by omega) (by omega) fun a' c' h' O' _ _=>⟨_,_,_,rfl,?_⟩
  rw [Nat.zero_add,List.nil_append] at *
  exact hK a' c' h' O'
inductive Qiy (l:List Nd)(f:Nat):Nat→Nat→Prop where
 | nil:Qiy l f f 0
 | cons {g e k:Nat}:Blk l g e→Qiy l f g k→Qiy l f e (k+1)
theorem Qiy.open {l:List Nd}{f g i k:Nat}{n:Nd}(B:Blk l g (i+1))(Q:Qiy l f g k)(hn:l[i]?=some n):Qiy l f i (k+(arI n.op).toNat):=by
 cases B with
 | leaf h ha=>
  rw [hn] at h
  cases h
  rw [ha]
  exact Q
 | one B h ha _=>
  rw [hn] at h
  cases h
  rw [ha]
  exact .cons B Q
 | two B B' h ha _ _=>
  rw [hn] at h
  cases h
  rw [ha]
  exact .cons B' (.cons B Q)
section
variable {a:Option Addr}{m c:Nat}{l:List Nd}{h:Hp}
theorem QjB (S:SlP ZY h a m l)(hcap:m≤c)(W:WfL l)(hm:l.length≤1000000){f:Nat}{e:Nat}(B:Blk l f (e+1)){i0:Int}(hi0:i0=e){R:Value→Hp→Prop}(hK:∀ a' c' h',Qaf h h' a' c' (ZN l f (e+1))→R (vsl a' (ZN l f (e+1)).length c') h') :
  Qa Tryz.prog 225 [vsl a m c,vi i0] h R:=by
 subst hi0
 refine Qjj ?_
 unfold Qdq
 have hlt:=B.lt
 obtain rfl:=S.1
 have opAt:∀{i:Nat},i < l.length→∀{hh:Hp},h.le hh→∃ n b o,l[i]?=some n∧a=some ⟨b,o,none⟩∧hh.cell b (o+i*6)=some (vi n.op):=by
  intro i hi hh hl
  have hx:l[i]?=some l[i]:=List.getElem?_eq_getElem hi
  obtain⟨b,o,ha,hr⟩:=(S.le hl).get Za (by decide) hx
  exact⟨_,b,o,hx,ha,Hp.row_cell hr (i:=0) rfl⟩
 obtain⟨n,b,o,hn,ha,hc⟩:=opAt (i:=e) (by omega) (Hp.le_refl h)
 have wn:=W _ _ hn
 refine⟨b,o,⟨ha,by omega,by omega⟩,_,hc,Q4 ⟨_,rfl,?_⟩⟩
 have Q0:=Qiy.open B .nil hn
 rw [Nat.zero_add] at Q0
 refine⟨fun vs hh=>hh=h∧∃ from' need:Nat,vs=[vi from',vi need]∧from'≤e∧need≤2*(e+1 - from')∧Qiy l f from' need,fun vs hh=>(Qr vs 0).toNat,⟨rfl,e,(arI n.op).toNat,by rw [show (((arI n.op).toNat:Nat):Int)=arI n.op by have:=wn.a;omega],Nat.le_refl _,by rcases Q3 wn.a with h|h|h<;>omega,Q0⟩,?_⟩
 rintro vs hh ⟨rfl,from',need,rfl,hfe,hnd,Q⟩
 refine⟨from',need,rfl,fun g=>?_,fun g=>?_⟩
 ·have g:=of_decide_eq_true g
  cases Q with
  | nil=>exact absurd g (by decide)
  | @cons g' _ k B' Q'=>
   have hlt':=B'.lt
   obtain⟨i,rfl⟩:∃ i,from'=i+1:=⟨from' - 1,by omega⟩
   obtain⟨n',b',o',hn',ha',hc'⟩:=opAt (i:=i) (by omega) (Hp.le_refl hh)
   have wn':=W _ _ hn'
   have Q2:=Qiy.open B' Q' hn'
   have hI:IsW ((i:Nat):Int) (((i+1:Nat):Int) - 1):=by
    have:=isW (e:=(((i+1:Nat):Int) - 1)) (by unfold InR;omega)
    rw [show (((i+1:Nat):Int) - 1)=(i:Int) by omega] at this ⊢
    exact this
   have r2:=Q3 wn'.a
   refine⟨i,hI,b',o',⟨ha',by omega,by omega⟩,_,hc',Q4 ⟨_,rfl,_,isW (by unfold InR;omega),_,isW (by unfold InR;omega),⟨rfl,i,k+(arI n'.op).toNat,?_,by omega,by omega,Q2⟩,by simp [Qr]⟩⟩
   rw [show ((k+(arI n'.op).toNat:Nat):Int)=((k+1:Nat):Int)+(arI n'.op - 1) by have:=wn'.a;omega]
 have g:=of_decide_eq_false g
 have h0:need=0:=by omega
 subst h0
 cases Q
 refine⟨_,isW (by unfold InR;omega),_,_,_,Qjw (e:=250) (by kernel_rfl) (by kernel_rfl) (by omega) (by omega) (by omega),?_⟩
 have hsz:szT Tryz.prog 250=6:=by kernel_rfl
 rw [hsz,show ((e:Int)+1).toNat=e+1 by omega,Int.toNat_natCast]
 have Sseg:SlP ZY hh (MK a f c 6) (e+1 - f) (seg l f (e+1)):=(S.drop Za (i:=f) (c:=c) (by omega) hcap).take Za (by omega)
 have hsl:(seg l f (e+1)).length=e+1 - f:=Sseg.1.symm
 have sget:∀{i:Nat} {n:Nd},(seg l f (e+1))[i]?=some n→l[f+i]?=some n:=by
  intro i n hi
  unfold seg at hi
  rw [List.getElem?_take] at hi
  split at hi
  ·rw [List.getElem?_drop] at hi;exact hi
  ·cases hi
 have ecut:ZN l f (e+1)=(seg l f (e+1)).map (shN (-(f:Int))):=rfl
 rw [ecut] at hK
 generalize seg l f (e+1)=s at *
 refine QhC Sseg (by omega) fun a29 c29 h28 V28=>⟨_,_,_,rfl,?_⟩
 refine⟨fun vs h'=>∃(i:Nat) (outs:List Nd),vs=[vi i]∧i≤s.length∧outs.length=s.length∧outs.take i=(s.take i).map (shN (-(f:Int)))∧outs.drop i=s.drop i∧Qaf hh h' a29 c29 outs,fun vs hh=>s.length - (Qr vs 0).toNat,⟨0,s,rfl,Nat.zero_le _,rfl,rfl,rfl,V28⟩,?_⟩
 rintro vs h34 ⟨i,outs,rfl,hi,hlo,ht,hd,V⟩
 refine⟨i,rfl,fun g=>?_,fun g=>?_⟩
 ·have hlt2:i < s.length:=by have:=of_decide_eq_true g;omega
  have hx:s[i]?=some s[i]:=List.getElem?_eq_getElem hlt2
  have hox:outs[i]?=some s[i]:=by
   have:=congrArg List.head? hd
   rw [List.head?_drop,List.head?_drop,hx] at this
   exact this
  have wn2:=W _ _ (sget hx)
  have hset:(outs.set i (shN (-(f:Int)) s[i])).take (i+1)=(s.take (i+1)).map (shN (-(f:Int))):=by
   rw [List.take_succ_eq_append_getElem (by rw [List.length_set];omega),List.take_set_of_le (Nat.le_refl _),List.getElem_set_self,ht,List.take_succ_eq_append_getElem hlt2,List.map_append]
   rfl
  have hset2:∀ n',(outs.set i n').drop (i+1)=s.drop (i+1):=by
   intro n'
   have:(outs.drop i).drop 1=(s.drop i).drop 1:=by rw [hd]
   rw [List.drop_drop,List.drop_drop] at this
   rw [List.drop_set_of_lt (Nat.lt_succ_self i)]
   exact this
  generalize s[i]=y at *
  intro J70
  have hJ:∀ h',Qaf hh h' a29 c29 (outs.set i (shN (-(f:Int)) y))→J70 h':=by
   intro h' V'
   exact⟨_,isW (by unfold InR;omega),⟨i+1,_,rfl,by omega,by rw [List.length_set];exact hlo,hset,hset2 _,V'⟩,by simp [Qr];omega⟩
  clear_value J70
  have acc:∀{h':Hp} {outs':List Nd} {z:Nd},Qaf hh h' a29 c29 outs'→outs'[i]?=some z→outs'.length=s.length→∃ b o,(a29=some ⟨b,o,none⟩∧(0:Int)≤i∧(i:Int) < (s.length:Nat))∧h'.row b (o+(i:Int).toNat*6) 6=some (ZY z):=by
   intro h' outs' z V' hz hl'
   obtain⟨b,o,ha,hr⟩:=(V'.slp Za (by decide)).get Za (by decide) hz
   exact⟨b,o,⟨ha,by omega,by omega⟩,hr⟩
  obtain⟨b1,o1,A1,r1⟩:=acc V hox hlo
  refine⟨b1,o1,A1,_,Hp.row_cell r1 (i:=0) rfl,Q4 ⟨_,rfl,?_⟩⟩
  intro J53
  have hJ53:∀ h' (z:Nd),z={ y with x:=(shN (-(f:Int)) y).x }→Qaf hh h' a29 c29 (outs.set i z)→J53 h':=by
   rintro h' z hz V'
   have hz1:(outs.set i z)[i]?=some z:=List.getElem?_set_self (by omega)
   obtain⟨b2,o2,A2,r2⟩:=acc V' hz1 (by rw [List.length_set];exact hlo)
   have eop:z.op=y.op:=by rw [hz]
   have ey:z.y=y.y:=by rw [hz]
   refine⟨b2,o2,A2,_,Hp.row_cell r2 (i:=0) rfl,Q4 ⟨_,rfl,fun g=>?_,fun g=>?_⟩⟩
   ·have g:=of_decide_eq_true g
    rw [eop] at g
    have hy:=wn2.y (by omega)
    have hfin:({ z with y:=y.y - f }:Nd)=shN (-(f:Int)) y:=by
     rw [hz]
     unfold shN
     simp only
     rw [if_pos (show 1 < arI y.op by omega)]
     rfl
    obtain⟨b3,o3,ha3,hp⟩:=V'.put Za (x':={ z with y:=y.y - f }) (k:=2) (vs:=[vi (y.y - f)]) hz1 (Nat.succ_pos 0) (show 2+1≤6 by decide) rfl
    refine⟨b2,o2,A2,_,Hp.row_cell r2 (i:=2) rfl,_,isW (by rw [ey];unfold InR;omega),b3,o3,⟨ha3,A2.2⟩,?_⟩
    rw [ey]
    refine hp _ fun h67 V67=>hJ h67 ?_
    rw [List.set_set,hfin] at V67
    exact V67
   ·have g:=of_decide_eq_false g
    rw [eop] at g
    have hfin:z=shN (-(f:Int)) y:=by
     rw [hz]
     unfold shN
     simp only
     rw [if_neg (show ¬ 1 < arI y.op by omega)]
    rw [hfin] at V'
    exact hJ h' V'
  clear_value J53
  refine⟨fun g=>?_,fun g=>?_⟩
  ·have g:=of_decide_eq_true g
   have hX:=wn2.x (by omega)
   obtain⟨b3,o3,ha3,hp⟩:=V.put Za (x':={ y with x:=y.x - f }) (k:=1) (vs:=[vi (y.x - f)]) hox (Nat.succ_pos 0) (show 1+1≤6 by decide) rfl
   refine⟨b1,o1,A1,_,Hp.row_cell r1 (i:=1) rfl,_,isW (by unfold InR;omega),b3,o3,⟨ha3,A1.2⟩,?_⟩
   refine hp _ fun h50 V50=>hJ53 h50 _ ?_ V50
   unfold shN
   simp only
   rw [if_pos (show 0 < arI y.op by omega)]
   rfl
  ·have g:=of_decide_eq_false g
   refine hJ53 h34 y ?_ ?_
   ·unfold shN
    simp only
    rw [if_neg (show ¬ 0 < arI y.op by omega)]
   ·have:outs.set i y=outs:=by
     refine List.ext_getElem? fun k=>?_
     rw [List.getElem?_set]
     split
     ·rename_i h1;subst h1;rw [if_pos (by omega),hox]
     ·rfl
    rw [this]
    exact V
 ·have hge:i=s.length:=by have:=of_decide_eq_false g;omega
  subst hge
  rw [List.take_of_length_le (by omega),List.take_of_length_le (Nat.le_refl _)] at ht
  rw [ht] at V
  have:=hK a29 c29 h34 V
  rw [List.length_map] at this
  exact this
theorem K0 {op:Int}{a2:Option Addr}{m2 c2:Nat}{l2:List Nd}(S:SlP ZY h a m l)(S2:SlP ZY h a2 m2 l2)(W2:WfL l2)(hm:l.length≤1000000)(hm2:l2.length≤1000000){R:Value→Hp→Prop}
  (hK:∀ a' c' h',Qaf h h' a' c' (Z1 op l l2)→R (vsl a' (Z1 op l l2).length c') h'):Qa Tryz.prog 223 [vi op,vsl a m c,vsl a2 m2 c2] h R:=by
 refine Qil ?_
 unfold QbQ
 obtain rfl:=S.1
 obtain rfl:=S2.1
 refine QhC S hm fun a3 c3 h2 V2=>⟨_,_,_,rfl,_,isW (by unfold InR;omega),?_⟩
 refine⟨fun vs hh=>∃(i:Nat) (a:Option Addr) (c:Nat),vs=[vsl a (l++(l2.take i).map (shN l.length)).length c,vi i]∧i≤l2.length∧Qaf h hh a c (l++(l2.take i).map (shN l.length)),fun vs hh=>l2.length - (Qr vs 1).toNat,
  ⟨0,a3,c3,by simp,Nat.zero_le _,by simpa using V2⟩,?_⟩
 rintro vs hh ⟨i,a4,c4,rfl,hi,V⟩
 have hlen:(l++(l2.take i).map (shN l.length)).length=l.length+i:=by simp;omega
 refine⟨_,_,_,_,rfl,fun g=>?_,fun g=>?_⟩
 ·have hlt:i < l2.length:=by have:=of_decide_eq_true g;omega
  have hx:l2[i]?=some l2[i]:=List.getElem?_eq_getElem hlt
  have wn:=W2 _ _ hx
  obtain⟨b,o,ha,hr⟩:=(S2.le V.le0).get Za (by decide) hx
  have tk:(l2.take (i+1)).map (shN l.length)=(l2.take i).map (shN l.length)++[shN l.length l2[i]]:=by
   rw [List.take_succ_eq_append_getElem hlt,List.map_append];rfl
  generalize l2[i]=y at *
  refine⟨b,o,⟨ha,by omega,by omega⟩,_,_,_,_,_,_,hr,Q4 ⟨_,rfl,?_⟩⟩
  intro J28
  have fin:∀(x' y':Int),x'=(shN (l.length:Int) y).x→y'=(shN (l.length:Int) y).y→∀(b49:Nat),hh b49=none→Qm Tryz.prog (Builtin.append_ #[28,28] 28 #[(vsl a4 (l++(l2.take i).map (shN l.length)).length c4),(vsl (some (⟨b49,0,none⟩:Addr)) 1 1)]) (Hp.set hh b49 (Qb [(vi y.op),(vi x'),(vi y'),(vi y.n),(vi y.v.1),(vi y.v.2)] 250)) fun v51 h52=>∃(a53:Option Addr) (n53 c53:Nat),v51=(vsl a53 n53 c53)∧(∃(x55:Int),(IsW x55 ((i:Int)+1))∧((∃(i':Nat) (a:Option Addr) (c:Nat),[vsl a53 n53 c53,vi x55]=[vsl a (l++(l2.take i').map (shN l.length)).length c,vi i']∧i'≤l2.length∧Qaf h h52 a c (l++(l2.take i').map (shN l.length)))∧l2.length - (Qr [vsl a53 n53 c53,vi x55] 1).toNat < l2.length - (Qr [vsl a4 (l++(l2.take i).map (shN l.length)).length c4,vi i] 1).toNat)):=by
   rintro x' y' rfl rfl b49 hb49
   refine V.app (x:=shN (l.length:Int) y) Qrl Za Qf9 (by omega) (by omega) hb49 fun a' c' h' V'=>⟨_,_,_,rfl,_,isW (by unfold InR;omega),⟨i+1,a',c',?_,by omega,?_⟩,by simp [Qr];omega⟩
   ·rw [tk,←List.append_assoc];rfl
   ·rw [tk,←List.append_assoc];exact V'
  have hJ:∀ x',x'=(shN (l.length:Int) y).x→J28 x':=by
   intro x' hx'
   refine Q4 ⟨_,rfl,?_⟩
   intro J45
   refine⟨fun g=>?_,fun g=>?_⟩
   ·have g:=of_decide_eq_true g
    have hy:=wn.y (by omega)
    refine⟨_,isW (by unfold InR;omega),fin _ _ hx' ?_⟩
    unfold shN
    simp only
    rw [if_pos (show 1 < arI y.op by omega)]
   ·have g:=of_decide_eq_false g
    refine fin _ _ hx' ?_
    unfold shN
    simp only
    rw [if_neg (show ¬ 1 < arI y.op by omega)]
  clear_value J28
  refine⟨fun g=>?_,fun g=>?_⟩
  ·have g:=of_decide_eq_true g
   have hX:=wn.x (by omega)
   refine⟨_,isW (by unfold InR;omega),hJ _ ?_⟩
   unfold shN
   simp only
   rw [if_pos (show 0 < arI y.op by omega)]
  ·have g:=of_decide_eq_false g
   refine hJ _ ?_
   unfold shN
   simp only
   rw [if_neg (show ¬ 0 < arI y.op by omega)]
 ·have hge:i=l2.length:=by have:=of_decide_eq_false g;omega
  subst hge
  rw [List.take_of_length_le (Nat.le_refl _)] at V hlen ⊢
  refine Q4 ⟨_,rfl,?_⟩
  intro J62
  have hJ:∀ y',y'=(if 1 < arI op then((l.length+l2.length:Nat):Int) - 1 else 0)→J62 y':=by
   rintro y' rfl b66 hb66
   intro h67
   exact V.app (x:=⟨op,(l.length:Int) - 1,if 1 < arI op then((l.length+l2.length:Nat):Int) - 1 else 0,0,(0,0)⟩) Qrl Za Qf9 (by omega) (by omega) hb66 fun a' c' h' V'=>⟨_,_,_,rfl,hK a' c' h' V'⟩
  clear_value J62
  refine⟨fun g=>?_,fun g=>?_⟩
  ·have g:=of_decide_eq_true g
   refine⟨_,isW (by unfold InR;omega),hJ _ ?_⟩
   rw [if_pos (show 1 < arI op by omega),hlen]
  ·have g:=of_decide_eq_false g
   refine hJ _ ?_
   rw [if_neg (show ¬ 1 < arI op by omega)]
end
open Go.Txt
structure QV (h0 h:Hp)(g:Nat)(s:RS):Prop where
 b:∃ a c,h g=some (Qb [vsl a s.ws.length c,vi s.deep,ifv (Qz s.f)] 167)∧SlB h0 a s.ws.length s.ws∧s.ws.length≤c
 l:h0.le h
 n:h0 g=none
 w:∀ x ∈ s.ws,x.length≤1000000
theorem Qa2 {h0 h:Hp}{g:Nat}(l:h0.le h)(hg:h0 g=none)(o:Obj):h0.le (h.set g o):=fun b p hb=>by
 rw [Hp.set_other _ _ (fun e=>by rw [e,hg] at hb;cases hb)]
 exact l b p hb
theorem Ky {a:Option Addr}{n c:Nat}{l:List Wd}{w:Wd}{h:Hp}(S:SlB h a n l)(hn:n≤1000000){R:Value→Hp→Prop}(hK:R (vi (if w ∈ l then(l.idxOf w:Int) else -1)) h):Qa Tryz.prog 141 [vsl a n c,vs (bs w)] h R:=by
 refine Km ?_
 unfold Yp
 have hl:=S.1
 refine⟨fun v hh=>hh=h∧∃ i:Nat,v=[vi i]∧i≤n∧w ∉ l.take i,fun v _=>n - (Qr v 0).toNat,⟨rfl,0,rfl,Nat.zero_le _,by simp⟩,?_⟩
 rintro v hh ⟨rfl,i,rfl,hi,hno⟩
 refine⟨i,rfl,fun e=>?_,fun e=>?_⟩
 ·have hlt:i < n:=by have:=of_decide_eq_true e;omega
  obtain⟨b,o,ha,hc⟩:=SlP.get1 S hlt
  refine⟨b,o,⟨ha,by omega,by omega⟩,_,hc,_,QR,fun e2=>?_,fun e2=>?_⟩
  ·have e3:=of_decide_eq_true e2
   have hx:l.getD i []=l[i]'(by omega):=by rw [List.getD_eq_getElem?_getD,List.getElem?_eq_getElem (by omega)];rfl
   rw [hx] at e3
   have hm:w ∈ l:=by rw [e3];exact List.getElem_mem _
   have hidx:l.idxOf w=i:=by
    have hsp:l=l.take i++l[i]'(by omega) :: l.drop (i+1):=by rw [←List.drop_eq_getElem_cons,List.take_append_drop]
    rw [hsp,List.idxOf_append,if_neg hno,←e3,List.idxOf_cons_self,List.length_take]
    omega
   rw [if_pos hm,hidx] at hK
   exact hK
  ·have e3:=of_decide_eq_false e2
   have hx:l.getD i []=l[i]'(by omega):=by rw [List.getD_eq_getElem?_getD,List.getElem?_eq_getElem (by omega)];rfl
   rw [hx] at e3
   refine⟨_,isW (by unfold InR;omega),⟨rfl,i+1,rfl,by omega,?_⟩,?_⟩
   ·rw [List.take_succ_eq_append_getElem (by omega)]
    intro hm
    rcases List.mem_append.1 hm with h1|h1
    ·exact hno h1
    ·exact e3 (by simpa using h1)
   ·show n - ((i:Int)+1).toNat < n - (i:Int).toNat
    omega
 ·have hge:i=n:=by have:=of_decide_eq_false e;omega
  rw [hge,List.take_of_length_le (by omega)] at hno
  rw [if_neg hno] at hK
  exact hK
theorem QaK {a:Option Addr}{n c:Nat}{l:List Wd}{w:Wd}{h:Hp}(S:SlB h a n l)(hn:n≤1000000){R:Value→Hp→Prop}(hK:R (vb (decide (w ∈ l))) h):Qa Tryz.prog 142 [vsl a n c,vs (bs w)] h R:=by
 refine XZ ?_
 unfold Z0
 refine Ky S hn ⟨_,rfl,?_⟩
 have:decide ((if w ∈ l then(l.idxOf w:Int) else -1)≥0)=decide (w ∈ l):=by
  by_cases hm:w ∈ l
  ·simp [hm]
  ·simp [hm]
 rw [this]
 exact hK
def At (g:Nat):Nat→Prop:=fun b=>b=g
theorem VT (h:Hp)(g:Nat)(o:Obj):Mut (At g) h (At g) (h.set g o):=⟨fun b o2 hb ho=>by rw [Hp.set_other _ _ (fun e=>hb e)];exact ho,fun b hb=>.inl hb⟩
theorem U2 {h:Hp}{g:Nat}{x y z:Value}{T:TypeId}(hb:h g=some (Qb [x,y,z] T)):h.cell g 0=some x∧h.cell g (0+1)=some y∧h.cell g (0+2)=some z:=⟨Qc hb rfl,Qc hb rfl,Qc hb rfl⟩
theorem Qd7 {h:Hp}{g:Nat}{x y z x':Value}{T:TypeId}(hb:h g=some (Qb [x,y,z] T)){K:Hp→Prop}(hK:K (h.set g (Qb [x',y,z] T))):h.store g 0 [x'] K:=Zj hb (by simp) hK
theorem QpH {h:Hp}{g:Nat}{x y z y':Value}{T:TypeId}(hb:h g=some (Qb [x,y,z] T)){K:Hp→Prop}(hK:K (h.set g (Qb [x,y',z] T))):h.store g (0+1) [y'] K:=Zj hb (by simp) hK
theorem Qma {h:Hp}{g:Nat}{x y z z':Value}{T:TypeId}(hb:h g=some (Qb [x,y,z] T)){K:Hp→Prop}(hK:K (h.set g (Qb [x,y,z'] T))):h.store g (0+2) [z'] K:=Zj hb (by simp) hK
theorem Qmn (h:Hp):SlB h none 0 []:=⟨rfl,(QN.nil h 9 1).row⟩
theorem YO {h0 h:Hp}{g:Nat}{s:RS}(D:QV h0 h g s){f:Int}(hf:f≠0){R:Value→Hp→Prop}(hK:∀ h',QV h0 h' g (s.fail f)→Mut (At g) h (At g) h'→R (Qg []) h'):Qa Tryz.prog 140 [vhp g 0,ifv (some (119,vi f))] h R:=by
 obtain⟨a,c,hb,hS,hc⟩:=D.b
 refine Mf ?_
 unfold Kg
 refine⟨_,(U2 hb).2.2,?_⟩
 intro J5
 refine⟨fun e=>?_,fun e=>?_⟩
 ·have e0:s.f=0:=by unfold Qz at e;split at e<;>simp_all
  refine Qma hb (Qd7 (Hp.set_same _ _ _) ?_)
  refine hK _ ⟨⟨none,0,?_,Qmn _,Nat.le_refl _⟩,Qa2 (Qa2 D.l D.n _) D.n _,D.n,fun x hx=>by cases hx⟩ ((VT _ _ _).trans (VT _ _ _))
  rw [Hp.set_same]
  show _=some (Qb [vsl none 0 0,vi s.deep,ifv (Qz (if s.f=0 then f else s.f))] 167)
  rw [if_pos e0]
  unfold Qz
  rw [if_neg hf]
 ·have e0:s.f≠0:=by intro e1;rw [e1] at e;cases e
  refine Qd7 hb ?_
  refine hK _ ⟨⟨none,0,?_,Qmn _,Nat.le_refl _⟩,Qa2 D.l D.n _,D.n,fun x hx=>by cases hx⟩ (VT _ _ _)
  rw [Hp.set_same]
  show _=some (Qb [vsl none 0 0,vi s.deep,ifv (Qz (if s.f=0 then f else s.f))] 167)
  rw [if_neg e0]
theorem QX {h0 h:Hp}{g:Nat}{s:RS}(D:QV h0 h g s){wa:Option Addr}{wn wc:Nat}{l:List Wd}(S:SlB h wa wn l)(hwn:wn≤1000)(hwl:s.ws.length≤1000000){R:Value→Hp→Prop}(hK:∀ h',QV h0 h' g (s.is l).2→Mut (At g) h (At g) h'→R (vs (bs (s.is l).1)) h'):Qa Tryz.prog 85 [vhp g 0,vsl wa wn wc] h R:=by
 obtain⟨a,c,hb,hS,hc⟩:=D.b
 refine Qax ?_
 unfold JU
 obtain⟨ws,dp,f⟩:=s
 simp only at hb hS hc hwl
 have hcell:=(U2 hb).1
 cases ws with
 | nil=>
  refine⟨_,_,_,hcell,none,0,0,fun e=>by simp at e,0,0,fun e=>by simp at e,⟨#[]⟩,fun e=>by simp at e,fun v hh=>hh=h∧v=.t (.one (.v (vb false))),fun e=>by simp at e,fun _=>⟨rfl,rfl⟩,?_⟩
  rintro h10 p11 ⟨rfl,e⟩
  cases e
  refine⟨fun _=>hK _ D (Mut.of_le (Hp.le_refl _)),fun e=>by simp at e⟩
 | cons w r=>
  obtain⟨b,o,ha,hc0⟩:=SlP.get1 (SlP.le D.l hS) (i:=0) (by simp)
  have hc1:h.cell b (o+(0:Int).toNat*1)=some (vs (bs w)):=hc0
  refine⟨_,_,_,hcell,_,_,_,fun _=>hcell,b,o,fun _=>⟨ha,by decide,by simp⟩,_,fun _=>hc1,fun v hh=>hh=h∧v=.t (.one (.v (vb (decide (w ∈ l))))),fun _=>QaK S (by omega) ⟨_,rfl,rfl,rfl⟩,fun e=>absurd (by simp;omega) e,?_⟩
  rintro h10 p11 ⟨rfl,e⟩
  cases e
  refine⟨fun e=>?_,fun e=>?_⟩
  ·have hno:w ∉ l:=by
    intro hm
    simp [hm] at e
    omega
   have h1:(⟨w :: r,dp,f⟩:RS).is l=([],⟨w :: r,dp,f⟩):=by unfold RS.is;simp only;rw [if_neg hno]
   rw [h1] at hK
   exact hK _ D (Mut.of_le (Hp.le_refl _))
  ·have hm:w ∈ l:=by
    rcases Decidable.em (w ∈ l) with hm|hm
    ·exact hm
    ·simp [hm] at e
   have h1:(⟨w :: r,dp,f⟩:RS).is l=(w,⟨r,dp,f⟩):=by unfold RS.is;simp only;rw [if_pos hm]
   rw [h1] at hK
   have hsz:szT Tryz.prog 9=1:=by kernel_rfl
   have hr:=YM (P:=Tryz.prog) (h:=h10) (t:=162) (e:=9) (by kernel_rfl) (by kernel_rfl) (a:=a) (n:=(w :: r).length) (c:=c) (x:=1) (by decide) (by simp;omega)
   rw [hsz] at hr
   refine⟨_,_,_,hcell,b,o,⟨ha,by decide,by simp⟩,_,hc1,_,_,_,hcell,_,_,_,hr,Qd7 hb ?_⟩
   have hS2:=SlP.drop ZM hS (i:=1) (by simp) hc
   exact hK _ ⟨⟨_,_,Hp.set_same _ _ _,⟨rfl,hS2.2⟩,by simp at hc ⊢;omega⟩,Qa2 D.l D.n _,D.n,fun x hx=>D.w x (List.mem_cons_of_mem _ hx)⟩ (VT _ _ _)
theorem QV.le {h0 h h':Hp}{g:Nat}{s:RS}(D:QV h0 h g s)(l:h.le h'):QV h0 h' g s:=by
 obtain⟨a,c,hb,hS,hc⟩:=D.b
 exact⟨⟨a,c,l g _ hb,hS,hc⟩,Hp.le_trans D.l l,D.n,D.w⟩
theorem WP (h:Hp)(b:Nat)(w:Wd):SlB (h.set b (Qb [vs (bs w)] 9)) (some ⟨b,0,none⟩) 1 [w]:=⟨rfl,(QN.new h b 9 (sz:=1) (n:=1) [vs (bs w)] rfl (by decide)).row⟩
theorem Zb {h0 h:Hp}{g:Nat}{s:RS}(D:QV h0 h g s)(hwl:s.ws.length≤1000000){w:Wd}{R:Value→Hp→Prop}(hK:∀ h',QV h0 h' g (s.must w)→Mut (At g) h (At g) h'→R (Qg []) h'):Qa Tryz.prog 83 [vhp g 0,vs (bs w)] h R:=by
 refine MA ?_
 unfold W8
 intro b1 hb1 h2
 have hl:h.le h2:=Hp.le_set (Hp.le_refl h) hb1 _
 unfold RS.must at hK
 refine QX (D.le hl) (WP h b1 w) (by decide) hwl fun h4 D4 M4=>⟨_,rfl,_,QR (b:=[]),fun e=>?_,fun e=>?_⟩
 ·rw [if_pos (of_decide_eq_true e)] at hK
  exact YO D4 (by decide) fun h5 D5 M5=>⟨rfl,hK h5 D5 (((Mut.of_le hl).trans M4).trans M5)⟩
 ·rw [if_neg (of_decide_eq_false e)] at hK
  exact hK h4 D4 ((Mut.of_le hl).trans M4)
structure JF (hB h:Hp)(a:Option Addr)(n:Nat)(l:List Nd):Prop where
 s:SlP ZY h a n l
 nw:∀ b o,a=some ⟨b,o,none⟩→hB b=none
theorem JF.base {hB hC h:Hp}{a:Option Addr}{n:Nat}{l:List Nd}(N:JF hC h a n l)(hh:∀ b,hC b=none→hB b=none):JF hB h a n l:=⟨N.s,fun b o e=>hh b (N.nw b o e)⟩
theorem JF.mut {hB h h':Hp}{g:Nat}{a:Option Addr}{n:Nat}{l:List Nd}(N:JF hB h a n l)(hg:hB g≠none)(M:Mut (At g) h (At g) h'):JF hB h' a n l:=by
 have ne:∀ b o,a=some ⟨b,o,none⟩→b≠g:=fun b o e q=>hg (by rw [←q];exact N.nw b o e)
 refine⟨⟨N.s.1,(Qf.del N.s.2 ne).le fun b o hb=>?_⟩,N.nw⟩
 by_cases e:b=g
 ·subst e;simp [Hp.del] at hb
 ·refine M.keep b o (fun h=>e h) ?_
  simpa [Hp.del,e] using hb
theorem Uv (hB h:Hp):JF hB h none 0 []:=⟨⟨rfl,(QN.nil h 250 6).row⟩,fun b o e=>by cases e⟩
theorem _root_.Go.Vc.Mut.up {h h':Hp}{g:Nat}(M:Mut (At g) h (At g) h')(hg:h' g≠none):∀ b,h' b=none→h b=none:=by
 intro b hb
 cases e:h b with
 | none=>rfl
 | some o=>
  by_cases q:b=g
  ·subst q;exact absurd hb hg
  ·rw [M.keep b o (fun h=>q h) e] at hb;cases hb
theorem QqG {h h':Hp}(l:h.le h'):∀ b,h' b=none→h b=none:=fun b hb=>Hp.none_of_le l hb
theorem WR {h:Hp}(n:Nd){R:Value→Hp→Prop}(hK:∀ a c h',JF h h' a 1 [n]→1≤c→h.le h'→R (vsl a 1 c) h'):Qa Tryz.prog 238 [vag (ZY n)] h R:=by
 refine QgH ?_
 unfold Qab
 intro b1 hb1 h2
 refine hK _ _ _ ⟨⟨rfl,(QN.new h b1 250 (sz:=6) (n:=1) (ZY n) rfl (by decide)).row⟩,fun b o e=>?_⟩ (by decide) (Hp.le_set (Hp.le_refl h) hb1 _)
 cases e
 exact hb1
theorem QV.al {h0 h:Hp}{g:Nat}{s:RS}(D:QV h0 h g s):h g≠none:=by
 obtain⟨a,c,hb,_⟩:=D.b
 rw [hb];simp
theorem QD {h0 h:Hp}{g:Nat}{s:RS}(D:QV h0 h g s){op:Int}{ax ay:Option Addr}{nx ny cx cy:Nat}{x y:List Nd}(X:SlP ZY h ax nx x)(Y:SlP ZY h ay ny y)(Wy:WfL y)(hx:x.length≤1000)(hy:y.length≤1000){R:Value→Hp→Prop}
  (hK:∀ a c h',QV h0 h' g (Zy op x y s).2→JF h h' a (Zy op x y s).1.length (Zy op x y s).1→Mut (At g) h (At g) h'→R (vsl a (Zy op x y s).1.length c) h'):Qa Tryz.prog 199 [vhp g 0,vi op,vsl ax nx cx,vsl ay ny cy] h R:=by
 refine Mk ?_
 unfold Ke
 have hnx:=X.1
 have hny:=Y.1
 unfold Zy at hK
 refine⟨_,isW (by unfold InR;omega),fun e=>?_,fun e=>?_⟩
 ·have e2:=of_decide_eq_true e
  rw [if_pos (by omega)] at hK
  refine YO D (by decide) fun h3 D3 M3=>⟨rfl,WR Qj2 fun a c h5 N5 _ l5=>⟨_,_,_,rfl,?_⟩⟩
  exact hK a c h5 (D3.le l5) (N5.base (M3.up D3.al)) (M3.trans (Mut.of_le l5))
 ·have e2:=of_decide_eq_false e
  rw [if_neg (by omega)] at hK
  refine K0 X Y Wy (by omega) (by omega) fun a' c' h' V=>⟨_,_,_,rfl,?_⟩
  refine hK a' c' h' (D.le V.le0) ⟨V.slp Za (by decide),fun b o e=>?_⟩ (Mut.of_le V.le0)
  obtain rfl:=(Qh.own V).at0 b o e
  exact Qh.new V b e
end Go.Proofs.YthicpjafcpfjoaaGreatDoor
namespace Go.Txt
open Go.Lib
theorem Qhy:∀(l:List UInt8) (a u:Nat),parseUint10 a l=.ok u→(∀ c ∈ l,isD c)∧u=K6 a l
 | [],a,u,h=>by
  rw [parseUint10] at h
  injection h with h
  exact⟨by simp,h.symm⟩
 | c :: l,a,u,h=>by
  rw [parseUint10] at h
  split at h
  ·rename_i hc
   split at h
   ·cases h
   ·split at h
    ·cases h
    ·obtain⟨h1,h2⟩:=Qhy l _ u h
     refine⟨fun x hx=>?_,?_⟩
     ·rcases List.mem_cons.1 hx with rfl|hx
      ·exact hc
      ·exact h1 x hx
     ·rw [h2,Nat.mul_comm];rfl
  ·cases h
theorem QpL {l:List UInt8}(hl:l≠[])(most:Int):QaB l most false=Qha most 0 l:=by
 unfold QaB
 rw [if_neg]
 rintro(h|⟨h,_⟩)
 ·exact hl h
 ·cases h
theorem Qed {l:List UInt8}(hl:l≠[]){most:Int}(hm:0≤most):QaB l most false=if (∀ c ∈ l,isD c)∧(K6 0 l:Int)≤most then(K6 0 l:Int) else -1:=by
 rw [QpL hl]
 exact QfK most l 0 hm
theorem Qoy {l:List UInt8}{most:Int}(hm:0≤most):-1≤QaB l most false∧QaB l most false≤most:=by
 by_cases hl:l=[]
 ·subst hl;unfold QaB;simp;omega
 ·rw [Qed hl hm]
  split<;>omega
theorem QdD {c:UInt8}{r:List UInt8}(hc:isD c){v:Int}(h:atoiAll (c :: r)=.ok v):(∀ x ∈ c :: r,isD x)∧v=K6 0 (c :: r):=by
 have hc':=hc
 unfold isD at hc'
 unfold atoiAll at h
 simp only at h
 rw [if_neg (by omega)] at h
 unfold parseMag at h
 rw [if_neg (by simp)] at h
 cases hp:parseUint10 0 (c :: r) with
 | ok u=>
  rw [hp] at h
  simp only at h
  rw [if_neg (show ¬(c.toNat=45∧9223372036854775808 < u) by omega),if_neg (show ¬ c.toNat=45 by omega)] at h
  split at h
  ·cases h
  ·injection h with h
   obtain⟨h1,h2⟩:=Qhy _ _ _ hp
   exact⟨h1,by rw [←h,h2]⟩
 | range=>rw [hp] at h;cases h
 | _=>rw [hp] at h;cases h
theorem QfO {l:List UInt8}(hl:l≠[])(hd:∀ x ∈ l,isD x)(hv:K6 0 l≤1000000000000):atoiAll l=.ok (K6 0 l):=by
 match l,hl with
 | c :: r,hl=>
  have hc:=hd c (List.mem_cons_self ..)
  unfold isD at hc
  have hp:=VU (c :: r) 0 hd (by omega)
  unfold atoiAll
  simp only
  rw [if_neg (by omega)]
  unfold parseMag
  rw [if_neg (by simp),hp]
  simp only
  rw [if_neg (by omega),if_neg (by omega),if_neg (by omega)]
theorem QnM {c:UInt8}{r:List UInt8}{v:Int}(h:atoiAll (c :: r)=.ok v){most:Int}(hm:0≤most):QaB (c :: r) most false=if isD c∧v≤most then v else -1:=by
 by_cases hc:isD c
 ·obtain⟨h1,h2⟩:=QdD hc h
  rw [Qed (by simp) hm,h2]
  by_cases h3:(K6 0 (c :: r):Int)≤most
  ·rw [if_pos ⟨h1,h3⟩,if_pos ⟨hc,h3⟩]
  ·rw [if_neg (fun e=>h3 e.2),if_neg (fun e=>h3 e.2)]
 ·rw [Qed (by simp) hm,if_neg (fun e=>hc (e.1 c (List.mem_cons_self ..))),if_neg (fun e=>hc e.1)]
theorem Qnd {l:List UInt8}(h:∀ v,atoiAll l≠.ok v){most:Int}(hm:0≤most)(hm2:most≤1000000000000):QaB l most false=-1:=by
 by_cases hl:l=[]
 ·subst hl;unfold QaB;simp
 ·rw [Qed hl hm]
  by_cases h3:(∀ c ∈ l,isD c)∧(K6 0 l:Int)≤most
  ·exact absurd (QfO hl h3.1 (by omega)) (h _)
  ·rw [if_neg h3]
end Go.Txt
namespace Go.Proofs.YthicpjafcpfjoaaGreatDoor
open Go Go.Vc Go.Txt
def QlV:List Wd:=[[],Zq,Zq,Gr,Gl,Gn]
structure Qgi (h:Hp):Prop where
 p:Uo h
 e:MJ h
 f:∃ a c,Hp.cell h 9 0=some (vsl a 4 c)∧SlB h a 4 Yw
 a:∃ a c,Hp.cell h 0 0=some (vsl a 6 c)∧SlB h a 6 QlV
theorem Qgi.le {h h':Hp}(T:Qgi h)(l:h.le h'):Qgi h':=by
 obtain⟨p,e,⟨a,c,h1,h2⟩,b,d,h3,h4⟩:=T
 exact⟨p.le l,e.le l,⟨a,c,Hp.cell_le l h1,SlP.le l h2⟩,b,d,Hp.cell_le l h3,SlP.le l h4⟩
structure Qa3 (h0 h:Hp)(g:Nat):Prop where
 t:Qgi h0
 l:h0.le h
 n:h0 g=none
theorem Qa3.mut {h0 h h':Hp}{g:Nat}(E:Qa3 h0 h g)(M:Mut (At g) h (At g) h'):Qa3 h0 h' g:=
 ⟨E.t,fun b o hb=>M.keep b o (fun e=>by rw [show b=g from e,E.n] at hb;cases hb) (E.l b o hb),E.n⟩
theorem Qa3.now {h0 h:Hp}{g:Nat}(E:Qa3 h0 h g):Qgi h:=E.t.le E.l
structure Qqx {α:Type}(enc:α→List Value)(h:Hp)(g:Nat)(a:Option Addr)(n:Nat)(l:List α):Prop where
 s:SlP enc h a n l
 ne:∀ b o,a=some ⟨b,o,none⟩→b≠g
theorem Qqx.mut {α:Type}{enc:α→List Value}{h h':Hp}{g:Nat}{a:Option Addr}{n:Nat}{l:List α}(N:Qqx enc h g a n l)(M:Mut (At g) h (At g) h'):Qqx enc h' g a n l:=by
 refine⟨⟨N.s.1,(Qf.del N.s.2 N.ne).le fun b o hb=>?_⟩,N.ne⟩
 by_cases e:b=g
 ·subst e;simp [Hp.del] at hb
 ·refine M.keep b o (fun h=>e h) ?_
  simpa [Hp.del,e] using hb
theorem QV.c0 {h0 h:Hp}{g:Nat}{s:RS}(D:QV h0 h g s):∃ a c,h.cell g 0=some (vsl a s.ws.length c):=by
 obtain⟨a,c,hb,_⟩:=D.b
 exact⟨a,c,(U2 hb).1⟩
theorem QV.c1 {h0 h:Hp}{g:Nat}{s:RS}(D:QV h0 h g s):h.cell g (0+1)=some (vi s.deep):=by
 obtain⟨a,c,hb,_⟩:=D.b
 exact(U2 hb).2.1
theorem QV.c2 {h0 h:Hp}{g:Nat}{s:RS}(D:QV h0 h g s):h.cell g (0+2)=some (ifv (Qz s.f)):=by
 obtain⟨a,c,hb,_⟩:=D.b
 exact(U2 hb).2.2
theorem QV.put1 {h0 h:Hp}{g:Nat}{s:RS}(D:QV h0 h g s){d:Int}{K:Hp→Prop}(hK:∀ h',QV h0 h' g ⟨s.ws,d,s.f⟩→Mut (At g) h (At g) h'→K h'):h.store g (0+1) [vi d] K:=by
 obtain⟨a,c,hb,hS,hc⟩:=D.b
 exact QpH hb (hK _ ⟨⟨a,c,Hp.set_same _ _ _,hS,hc⟩,Qa2 D.l D.n _,D.n,D.w⟩ (VT _ _ _))
theorem QV.put2 {h0 h:Hp}{g:Nat}{s:RS}(D:QV h0 h g s){f:Int}{K:Hp→Prop}(hK:∀ h',QV h0 h' g ⟨s.ws,s.deep,f⟩→Mut (At g) h (At g) h'→K h'):h.store g (0+2) [ifv (Qz f)] K:=by
 obtain⟨a,c,hb,hS,hc⟩:=D.b
 exact Qma hb (hK _ ⟨⟨a,c,Hp.set_same _ _ _,hS,hc⟩,Qa2 D.l D.n _,D.n,D.w⟩ (VT _ _ _))
theorem Qrb {c:UInt8}:(decide (((c.toNat:Nat):Int) < 48)=false∧decide (((c.toNat:Nat):Int) > 57)=false)↔isD c:=by
 unfold isD
 constructor
 ·rintro⟨h1,h2⟩
  have h1:=of_decide_eq_false h1
  have h2:=of_decide_eq_false h2
  omega
 ·intro h
  exact⟨decide_eq_false (by omega),decide_eq_false (by omega)⟩
theorem WB {h0 h:Hp}{g:Nat}{s:RS}(D:QV h0 h g s)(E:Qa3 h0 h g)(hl:s.ws.length≤1000000){most:Int}(hm:0≤most)(hm2:most≤1000000000000){R:Value→Hp→Prop}(hK:∀ h',QV h0 h' g (s.number most).2→Mut (At g) h (At g) h'→R (vi (s.number most).1) h'):Qa Tryz.prog 87 [vhp g 0,vi most] h R:=by
 have hfail:(s.number most)=(0,s.fail 4)→Qa Tryz.prog 140 [vhp g 0,ifv (some (119,vi 4))] h fun v2 h3=>v2=Qg []∧R (vi 0) h3:=by
  intro e
  rw [e] at hK
  exact YO D (by decide) fun h' D' M=>⟨rfl,hK h' D' M⟩
 obtain⟨a,c,hb,hS,hc⟩:=D.b
 refine VP ?_
 unfold X6
 have hcell:=(U2 hb).1
 have hw:=D.w
 obtain⟨ws,dp,f⟩:=s
 simp only at hb hS hc hcell hw hl
 refine⟨_,_,_,hcell,fun e=>?_,fun e=>?_⟩
 ·have:ws=[]:=by
   have:=of_decide_eq_true e
   exact List.length_eq_zero_iff.1 (by omega)
  subst this
  exact hfail rfl
 cases ws with
 | nil=>simp at e
 | cons w r=>
  obtain⟨b,o,ha,hc0⟩:=SlP.get1 (SlP.le D.l hS) (i:=0) (by simp)
  have hc1:h.cell b (o+(0:Int).toNat*1)=some (vs (bs w)):=hc0
  have hlen:(0:Int) < (((w :: r).length:Nat):Int):=by simp
  have hwl:=hw w (List.mem_cons_self ..)
  refine⟨_,_,_,hcell,b,o,⟨ha,by decide,hlen⟩,_,hc1,?_⟩
  refine strconv_Atoi_ok hwl E.now.e (fun v hv=>?_) fun hn x e=>?_
  ·match w,hv with
   | [],hv=>exact absurd hv (by simp [Lib.atoiAll])
   | c0 :: cs,hv=>
   have hx:Rd Tryz.prog (Instr.index 9 (vs (bs (c0 :: cs))) (vi 0)) h (vk .u8 (c0.toNat:Nat)):=Ks (by kernel_rfl) (l:=c0 :: cs) (i:=0) (by decide) (by simp)
   refine⟨_,_,rfl,_,_,_,fun _=>hcell,b,o,fun _=>⟨ha,by decide,hlen⟩,_,fun _=>hc1,_,fun _=>hx,_,_,_,fun _=>hcell,b,o,fun _=>⟨ha,by decide,hlen⟩,_,fun _=>hc1,_,fun _=>hx,?_⟩
   have hnat:=QnM hv hm
   have hnum:(⟨(c0 :: cs) :: r,dp,f⟩:RS).number most=if QaB (c0 :: cs) most false < 0 then(0,(⟨(c0 :: cs) :: r,dp,f⟩:RS).fail 4) else(QaB (c0 :: cs) most false,⟨r,dp,f⟩):=rfl
   have hcond:(bif (bif (bif (Option.isSome (none:Option (TypeId × Value))) then true else(decide (((c0.toNat:Nat):Int) < 48))) then true else(decide (((c0.toNat:Nat):Int) > 57))) then true else(decide ((v:Int) > most)))=!decide (isD c0∧v≤most):=by
    have hi:=@Qrb c0
    rw [show (decide (v > most))=!decide (v≤most) by rw [Qm5];exact decide_eq_decide.2 (by omega)]
    cases h1:decide (((c0.toNat:Nat):Int) < 48)<;>cases h2:decide (((c0.toNat:Nat):Int) > 57)<;>simp only [h1,h2] at hi<;>simp at hi<;>simp [hi]
   rw [hcond]
   refine⟨fun e=>?_,fun e=>?_⟩
   ·have e2:¬(isD c0∧v≤most):=by rw [Qm5] at e;exact of_decide_eq_true e
    rw [if_neg e2] at hnat
    rw [hnat,if_pos (by decide)] at hnum
    exact hfail hnum
   ·have e2:isD c0∧v≤most:=by rw [Qm5] at e;exact Decidable.not_not.1 (of_decide_eq_false e)
    rw [if_pos e2] at hnat
    obtain⟨_,hv2⟩:=QdD e2.1 hv
    rw [hnat,if_neg (by omega)] at hnum
    rw [hnum] at hK
    have hsz:szT Tryz.prog 9=1:=by kernel_rfl
    have hr:=YM (P:=Tryz.prog) (h:=h) (t:=162) (e:=9) (by kernel_rfl) (by kernel_rfl) (a:=a) (n:=((c0 :: cs) :: r).length) (c:=c) (x:=1) (by decide) (by simp;omega)
    rw [hsz] at hr
    refine⟨_,_,_,hcell,_,_,_,hr,Qd7 hb ?_⟩
    have hS2:=SlP.drop ZM hS (i:=1) (by simp) hc
    exact hK _ ⟨⟨_,_,Hp.set_same _ _ _,⟨rfl,hS2.2⟩,by simp at hc ⊢;omega⟩,Qa2 D.l D.n _,D.n,fun x hx=>hw x (List.mem_cons_of_mem _ hx)⟩ (VT _ _ _)
  ·have no:∀{p:Prop},Option.isSome (some e)=false→p:=fun q=>by cases q
   refine⟨x,some e,rfl,none,0,0,no,0,0,no,⟨#[]⟩,no,0,no,none,0,0,(fun q=>by cases q),0,0,(fun q=>by cases q),⟨#[]⟩,(fun q=>by cases q),0,(fun q=>by cases q),(fun _=>?_),(fun q=>by cases q)⟩
   have hnat:=Qnd hn hm hm2
   refine hfail ?_
   show (if QaB w most false < 0 then(0,(⟨w :: r,dp,f⟩:RS).fail 4) else(QaB w most false,⟨r,dp,f⟩))=_
   rw [hnat,if_pos (by decide)]
structure SOk (n:Nat)(s:RS):Prop where
 good:s.good
 len:s.ws.length < n
 big:s.ws.length≤1000
 d0:0≤s.deep
 d1:s.deep+s.ws.length≤1000000
theorem SOk.goes {n:Nat}{s t:RS}(S:SOk n s)(G:Xf t s):SOk n t:=by
 have h1:=G.len
 have h2:=G.deep
 have:=S.len
 have:=S.big
 have:=S.d0
 have:=S.d1
 exact⟨G.ok,by omega,by omega,by omega,by omega⟩
def Zd (f:FuncId)(P:Ps)(n:Nat):Prop:=∀{h0 h:Hp} {g:Nat} {s:RS},QV h0 h g s→Qa3 h0 h g→SOk n s→∀{R:Value→Hp→Prop},(∀ a c h',QV h0 h' g (P s).2→JF h h' a (P s).1.length (P s).1→Mut (At g) h (At g) h'→R (vsl a (P s).1.length c) h')→Qa Tryz.prog f [vhp g 0] h R
def Qi5 (f:FuncId):Prop:=∃ fn,Tryz.prog.funcs[f]?=some fn∧(fn.name == "runtime.NumGoroutine")=false∧fn.body.isNone=false
theorem QlJ {f:FuncId}(B:Qi5 f){g:Nat}{h:Hp}{K:Value→Hp→Prop}(H:Qa Tryz.prog f [vhp g 0] h K):ZS Tryz.prog (.func (.func f) #[vhp g 0] #[]) [] h K:=⟨f,_,_,rfl,B,H⟩
theorem JO {f:FuncId}{P:Ps}{n:Nat}(B:Qi5 f)(F:Zd f P n)(kp:KP P n){h0 h:Hp}{g:Nat}{s:RS}(D:QV h0 h g s)(E:Qa3 h0 h g)(S:SOk n s)(hd:s.deep+s.ws.length < 1000000){R:Value→Hp→Prop}(hK:∀ a c h',QV h0 h' g (WU P s).2→JF h h' a (WU P s).1.length (WU P s).1→Mut (At g) h (At g) h'→R (vsl a (WU P s).1.length c) h'):Qa Tryz.prog 240 [vhp g 0,.func (.func f) #[vhp g 0] #[]] h R:=by
 refine MX ?_
 unfold WZ
 have d0:=S.d0
 refine⟨_,D.c1,_,isW (by unfold InR;omega),D.put1 fun h3 D3 M3=>⟨_,D3.c1,?_⟩⟩
 intro J9
 have key:∀(h10:Hp) (u:RS),QV h0 h10 g u→Mut (At g) h (At g) h10→SOk n u→WU P s=((P u).1,⟨(P u).2.ws,(P u).2.deep - 1,(P u).2.f⟩)→J9 h10:=by
  intro h10 u D10 M10 Su hP
  rw [hP] at hK
  have k:=kp u Su.good (Nat.le_of_lt Su.len)
  have hdp:=k.deep
  have du:=Su.d0
  have du1:=Su.d1
  have hg:=D.al
  refine QlJ B (F D10 (E.mut M10) Su fun a c h' D' N' M'=>⟨_,_,_,rfl,_,D'.c1,_,isW (by unfold InR;omega),D'.put1 fun h4 D4 M4=>?_⟩)
  exact hK a c h4 D4 ((N'.base (M10.up D10.al)).mut hg M4) ((M10.trans M').trans M4)
 clear_value J9
 refine⟨fun e=>?_,fun e=>?_⟩
 ·have e2:s.deep+1 > 12:=of_decide_eq_true e
  refine YO D3 (by decide) fun h4 D4 M4=>⟨rfl,key h4 _ D4 (M3.trans M4) ⟨RS.fail_good _ _,by have:=S.len;exact Nat.lt_of_le_of_lt (Nat.zero_le _) this,Nat.zero_le _,by show 0≤s.deep+1;omega,by show s.deep+1+((0:Nat):Int)≤1000000;omega⟩ ?_⟩
  unfold WU
  simp only [if_pos e2]
 ·have e2:¬ s.deep+1 > 12:=of_decide_eq_false e
  refine key h3 _ D3 M3 ⟨S.good,S.len,S.big,by show 0≤s.deep+1;omega,by show s.deep+1+(s.ws.length:Int)≤1000000;omega⟩ ?_
  unfold WU
  simp only [if_neg e2]
structure QOk (q:Qy):Prop where
 n1:1≤q.aggs.length
 n2:q.aggs.length≤4
 g:∀ a ∈ q.aggs,1≤a.1∧a.1≤5∧(a.1≠1→Ju a.2=0)∧(a.1=1→a.2=[])
 w:q.wh≠[]→Ju q.wh=0
 b:q.by_≠[]→Ju q.by_=0
 s:1≤q.size∧q.size≤1000
 l:1≤q.slide∧q.slide≤1000
 d:0≤q.delay∧q.delay≤1000
 t:0≤q.late∧q.late≤1000
 r:q.slide≤q.size∧q.size≤4*q.slide
 ga:∀ a ∈ q.aggs,a.1≠1→YH a.2 (if a.1=2 then 0 else 1)=0
 wa:q.wh≠[]→YH q.wh 2=0
 ba:q.by_≠[]→YH q.by_ 0=0
theorem GI {l:List Nd}{k:Int}(h:YH l k=0):Ju l=0:=by
 unfold YH at h
 split at h
 ·rename_i q;exact absurd h q
 ·rename_i q;exact Decidable.not_not.1 q
theorem QqP {q:Qy}(h:QdZ q=0):QOk q:=by
 unfold QdZ at h
 split at h
 ·cases h
 rename_i h1
 split at h
 ·rename_i h2;exact absurd h h2
 rename_i h2
 have h2:=Qft (Decidable.not_not.1 h2)
 have h3:=Qft h
 have ha:∀ a ∈ q.aggs,Gu a=0:=fun a ha=>h2 _ (List.mem_map.2 ⟨a,ha,rfl⟩)
 have hw:=h3 (if q.wh=[] then 0 else YH q.wh 2) (by simp)
 have hb:=h3 (if q.by_=[] then 0 else YH q.by_ 0) (by simp)
 have hn:=h3 (V3 q) (by simp)
 have hga:∀ a ∈ q.aggs,1≤a.1∧a.1≤5∧(a.1≠1→YH a.2 (if a.1=2 then 0 else 1)=0)∧(a.1=1→a.2=[]):=by
  intro a h4
  have h5:=ha a h4
  unfold Gu at h5
  split at h5
  ·cases h5
  ·rename_i h6
   refine⟨by omega,by omega,fun h7=>?_,fun h7=>?_⟩
   ·rw [if_neg h7] at h5;exact h5
   ·exact Decidable.byContradiction fun h8=>h6 (.inr (.inr ⟨h7,h8⟩))
 have hwa:q.wh≠[]→YH q.wh 2=0:=fun h4=>by rw [if_neg h4] at hw;exact hw
 have hba:q.by_≠[]→YH q.by_ 0=0:=fun h4=>by rw [if_neg h4] at hb;exact hb
 have hnn:¬(q.size < 1∨q.size > 1000∨q.slide < 1∨q.slide > 1000∨q.delay < 0∨q.delay > 1000∨q.late < 0∨q.late > 1000)∧¬(q.slide > q.size∨q.size > 4*q.slide):=by
  unfold V3 at hn
  split at hn
  ·cases hn
  ·rename_i h4
   split at hn
   ·cases hn
   ·rename_i h5;exact⟨h4,h5⟩
 exact⟨by omega,by omega,fun a h4=>⟨(hga a h4).1,(hga a h4).2.1,fun h5=>GI ((hga a h4).2.2.1 h5),(hga a h4).2.2.2⟩,fun h4=>GI (hwa h4),fun h4=>GI (hba h4),by omega,by omega,by omega,by omega,by omega,fun a h4 h5=>(hga a h4).2.2.1 h5,hwa,hba⟩
end Go.Proofs.YthicpjafcpfjoaaGreatDoor
namespace Go.Proofs.YthicpjafcpfjoaaGreatDoor
open Go Go.Vc
def Nb (u0:Option Addr)(u1 u2:Nat)(u3:Int)(h:Hp)(R:Value→Hp→Prop):Prop:=
 (Qa Tryz.prog 203 [vsl u0 u1 u2] h fun v1 h2=>∃ e3,v1=(ifv e3)∧(((Option.isSome e3)=true→R (ifv e3) h2)∧((Option.isSome e3)=false→(Qa Tryz.prog 204 [vsl u0 u1 u2] h2 fun v5 h6=>∃ x7 e8,v5=(Qg [vi x7,ifv e8])∧(let J11:Option (TypeId × Value)→Prop:=fun e12=>R (ifv e12) h6;(((bif (bif (bif (Option.isNone e8) then(decide (u3≠0)) else false) then(decide (x7≠u3)) else false) then(decide (x7≠0)) else false)=true→(J11 (some (119,(vi 3)))))∧((bif (bif (bif (Option.isNone e8) then(decide (u3≠0)) else false) then(decide (x7≠u3)) else false) then(decide (x7≠0)) else false)=false→(J11 e8))))))))
theorem Qfd {u0 u1 u2 u3 h R}(H:Nb u0 u1 u2 u3 h R):Qa Tryz.prog 146 [vsl u0 u1 u2,vi u3] h R:=
 Qd (cfg:=⟨[],[],[]⟩) Qn mixed Tryz.func146 [.one (.v (vsl u0 u1 u2)),.one (.v (vi u3))] (by kernel_rfl) rfl (by kernel_rfl) H
def Vk (u0:Option Addr)(u1 u2:Nat)(u3:Option Addr)(u4 u5:Nat)(u6:Option Addr)(u7 u8:Nat)(u9:Int)(u10:Int)(u11:Int)(u12:Int)(h:Hp)(R:Value→Hp→Prop):Prop:=
 (∀ b1,h b1=none→let h2:= Hp.set h b1 (Qb [vi u9,vi u10] 3);(∃(I4:List Value→Hp→Prop) (m5:List Value→Hp→Nat),I4 [vi 0] h2∧∀ vs6 h7,I4 vs6 h7→∃ x8,vs6=[vi x8]∧(((decide (x8 < ((2:Nat):Int)))=true→(∃ b11 o12,((some (⟨b1,0,none⟩:Addr))=some ⟨b11,o12,none⟩∧(0:Int)≤x8∧x8 < ((2:Nat):Int))∧(∃ x13,(Hp.cell h7 b11 (o12+x8.toNat*1)=some (vi x13))∧(((bif (decide (x13 < 1)) then true else(decide (x13 > 1000)))=true→R (ifv (some (119,(vi 1)))) h7)∧((bif (decide (x13 < 1)) then true else(decide (x13 > 1000)))=false→(∃ x15,(IsW x15 (x8+1))∧(I4 [vi x15] h7∧m5 [vi x15] h7 < m5 vs6 h7)))))))∧((decide (x8 < ((2:Nat):Int)))=false→(∀ b16,h7 b16=none→let h17:= Hp.set h7 b16 (Qb [vi u11,vi u12] 3);(∃(I19:List Value→Hp→Prop) (m20:List Value→Hp→Nat),I19 [vi 0] h17∧∀ vs21 h22,I19 vs21 h22→∃ x23,vs21=[vi x23]∧(((decide (x23 < ((2:Nat):Int)))=true→(∃ b26 o27,((some (⟨b16,0,none⟩:Addr))=some ⟨b26,o27,none⟩∧(0:Int)≤x23∧x23 < ((2:Nat):Int))∧(∃ x28,(Hp.cell h22 b26 (o27+x23.toNat*1)=some (vi x28))∧(((bif (decide (x28 < 0)) then true else(decide (x28 > 1000)))=true→R (ifv (some (119,(vi 1)))) h22)∧((bif (decide (x28 < 0)) then true else(decide (x28 > 1000)))=false→(∃ x30,(IsW x30 (x23+1))∧(I19 [vi x30] h22∧m20 [vi x30] h22 < m20 vs21 h22)))))))∧((decide (x23 < ((2:Nat):Int)))=false→(∃ x31,((decide (u10 > u9))=false→IsW x31 (4*u10))∧(((bif (decide (u10 > u9)) then true else(decide (u9 > x31)))=true→R (ifv (some (119,(vi 3)))) h22)∧((bif (decide (u10 > u9)) then true else(decide (u9 > x31)))=false→R (ifv none) h22)))))))))))
theorem Qc6 {u0 u1 u2 u3 u4 u5 u6 u7 u8 u9 u10 u11 u12 h R}(H:Vk u0 u1 u2 u3 u4 u5 u6 u7 u8 u9 u10 u11 u12 h R):Qa Tryz.prog 147 [vag [vsl u0 u1 u2,vsl u3 u4 u5,vsl u6 u7 u8,vi u9,vi u10,vi u11,vi u12]] h R:=
 Qd (cfg:=⟨[],[(2,([13],[.one (.int .i64)],[])),(8,([31],[.one (.int .i64)],[]))],[]⟩) Qn mixed Tryz.func147 [.ag [.v (vsl u0 u1 u2),.v (vsl u3 u4 u5),.v (vsl u6 u7 u8),.v (vi u9),.v (vi u10),.v (vi u11),.v (vi u12)]] (by kernel_rfl) rfl (by kernel_rfl) H
def GM (u0:Option Addr)(u1 u2:Nat)(u3:Option Addr)(u4 u5:Nat)(u6:Option Addr)(u7 u8:Nat)(u9:Int)(u10:Int)(u11:Int)(u12:Int)(h:Hp)(R:Value→Hp→Prop):Prop:=
 (((bif (decide ((u1:Int) < 1)) then true else(decide ((u1:Int) > 4)))=true→R (ifv (some (119,(vi 2)))) h)∧((bif (decide ((u1:Int) < 1)) then true else(decide ((u1:Int) > 4)))=false→(∃(I3:List Value→Hp→Prop) (m4:List Value→Hp→Nat),I3 [vi 0] h∧∀ vs5 h6,I3 vs5 h6→∃ x7,vs5=[vi x7]∧(((decide (x7 < (u1:Int)))=true→(let J25:Hp→Prop:=fun h26=>(∃ x27,(IsW x27 (x7+1))∧(I3 [vi x27] h26∧m4 [vi x27] h26 < m4 vs5 h6));(∃ b10 o11,(u0=some ⟨b10,o11,none⟩∧(0:Int)≤x7∧x7 < (u1:Int))∧(∃ x12 a13 n13 c13,(Hp.row h6 b10 (o11+x7.toNat*2) 2=some [vi x12,vsl a13 n13 c13])∧(((bif (bif (decide (x12 < 1)) then true else(decide (x12 > 5))) then true else(bif (decide (x12=1)) then(decide ((n13:Int) > 0)) else false))=true→R (ifv (some (119,(vi 3)))) h6)∧((bif (bif (decide (x12 < 1)) then true else(decide (x12 > 5))) then true else(bif (decide (x12=1)) then(decide ((n13:Int) > 0)) else false))=false→(((decide (x12=1))=true→(J25 h6))∧((decide (x12=1))=false→(let J19:Int→Prop:=fun x20=>(Qa Tryz.prog 146 [vsl a13 n13 c13,vi x20] h6 fun v21 h22=>∃ e23,v21=(ifv e23)∧(((Option.isSome e23)=true→R (ifv e23) h22)∧((Option.isSome e23)=false→(J25 h22))));(((decide (x12=2))=true→(J19 0))∧((decide (x12=2))=false→(J19 1))))))))))))∧((decide (x7 < (u1:Int)))=false→(let J33:Hp→Prop:=fun h34=>(let J40:Hp→Prop:=fun h41=>(Qa Tryz.prog 147 [vag [vsl u0 u1 u2,vsl u3 u4 u5,vsl u6 u7 u8,vi u9,vi u10,vi u11,vi u12]] h41 fun v42 h43=>∃ e44,v42=(ifv e44)∧R (ifv e44) h43);(((decide ((u7:Int) > 0))=true→(Qa Tryz.prog 146 [vsl u6 u7 u8,vi 0] h34 fun v35 h36=>∃ e37,v35=(ifv e37)∧(((Option.isSome e37)=true→R (ifv e37) h36)∧((Option.isSome e37)=false→(J40 h36)))))∧((decide ((u7:Int) > 0))=false→(J40 h34))));(((decide ((u4:Int) > 0))=true→(Qa Tryz.prog 146 [vsl u3 u4 u5,vi 2] h6 fun v28 h29=>∃ e30,v28=(ifv e30)∧(((Option.isSome e30)=true→R (ifv e30) h29)∧((Option.isSome e30)=false→(J33 h29)))))∧((decide ((u4:Int) > 0))=false→(J33 h6)))))))))
theorem Qfv {u0 u1 u2 u3 u4 u5 u6 u7 u8 u9 u10 u11 u12 h R}(H:GM u0 u1 u2 u3 u4 u5 u6 u7 u8 u9 u10 u11 u12 h R):Qa Tryz.prog 89 [vag [vsl u0 u1 u2,vsl u3 u4 u5,vsl u6 u7 u8,vi u9,vi u10,vi u11,vi u12]] h R:=
 Qd (cfg:=⟨[],[(4,([23],[.one (.int .i64)],[]))],[]⟩) Qn mixed Tryz.func89 [.ag [.v (vsl u0 u1 u2),.v (vsl u3 u4 u5),.v (vsl u6 u7 u8),.v (vi u9),.v (vi u10),.v (vi u11),.v (vi u12)]] (by kernel_rfl) rfl (by kernel_rfl) H
def Qdb (u0:Int)(u1:Int)(u2:Int)(u3:Int)(u4:Int)(u5:Int)(h:Hp)(R:Value→Hp→Prop):Prop:=
 (Qa Tryz.prog 180 [vi u0] h fun v1 h2=>∃ x3,v1=(vi x3)∧(((decide (x3 < 0))=true→R (ifv (some (119,(vi 3)))) h2)∧((decide (x3 < 0))=false→(∃ p5,((decide (u0≠1))=true→Rd Tryz.prog ((eqGuard .neq 54 (.tmp 15) (.tmp 16) (vag [vi u4,vi u5]) (vag [vi 0,vi 0]) >>= fun _=>binOp .neq 54 (vag [vi u4,vi u5]) (vag [vi 0,vi 0]))) h2 (vb p5))∧(((bif (bif (bif (bif (decide (u0≠1)) then p5 else false) then true else(bif (decide (u0≠2)) then(decide (u3≠0)) else false)) then true else(bif (decide (x3 < 2)) then(decide (u2≠0)) else false)) then true else(bif (decide (x3 < 1)) then(decide (u1≠0)) else false))=true→R (ifv (some (119,(vi 3)))) h2)∧((bif (bif (bif (bif (decide (u0≠1)) then p5 else false) then true else(bif (decide (u0≠2)) then(decide (u3≠0)) else false)) then true else(bif (decide (x3 < 2)) then(decide (u2≠0)) else false)) then true else(bif (decide (x3 < 1)) then(decide (u1≠0)) else false))=false→(((bif (decide (u0=2)) then(bif (decide (u3 < 0)) then true else(decide (u3 > 3))) else false)=true→R (ifv (some (119,(vi 1)))) h2)∧((bif (decide (u0=2)) then(bif (decide (u3 < 0)) then true else(decide (u3 > 3))) else false)=false→(Qa Tryz.prog 159 [vag [vi u4,vi u5]] h2 fun v8 h9=>∃ e10,v8=(ifv e10)∧R (ifv e10) h9)))))))))
theorem QjQ {u0 u1 u2 u3 u4 u5 h R}(H:Qdb u0 u1 u2 u3 u4 u5 h R):Qa Tryz.prog 246 [vag [vi u0,vi u1,vi u2,vi u3,vi u4,vi u5]] h R:=
 Qd (cfg:=⟨[],[],[]⟩) Qn mixed Tryz.func246 [.ag [.v (vi u0),.v (vi u1),.v (vi u2),.v (vi u3),.v (vi u4),.v (vi u5)]] (by kernel_rfl) rfl (by kernel_rfl) H
def Qap (u0:Option Addr)(u1 u2:Nat)(h:Hp)(R:Value→Hp→Prop):Prop:=
 (((decide ((u1:Int) > 40))=true→R (ifv (some (119,(vi 2)))) h)∧((decide ((u1:Int) > 40))=false→(∃(I3:List Value→Hp→Prop) (m4:List Value→Hp→Nat),I3 [vsl none 0 0,vi 0] h∧∀ vs5 h6,I3 vs5 h6→∃ a7 n7 c7 x8,vs5=[vsl a7 n7 c7,vi x8]∧(((decide (x8 < (u1:Int)))=true→(∃ b11 o12,(u0=some ⟨b11,o12,none⟩∧(0:Int)≤x8∧x8 < (u1:Int))∧(∃ x13 x14 x15 x16 x17 x18,(Hp.row h6 b11 (o12+x8.toNat*6) 6=some [vi x13,vi x14,vi x15,vi x16,vi x17,vi x18])∧(Qa Tryz.prog 246 [vag [vi x13,vi x14,vi x15,vi x16,vi x17,vi x18]] h6 fun v19 h20=>∃ e21,v19=(ifv e21)∧(((Option.isSome e21)=true→R (ifv e21) h20)∧((Option.isSome e21)=false→(Qa Tryz.prog 180 [vi x13] h20 fun v23 h24=>∃ x25,v23=(vi x25)∧(((decide (x25 > (n7:Int)))=true→R (ifv (some (119,(vi 3)))) h24)∧((decide (x25 > (n7:Int)))=false→(∃ x27,(IsW x27 ((n7:Int) - x25))∧(∃ a28 n28 c28,(Rd Tryz.prog (Instr.sliceAt 46 (vsl a7 n7 c7) (some (vi x27)) none none) h24 (vsl a28 n28 c28))∧(∃ b29 o30,((decide (x25 > 0))=true→(a28=some ⟨b29,o30,none⟩∧(0:Int)≤0∧0 < (n28:Int)))∧(∃ x31,((decide (x25 > 0))=true→Hp.cell h24 b29 (o30+(0:Int).toNat*1)=some (vi x31))∧(∃ b32 o33,(((bif (decide (x25 > 0)) then(decide (x31≠x14)) else false)=false∧(decide (x25 > 1))=true)→(a28=some ⟨b32,o33,none⟩∧(0:Int)≤1∧1 < (n28:Int)))∧(∃ x34,(((bif (decide (x25 > 0)) then(decide (x31≠x14)) else false)=false∧(decide (x25 > 1))=true)→Hp.cell h24 b32 (o33+(1:Int).toNat*1)=some (vi x34))∧(((bif (bif (decide (x25 > 0)) then(decide (x31≠x14)) else false) then true else(bif (decide (x25 > 1)) then(decide (x34≠x15)) else false))=true→R (ifv (some (119,(vi 3)))) h24)∧((bif (bif (decide (x25 > 0)) then(decide (x31≠x14)) else false) then true else(bif (decide (x25 > 1)) then(decide (x34≠x15)) else false))=false→(∃ x36,(IsW x36 ((n7:Int) - x25))∧(∃ a37 n37 c37,(Rd Tryz.prog (Instr.sliceAt 46 (vsl a7 n7 c7) none (some (vi x36)) none) h24 (vsl a37 n37 c37))∧(∀ b38,h24 b38=none→let h39:= Hp.set h24 b38 (Qb [vi x8] 3);(Qm Tryz.prog (Builtin.append_ #[46,46] 46 #[vsl a37 n37 c37,(vsl (some (⟨b38,0,none⟩:Addr)) 1 1)]) h39 fun v40 h41=>∃ a42 n42 c42,v40=(vsl a42 n42 c42)∧(∃ x44,(IsW x44 (x8+1))∧(I3 [vsl a42 n42 c42,vi x44] h41∧m4 [vsl a42 n42 c42,vi x44] h41 < m4 vs5 h6)))))))))))))))))))))))∧((decide (x8 < (u1:Int)))=false→(((decide ((n7:Int)≠1))=true→R (ifv (some (119,(vi 3)))) h6)∧((decide ((n7:Int)≠1))=false→R (ifv none) h6)))))))
theorem Qgl {u0 u1 u2 h R}(H:Qap u0 u1 u2 h R):Qa Tryz.prog 203 [vsl u0 u1 u2] h R:=
 Qd (cfg:=⟨[],[(5,([3,15],[.one (.slice),.one (.int .i64)],[]))],[(14,[0,1,2,3,4,5,6,7,8,9,10,11,12,13,14,15,16,17,18,19,20,21])]⟩) Qn mixed Tryz.func203 [.one (.v (vsl u0 u1 u2))] (by kernel_rfl) rfl (by kernel_rfl) H
def GW (u0:Int)(u1:Int)(h:Hp)(R:Value→Hp→Prop):Prop:=
 (let J4:Bool→Prop:=fun p5=>((p5=true→R (ifv none) h)∧(p5=false→R (ifv (some (119,(vi 3)))) h));(((bif (decide (u0=0)) then(decide (u1=0)) else false)=true→(J4 (bif (decide (u0=0)) then(decide (u1=0)) else false)))∧((bif (decide (u0=0)) then(decide (u1=0)) else false)=false→(((bif (bif (decide (u0=1)) then(decide (u1≥(-1000000000))) else false) then(decide (u1≤1000000000)) else false)=true→(J4 (bif (bif (decide (u0=1)) then(decide (u1≥(-1000000000))) else false) then(decide (u1≤1000000000)) else false)))∧((bif (bif (decide (u0=1)) then(decide (u1≥(-1000000000))) else false) then(decide (u1≤1000000000)) else false)=false→(J4 (bif (decide (u0=2)) then(bif (decide (u1=0)) then true else(decide (u1=1))) else false)))))))
theorem Qfp {u0 u1 h R}(H:GW u0 u1 h R):Qa Tryz.prog 159 [vag [vi u0,vi u1]] h R:=
 Qd (cfg:=⟨[],[],[]⟩) Qn mixed Tryz.func159 [.ag [.v (vi u0),.v (vi u1)]] (by kernel_rfl) rfl (by kernel_rfl) H
theorem GJ {v:Int × Int}{h:Hp}{R:Value→Hp→Prop}(hK:R (ifv (Qz (if Qo v then 0 else 3))) h):Qa Tryz.prog 159 [vag (Qw v)] h R:=by
 refine Qfp ?_
 unfold GW
 intro J4
 have yes:Qo v→J4 true:=fun hg=>⟨fun _=>by rw [if_pos hg] at hK;exact hK,fun e=>by cases e⟩
 have no:¬ Qo v→J4 false:=fun hg=>⟨fun e=>(by cases e),fun _=>by rw [if_neg hg] at hK;exact hK⟩
 refine⟨fun e=>?_,fun e=>⟨fun e2=>?_,fun e2=>?_⟩⟩
 ·rw [e];exact yes (by unfold Qo;simp [Bool.cond_eq_ite] at e;omega)
 ·rw [e2];exact yes (by unfold Qo;simp [Bool.cond_eq_ite] at e2;omega)
 ·by_cases hg:Qo v
  ·have:(bif (decide (v.1=2)) then(bif (decide (v.2=0)) then true else(decide (v.2=1))) else false)=true:=by
    unfold Qo at hg
    simp [Bool.cond_eq_ite] at e e2 ⊢
    omega
   rw [this];exact yes hg
  ·have:(bif (decide (v.1=2)) then(bif (decide (v.2=0)) then true else(decide (v.2=1))) else false)=false:=by
    unfold Qo at hg
    simp [Bool.cond_eq_ite]
    omega
   rw [this];exact no hg
theorem Qiv (v:Int × Int):(v=(0,0))=(v.1=0∧v.2=0):=propext ⟨fun h=>by rw [h];exact⟨rfl,rfl⟩,fun h=>Prod.ext h.1 h.2⟩
theorem QjY {n:Nd}{h:Hp}{R:Value→Hp→Prop}(hK:R (ifv (Qz (Zt n))) h):Qa Tryz.prog 246 [vag (ZY n)] h R:=by
 refine QjQ ?_
 unfold Qdb
 unfold Zt at hK
 refine Q4 ⟨_,rfl,fun q=>?_,fun q=>⟨_,fun _=>QhN (a:=n.v) (b:=(0,0)),fun q2=>?_,fun q2=>⟨fun q3=>?_,fun q3=>GJ (v:=n.v) ⟨_,rfl,?_⟩⟩⟩⟩
 ·rw [if_pos (of_decide_eq_true q)] at hK;exact hK
 all_goals
  have c1:=of_decide_eq_false q
  simp only [K7,cor,Qm5] at *
 ·have c2:=of_decide_eq_true q2
  rw [if_neg c1,if_pos (by simp only [ne_eq,Qiv] at c2 ⊢;omega)] at hK
  exact hK
 ·have c2:=of_decide_eq_false q2
  have c3:=of_decide_eq_true q3
  rw [if_neg c1,if_neg (by simp only [ne_eq,Qiv] at c2 ⊢;omega),if_pos c3] at hK
  exact hK
 ·have c2:=of_decide_eq_false q2
  have c3:=of_decide_eq_false q3
  rw [if_neg c1,if_neg (by simp only [ne_eq,Qiv] at c2 ⊢;omega),if_neg c3] at hK
  by_cases hg:Qo n.v
  ·rw [if_neg (by simp [hg])] at hK
   rw [if_pos hg];exact hK
  ·rw [if_pos hg] at hK
   rw [if_neg hg];exact hK
theorem QgE {a:Option Addr}{k c:Nat}{l:List Nd}{h:Hp}{R:Value→Hp→Prop}(S:SlP ZY h a k l)(hK:∀ h',h.le h'→R (ifv (Qz (Ju l))) h'):Qa Tryz.prog 203 [vsl a k c] h R:=by
 refine Qgl ?_
 unfold Qap
 have hk:=S.1
 subst hk
 refine⟨fun e=>?_,fun e=>?_⟩
 ·have:Ju l=2:=by unfold Ju;rw [if_pos (by have:=of_decide_eq_true e;omega)]
  rw [this] at hK;exact hK h (Hp.le_refl h)
 have h40:l.length≤40:=by have:=of_decide_eq_false e;omega
 have e1:Ju l=ZC [] 0 l:=by unfold Ju;rw [if_neg (by omega)]
 rw [e1] at hK
 refine⟨fun vs hh=>∃(i:Nat) (a:Option Addr) (c:Nat) (st:List Int),vs=[vsl a st.length c,vi i]∧i≤l.length∧st.length≤i∧ZC [] 0 l=ZC st i (l.drop i)∧Qh h hh 3 1 a st.length c (st.reverse.map vi),fun vs hh=>l.length - (Qr vs 1).toNat,
  ⟨0,none,0,[],rfl,Nat.zero_le _,Nat.le_refl _,rfl,Qh.nil (Hp.le_refl h) _ _⟩,?_⟩
 rintro vs hh ⟨i,a1,c1,st,rfl,hi,hst,hc,O⟩
 refine⟨_,_,_,_,rfl,fun q=>?_,fun q=>?_⟩
 ·have hlt:i < l.length:=by have:=of_decide_eq_true q;omega
  have hx:l[i]?=some l[i]:=List.getElem?_eq_getElem hlt
  rw [Qkz hlt] at hc
  obtain⟨b,o,ha,hr⟩:=(S.le O.le).get Za (by decide) hx
  generalize l[i]=n at *
  refine⟨b,o,⟨ha,by omega,by omega⟩,_,_,_,_,_,_,hr,QjY (n:=n) ⟨_,rfl,fun q2=>?_,fun q2=>Q4 ⟨_,rfl,?_⟩⟩⟩
  ·rw [QH] at q2
   have hf:Zt n≠0:=by simpa using q2
   rw [QmM rfl hf] at hc
   rw [hc] at hK;exact hK hh O.le
  rw [QH] at q2
  have hf:Zt n=0:=by simpa using q2
  have har:0≤arI n.op:=Qbb hf
  have SI:SlI hh a1 st.length st.reverse:=by have:=O.sli;exact this
  have hbad:XQ n st=none→R (ifv (Qz 3)) hh:=fun hp=>by
   rw [Qob hf hp] at hc
   rw [hc] at hK;exact hK hh O.le
  have hcap:=O.own.cap
  have hgood:∀ s,XQ n st=some s→∀ x:Int,x=(st.length:Nat) - arI n.op→∀ K:Value→Hp→Prop,(∀(a46:Option Addr) (n46 c46:Nat) (h45:Hp),Qh h h45 3 1 a46 n46 c46 ((((i:Int) :: s).reverse).map vi)→n46=s.length+1→K (vsl a46 n46 c46) h45) →
    ∃(a38:Option Addr) (n38 c38:Nat),(Rd Tryz.prog (Instr.sliceAt 46 (vsl a1 st.length c1) none (some (vi x)) none) hh (vsl a38 n38 c38))∧(∀(b42:Nat),hh b42=none→Qm Tryz.prog (Builtin.append_ #[46,46] 46 #[(vsl a38 n38 c38),(vsl (some (⟨b42,0,none⟩:Addr)) 1 1)]) (Hp.set hh b42 (Qb [(vi i)] 3)) K):=by
   intro s hs x hx K hK
   rw [hx]
   obtain⟨p1,p2⟩:=Qc3 har hs
   rw [←p1]
   refine⟨_,_,_,WE (e:=3) (by kernel_rfl) (by kernel_rfl) (by omega) (by omega),fun b42 hb42=>?_⟩
   rw [Int.toNat_natCast]
   have OC:Qh h hh 3 1 a1 s.length c1 (s.reverse.map vi):=by
    have:=O.cut (m:=s.length) (by omega)
    rw [Nat.mul_one,←List.map_take,p2] at this
    exact this
   refine Qh.append Qfo (Qh.set hb42 _ OC) (Qf.new _ _ [vi i] _) (m:=1) rfl (by simp [Value.oneCell']) (by omega) (by omega) fun a2 c2 h2 O2 _ _=>hK _ _ _ _ ?_ rfl
   rw [List.reverse_cons,List.map_append]
   exact O2
  have hnext:∀ s,XQ n st=some s→∀(a46:Option Addr) (n46 c46:Nat) (h45:Hp),Qh h h45 3 1 a46 n46 c46 ((((i:Int) :: s).reverse).map vi)→n46=s.length+1→∃(x48:Int),IsW x48 ((i:Int)+1)∧(∃(i':Nat) (a:Option Addr) (c:Nat) (st:List Int),[vsl a46 n46 c46,vi x48]=[vsl a st.length c,vi i']∧i'≤l.length∧st.length≤i'∧ZC [] 0 l=ZC st i' (l.drop i')∧Qh h h45 3 1 a st.length c (st.reverse.map vi))∧l.length - (Qr [vsl a46 n46 c46,vi x48] 1).toNat < l.length - (Qr [vsl a1 st.length c1,vi i] 1).toNat:=by
   intro s hs a46 n46 c46 h45 O45 hn
   subst hn
   obtain⟨p1,p2⟩:=Qc3 har hs
   refine⟨_,isW (by unfold InR;omega),⟨i+1,a46,c46,(i:Int) :: s,rfl,by omega,by simp;omega,?_,O45⟩,by simp [Qr];omega⟩
   rw [hc,Qol hf hs]
  refine⟨fun q3=>?_,fun q3=>?_⟩
  ·have hlt2:=of_decide_eq_true q3
   have:XQ n st=none:=by
    cases hp:XQ n st with
    | none=>rfl
    | some s=>have:=(Qc3 har hp).1;omega
   exact hbad this
  have hge:=of_decide_eq_false q3
  have hw:∀{K:Int→Prop},K ((st.length:Nat) - arI n.op)→∃ x,IsW x (((st.length:Nat):Int) - arI n.op)∧K x:=fun hk=>⟨_,isW (by unfold InR;omega),hk⟩
  refine hw ?_
  have hsz:szT Tryz.prog 3=1:=by kernel_rfl
  have rdl:=fun(x:Int) (h0:0≤x) (h1:x≤st.length)=>YM (P:=Tryz.prog) (h:=hh) (t:=46) (e:=3) (by kernel_rfl) (by kernel_rfl) (a:=a1) (n:=st.length) (c:=c1) h0 h1
  rw [hsz] at rdl
  refine⟨_,_,_,rdl _ (by omega) (by omega),?_⟩
  have SD:=SI.drop (i:=((st.length:Nat) - arI n.op).toNat) (c:=c1) (by omega) hcap
  rcases Q3 har with h0|h0|h0
  ·have hs:XQ n st=some st:=by unfold XQ;rw [if_pos h0]
   rw [h0]
   refine⟨0,0,fun g=>(by cases g),0,fun g=>(by cases g),0,0,fun g=>(by cases g.2),0,fun g=>(by cases g.2),fun g=>?_,fun _=>⟨_,isW (by unfold InR;omega),hgood st hs _ (by rw [h0]) _ fun a46 n46 c46 h45 O e=>⟨_,_,_,rfl,hnext st hs a46 n46 c46 h45 O e⟩⟩⟩
   exfalso
   simp only [K7,cor] at g
   have:=of_decide_eq_true g
   omega
  ·match st with
   | []=>exfalso;simp at hge;omega
   | z :: s=>
    have hx29:(((z :: s).length:Nat):Int) - arI n.op=(s.length:Nat):=by rw [h0];simp
    rw [hx29] at SD ⊢
    rw [Int.toNat_natCast] at SD ⊢
    have ed:((z :: s).reverse).drop s.length=[z]:=by rw [List.reverse_cons,List.drop_left' (by simp)]
    rw [ed] at SD
    obtain⟨q,p,hq,hcell⟩:=SD.get (i:=0) (by simp)
    rw [h0]
    by_cases hz:z=n.x
    ·have hs:XQ n (z :: s)=some s:=by unfold XQ;rw [if_neg (by omega),if_pos h0];simp [hz]
     refine⟨q,p,fun g=>⟨hq,by omega,by simp⟩,z,fun g=>hcell,0,0,fun g=>(by cases g.2),0,fun g=>(by cases g.2),fun g=>?_,fun _=>?_⟩
     ·exfalso
      simp only [K7,cor] at g
      have:=of_decide_eq_true g
      omega
     ·exact⟨_,isW (by have:(z :: s).length≤i:=hst;unfold InR;omega),hgood s hs _ hx29.symm _ fun a46 n46 c46 h45 O e=>⟨_,_,_,rfl,hnext s hs a46 n46 c46 h45 O e⟩⟩
    ·have hs:XQ n (z :: s)=none:=by unfold XQ;rw [if_neg (by omega),if_pos h0];simp [hz]
     have:=hbad hs
     refine⟨q,p,fun g=>⟨hq,by omega,by simp⟩,z,fun g=>hcell,0,0,fun g=>(by cases g.2),0,fun g=>(by cases g.2),fun _=>this,fun g=>?_⟩
     exfalso
     simp only [K7,cor] at g
     have:=of_decide_eq_false g
     omega
  ·match st with
   | []=>exfalso;simp at hge;omega
   | [z]=>exfalso;simp at hge;omega
   | z :: y :: s=>
    have hx29:(((z :: y :: s).length:Nat):Int) - arI n.op=(s.length:Nat):=by rw [h0];simp;omega
    rw [hx29] at SD ⊢
    rw [Int.toNat_natCast] at SD ⊢
    have ed:((z :: y :: s).reverse).drop s.length=[y,z]:=by rw [List.reverse_cons,List.reverse_cons,List.append_assoc,List.drop_left' (by simp)];rfl
    rw [ed] at SD
    have en:(z :: y :: s).length - s.length=2:=by simp;omega
    rw [en] at SD ⊢
    obtain⟨q,p,hq,hcell⟩:=SD.get (i:=0) (by simp)
    obtain⟨q',p',hq',hcell'⟩:=SD.get (i:=1) (by simp)
    rw [h0]
    by_cases hz:y=n.x∧z=n.y
    ·have hs:XQ n (z :: y :: s)=some s:=by unfold XQ;rw [if_neg (by omega),if_neg (by omega)];simp [hz.1,hz.2]
     refine⟨q,p,fun g=>⟨hq,by omega,by decide⟩,y,fun g=>hcell,q',p',fun g=>⟨hq',by omega,by decide⟩,z,fun g=>hcell',fun g=>?_,fun _=>?_⟩
     ·exfalso
      simp only [K7,cor] at g
      have:=of_decide_eq_true g
      omega
     ·exact⟨_,isW (by have:(z :: y :: s).length≤i:=hst;unfold InR;omega),hgood s hs _ hx29.symm _ fun a46 n46 c46 h45 O e=>⟨_,_,_,rfl,hnext s hs a46 n46 c46 h45 O e⟩⟩
    ·have hs:XQ n (z :: y :: s)=none:=by unfold XQ;rw [if_neg (by omega),if_neg (by omega)];simp;intro h1 h2;exact hz ⟨h1,h2⟩
     have:=hbad hs
     refine⟨q,p,fun g=>⟨hq,by omega,by decide⟩,y,fun g=>hcell,q',p',fun g=>⟨hq',by omega,by decide⟩,z,fun g=>hcell',fun _=>this,fun g=>?_⟩
     exfalso
     simp only [K7,cor] at g
     have:=of_decide_eq_false g
     omega
 ·have hge:i=l.length:=by have:=of_decide_eq_false q;omega
  subst hge
  rw [List.drop_eq_nil_of_le (Nat.le_refl _),ZC] at hc
  refine⟨fun q2=>?_,fun q2=>?_⟩
  ·rw [if_neg (by have:=of_decide_eq_true q2;omega)] at hc
   rw [hc] at hK;exact hK hh O.le
  ·rw [if_pos (by have:=of_decide_eq_false q2;omega)] at hc
   rw [hc] at hK;exact hK hh O.le
open Go.Txt
def Qbq:Int→Value→List Value:=fun k v=>[vi k,v]
theorem Np (k:Int)(v:Value):(Qbq k v).length=2:=rfl
structure QAt (h:Hp)(q:Qy)(a1:Option Addr)(n1:Nat)(a2:Option Addr)(n2:Nat)(a3:Option Addr)(n3:Nat):Prop where
 g:GTab ZY Qbq h a1 n1 q.aggs
 w:SlP ZY h a2 n2 q.wh
 b:SlP ZY h a3 n3 q.by_
theorem QAt.le {h h':Hp}{q:Qy}{a1 a2 a3:Option Addr}{n1 n2 n3:Nat}(Q:QAt h q a1 n1 a2 n2 a3 n3)(l:h.le h'):QAt h' q a1 n1 a2 n2 a3 n3:=⟨Q.g.le l,Q.w.le l,Q.b.le l⟩
abbrev qV (a1:Option Addr)(n1 c1:Nat)(a2:Option Addr)(n2 c2:Nat)(a3:Option Addr)(n3 c3:Nat)(q:Qy):Value:=vag [vsl a1 n1 c1,vsl a2 n2 c2,vsl a3 n3 c3,vi q.size,vi q.slide,vi q.delay,vi q.late]
structure Qri (q:Qy):Prop where
 w:q.wh.length≤1000000
 b:q.by_.length≤1000000
 g:∀ a ∈ q.aggs,a.2.length≤1000000
 n:q.aggs.length≤1000000
theorem JL {a:Option Addr}{k c:Nat}{l:List Nd}{kind:Int}{h:Hp}{R:Value→Hp→Prop}(S:SlP ZY h a k l)(hl:l.length≤1000000)(hK:∀ h',h.le h'→R (ifv (Qz (YH l kind))) h'):Qa Tryz.prog 146 [vsl a k c,vi kind] h R:=by
 refine Qfd ?_
 unfold Nb
 unfold YH at hK
 refine QgE S fun h2 l2=>⟨_,rfl,fun e=>?_,fun e=>?_⟩
 ·rw [QH] at e
  have e2:Ju l≠0:=by simpa using e
  rw [if_pos e2] at hK
  exact hK h2 l2
 ·rw [QH] at e
  have e2:Ju l=0:=by simpa using e
  rw [if_neg (fun h=>h e2)] at hK
  refine Vt (S.le l2) (YA e2).1 hl fun h6 l6=>⟨_,_,rfl,?_⟩
  have hc:(bif (bif (bif (Option.isNone (Qz (Zz l).2)) then(decide ((kind:Int)≠0)) else false) then(decide (((Zz l).1:Int)≠kind)) else false) then(decide (((Zz l).1:Int)≠0)) else false)=decide ((((Zz l).2=0∧kind≠0)∧(Zz l).1≠kind)∧(Zz l).1≠0):=by
   rw [YD,K7,K7,K7]
  rw [hc]
  intro J11
  refine⟨fun q=>?_,fun q=>?_⟩
  ·have q:=of_decide_eq_true q
   rw [if_neg (fun h=>h q.1.1.1),if_pos ⟨q.1.1.2,q.1.2,q.2⟩] at hK
   exact hK h6 (Hp.le_trans l2 l6)
  ·have q:=of_decide_eq_false q
   have:=hK h6 (Hp.le_trans l2 l6)
   by_cases h5:(Zz l).2≠0
   ·rw [if_pos h5] at this;exact this
   ·have h5:(Zz l).2=0:=Decidable.not_not.1 h5
    rw [if_neg (fun h=>h h5),if_neg (fun h=>q ⟨⟨⟨h5,h.1⟩,h.2.1⟩,h.2.2⟩)] at this
    show R (ifv (Qz (Zz l).2)) h6
    rw [h5];exact this
theorem QgX (h:Hp)(b:Nat)(x y:Int)(T:TypeId){i:Nat}(hi:i < 2):(h.set b (Qb [vi x,vi y] T)).cell b (0+(i:Int).toNat*1)=some (vi (if i=0 then x else y)):=by
 match i,hi with
 | 0,_=>exact Qc (Hp.set_same _ _ _) rfl
 | 1,_=>exact Qc (Hp.set_same _ _ _) rfl
theorem QcN {q:Qy}{a1:Option Addr}{n1 c1:Nat}{a2:Option Addr}{n2 c2:Nat}{a3:Option Addr}{n3 c3:Nat}{h:Hp}{R:Value→Hp→Prop}(hK:∀ h',h.le h'→R (ifv (Qz (V3 q))) h'):Qa Tryz.prog 147 [qV a1 n1 c1 a2 n2 c2 a3 n3 c3 q] h R:=by
 refine Qc6 ?_
 unfold Vk
 intro b1 hb1 h2
 have l2:h.le h2:=Hp.le_set (Hp.le_refl h) hb1 _
 refine⟨fun vs' hh=>hh=h2∧∃ i:Nat,vs'=[vi i]∧i≤2∧(1≤i→1≤q.size∧q.size≤1000)∧(2≤i→1≤q.slide∧q.slide≤1000),fun vs' hh=>2 - (Qr vs' 0).toNat,⟨rfl,0,rfl,by omega,by omega,by omega⟩,?_⟩
 rintro vs' hh ⟨rfl,i,rfl,hi,i1,i2⟩
 refine⟨i,rfl,fun e=>?_,fun e=>?_⟩
 ·have hlt:i < 2:=by have:=of_decide_eq_true e;omega
  refine⟨b1,0,⟨rfl,by omega,by omega⟩,_,QgX h b1 q.size q.slide 3 hlt,?_⟩
  rw [cor]
  refine⟨fun g=>?_,fun g=>?_⟩
  ·have g:=of_decide_eq_true g
   have e1:V3 q=1:=by
    unfold V3
    rw [if_pos]
    split at g<;>omega
   rw [e1] at hK
   exact hK _ l2
  ·have g:=of_decide_eq_false g
   refine⟨_,isW (by unfold InR;omega),⟨rfl,i+1,rfl,by omega,fun h=>?_,fun h=>?_⟩,by simp [Qr];omega⟩
   ·by_cases h0:i=0
    ·rw [if_pos h0] at g;omega
    ·exact i1 (by omega)
   ·have h0:¬ i=0:=by omega
    rw [if_neg h0] at g;omega
 ·have hge:i=2:=by have:=of_decide_eq_false e;omega
  subst hge
  have j1:=i1 (by omega)
  have j2:=i2 (by omega)
  intro b16 hb16 h17
  have l17:h.le h17:=Hp.le_set l2 hb16 _
  refine⟨fun vs' hh=>hh=h17∧∃ i:Nat,vs'=[vi i]∧i≤2∧(1≤i→0≤q.delay∧q.delay≤1000)∧(2≤i→0≤q.late∧q.late≤1000),fun vs' hh=>2 - (Qr vs' 0).toNat,⟨rfl,0,rfl,by omega,by omega,by omega⟩,?_⟩
  rintro vs' hh ⟨rfl,i,rfl,hi,i1,i2⟩
  refine⟨i,rfl,fun e=>?_,fun e=>?_⟩
  ·have hlt:i < 2:=by have:=of_decide_eq_true e;omega
   refine⟨b16,0,⟨rfl,by omega,by omega⟩,_,QgX h2 b16 q.delay q.late 3 hlt,?_⟩
   rw [cor]
   refine⟨fun g=>?_,fun g=>?_⟩
   ·have g:=of_decide_eq_true g
    have e1:V3 q=1:=by
     unfold V3
     rw [if_pos]
     split at g<;>omega
    rw [e1] at hK
    exact hK _ l17
   ·have g:=of_decide_eq_false g
    refine⟨_,isW (by unfold InR;omega),⟨rfl,i+1,rfl,by omega,fun h=>?_,fun h=>?_⟩,by simp [Qr];omega⟩
    ·by_cases h0:i=0
     ·rw [if_pos h0] at g;omega
     ·exact i1 (by omega)
    ·have h0:¬ i=0:=by omega
     rw [if_neg h0] at g;omega
  ·have hge:i=2:=by have:=of_decide_eq_false e;omega
   subst hge
   have j3:=i1 (by omega)
   have j4:=i2 (by omega)
   refine⟨4*q.slide,fun _=>isW (by unfold InR;omega),?_⟩
   rw [cor]
   have hn:V3 q=if q.slide > q.size∨q.size > 4*q.slide then 3 else 0:=by
    unfold V3
    rw [if_neg (by omega)]
   rw [hn] at hK
   refine⟨fun g=>?_,fun g=>?_⟩
   ·rw [if_pos (of_decide_eq_true g)] at hK
    exact hK _ l17
   ·rw [if_neg (of_decide_eq_false g)] at hK
    exact hK _ l17
theorem Qpe {α:Type}{l:List α}{g:α→Int}{i:Nat}(hi:i < l.length)(h:∀ y ∈ l.take i,g y=0)(h2:g l[i]=0):∀ y ∈ l.take (i+1),g y=0:=by
 intro y hy
 rw [List.take_succ_eq_append_getElem hi] at hy
 rcases List.mem_append.1 hy with h3|h3
 ·exact h y h3
 ·rw [List.mem_singleton.1 h3];exact h2
theorem Nk {α:Type}{l:List α}:l=[]↔l.length=0:=List.length_eq_zero_iff.symm
theorem MP {q:Qy}{a1:Option Addr}{n1 c1:Nat}{a2:Option Addr}{n2 c2:Nat}{a3:Option Addr}{n3 c3:Nat}{h:Hp}{R:Value→Hp→Prop}(Q:QAt h q a1 n1 a2 n2 a3 n3)(B:Qri q)(hK:∀ h',h.le h'→R (ifv (Qz (QdZ q))) h'):Qa Tryz.prog 89 [qV a1 n1 c1 a2 n2 c2 a3 n3 c3 q] h R:=by
 refine Qfv ?_
 unfold GM
 have hn1:=Q.g.len
 have hn2:=Q.w.1
 have hn3:=Q.b.1
 have hB:=B.n
 rw [cor]
 refine⟨fun e=>?_,fun e=>?_⟩
 ·have e:=of_decide_eq_true e
  have:QdZ q=2:=by unfold QdZ;rw [if_pos (by omega)]
  rw [this] at hK
  exact hK h (Hp.le_refl h)
 have e:=of_decide_eq_false e
 have hq:QdZ q=if ZW (q.aggs.map Gu)≠0 then ZW (q.aggs.map Gu) else QlR q:=by unfold QdZ;rw [if_neg (by omega)]
 rw [hq] at hK
 clear hq
 refine⟨fun vs' hh=>h.le hh∧∃ i:Nat,vs'=[vi i]∧i≤n1∧∀ y ∈ q.aggs.take i,Gu y=0,fun vs' hh=>n1 - (Qr vs' 0).toNat,⟨Hp.le_refl h,0,rfl,Nat.zero_le _,by simp⟩,?_⟩
 rintro vs' hh ⟨lh,i,rfl,hi,hz⟩
 refine⟨i,rfl,fun g=>?_,fun g=>?_⟩
 ·have hlt:i < n1:=by have:=of_decide_eq_true g;omega
  have hlt2:i < q.aggs.length:=by omega
  have hx:q.aggs[i]?=some q.aggs[i]:=List.getElem?_eq_getElem hlt2
  have hbig:=B.g _ (List.mem_of_getElem? hx)
  have hall:=@Qpe _ q.aggs Gu i hlt2 hz
  generalize q.aggs[i]=y at hx hbig hall
  obtain⟨k,l⟩:=y
  obtain⟨b,o,a',c',ha,hrow,hS⟩:=(Q.g.le lh).row Np (by decide) hx
  have bad:∀ f,f≠0→Gu (k,l)=f→∀ h',h.le h'→R (ifv (Qz f)) h':=by
   intro f hf hk h' l'
   have h1:=Qmz (g:=Gu) hz hx (by rw [hk];exact hf)
   rw [h1,hk,if_pos hf] at hK
   exact hK h' l'
  intro J25
  refine⟨b,o,⟨ha,by omega,by omega⟩,k,a',l.length,c',by rw [Int.toNat_natCast];exact hrow,?_⟩
  have good:Gu (k,l)=0→∀ h',h.le h'→J25 h':=fun hk h' l'=>⟨_,isW (by unfold InR;omega),⟨l',i+1,rfl,by omega,hall hk⟩,by simp [Qr];omega⟩
  clear_value J25
  rw [cor,K7,cor]
  have hnil:l≠[]↔(l.length:Int) > 0:=by rw [ne_eq,Nk];omega
  refine⟨fun g2=>?_,fun g2=>⟨fun g3=>?_,fun g3=>?_⟩⟩
  ·have g2:=of_decide_eq_true g2
   refine bad 3 (by decide) ?_ hh lh
   unfold Gu
   rw [if_pos (by simp only [hnil];omega)]
  ·have g2:=of_decide_eq_false g2
   have g3:=of_decide_eq_true g3
   refine good ?_ hh lh
   unfold Gu
   rw [if_neg (by simp only [hnil];omega),if_pos g3]
  ·have g2:=of_decide_eq_false g2
   have g3:=of_decide_eq_false g3
   have hf:Gu (k,l)=YH l (if k=2 then 0 else 1):=by
    unfold Gu
    rw [if_neg (by simp only [hnil];omega),if_neg g3]
   intro J19
   have hJ:J19 (if k=2 then 0 else 1):=by
    refine JL hS hbig fun h' l'=>⟨_,rfl,fun g4=>?_,fun g4=>?_⟩
    ·rw [QH] at g4
     exact bad _ (by simpa using g4) hf h' (Hp.le_trans lh l')
    ·rw [QH] at g4
     exact good (by rw [hf];simpa using g4) h' (Hp.le_trans lh l')
   clear_value J19
   refine⟨fun g4=>?_,fun g4=>?_⟩
   ·rw [if_pos (of_decide_eq_true g4)] at hJ;exact hJ
   ·rw [if_neg (of_decide_eq_false g4)] at hJ;exact hJ
 ·have hge:i=n1:=by have:=of_decide_eq_false g;omega
  have hz0:ZW (q.aggs.map Gu)=0:=GZ (by
   intro x hx
   obtain⟨y,hy,rfl⟩:=List.mem_map.1 hx
   exact hz y (by rw [List.take_of_length_le (by omega)];exact hy))
  rw [hz0,if_neg (fun h=>h rfl)] at hK
  unfold QlR at hK
  have Q:=Q.le lh
  intro J33
  have hJ33:∀ h',hh.le h'→(if q.wh=[] then 0 else YH q.wh 2)=0→J33 h':=by
   intro h' l' hw
   rw [hw,ZW,if_neg (fun h=>h rfl)] at hK
   unfold J33
   intro J40
   have hJ40:∀ h2,h'.le h2→(if q.by_=[] then 0 else YH q.by_ 0)=0→J40 h2:=by
    intro h2 l2 hb
    rw [hb,ZW,if_neg (fun h=>h rfl)] at hK
    refine QcN (q:=q) fun h3 l3=>⟨_,rfl,?_⟩
    have:=hK h3 (Hp.le_trans lh (Hp.le_trans l' (Hp.le_trans l2 l3)))
    rw [ZW,ZW] at this
    by_cases hn:V3 q≠0
    ·rw [if_pos hn] at this;exact this
    ·rw [if_neg hn] at this
     rw [Decidable.not_not.1 hn];exact this
   clear_value J40
   refine⟨fun g2=>?_,fun g2=>?_⟩
   ·have hne:¬ q.by_=[]:=by have:=of_decide_eq_true g2;rw [Nk];omega
    rw [if_neg hne] at hJ40 hK
    refine JL (Q.le l').b B.b fun h2 l2=>⟨_,rfl,fun g4=>?_,fun g4=>?_⟩
    ·rw [QH] at g4
     rw [ZW,if_pos (by simpa using g4)] at hK
     exact hK h2 (Hp.le_trans lh (Hp.le_trans l' l2))
    ·rw [QH] at g4
     exact hJ40 h2 l2 (by simpa using g4)
   ·have hnil:q.by_=[]:=by have:=of_decide_eq_false g2;rw [Nk];omega
    exact hJ40 h' (Hp.le_refl h') (if_pos hnil)
  clear_value J33
  refine⟨fun g2=>?_,fun g2=>?_⟩
  ·have hne:¬ q.wh=[]:=by have:=of_decide_eq_true g2;rw [Nk];omega
   rw [if_neg hne] at hJ33 hK
   refine JL Q.w B.w fun h2 l2=>⟨_,rfl,fun g4=>?_,fun g4=>?_⟩
   ·rw [QH] at g4
    rw [ZW,if_pos (by simpa using g4)] at hK
    exact hK h2 (Hp.le_trans lh l2)
   ·rw [QH] at g4
    exact hJ33 h2 l2 (by simpa using g4)
  ·have hnil:q.wh=[]:=by have:=of_decide_eq_false g2;rw [Nk];omega
   exact hJ33 hh (Hp.le_refl hh) (if_pos hnil)
end Go.Proofs.YthicpjafcpfjoaaGreatDoor
namespace Go.Vc
open Go
section
variable {α:Type}
def ftE (fs:List (α × (Nat→Prop))):Nat→Prop:=fun b=>∃ x ∈ fs,x.2 b
def Qq8 (fs:List (α × (Nat→Prop))):Prop:=fs.Pairwise fun x y=>∀ b,x.2 b→¬ y.2 b
def XK (P:α→Hp→(Nat→Prop)→Prop)(l:List α)(h:Hp)(F:Nat→Prop):Prop:=
 ∃ fs:List (α × (Nat→Prop)),fs.map Prod.fst=l∧F=ftE fs∧Qq8 fs∧∀ x ∈ fs,P x.1 h x.2
variable {P:α→Hp→(Nat→Prop)→Prop}
theorem XK.fp (fp:∀ x,Fp (P x))(l:List α):Fp (XK P l) where
 al:=by
  rintro h F ⟨fs,_,rfl,_,H⟩ b ⟨x,hx,hb⟩
  exact(fp x.1).al (H x hx) b hb
 keep:=by
  rintro h h' F ⟨fs,e,rfl,A,H⟩ hk
  exact⟨fs,e,rfl,A,fun x hx=>(fp x.1).keep (H x hx) fun b hb=>hk b ⟨x,hx,hb⟩⟩
theorem XK.nil (h:Hp):XK P [] h (fun _=>False):=⟨[],rfl,by funext b;simp [ftE],List.Pairwise.nil,fun x hx=>by cases hx⟩
theorem XK.perm {l l':List α}{h:Hp}{F:Nat→Prop}(E:XK P l h F)(p:l'.Perm l):XK P l' h F:=by
 obtain⟨fs,rfl,rfl,A,H⟩:=E
 have key:∀{m m':List α},m.Perm m'→∀ gs:List (α × (Nat→Prop)),gs.map Prod.fst=m'→∃ gs':List (α × (Nat→Prop)),gs'.map Prod.fst=m∧gs'.Perm gs:=by
  intro m m' q
  induction q with
  | nil=>intro gs e;exact⟨gs,e,List.Perm.refl _⟩
  | cons x q ih=>
   intro gs e
   match gs,e with
   | g :: gs,e=>
    simp only [List.map_cons,List.cons.injEq] at e
    obtain⟨gs',e2,p2⟩:=ih gs e.2
    exact⟨g :: gs',by rw [List.map_cons,e2,e.1],p2.cons g⟩
  | swap x y q=>
   intro gs e
   match gs,e with
   | g1 :: g2 :: gs,e=>
    simp only [List.map_cons,List.cons.injEq] at e
    exact⟨g2 :: g1 :: gs,by simp [e],List.Perm.swap _ _ _⟩
  | trans q1 q2 ih1 ih2=>
   intro gs e
   obtain⟨g1,e1,p1⟩:=ih2 gs e
   obtain⟨g2,e2,p2⟩:=ih1 g1 e1
   exact⟨g2,e2,p2.trans p1⟩
 obtain⟨gs,e,q⟩:=key p fs rfl
 refine⟨gs,e,?_,?_,fun x hx=>H x (q.mem_iff.1 hx)⟩
 ·funext b
  apply propext
  constructor
  ·rintro⟨x,hx,hb⟩;exact⟨x,q.mem_iff.2 hx,hb⟩
  ·rintro⟨x,hx,hb⟩;exact⟨x,q.mem_iff.1 hx,hb⟩
 ·exact(q.pairwise_iff (fun {x y} hxy b hb hb2=>hxy b hb2 hb)).2 A
theorem XK.cons {l:List α}{x:α}{h:Hp}{F G:Nat→Prop}(E:XK P l h F)(X:P x h G)(d:∀ b,G b→¬ F b):XK P (x :: l) h (fun b=>G b∨F b):=by
 obtain⟨fs,rfl,rfl,A,H⟩:=E
 refine⟨(x,G) :: fs,rfl,?_,List.pairwise_cons.2 ⟨fun y hy b hb hb2=>d b hb ⟨y,hy,hb2⟩,A⟩,?_⟩
 ·funext b
  apply propext
  constructor
  ·rintro(hb|⟨y,hy,hb⟩)
   ·exact⟨_,List.mem_cons_self ..,hb⟩
   ·exact⟨y,List.mem_cons_of_mem _ hy,hb⟩
  ·rintro⟨y,hy,hb⟩
   rcases List.mem_cons.1 hy with rfl|hy
   ·exact .inl hb
   ·exact .inr ⟨y,hy,hb⟩
 ·intro y hy
  rcases List.mem_cons.1 hy with rfl|hy
  ·exact X
  ·exact H y hy
theorem XK.uncons {l:List α}{x:α}{h:Hp}{F:Nat→Prop}(E:XK P (x :: l) h F):∃ G F',P x h G∧XK P l h F'∧(∀ b,G b→¬ F' b)∧∀ b,F b↔(G b∨F' b):=by
 obtain⟨fs,e,rfl,A,H⟩:=E
 match fs,e with
 | (y,G) :: fs,e=>
  simp only [List.map_cons,List.cons.injEq] at e
  obtain⟨rfl,rfl⟩:=e
  obtain⟨A1,A2⟩:=List.pairwise_cons.1 A
  refine⟨G,ftE fs,H _ (List.mem_cons_self ..),⟨fs,rfl,rfl,A2,fun z hz=>H z (List.mem_cons_of_mem _ hz)⟩,?_,?_⟩
  ·rintro b hb ⟨z,hz,hb2⟩;exact A1 z hz b hb hb2
  ·intro b
   constructor
   ·rintro⟨z,hz,hb⟩
    rcases List.mem_cons.1 hz with rfl|hz
    ·exact .inl hb
    ·exact .inr ⟨z,hz,hb⟩
   ·rintro(hb|⟨z,hz,hb⟩)
    ·exact⟨_,List.mem_cons_self ..,hb⟩
    ·exact⟨z,List.mem_cons_of_mem _ hz,hb⟩
theorem Qe2 {l:List α}{i:Nat}(hi:i < l.length):(l[i] :: l.eraseIdx i).Perm l:=by
 rw [List.eraseIdx_eq_take_drop_succ]
 have e:l=l.take i++l[i] :: l.drop (i+1):=by rw [←List.drop_eq_getElem_cons,List.take_append_drop]
 have p:=(List.perm_middle (a:=l[i]) (l₁:=l.take i) (l₂:=l.drop (i+1)))
 rw [←e] at p
 exact p.symm
theorem XK.at (fp:∀ x,Fp (P x)){l:List α}{h:Hp}{F:Nat→Prop}(E:XK P l h F){i:Nat}{x:α}(hx:l[i]?=some x):∃ G,P x h G∧(∀ b,G b→F b) ∧
  ∀(h':Hp) (G':Nat→Prop) (x':α),Mut G h G' h'→P x' h' G'→∃ F',XK P (l.set i x') h' F'∧Mut F h F' h':=by
 obtain⟨hi,rfl⟩:=List.getElem?_eq_some_iff.1 hx
 have p:(l[i] :: l.eraseIdx i).Perm l:=Qe2 hi
 obtain⟨G,F1,X,E1,d,hF⟩:=(E.perm p).uncons
 refine⟨G,X,fun b hb=>(hF b).2 (.inl hb),fun h' G' x' M X'=>?_⟩
 obtain⟨k,d'⟩:=M.apart ((XK.fp fp _).al E1) d
 have E2:=((XK.fp fp _).keep E1 k).cons X' d'
 have p2:(l.set i x').Perm (x' :: l.eraseIdx i):=by
  have hi2:i < (l.set i x').length:=by rw [List.length_set];exact hi
  have:=Qe2 hi2
  rw [List.getElem_set_self,List.eraseIdx_set_eq] at this
  exact this.symm
 refine⟨_,E2.perm p2,⟨fun b o hb ho=>M.keep b o (fun q=>hb ((hF b).2 (.inl q))) ho,fun b hb=>?_⟩⟩
 rcases hb with hb|hb
 ·rcases M.new b hb with q|q
  ·exact .inl ((hF b).2 (.inl q))
  ·exact .inr q
 ·exact .inl ((hF b).2 (.inr hb))
end
def Qgs (e:TypeId)(sz:Nat)(a:Option Addr)(n c:Nat)(xs:List Value)(h:Hp)(F:Nat→Prop):Prop:=QN h e sz a n c xs∧F=fun b=>a=some ⟨b,0,none⟩
theorem Qgs.fp (e:TypeId)(sz:Nat)(a:Option Addr)(n c:Nat)(xs:List Value):Fp (Qgs e sz a n c xs) where
 al:=by
  rintro h F ⟨⟨_,O⟩,rfl⟩ b hb
  rcases O with ⟨ha,_⟩|⟨g,cur,ha,hg,_⟩
  ·rw [ha] at hb;cases hb
  ·rw [ha] at hb;cases hb;rw [hg];simp
 keep:=by
  rintro h h' F ⟨⟨h1,O⟩,rfl⟩ hk
  refine⟨⟨h1,?_⟩,rfl⟩
  rcases O with O|⟨g,cur,ha,hg,O⟩
  ·exact .inl O
  ·exact .inr ⟨g,cur,ha,hk g ha _ hg,O⟩
structure QaD (a:Option Addr)(h h':Hp):Prop where
 keep:∀ b o,h b=some o→a≠some ⟨b,0,none⟩→h' b=some o
theorem QaD.refl (a:Option Addr)(h:Hp):QaD a h h:=⟨fun b o ho _=>ho⟩
theorem QaD.trans {a:Option Addr}{h h' h'':Hp}(x:QaD a h h')(y:QaD a h' h''):QaD a h h'':=⟨fun b o ho hn=>y.keep b o (x.keep b o ho hn) hn⟩
section
variable {α:Type}{enc:α→List Value}{sz:Nat}{T:TypeId}{h0 h:Hp}{a:Option Addr}{c:Nat}{l:List α}
theorem Vec.putF (he:∀ x,(enc x).length=sz)(V:Vec enc sz T h0 h a c l){i:Nat}{x x':α}(hx:l[i]?=some x){k:Nat}{vs:List Value}(hv:0 < vs.length)(hk:k+vs.length≤sz)(hx':enc x'=QM (enc x) k vs) :
  ∃ b o,a=some ⟨b,o,none⟩∧∀ K:Hp→Prop,(∀ h',Vec enc sz T h0 h' a c (l.set i x')→QaD a h h'→K h')→h.store b (o+i*sz+k) vs K:=by
 have hi:i < l.length:=(List.getElem?_eq_some_iff.1 hx).1
 have hb:(i+1)*sz≤l.length*sz:=Nat.mul_le_mul_right _ hi
 rw [Nat.succ_mul] at hb
 rcases V.own.2 with ⟨ha,hn,_⟩|⟨g,cur,ha,_⟩
 ·omega
 ·refine⟨g,0,ha,fun K hK=>?_⟩
  rw [Nat.add_assoc]
  refine Qh.store V (j:=i*sz+k) hv (by omega) ha fun ob V'=>hK _ ?_ ⟨fun b o ho hn=>?_⟩
  ·unfold Vec
   rw [←QcI he hk l i x x' hx hx',List.length_set]
   exact V'
  ·have e:b≠g:=fun q=>hn (by rw [ha,q])
   rw [Hp.set_other _ _ e];exact ho
variable {P:Program}
theorem Vec.ownF (V:Vec enc sz T h0 h a c l):Qgs T sz a l.length c (l.flatMap enc) h (fun b=>a=some ⟨b,0,none⟩):=⟨V.own,rfl⟩
end
end Go.Vc
namespace Go.Proofs.YthicpjafcpfjoaaGreatDoor
open Go Go.Vc
def Zh (u0:Option Addr)(u1 u2:Nat)(u3:Value)(h:Hp)(R:Value→Hp→Prop):Prop:=
 (∃(I2:List Value→Hp→Prop) (m3:List Value→Hp→Nat),I2 [vi 0] h∧∀ vs4 h5,I2 vs4 h5→∃ x6,vs4=[vi x6]∧(((decide (x6 < (u1:Int)))=true→(∃ b9 o10,(u0=some ⟨b9,o10,none⟩∧(0:Int)≤x6∧x6 < (u1:Int))∧(∃ x11 x12 x13 a14 n14 c14 p15,(Hp.row h5 b9 (o10+x6.toNat*5) 5=some [vi x11,vi x12,vi x13,vsl a14 n14 c14,vb p15])∧(ZS Tryz.prog u3 [vag [vi x11,vi x12,vi x13,vsl a14 n14 c14,vb p15]] h5 fun v16 h17=>∃ p18,v16=(vb p18)∧((p18=true→R (vi x6) h17)∧(p18=false→(∃ x20,(IsW x20 (x6+1))∧(I2 [vi x20] h17∧m3 [vi x20] h17 < m3 vs4 h5))))))))∧((decide (x6 < (u1:Int)))=false→R (vi (-1)) h5)))
theorem Yy {u0 u1 u2 u3 h R}(H:Zh u0 u1 u2 u3 h R):Qa Tryz.prog 74 [vsl u0 u1 u2,u3] h R:=
 Qd (cfg:=⟨[],[(2,([8],[.one (.int .i64)],[]))],[]⟩) Qn mixed Tryz.func74 [.one (.v (vsl u0 u1 u2)),.one (.v u3)] (by kernel_rfl) rfl (by kernel_rfl) H
def Ua (u0:Int)(u1:Int)(u2:Int)(u3:Option Addr)(u4 u5:Nat)(u6:Bool)(h:Hp)(R:Value→Hp→Prop):Prop:=
 (let J30:Int→Int→Int→Option Addr→Nat→Nat→Hp→Prop:=fun x41 x42 x43 a44 n44 c44 h45=>R (vag [vi x41,vi x42,vi x43,vsl a44 n44 c44]) h45;(∃(I2:List Value→Hp→Prop) (m3:List Value→Hp→Nat),I2 [vi 0,vi u0,vi u1,vi u2,vsl none 0 0] h∧∀ vs4 h5,I2 vs4 h5→∃ x6 x7 x8 x9 a10 n10 c10,vs4=[vi x6,vi x7,vi x8,vi x9,vsl a10 n10 c10]∧(((decide (x6 < (u4:Int)))=true→(∃ b13 o14,(u3=some ⟨b13,o14,none⟩∧(0:Int)≤x6∧x6 < (u4:Int))∧(∃ x15 x16 x17 x18,(Hp.row h5 b13 (o14+x6.toNat*4) 4=some [vi x15,vi x16,vi x17,vi x18])∧(Qa Tryz.prog 137 [vag [vi x15,vi x16,vi x17,vi x18]] h5 fun v19 h20=>∃ x21 x22,v19=(vag [vi x21,vi x22])∧(∀ b23,h20 b23=none→let h24:= Hp.set h20 b23 (Qb [vi x21,vi x22] 54);(Qm Tryz.prog (Builtin.append_ #[91,91] 91 #[vsl a10 n10 c10,(vsl (some (⟨b23,0,none⟩:Addr)) 1 1)]) h24 fun v25 h26=>∃ a27 n27 c27,v25=(vsl a27 n27 c27)∧(∃ x29,(IsW x29 (x6+1))∧(I2 [vi x29,vi x7,vi x8,vi x9,vsl a27 n27 c27] h26∧m3 [vi x29,vi x7,vi x8,vi x9,vsl a27 n27 c27] h26 < m3 vs4 h5))))))))∧((decide (x6 < (u4:Int)))=false→(J30 x7 x8 x9 a10 n10 c10 h5)))))
theorem Qb2 {u0 u1 u2 u3 u4 u5 u6 h R}(H:Ua u0 u1 u2 u3 u4 u5 u6 h R):Qa Tryz.prog 81 [vag [vi u0,vi u1,vi u2,vsl u3 u4 u5,vb u6]] h R:=
 Qd (cfg:=⟨[],[(3,([14],[.one (.int .i64)],[(2,[.int .i64,.int .i64,.int .i64,.slice])]))],[(5,[0,1,2,3,4,5,6,7])]⟩) Qn mixed Tryz.func81 [.ag [.v (vi u0),.v (vi u1),.v (vi u2),.v (vsl u3 u4 u5),.v (vb u6)]] (by kernel_rfl) rfl (by kernel_rfl) H
structure Yb (e:EvL):Prop where
 t:0≤e.1∧e.1≤9999
 k:Qo e.2.1∧e.2.1.1≠2
 a:Qo e.2.2.1∧e.2.2.1.1≠2
 b:Qo e.2.2.2∧e.2.2.2.1≠2
theorem Qit {v:Int × Int}(h:Qd4 v=0):Qo v∧v.1≠2:=by
 unfold Qd4 at h
 split at h
 ·cases h
 ·rename_i h1
  constructor
  ·exact Classical.byContradiction fun q=>h1 (.inl q)
  ·exact fun q=>h1 (.inr q)
theorem QbZ {e:EvL}(h:K1 e=0):Yb e:=by
 unfold K1 at h
 split at h
 ·cases h
 ·rename_i h0
  simp only [QlN] at h
  split at h
  ·rename_i h1
   split at h
   ·rename_i h2
    split at h
    ·rename_i h3
     exact⟨by omega,Qit h1,Qit h2,Qit h3⟩
    ·rename_i h3;exact absurd h h3
   ·rename_i h2;exact absurd h h2
  ·rename_i h1;exact absurd h h1
abbrev ev0:EvL:=(0,(0,0),(0,0),(0,0))
theorem Qow:Yb ev0:=QbZ (by decide +kernel)
theorem W9 (n:Int):Qo (WG n)∧(WG n).1≠2:=by
 unfold WG Qo
 split
 ·simp
 ·simp;omega
theorem Vo (b:Bool):Qo (Yv b):=by
 unfold Yv Qo
 cases b<;>simp
theorem Vj:Qo (0,0):=by unfold Qo;simp
theorem QjS (a b:Int × Int):Qo (QdX a b)∧(QdX a b).1≠1:=by
 unfold QdX Qo
 split
 ·simp
 ·split<;>simp
theorem Qcf (a:Int × Int):Qo (Gm a)∧(Gm a).1≠1:=by
 unfold Gm
 split
 ·exact⟨Vo _,by unfold Yv;simp⟩
 ·exact⟨Vj,by simp⟩
theorem QkE (a:Int × Int):Qo (QdY a)∧(QdY a).1≠2:=by
 unfold QdY
 split
 ·exact W9 _
 ·exact⟨Vj,by simp⟩
def opV (op:Int)(a b:Int × Int):Int × Int:=if op=3 then QdY a else if op=4 then Gm a else if op=5 then Yv (decide (a.1=0)) else doV op a b
def QgT (op:Int):Int:=if op=5∨op=11∨op=12 then 2 else JB op
theorem Nx {op:Int}{a b:Option Int}{t:Int}(h:tyG op a b=some t):t=QgT op:=by
 unfold QgT
 cases a with
 | none=>cases b<;>cases h
 | some a=>
  cases b with
  | none=>cases h
  | some b=>
   unfold tyG at h
   simp only at h
   split at h
   ·rename_i h1;rw [if_pos (.inl h1)];simpa using h.symm
   ·split at h
    ·cases h
    ·split at h
     ·rename_i h1 _ h2;rw [if_pos (.inr h2)];simpa using h.symm
     ·rename_i h1 _ h2;rw [if_neg (by omega)];simpa using h.symm
theorem QeS {op:Int}(ho:3≤op∧op≤12)(a b:Int × Int):Qo (opV op a b)∧((opV op a b).1=0∨(opV op a b).1=QgT op):=by
 have key:∀ v:Int × Int,Qo v→v.1=0∨v.1=1∨v.1=2:=by
  intro v h
  unfold Qo at h
  omega
 unfold opV QgT JB
 split
 ·rename_i h;have:=QkE a;have:=key _ this.1;exact⟨(QkE a).1,by subst h;simp;omega⟩
 ·split
  ·rename_i _ h;have:=Qcf a;have:=key _ this.1;exact⟨(Qcf a).1,by subst h;simp;omega⟩
  ·split
   ·rename_i _ _ h;exact⟨Vo _,by subst h;simp [Yv]⟩
   ·unfold doV
    split
    ·rename_i h;have:=QjS a b;have:=key _ this.1;exact⟨(QjS a b).1,by subst h;simp;omega⟩
    ·split
     ·rename_i h;have:=Qcf (QdX (Gm a) (Gm b));have:=key _ this.1;exact⟨(Qcf _).1,by subst h;simp;omega⟩
     ·split
      ·split
       ·rename_i h;have:=W9 (w64 (a.2+b.2));have:=key _ this.1;exact⟨(W9 _).1,by subst h;simp;omega⟩
       ·split
        ·rename_i h;have:=W9 (w64 (a.2 - b.2));have:=key _ this.1;exact⟨(W9 _).1,by subst h;simp;omega⟩
        ·split
         ·rename_i h;have:=W9 (w64 (a.2*b.2));have:=key _ this.1;exact⟨(W9 _).1,by subst h;simp;omega⟩
         ·split
          ·rename_i h;exact⟨Vo _,by subst h;simp [Yv]⟩
          ·split
           ·rename_i h;exact⟨Vo _,by subst h;simp [Yv]⟩
           ·exact⟨Vj,.inl rfl⟩
      ·exact⟨Vj,.inl rfl⟩
theorem GP (e:EvL){n:Nd}(h1:¬ n.op=1)(h2:¬ n.op=2)(a b:Int × Int):XJ e n a b=opV n.op a b:=by
 unfold XJ opV
 rw [if_neg h1,if_neg h2]
theorem QlE {e:EvL}(E:Yb e)(n:Int):Qo (Qcp e n)∧(Qcp e n).1≠2:=by
 unfold Qcp
 split
 ·exact W9 _
 ·split
  ·exact E.k
  ·split
   ·exact E.a
   ·exact E.b
theorem QeQ {n:Nd}(h:Zt n=0):Qo n.v:=by
 unfold Zt at h
 split at h
 ·cases h
 ·split at h
  ·cases h
  ·split at h
   ·cases h
   ·split at h
    ·cases h
    ·rename_i hg;exact Classical.byContradiction fun q=>hg q
theorem MR {l:List Nd}(O:OkE l){e:EvL}(E:Yb e){i:Nat}(hi:i < l.length):Qo (vAt e l i)∧∀ t,tAt l i=some t→(vAt e l i).1=0∨(vAt e l i).1=t:=by
 have hx:l[i]?=some l[i]:=List.getElem?_eq_getElem hi
 have W:=O.wf i _ hx
 have h0:=O.n _ (List.getElem_mem hi)
 have hv:vAt e l i=_:=YG (YW e) hx W
 have ht:tAt l i=_:=YG Xv hx W
 rw [hv,ht]
 generalize l[i]=n at *
 have ar:=ar0 W.a
 by_cases h1:n.op=1
 ·have e1:∀ a b,XJ e n a b=n.v:=fun a b=>if_pos h1
  have e2:∀ a b,tyF n a b=some n.v.1:=fun a b=>if_pos h1
  rw [e1,e2]
  exact⟨QeQ h0,fun t ht=>by cases ht;exact .inr rfl⟩
 ·by_cases h2:n.op=2
  ·have e1:∀ a b,XJ e n a b=Qcp e n.n:=fun a b=>by unfold XJ;rw [if_neg h1,if_pos h2]
   have e2:∀ a b,tyF n a b=some 1:=fun a b=>by unfold tyF;rw [if_neg h1,if_pos h2]
   rw [e1,e2]
   have:=QlE E n.n
   refine⟨this.1,fun t ht=>?_⟩
   cases ht
   have h:=this.1
   unfold Qo at h
   omega
  ·rw [GP e h1 h2,Kr h1 h2]
   have ho:3≤n.op∧n.op≤12:=by rcases Q3 W.a with q|q|q<;>omega
   have:=QeS ho
   exact⟨(this _ _).1,fun t ht=>by rw [Nx ht];exact(this _ _).2⟩
theorem Qfn {l:List Nd}(O:OkE l){i:Nat}(hi:i < l.length){t:Int}(h:tAt l i=some t):t=0∨t=1∨t=2:=by
 have hx:l[i]?=some l[i]:=List.getElem?_eq_getElem hi
 have W:=O.wf i _ hx
 have h0:=O.n _ (List.getElem_mem hi)
 have ht:tAt l i=_:=YG Xv hx W
 rw [ht] at h
 generalize l[i]=n at *
 by_cases h1:n.op=1
 ·have e2:∀ a b,tyF n a b=some n.v.1:=fun a b=>if_pos h1
  rw [e2] at h
  cases h
  have:=QeQ h0
  unfold Qo at this
  omega
 ·by_cases h2:n.op=2
  ·have e2:∀ a b,tyF n a b=some 1:=fun a b=>by unfold tyF;rw [if_neg h1,if_pos h2]
   rw [e2] at h
   cases h
   omega
  ·rw [Kr h1 h2] at h
   rw [Nx h]
   unfold QgT JB
   split
   ·omega
   ·split<;>omega
structure Rep (P:EvL→Int × Int)(T:Option Int)(k:Nat)(z:List Nd):Prop where
 ok:OkE z
 len:z.length≤k
 val:∀ e,Yb e→ZX e z=P e
 ty:∀ t,T=some t→∃ t',tAt z (z.length - 1)=some t'∧(t'=0∨t'=t)
abbrev cst (v:Int × Int):List Nd:=[⟨1,0,0,0,v⟩]
theorem QoZ {v:Int × Int}(h:Qo v):OkE (cst v):=by
 refine Jn ?_
 have hF:Zt ⟨1,0,0,0,v⟩=0:=by
  unfold Zt
  rw [if_neg (show ¬ arI 1 < 0 by decide),if_neg (by simp),if_neg (by simp),if_neg (by simp [h])]
 rw [ZC,if_neg (fun q=>q hF)]
 rfl
theorem Rep.cst {P:EvL→Int × Int}{T:Option Int}{k:Nat}{v:Int × Int}(h:Qo v)(hk:1≤k)(hP:∀ e,Yb e→v=P e)(hT:∀ t,T=some t→v.1=0∨v.1=t):Rep P T k (cst v):=
 ⟨QoZ h,hk,fun e E=>hP e E,fun t ht=>⟨v.1,rfl,hT t ht⟩⟩
theorem Rep.leaf {n:Nd}(h:Zt n=0)(ha:arI n.op=0):OkE [n]:=by
 refine Jn ?_
 rw [ZC,if_neg (fun q=>q h)]
 unfold XQ
 rw [if_pos ha]
 rfl
open Go.Txt
def Yx (a:AcS):List Value:=Qh4 a.1 a.2
theorem YB (a:AcS):(Yx a).length=4:=rfl
theorem QkZ (a:AcS):∀ u ∈ Yx a,u.oneCell'=true:=by
 intro u hu
 simp only [Yx,Qh4,List.mem_cons,List.not_mem_nil,or_false] at hu
 rcases hu with rfl|rfl|rfl|rfl<;>rfl
def AcB (a:AcS):Prop:=0≤a.2.1∧a.2.1≤1000000000∧-1000000000000000000≤a.2.2.1∧a.2.2.1≤1000000000000000000
theorem Gz {q:Qy}(B:QOk q){e:EvL}(E:Yb e):∀ v ∈ Qx q e,XF v:=by
 intro v hv
 unfold Qx at hv
 obtain⟨a,ha,rfl⟩:=List.mem_map.1 hv
 split
 ·unfold XF;decide
 ·rename_i h1
  obtain⟨O,_⟩:=YA ((B.g a ha).2.2.1 h1)
  exact(MR O E (by have:=O.pos;omega)).1.small
theorem Qi2 {ks:List Int}{rs:List (List Vl)}(hl:∀ r ∈ rs,r.length=ks.length)(hv:∀ r ∈ rs,∀ v ∈ r,XF v)(hn:rs.length≤1000000000):∀ a ∈ YS ks rs,AcB a:=by
 have hcol:∀(rs:List (List Vl)),(∀ r ∈ rs,∀ v ∈ r,XF v)→∀ c ∈ KB ks.length rs,c.length≤rs.length∧∀ v ∈ c,XF v:=by
  intro rs
  induction rs using Wb with
  | h0=>
   intro _ c hc
   rw [List.eq_of_mem_replicate hc]
   exact⟨Nat.le_refl _,fun v hv=>by cases hv⟩
  | h1 rs r ih=>
   intro hv c hc
   have ih:=ih fun x hx=>hv x (List.mem_append_left _ hx)
   rw [G5] at hc
   unfold Qnk at hc
   obtain⟨i,hi,rfl⟩:=List.mem_iff_getElem.1 hc
   rw [List.length_zipWith] at hi
   rw [List.getElem_zipWith]
   obtain⟨h1,h2⟩:=ih _ (List.getElem_mem (by omega:i < (KB ks.length rs).length))
   refine⟨by simp;omega,fun v hv2=>?_⟩
   rcases List.mem_append.1 hv2 with h3|h3
   ·exact h2 v h3
   ·rw [List.mem_singleton.1 h3]
    exact hv r (by simp) _ (List.getElem_mem _)
 intro a ha
 rw [Qj5 ks hl] at ha
 obtain⟨i,hi,rfl⟩:=List.mem_iff_getElem.1 ha
 rw [List.length_zipWith] at hi
 rw [List.getElem_zipWith]
 obtain⟨h1,h2⟩:=hcol rs hv _ (List.getElem_mem (by omega:i < (KB ks.length rs).length))
 generalize (KB ks.length rs)[i]=c at h1 h2
 have:=Qdf (k:=ks[i]) c (0,0,0) h2 (Int.le_refl _)
 unfold AcB QpZ
 simp only at this ⊢
 omega
theorem Qoz:ElT Tryz.prog 148 155 4 32:=.of (by kernel_rfl) (by kernel_rfl) (by decide)
theorem QjE {acs:List AcS}{r:List Vl}(h:r.length=acs.length):(ZJ acs r).length=acs.length:=by unfold ZJ;rw [List.length_zipWith];omega
abbrev Qo8:=Vec Yx 4 155
end Go.Proofs.YthicpjafcpfjoaaGreatDoor
namespace Go.Proofs.YthicpjafcpfjoaaGreatDoor.D
open Go Go.Vd
open Go.Vc (Hp IsW Qbe Qb vag vb vi vs vsl)
structure PRow where
 s:Int
 k:Int × Int
 a:Option Addr
 n:Nat
 c:Nat
 t:Bool
 deriving Inhabited
def PRow.enc (r:PRow):List Value:=[vi r.s,vi r.k.1,vi r.k.2,vsl r.a r.n r.c,vb r.t]
end Go.Proofs.YthicpjafcpfjoaaGreatDoor.D
namespace Go.Proofs.YthicpjafcpfjoaaGreatDoor
open Go Go.Vc Go.Txt
structure PR where
 k:PK
 a:Option Addr
 c:Nat
 acs:List AcS
 t:Bool
def Qc8 (r:PR):D.PRow:=⟨r.k.1,r.k.2,r.a,r.acs.length,r.c,r.t⟩
theorem QnW (r:D.PRow):∀ u ∈ r.enc,u.oneCell'=true:=by
 intro u hu
 simp only [D.PRow.enc,List.mem_cons,List.not_mem_nil,or_false] at hu
 rcases hu with rfl|rfl|rfl|rfl|rfl<;>rfl
def QrV (r:PR):Hp→(Nat→Prop)→Prop:=Qgs 155 4 r.a r.acs.length r.c (r.acs.flatMap Yx)
abbrev Qr0:=Vec D.PRow.enc 5 150
structure QrA (h0 h:Hp)(a:Option Addr)(c:Nat)(R:List PR):Prop where
 v:Qr0 h0 h a c (R.map Qc8)
 i:∃ F,XK QrV R h F∧(∀ b,F b→h0 b=none)∧∀ b,F b→a≠some ⟨b,0,none⟩
section
variable {h0 h:Hp}{a:Option Addr}{c:Nat}{R:List PR}
theorem QrA.nil (hl:h0.le h):QrA h0 h none 0 []:=⟨Qh.nil hl _ _,_,XK.nil h,fun b hb=>hb.elim,fun b hb=>hb.elim⟩
theorem Qcl:ElT Tryz.prog 128 150 5 56:=.of (by kernel_rfl) (by kernel_rfl) (by decide)
end
theorem Qi3:ElT Tryz.prog 91 54 2 16:=.of (by kernel_rfl) (by kernel_rfl) (by decide)
theorem QqK (v:Vl):∀ u ∈ Qw v,u.oneCell'=true:=by
 intro u hu
 simp only [Qw,List.mem_cons,List.not_mem_nil,or_false] at hu
 rcases hu with rfl|rfl<;>rfl
abbrev QoY:=Vec Qw 2 54
def YK (a:AcS):Vl:=Qng a.1 a.2
theorem GQ {r:PR}{h:Hp}{R':Value→Hp→Prop}(S:SlP Yx h r.a r.acs.length r.acs)(hn:r.acs.length≤1000)
  (hK:∀ a c h',QoY h h' a c (r.acs.map YK)→R' (vag [vi r.k.1,vi r.k.2.1,vi r.k.2.2,vsl a (r.acs.map YK).length c]) h'):Qa Tryz.prog 81 [vag (Qc8 r).enc] h R':=by
 refine Qb2 ?_
 unfold Ua
 intro J30
 have hJ:∀ a c h',QoY h h' a c (r.acs.map YK)→J30 r.k.1 r.k.2.1 r.k.2.2 a (r.acs.map YK).length c h':=hK
 clear_value J30
 refine⟨fun vs hh=>∃(i:Nat) (a:Option Addr) (c:Nat),vs=[vi i,vi r.k.1,vi r.k.2.1,vi r.k.2.2,vsl a ((r.acs.take i).map YK).length c]∧i≤r.acs.length∧QoY h hh a c ((r.acs.take i).map YK),fun vs hh=>r.acs.length - (Qr vs 0).toNat,⟨0,none,0,rfl,Nat.zero_le _,Qh.nil (Hp.le_refl h) _ _⟩,?_⟩
 rintro vs hh ⟨i,a,c,rfl,hi,V⟩
 refine⟨_,_,_,_,_,_,_,rfl,fun e=>?_,fun e=>?_⟩
 ·have hlt:i < r.acs.length:=by
   have:=of_decide_eq_true e
   have h2:(Qc8 r).n=r.acs.length:=rfl
   omega
  have hx:r.acs[i]?=some r.acs[i]:=List.getElem?_eq_getElem hlt
  have tk:r.acs.take (i+1)=r.acs.take i++[r.acs[i]]:=List.take_succ_eq_append_getElem hlt
  obtain⟨b,o,ea,hr⟩:=(S.le V.le0).get YB (by decide) hx
  have h2:(Qc8 r).n=r.acs.length:=rfl
  refine⟨b,o,⟨ea,by omega,by omega⟩,_,_,_,_,by rw [Int.toNat_natCast];exact hr,QdL (k:=(r.acs[i]).1) (s:=(r.acs[i]).2) ⟨_,_,rfl,?_⟩⟩
  intro b23 hb23 h24
  have hl:((r.acs.take i).map YK).length=i:=by rw [List.length_map,List.length_take];omega
  refine Vec.app Qi3 (fun v=>rfl) QqK V (by rw [hl];omega) (by rw [hl];omega) (x:=YK r.acs[i]) hb23 fun a' c' h' V'=>⟨_,_,_,rfl,_,isW (by unfold InR;omega),⟨i+1,a',c',?_,by omega,?_⟩,by simp [Qr];omega⟩
  ·rw [tk,List.map_append];rfl
  ·rw [tk,List.map_append];exact V'
 ·have hge:i=r.acs.length:=by
   have:=of_decide_eq_false e
   have h2:(Qc8 r).n=r.acs.length:=rfl
   omega
  rw [hge,List.take_length] at V ⊢
  exact hJ a c hh V
end Go.Proofs.YthicpjafcpfjoaaGreatDoor
namespace Go.Proofs.YthicpjafcpfjoaaGreatDoor
open Go Go.Vc
theorem QbY {at_ size slide:Int}{h:Hp}{R:Value→Hp→Prop}(hs:1≤slide)(hsl2:slide≤1048576)(hz:0≤size)(hz2:size≤1048576)(ha:-1048576≤at_)(ha2:at_≤1048576)
  (hK:∀ a n c h',h.le h'→SlI h' a n (ZL at_ size slide)→(∀ g o,a=some ⟨g,o,none⟩→h g=none)→R (vsl a n c) h'):Qa Tryz.prog 71 [vi at_,vi size,vi slide] h R:=by
 refine Qc7 ?_
 unfold UY
 have h1:at_.tdiv slide*slide+at_.tmod slide=at_:=Int.tdiv_mul_add_tmod at_ slide
 have h2:at_.tmod slide < slide:=Int.tmod_lt_of_pos at_ (by omega)
 have h3:-slide < at_.tmod slide:=Int.lt_tmod_of_pos at_ (by omega)
 have h4:Xn slide (at_.tdiv slide*slide)=true:=YE.2 ⟨at_.tdiv slide,Int.mul_comm _ _⟩
 have h5:-1048576≤at_.tdiv slide∧at_.tdiv slide≤1048576:=by
  have:=Int.natAbs_tdiv_le_natAbs at_ slide
  omega
 refine⟨⟨by omega,by unfold InR;omega⟩,_,isW (by unfold InR;omega),?_⟩
 intro J5
 have fin:∀ x:Int,Xn slide x=true→x≤at_→at_ < x+slide→J5 x:=by
  intro x hx1 hx2 hx3
  have up:∀(y:Int) (k:Nat),Xn slide y=true→y+k < y+slide→∀ n,upto (Xn slide) y (k+n)=upto (Xn slide) (y+k) n:=by
   intro y k hy hk n
   exact No _ k y n fun z z1 z2=>UA hs hy z1 (by omega)
  refine⟨fun vs hh=>∃(a:Option Addr) (n c:Nat) (x:Int),vs=[vsl a n c,vi x]∧Xn slide x=true∧x≤at_∧at_ - size < x+slide∧(SlI hh a n (upto (Xn slide) x (at_ - x).toNat)∧∀ g o,a=some ⟨g,o,none⟩→h g=none)∧h.le hh∧-4194304≤x,
   fun vs hh=>(Qr vs 1 - (at_ - size)).toNat,⟨none,0,0,x,rfl,hx1,hx2,by omega,?_,Hp.le_refl h,by omega⟩,?_⟩
  ·have:=up x (at_ - x).toNat hx1 (by omega) 0
   rw [Nat.add_zero] at this
   rw [this]
   exact⟨⟨rfl,.inl rfl⟩,fun g o e=>by cases e⟩
  rintro vs hh ⟨a,n,c,y,rfl,hy1,hy2,hy3,⟨S,hnew⟩,hle,hy4⟩
  refine⟨a,n,c,y,rfl,_,isW (by unfold InR;omega),fun e=>?_,fun e=>?_⟩
  ·have hlt:at_ - size < y:=by simpa using e
   intro b hb h16
   have hn:=S.1
   have hn2:=Mw (Xn slide) y (at_ - y).toNat
   refine Qh.append (n:=1) (m:=n) (c2:=c) Qfo (Qh.mk_new hle hb _ (n:=1) [vi y] rfl (by decide)) (S.2.le (Hp.le_set (Hp.le_refl hh) hb _)) (by rw [hn,List.length_map,Nat.mul_one]) (QkK _) (by omega) (by omega) fun a' c' h' O' _ _=>⟨_,_,_,rfl,_,isW (by unfold InR;omega),⟨a',_,c',_,rfl,?_,by omega,by omega,?_,O'.le,by omega⟩,by simp [Qr];omega⟩
   ·rw [YE] at hy1 ⊢
    exact Int.dvd_sub hy1 (Int.dvd_refl _)
   ·have hm:Xn slide (y - slide)=true:=by
     rw [YE] at hy1 ⊢
     exact Int.dvd_sub hy1 (Int.dvd_refl _)
    have e1:=up (y - slide) (slide - 1).toNat hm (by omega) ((at_ - y).toNat+1)
    have e2:(slide - 1).toNat+((at_ - y).toNat+1)=(at_ - (y - slide)).toNat:=by omega
    have e3:y - slide+((slide - 1).toNat:Int)=y - 1:=by omega
    have e4:y - 1+1=y:=by omega
    rw [e2,e3,Nz,e4,hy1,if_pos rfl] at e1
    rw [e1]
    exact⟨O'.sli (l:=y :: upto (Xn slide) y (at_ - y).toNat),fun g o e=>O'.new g (by rw [e,QN.at0 O'.own g o e])⟩
  ·have hge:y≤at_ - size:=by simpa using e
   refine hK a n c hh hle ?_ hnew
   have e1:=up y (at_ - size - y).toNat hy1 (by omega) size.toNat
   have e2:(at_ - size - y).toNat+size.toNat=(at_ - y).toNat:=by omega
   have e3:y+((at_ - size - y).toNat:Int)=at_ - size:=by omega
   rw [e2,e3] at e1
   rw [e1] at S
   exact S
 refine⟨fun e=>?_,fun e=>?_⟩
 ·have hlt:at_ < at_.tdiv slide*slide:=by simpa using e
  refine⟨_,isW (by unfold InR;omega),fin _ ?_ (by omega) (by omega)⟩
  rw [YE] at h4 ⊢
  exact Int.dvd_sub h4 (Int.dvd_refl _)
 ·have hge:at_.tdiv slide*slide≤at_:=by simpa using e
  exact fin _ h4 hge (by omega)
theorem Qkt {p:Int→Bool}{lo:Int}:∀{n:Nat} {x:Int},x ∈ upto p lo n→lo < x∧x≤lo+n
 | 0,x,h=>by cases h
 | n+1,x,h=>by
  rw [upto] at h
  rcases List.mem_append.1 h with h1|h1
  ·have:=Qkt h1;omega
  ·split at h1
   ·rw [List.mem_singleton.1 h1];omega
   ·cases h1
theorem Qlk {t size slide x:Int}(hz:0≤size)(h:x ∈ ZL t size slide):t - size < x∧x≤t:=by
 have:=Qkt h
 omega
theorem QkU {t size slide:Int}:(ZL t size slide).length≤size.toNat:=Mw _ _ _
open Go.Txt
def prT (r:PR):PK × List AcS × Bool:=(r.k,r.acs,r.t)
def StA (ks:List Int)(A:List Ad)(R:List PR):Prop:=R.map prT=(KQ A).map fun k=>(k,YS ks (QY A k),false)
section
variable {ks:List Int}{A:List Ad}{R:List PR}
theorem StA.nil:StA ks [] []:=rfl
theorem StA.keys (H:StA ks A R):R.map (·.k)=KQ A:=by
 have:=congrArg (List.map Prod.fst) H
 rw [List.map_map,List.map_map] at this
 have e:(Prod.fst ∘ fun k:PK=>(k,YS ks (QY A k),false))=id:=rfl
 rw [e,List.map_id] at this
 exact this
theorem StA.at (H:StA ks A R){i:Nat}{r:PR}(hr:R[i]?=some r):(KQ A)[i]?=some r.k∧r.acs=YS ks (QY A r.k)∧r.t=false:=by
 have h1:(KQ A)[i]?=some r.k:=by rw [←H.keys,List.getElem?_map,hr];rfl
 have h2:(R.map prT)[i]?=some (prT r):=by rw [List.getElem?_map,hr];rfl
 rw [H,List.getElem?_map,h1] at h2
 simp only [Option.map_some,Option.some.injEq,prT,Prod.mk.injEq,true_and] at h2
 exact⟨h1,h2.1.symm,h2.2.symm⟩
end
section
variable {h0 h:Hp}{a:Option Addr}{c:Nat}{R:List PR}
end
def QaQ {α:Type}(enc:α→List Value)(h:Hp)(a:Option Addr)(n:Nat)(L:List (List α)):Prop:=∃ R:List (JK α),R.map Prod.snd=L∧n=L.length∧Qf h a (R.map Qci)∧∀(j:Nat) (r:JK α),R[j]?=some r→Qf h r.1.1 (r.2.flatMap enc)∧r.2.length≤r.1.2
theorem QaQ.r {α:Type}{enc:α→List Value}{h:Hp}{a:Option Addr}{n:Nat}{L:List (List α)}(T:QaQ enc h a n L):Qre enc h a n L:=by
 obtain⟨R,e,hn,H,H2⟩:=T
 exact⟨R,e,hn,H,fun j r hr=>(H2 j r hr).1⟩
theorem QaQ.le {α:Type}{enc:α→List Value}{h h':Hp}{a:Option Addr}{n:Nat}{L:List (List α)}(T:QaQ enc h a n L)(hl:h.le h'):QaQ enc h' a n L:=by
 obtain⟨R,e,hn,H,H2⟩:=T
 exact⟨R,e,hn,H.le hl,fun j r hr=>⟨(H2 j r hr).1.le hl,(H2 j r hr).2⟩⟩
theorem QaQ.cell {α:Type}{enc:α→List Value}{h:Hp}{a:Option Addr}{n:Nat}{L:List (List α)}(D:QaQ enc h a n L){j:Nat}{l:List α}(hl:L[j]?=some l):∃ b o a' c',a=some ⟨b,o,none⟩∧h.cell b (o+j*1)=some (vsl a' l.length c')∧SlP enc h a' l.length l∧l.length≤c':=by
 obtain⟨R,rfl,hn,H,H2⟩:=D
 rw [List.getElem?_map,Option.map_eq_some_iff] at hl
 obtain⟨r,hr,rfl⟩:=hl
 obtain⟨b,o,ea,hc⟩:=H.get1 (j:=j) (v:=Qci r) (by rw [List.getElem?_map,hr];rfl)
 exact⟨b,o,r.1.1,r.1.2,ea,hc,⟨rfl,(H2 j r hr).1⟩,(H2 j r hr).2⟩
end Go.Proofs.YthicpjafcpfjoaaGreatDoor
namespace Go.Proofs.YthicpjafcpfjoaaGreatDoor
open Go Go.Vc
def UI (u0:Int)(u1:Int)(u2:Int)(u3:Int)(h:Hp)(R:Value→Hp→Prop):Prop:=
 (Qa Tryz.prog 136 [vi u0,vi u2] h fun v1 h2=>∃ x3,v1=(vi x3)∧(Qa Tryz.prog 136 [vi u1,vi u3] h2 fun v4 h5=>∃ x6,v4=(vi x6)∧(∀ b7,h5 b7=none→let h8:= Hp.set h5 b7 (Qb [vi x3,vi x6] 3);(Qa Tryz.prog 135 [(vsl (some (⟨b7,0,none⟩:Addr)) 2 2)] h8 fun v9 h10=>∃ x11,v9=(vi x11)∧R (vi x11) h10))))
theorem Qcw {u0 u1 u2 u3 h R}(H:UI u0 u1 u2 u3 h R):Qa Tryz.prog 80 [vag [vi u0,vi u1],vag [vi u2,vi u3]] h R:=
 Qd (cfg:=⟨[],[],[(1,[0,1,2,3,5,6,7,8,4,9,10,11,12])]⟩) Qn mixed Tryz.func80 [.ag [.v (vi u0),.v (vi u1)],.ag [.v (vi u2),.v (vi u3)]] (by kernel_rfl) rfl (by kernel_rfl) H
def NU (u0:Option Addr)(u1 u2:Nat)(h:Hp)(R:Value→Hp→Prop):Prop:=
 (∃(I2:List Value→Hp→Prop) (m3:List Value→Hp→Nat),I2 [vi 0] h∧∀ vs4 h5,I2 vs4 h5→∃ x6,vs4=[vi x6]∧(((decide (x6 < (u1:Int)))=true→(∃ b9 o10,(u0=some ⟨b9,o10,none⟩∧(0:Int)≤x6∧x6 < (u1:Int))∧(∃ x11,(Hp.cell h5 b9 (o10+x6.toNat*1)=some (vi x11))∧(((decide (x11≠0))=true→R (vi x11) h5)∧((decide (x11≠0))=false→(∃ x13,(IsW x13 (x6+1))∧(I2 [vi x13] h5∧m3 [vi x13] h5 < m3 vs4 h5)))))))∧((decide (x6 < (u1:Int)))=false→R (vi 0) h5)))
theorem QgR {u0 u1 u2 h R}(H:NU u0 u1 u2 h R):Qa Tryz.prog 135 [vsl u0 u1 u2] h R:=
 Qd (cfg:=⟨[],[(3,([8],[.one (.int .i64)],[]))],[]⟩) Qn mixed Tryz.func135 [.one (.v (vsl u0 u1 u2))] (by kernel_rfl) rfl (by kernel_rfl) H
def Js (u0:Int)(u1:Int)(h:Hp)(R:Value→Hp→Prop):Prop:=
 (Qa Tryz.prog 196 [vi u0] h fun v1 h2=>∃ p3,v1=(vb p3)∧(Qa Tryz.prog 196 [vi u1] h2 fun v4 h5=>∃ p6,v4=(vb p6)∧((p3=true→((p6=true→R (vi 0) h5)∧(p6=false→R (vi (-1)) h5)))∧(p3=false→((p6=true→R (vi 1) h5)∧(p6=false→(((decide (u0 < u1))=true→R (vi (-1)) h5)∧((decide (u0 < u1))=false→(((decide (u0 > u1))=true→R (vi 1) h5)∧((decide (u0 > u1))=false→R (vi 0) h5))))))))))
theorem QaG {u0 u1 h R}(H:Js u0 u1 h R):Qa Tryz.prog 136 [vi u0,vi u1] h R:=
 Qd (cfg:=⟨[],[],[]⟩) Qn mixed Tryz.func136 [.one (.v (vi u0)),.one (.v (vi u1))] (by kernel_rfl) rfl (by kernel_rfl) H
def UU (u0:Int)(h:Hp)(R:Value→Hp→Prop):Prop:=
 R (vb (decide (u0≠u0))) h
theorem Qc0 {u0 h R}(H:UU u0 h R):Qa Tryz.prog 196 [vi u0] h R:=
 Qd (cfg:=⟨[],[],[]⟩) Qn mixed Tryz.func196 [.one (.v (vi u0))] (by kernel_rfl) rfl (by kernel_rfl) H
theorem Jy {x y:Int}{h:Hp}{R:Value→Hp→Prop}(hK:R (vi (QaC x y)) h):Qa Tryz.prog 136 [vi x,vi y] h R:=by
 have nan:∀{z:Int} {K:Value→Hp→Prop},K (vb false) h→Qa Tryz.prog 196 [vi z] h K:=by
  intro z K hk
  refine Qc0 ?_
  unfold UU
  simpa using hk
 refine QaG ?_
 unfold Js
 unfold QaC at hK
 refine nan ⟨_,rfl,nan ⟨_,rfl,fun e=>by (cases e),fun _=>⟨fun e=>by (cases e),fun _=>⟨fun e=>?_,fun e=>⟨fun e2=>?_,fun e2=>?_⟩⟩⟩⟩⟩
 ·rw [if_pos (of_decide_eq_true e)] at hK;exact hK
 ·rw [if_neg (of_decide_eq_false e),if_pos (of_decide_eq_true e2)] at hK;exact hK
 ·rw [if_neg (of_decide_eq_false e),if_neg (of_decide_eq_false e2)] at hK;exact hK
theorem Qfh {x y:Int}{a:Option Addr}{c:Nat}{h:Hp}{R:Value→Hp→Prop}(S:SlI h a 2 [x,y])(hK:R (vi (if x≠0 then x else y)) h):Qa Tryz.prog 135 [vsl a 2 c] h R:=by
 refine QgR ?_
 unfold NU
 refine⟨fun vs hh=>hh=h∧∃ i:Nat,vs=[vi i]∧i≤2∧(0 < i→x=0)∧(1 < i→y=0),fun vs hh=>2 - (Qr vs 0).toNat,⟨rfl,0,rfl,by decide,by simp,by simp⟩,?_⟩
 rintro vs hh ⟨rfl,i,rfl,hi,h1,h2⟩
 refine⟨i,rfl,fun e=>?_,fun e=>?_⟩
 ·have hlt:i < 2:=by have:=of_decide_eq_true e;omega
  obtain⟨b,o,ea,hc⟩:=S.get hlt
  refine⟨b,o,⟨ea,by omega,by omega⟩,_,hc,fun e=>?_,fun e=>⟨_,isW (by unfold InR;omega),⟨rfl,i+1,rfl,by omega,?_,?_⟩,by simp [Qr];omega⟩⟩
  ·match i,hlt with
   | 0,_=>
    have hx:x≠0:=of_decide_eq_true e
    rw [if_pos hx] at hK;exact hK
   | 1,_=>
    have hx:=h1 (by decide)
    rw [if_neg (by simp [hx])] at hK;exact hK
  ·intro _
   match i,hlt with
   | 0,_=>have:=of_decide_eq_false e;simpa using this
   | 1,_=>exact h1 (by decide)
  ·intro hi1
   match i,hlt with
   | 0,_=>omega
   | 1,_=>have:=of_decide_eq_false e;simpa using this
 ·have hge:i=2:=by have:=of_decide_eq_false e;omega
  subst hge
  have hx:=h1 (by decide)
  have hy:=h2 (by decide)
  rw [if_neg (by simp [hx]),hy] at hK
  exact hK
theorem QcU {a b:Int × Int}{h:Hp}{R:Value→Hp→Prop}(hK:∀ h',h.le h'→R (vi (QmR a b)) h'):Qa Tryz.prog 80 [vag (Qw a),vag (Qw b)] h R:=by
 refine Qcw ?_
 unfold UI
 refine Jy ⟨_,rfl,Jy ⟨_,rfl,?_⟩⟩
 intro b7 hb7 h8
 refine Qfh (x:=QaC a.1 b.1) (y:=QaC a.2 b.2) ⟨rfl,Qf.new _ _ [vi (QaC a.1 b.1),vi (QaC a.2 b.2)] _⟩ ⟨_,rfl,hK _ (Hp.le_set (Hp.le_refl h) hb7 _)⟩
end Go.Proofs.YthicpjafcpfjoaaGreatDoor
namespace Go.Vc
open Go
section
variable {P:Program}{h:Hp}
theorem QgP (w:World)(dT sT ty elem:TypeId)(k g o dLen dCap:Nat)(a:Addr)(sLen sCap:Nat)(cur:Array Value)(t:TypeId)(cs:List Value)
  (hu:P.underlying dT=some (.slice elem)) (hs:(P.info? elem).map (·.size)=some k)
  (hg:w.heap[g]?=some (.cells cur t (0,0))) (hn:cs.length=Nat.min sLen dLen*k)
  (hsrc:∀ j v,cs[j]?=some v→w.cell? (a.add j)=some v) (hfit:o+cs.length≤cur.size) (h1:∀ v ∈ cs,v.oneCell'=true) :
  (Builtin.copy_ #[dT,sT] ty #[.slice (some ⟨g,o,none⟩) dLen dCap,.slice (some a) sLen sCap]).run P w =
   .ok (goInt (Nat.min sLen dLen)) (w.setRow g (cur.toList.take o++cs++cur.toList.drop (o+cs.length)).toArray):=by
 have hl:=run_firstCells_some (P:=P) w k (Nat.min sLen dLen) a sLen sCap cs hn hsrc
 have hst:=run_storeCells_at P g o t cs 0 cur w hg (by simpa using hfit) h1
 cases hq:P.info? elem with
 | none=>simp [hq] at hs
 | some i=>
  have hi:i.size=k:=by simpa [hq] using hs
  simp [Builtin.copy_,run_underlying hu,Builtin.lenOf,sizeOf,typeInfo,hq,hi,hl,hst]
theorem Qm7 {dT sT ty e:TypeId}(hu:P.underlying dT=some (.slice e)){k:Nat}(hi:(P.info? e).map (·.size)=some k){g o dLen dCap:Nat}{a2:Option Addr}{sLen c2:Nat}{L ys:List Value}{t:TypeId}(hg:h g=some (Qb L t))(H:Qf h a2 ys)(hl:ys.length=Nat.min sLen dLen*k)(hfit:o+ys.length≤L.length)
  (h1:∀ u ∈ ys,u.oneCell'=true) (hne:ys≠[]) {K:Value→Hp→Prop} (hK:K (vi (Nat.min sLen dLen:Nat)) (h.set g (Qb (QM L o ys) t))):Qm P (Builtin.copy_ #[dT,sT] ty #[vsl (some ⟨g,o,none⟩) dLen dCap,vsl a2 sLen c2]) h K:=by
 intro w hs
 rcases H with h4|⟨b2,o2,rfl,hr⟩
 ·exact absurd h4 hne
 ·have hrun:=QgP (P:=P) w dT sT ty e k g o dLen dCap ⟨b2,o2,none⟩ sLen c2 L.toArray t ys hu hi (hs g _ hg) hl (fun j v hj=>by rw [Yg];exact Zl (Hp.row_cell hr hj) hs) (by simpa using hfit) h1
  exact⟨_,_,_,hrun,JM hs hg,Vi hg,hK⟩
theorem QlO {t ty e:TypeId}{k bytes:Nat}(T:ElT P t e k bytes){z:List Value}(hz:(XG P e).map Qq=some z)(h1:∀ u ∈ z,u.oneCell'=true){g o n c:Nat}{L:List Value}(hn:0 < n)(hg:h g=some (Qb L e))(hfit:o+n*k≤L.length){K:Value→Hp→Prop}
  (hK:K (Qg []) (h.set g (Qb (QM L o ((List.replicate n z).flatten)) e))):Qm P (Builtin.clear_ #[t] ty #[vsl (some ⟨g,o,none⟩) n c]) h K:=by
 intro w hs
 obtain⟨i,zv,hi,hiz,hsz,hby,hzs⟩:=T.el
 have hzl:z=zv.cells.toList:=by
  unfold XG at hz
  rw [hi] at hz
  simp only [Option.bind_some,hiz,Option.map_some,Option.some.injEq] at hz
  rw [←hz,Ug]
 have hzl2:z.length=k:=by rw [hzl,Array.length_toList];exact hzs
 have hfl:(Builtin.zeroCells zv.cells n).toList=(List.replicate n z).flatten:=by
  have e1:Builtin.zeroCells zv.cells n=((List.replicate n zv.cells.toList).flatten).toArray:=Nr zv.cells n (by rw [hzs];exact T.pos)
  rw [e1,hzl]
 have hlen:((List.replicate n z).flatten).length=n*k:=by rw [List.length_flatten];simp [hzl2]
 have h1':∀ u ∈ (List.replicate n z).flatten,u.oneCell'=true:=by
  intro u hu
  obtain⟨l,hl,hu⟩:=List.mem_flatten.1 hu
  rw [List.eq_of_mem_replicate hl] at hu
  exact h1 u hu
 have hst:=run_storeCells_at P g o e ((List.replicate n z).flatten) 0 L.toArray w (hs g _ hg) (by simp only [Nat.add_zero,List.size_toArray];rw [hlen];exact hfit) h1'
 have hrun:(Builtin.clear_ #[t] ty #[vsl (some ⟨g,o,none⟩) n c]).run P w=.ok (Qg []) (w.setRow g (QM L o ((List.replicate n z).flatten)).toArray):=by
  obtain⟨m,rfl⟩:∃ m,n=m+1:=⟨n - 1,by omega⟩
  simp only [Nat.add_zero] at hst
  simp [Builtin.clear_,run_underlying T.sl,zeroValue,typeInfo,hi,hiz,hfl,hst,QM]
 exact⟨_,_,_,hrun,JM hs hg,Vi hg,hK⟩
theorem QcK {t tn ty e:TypeId}{k bytes:Nat}(T:ElT P t e k bytes)(htn:P.underlying tn=some (.int .i64)){z:List Value}(hz:(XG P e).map Qq=some z){a:Option Addr}{n c m:Nat}{xs:List Value}(H:Qf h a xs)(hxs:xs.length=n*k)(hm:0 < m)(hc:c < n+m)
  (hb:(n+m)*bytes≤140737488355328) (h63:n+m≤140737488355328) {K:Value→Hp→Prop}
  (hK:∀ a' c' h',Qh h h' e k a' (n+m) c' (xs++(List.replicate m z).flatten)→K (vsl a' (n+m) c') h') :
  Qm P (Builtin.append_ #[t,tn] ty #[vsl a n c,vi (m:Int)]) h K:=by
 intro w hs
 obtain⟨i,zv,hi,hiz,rfl,rfl,hzs⟩:=T.el
 have hzl:z=zv.cells.toList:=by
  unfold XG at hz
  rw [hi] at hz
  simp only [Option.bind_some,hiz,Option.map_some,Option.some.injEq] at hz
  rw [←hz,Ug]
 have hzl2:z.length=i.size:=by rw [hzl,Array.length_toList];exact hzs
 have hfl:∀ m,(Builtin.zeroCells zv.cells m).toList=(List.replicate m z).flatten:=fun m=>by
  have e1:Builtin.zeroCells zv.cells m=((List.replicate m zv.cells.toList).flatten).toArray:=Nr zv.cells m (by rw [hzs];exact T.pos)
  rw [e1,hzl]
 have hlen:((List.replicate m z).flatten).length=m*i.size:=by rw [List.length_flatten];simp [hzl2]
 have hold:(Builtin.firstCells i.size n (.slice a n c)).run P w.drew=.ok xs.toArray w.drew:=by
  cases a with
  | none=>
   have:xs=[]:=by
    rcases H with h4|⟨b,o,e,_⟩
    ·exact h4
    ·cases e
   subst this
   exact run_firstCells_none _ _ _ _ _
  | some ad=>
   have hsrc:=Qf.cells hs H
   exact run_firstCells_some w.drew i.size n ad n c xs hxs (fun j v hj=>hsrc j v hj)
 have hbm:m*i.bytes≤(n+m)*i.bytes:=Nat.mul_le_mul_right _ (by omega)
 have hr:=Lib.run_append_grow_zeros (P:=P) w t tn ty e i zv .i64 .i64 T.sl htn hi hiz a n c xs hold m hm T.pos hc (by omega) (by omega) (growslice_fits hc hb)
 have hno:h w.heap.size=none:=Sub.none hs
 refine⟨_,_,_,hr,YP hs _,Xt h w _,hK _ _ _ ⟨Hp.le_set (Hp.le_refl h) hno _,⟨?_,.inr ⟨w.heap.size,_,rfl,Hp.set_same _ _ _,grownCap_ge w (n+m) c e,grownCap_le_maxLen w (n+m) c e (by simp only [maxLen];omega),?_,?_⟩⟩,fun g hg=>by cases hg;exact hno⟩⟩
 ·rw [List.length_append,hlen,hxs,Nat.add_mul]
 ·have hge:=grownCap_ge w (n+m) c e
  simp only [Array.size_append,List.size_toArray,size_zeroCells,hzs,hxs,←Nat.add_mul]
  congr 1
  omega
 ·simp only [Array.toList_append,hfl m]
  rw [List.take_left' (by rw [List.length_append,hlen,hxs,Nat.add_mul])]
theorem QiJ {f:FuncId}{fn:Func}{tS tR e:TypeId}(hf:P.funcs[f]?=some fn)(hname:(fn.name == "runtime.NumGoroutine")=false)(hb:fn.body.isNone=true)(hn:Extern.findNext fn=none)(he:Extern.find fn=some (Extern.SlicesOverlaps.overlaps #[tS,tS] #[tR]))
  (ht:P.underlying tS=some (.slice e)) (hi:(P.info? e).isSome=true) {b1 o1 b2 o2 la ca lb cb:Nat} (hne:b1≠b2) {L1 L2:List Value} {t1 t2:TypeId} (h1:h b1=some (Qb L1 t1)) (h2:h b2=some (Qb L2 t2)) (hL2:L2≠[]) {K:Value→Hp→Prop} (hK:K (vb false) h) :
  Qhk P f [vsl (some ⟨b1,o1,none⟩) la ca,vsl (some ⟨b2,o2,none⟩) lb cb] h K:=by
 intro w hs
 obtain⟨i,hi⟩:=Option.isSome_iff_exists.1 hi
 have w1:=hs b1 _ h1
 have w2:=hs b2 _ h2
 refine⟨vb false,w,h,?_,hs,Fr.refl h w,hK⟩
 rw [run_callFunc_extern hf hname hb hn he]
 have:=Lib.run_overlaps_apart (P:=P) w tS tR e ht i.size (fun w=>by simp [sizeOf,typeInfo,hi]) ⟨b1,o1,none⟩ ⟨b2,o2,none⟩ la ca lb cb hne t1 t2 L1.length L2.length (by simp [World.shape?,w1]) (by simp [World.shape?,w2]) (by simpa using hL2) (by simp [World.frozen?,w1]) (by simp [World.frozen?,w1])
 show ((Extern.SlicesOverlaps.overlaps #[tS,tS] #[tR] #[.slice (some ⟨b1,o1,none⟩) la ca,.slice (some ⟨b2,o2,none⟩) lb cb]).run P w).andThen _=_
 rw [this]
 rfl
theorem Qq2 {t e ty:TypeId}(ht:P.underlying t=some (.slice e)){a:Option Addr}{n c:Nat}:Rd P (Builtin.cap_ #[t] ty #[vsl a n c]) h (vi (c:Int)):=by
 intro w _
 simp [Builtin.cap_,run_underlying ht,goInt]
theorem Qh.grow {h0:Hp}{e:TypeId}{sz n m c:Nat}{a:Option Addr}{xs:List Value}(O:Qh h0 h e sz a n c xs)(h1:n≤m)(h2:m≤c):∃ ys,ys.length=(m - n)*sz∧Qh h0 h e sz a m c (xs++ys):=by
 obtain⟨l,⟨hl,O'⟩,nw⟩:=O
 rcases O' with ⟨ha,hn,hc⟩|⟨g,cur,ha,hg,h3,h4,h5,h6⟩
 ·have:m=n:=by omega
  subst this
  exact⟨[],by simp,l,by rw [List.append_nil];exact⟨hl,.inl ⟨ha,hn,hc⟩⟩,nw⟩
 ·have hb:n*sz≤m*sz:=Nat.mul_le_mul_right _ h1
  have hb2:m*sz≤c*sz:=Nat.mul_le_mul_right _ h2
  have hcl:cur.toList.length=c*sz:=by rw [Array.length_toList];exact h5
  refine⟨(cur.toList.take (m*sz)).drop (n*sz),by rw [List.length_drop,List.length_take,hcl,Nat.min_eq_left hb2,Nat.sub_mul],l,⟨?_,.inr ⟨g,cur,ha,hg,h2,h4,h5,?_⟩⟩,nw⟩
  ·rw [List.length_append,hl,List.length_drop,List.length_take,hcl,Nat.min_eq_left hb2]
   omega
  ·have h7:(cur.toList.take (m*sz)).take (n*sz)=xs:=by rw [List.take_take,Nat.min_eq_left hb];exact h6
   have h8:=List.take_append_drop (n*sz) (cur.toList.take (m*sz))
   rw [h7] at h8
   exact h8.symm
theorem Qh.blk {h0:Hp}{e:TypeId}{sz n c:Nat}{a:Option Addr}{xs:List Value}(O:Qh h0 h e sz a n c xs)(hc:0 < c)(hz:0 < sz):∃ g L,a=some ⟨g,0,none⟩∧h g=some (Qb L e)∧L≠[]:=by
 obtain⟨l,⟨hl,O'⟩,nw⟩:=O
 rcases O' with ⟨ha,hn,hc'⟩|⟨g,cur,ha,hg,h3,h4,h5,h6⟩
 ·omega
 ·refine⟨g,cur.toList,ha,by rw [hg],fun e2=>?_⟩
  have:=congrArg List.length e2
  rw [Array.length_toList,h5] at this
  have:=Nat.mul_pos hc hz
  simp at *
  omega
theorem Qh.copy {h0:Hp}{dT sT ty e:TypeId}(hu:P.underlying dT=some (.slice e)){sz:Nat}(hi:(P.info? e).map (·.size)=some sz){n c:Nat}{a:Option Addr}{xs:List Value}(O:Qh h0 h e sz a n c xs){g j dLen dCap:Nat}(ha:a=some ⟨g,0,none⟩){a2:Option Addr}{sLen c2:Nat}{ys:List Value}(H:Qf h a2 ys)
  (hl:ys.length=Nat.min sLen dLen*sz) (hfit:j+ys.length≤n*sz) (h1:∀ u ∈ ys,u.oneCell'=true) (hne:ys≠[]) {K:Value→Hp→Prop}
  (hK:∀ h',Qh h0 h' e sz a n c (QM xs j ys)→(∀ b o,b≠g→h b=some o→h' b=some o)→K (vi (Nat.min sLen dLen:Nat)) h'):Qm P (Builtin.copy_ #[dT,sT] ty #[vsl (some ⟨g,j,none⟩) dLen dCap,vsl a2 sLen c2]) h K:=by
 obtain⟨l,⟨hl0,O'⟩,nw⟩:=O
 rcases O' with ⟨ha',_⟩|⟨g',cur,ha',hg,h3,h4,h5,h6⟩
 ·rw [ha'] at ha;cases ha
 ·rw [ha'] at ha
  cases ha
  have hb:n*sz≤c*sz:=Nat.mul_le_mul_right _ h3
  have hcl:cur.toList.length=c*sz:=by rw [Array.length_toList];exact h5
  refine Qm7 hu hi (L:=cur.toList) (t:=e) (by rw [hg]) H hl (by omega) h1 hne ?_
  refine hK _ ⟨fun b o ho=>?_,⟨?_,.inr ⟨g,_,ha',Hp.set_same _ _ _,h3,h4,?_,?_⟩⟩,nw⟩ fun b o hne ho=>(Hp.set_other h _ hne).trans ho
  ·have hne:b≠g:=fun q=>by subst q;rw [nw b ha'] at ho;cases ho
   exact(Hp.set_other h _ hne).trans (l b o ho)
  ·rw [Yq _ _ _ (by omega)];exact hl0
  ·show (QM cur.toList j ys).length=_
   rw [Yq _ _ _ (by omega)];exact hcl
  ·show (QM cur.toList j ys).take (n*sz)=_
   rw [Qcq _ _ _ _ hfit (by rw [hcl];exact hb),h6]
theorem Qh.clear {h0:Hp}{t ty e:TypeId}{sz bytes:Nat}(T:ElT P t e sz bytes){z:List Value}(hz:(XG P e).map Qq=some z)(h1:∀ u ∈ z,u.oneCell'=true)(hzl:z.length=sz){n c:Nat}{a:Option Addr}{xs:List Value}(O:Qh h0 h e sz a n c xs){g j k dCap:Nat}(ha:a=some ⟨g,0,none⟩)(hk:0 < k)(hfit:j+k*sz≤n*sz){K:Value→Hp→Prop}
  (hK:∀ h',Qh h0 h' e sz a n c (QM xs j ((List.replicate k z).flatten))→K (Qg []) h'):Qm P (Builtin.clear_ #[t] ty #[vsl (some ⟨g,j,none⟩) k dCap]) h K:=by
 have hlen:((List.replicate k z).flatten).length=k*sz:=by rw [List.length_flatten];simp [hzl]
 obtain⟨l,⟨hl0,O'⟩,nw⟩:=O
 rcases O' with ⟨ha',_⟩|⟨g',cur,ha',hg,h3,h4,h5,h6⟩
 ·rw [ha'] at ha;cases ha
 ·rw [ha'] at ha
  cases ha
  have hb:n*sz≤c*sz:=Nat.mul_le_mul_right _ h3
  have hcl:cur.toList.length=c*sz:=by rw [Array.length_toList];exact h5
  refine QlO T hz h1 hk (L:=cur.toList) (by rw [hg]) (by omega) ?_
  refine hK _ ⟨fun b o ho=>?_,⟨?_,.inr ⟨g,_,ha',Hp.set_same _ _ _,h3,h4,?_,?_⟩⟩,nw⟩
  ·have hne:b≠g:=fun q=>by subst q;rw [nw b ha'] at ho;cases ho
   exact(Hp.set_other h _ hne).trans (l b o ho)
  ·rw [Yq _ _ _ (by omega)];exact hl0
  ·show (QM cur.toList j _).length=_
   rw [Yq _ _ _ (by omega)];exact hcl
  ·show (QM cur.toList j _).take (n*sz)=_
   rw [Qcq _ _ _ _ (by omega) (by rw [hcl];exact hb),h6]
end
end Go.Vc
namespace Go.Proofs.YthicpjafcpfjoaaGreatDoor
open Go Go.Vc
def KO (u0:Option Addr)(u1 u2:Nat)(u3:Int)(u4:Int)(u5:Int)(h:Hp)(R:Value→Hp→Prop):Prop:=
 (∀ b1,h b1=none→let h2:= Hp.set h b1 (Qb [vi u3] 3);(Qa Tryz.prog 250 [vsl u0 u1 u2,vag [vi u4,vi u5],(Value.func (.func 251) #[] #[vhp b1 0])] h2 fun v3 h4=>∃ x5 p6,v3=(Qg [vi x5,vb p6])∧R (Qg [vi x5,vb p6]) h4))
theorem NK {u0 u1 u2 u3 u4 u5 h R}(H:KO u0 u1 u2 u3 u4 u5 h R):Qa Tryz.prog 215 [vag [vsl u0 u1 u2],vi u3,vag [vi u4,vi u5]] h R:=
 Qd (cfg:=⟨[4],[],[]⟩) Qn mixed Tryz.func215 [.ag [.v (vsl u0 u1 u2)],.one (.v (vi u3)),.ag [.v (vi u4),.v (vi u5)]] (by kernel_rfl) rfl (by kernel_rfl) H
def Wh (u0:Int)(u1:Int)(u2:Int)(u3:Option Addr)(u4 u5:Nat)(u6:Bool)(u7:Int)(u8:Int)(f_0b f_0o:Nat)(h:Hp)(R:Value→Hp→Prop):Prop:=
 (∃ x1,(Hp.cell h f_0b f_0o=some (vi x1))∧(Qa Tryz.prog 136 [vi u0,vi x1] h fun v2 h3=>∃ x4,v2=(vi x4)∧(Qa Tryz.prog 80 [vag [vi u1,vi u2],vag [vi u7,vi u8]] h3 fun v5 h6=>∃ x7,v5=(vi x7)∧(∀ b8,h6 b8=none→let h9:= Hp.set h6 b8 (Qb [vi x4,vi x7] 3);(Qa Tryz.prog 135 [(vsl (some (⟨b8,0,none⟩:Addr)) 2 2)] h9 fun v10 h11=>∃ x12,v10=(vi x12)∧R (vi x12) h11)))))
theorem Gk {u0 u1 u2 u3 u4 u5 u6 u7 u8 f_0b f_0o h R}(H:Wh u0 u1 u2 u3 u4 u5 u6 u7 u8 f_0b f_0o h R):Qa Tryz.prog 251 [vag [vi u0,vi u1,vi u2,vsl u3 u4 u5,vb u6],vag [vi u7,vi u8],vhp f_0b f_0o] h R:=
 Qd (cfg:=⟨[],[],[(1,[0,1,2,4,5,6,3,7,8,9,10])]⟩) Qn mixed Tryz.func251 [.ag [.v (vi u0),.v (vi u1),.v (vi u2),.v (vsl u3 u4 u5),.v (vb u6)],.ag [.v (vi u7),.v (vi u8)],.one (.hp f_0b f_0o)] (by kernel_rfl) rfl (by kernel_rfl) H
def QG (u0:Option Addr)(u1 u2:Nat)(u3:Int)(u4:Int)(u5:Value)(h:Hp)(R:Value→Hp→Prop):Prop:=
 (∃(I2:List Value→Hp→Prop) (m3:List Value→Hp→Nat),I2 [vi 0,(vi (u1:Int))] h∧∀ vs4 h5,I2 vs4 h5→∃ x6 x7,vs4=[vi x6,vi x7]∧(((decide (x6 < x7))=true→(∃ x10,(IsW x10 (x6+x7))∧(∃ x11,(Rd Tryz.prog (binOp .shr 229 (vk .u64 (IntKind.wrap .u64 x10)) (vk .u64 1)) h5 (vk .u64 x11))∧(∃ b12 o13,(u0=some ⟨b12,o13,none⟩∧(0:Int)≤(IntKind.wrap .i64 x11)∧(IntKind.wrap .i64 x11) < (u1:Int))∧(∃ x14 x15 x16 a17 n17 c17 p18,(Hp.row h5 b12 (o13+(IntKind.wrap .i64 x11).toNat*5) 5=some [vi x14,vi x15,vi x16,vsl a17 n17 c17,vb p18])∧(ZS Tryz.prog u5 [vag [vi x14,vi x15,vi x16,vsl a17 n17 c17,vb p18],vag [vi u3,vi u4]] h5 fun v19 h20=>∃ x21,v19=(vi x21)∧(((decide (x21 < 0))=true→(∃ x22,(IsW x22 ((IntKind.wrap .i64 x11)+1))∧(I2 [vi x22,vi x7] h20∧m3 [vi x22,vi x7] h20 < m3 vs4 h5)))∧((decide (x21 < 0))=false→(I2 [vi x6,(vi (IntKind.wrap .i64 x11))] h20∧m3 [vi x6,(vi (IntKind.wrap .i64 x11))] h20 < m3 vs4 h5)))))))))∧((decide (x6 < x7))=false→(∃ b23 o24,((decide (x6 < (u1:Int)))=true→(u0=some ⟨b23,o24,none⟩∧(0:Int)≤x6∧x6 < (u1:Int)))∧(∃ x25 x26 x27 a28 n28 c28 p29,((decide (x6 < (u1:Int)))=true→Hp.row h5 b23 (o24+x6.toNat*5) 5=some [vi x25,vi x26,vi x27,vsl a28 n28 c28,vb p29])∧(∃(J30:SV→Hp→Prop),((decide (x6 < (u1:Int)))=true→(ZS Tryz.prog u5 [vag [vi x25,vi x26,vi x27,vsl a28 n28 c28,vb p29],vag [vi u3,vi u4]] h5 fun v31 h32=>∃ x33,v31=(vi x33)∧J30 (.t (.one (.v (vi x33)))) h32))∧(¬((decide (x6 < (u1:Int)))=true)→J30 (.t (.one (.v (vi 0)))) h5)∧∀ h34 x35,J30 (.t (.one (.v (vi x35)))) h34→R (Qg [vi x6,(vb (bif (decide (x6 < (u1:Int))) then(decide (x35=0)) else false))]) h34))))))
theorem Zn {u0 u1 u2 u3 u4 u5 h R}(H:QG u0 u1 u2 u3 u4 u5 h R):Qa Tryz.prog 250 [vsl u0 u1 u2,vag [vi u3,vi u4],u5] h R:=
 Qd (cfg:=⟨[],[(3,([9,10],[.one (.int .i64),.one (.int .i64)],[]))],[(5,[0,1,2,3,4,5,6,7]),(8,[0,1,2,3,4,5,6,7,8,9,10,11,12,13,14,15])]⟩) Qn mixed Tryz.func250 [.one (.v (vsl u0 u1 u2)),.ag [.v (vi u3),.v (vi u4)],.one (.v u5)] (by kernel_rfl) rfl (by kernel_rfl) H
def Zv (u0:Option Addr)(u1 u2:Nat)(h:Hp)(R:Value→Hp→Prop):Prop:=
 (∃ p1,(Rd Tryz.prog ((eqGuard .eql 128 (.tmp 3) (.const (vsl none 0 0)) (vsl u0 u1 u2) (vsl none 0 0) >>= fun _=>binOp .eql 128 (vsl u0 u1 u2) (vsl none 0 0))) h (vb p1))∧((p1=true→R (vsl none 0 0) h)∧(p1=false→(∀ b3,h b3=none→let h4:= Hp.set h b3 (Qb [] 150);(Qm Tryz.prog (Builtin.append_ #[128,128] 128 #[(vsl (some (⟨b3,0,none⟩:Addr)) 0 0),vsl u0 u1 u2]) h4 fun v5 h6=>∃ a7 n7 c7,v5=(vsl a7 n7 c7)∧R (vsl a7 n7 c7) h6)))))
theorem YX {u0 u1 u2 h R}(H:Zv u0 u1 u2 h R):Qa Tryz.prog 171 [vsl u0 u1 u2] h R:=
 Qd (cfg:=⟨[],[],[]⟩) Qn mixed Tryz.func171 [.one (.v (vsl u0 u1 u2))] (by kernel_rfl) rfl (by kernel_rfl) H
def Zw (u0:Option Addr)(u1 u2:Nat)(h:Hp)(R:Value→Hp→Prop):Prop:=
 (∃ p1,(Rd Tryz.prog ((eqGuard .eql 148 (.tmp 3) (.const (vsl none 0 0)) (vsl u0 u1 u2) (vsl none 0 0) >>= fun _=>binOp .eql 148 (vsl u0 u1 u2) (vsl none 0 0))) h (vb p1))∧((p1=true→R (vsl none 0 0) h)∧(p1=false→(∀ b3,h b3=none→let h4:= Hp.set h b3 (Qb [] 155);(Qm Tryz.prog (Builtin.append_ #[148,148] 148 #[(vsl (some (⟨b3,0,none⟩:Addr)) 0 0),vsl u0 u1 u2]) h4 fun v5 h6=>∃ a7 n7 c7,v5=(vsl a7 n7 c7)∧R (vsl a7 n7 c7) h6)))))
theorem Y0 {u0 u1 u2 h R}(H:Zw u0 u1 u2 h R):Qa Tryz.prog 217 [vsl u0 u1 u2] h R:=
 Qd (cfg:=⟨[],[],[]⟩) Qn mixed Tryz.func217 [.one (.v (vsl u0 u1 u2))] (by kernel_rfl) rfl (by kernel_rfl) H
def Zr (u0:Option Addr)(u1 u2:Nat)(u3:Int)(u4:Option Addr)(u5 u6:Nat)(h:Hp)(R:Value→Hp→Prop):Prop:=
 (∃ a1 n1 c1,(Rd Tryz.prog (Instr.sliceAt 128 (vsl u0 u1 u2) (some (vi u3)) none none) h (vsl a1 n1 c1))∧(((decide ((u5:Int)=0))=true→R (vsl u0 u1 u2) h)∧((decide ((u5:Int)=0))=false→(((decide (u3=(u1:Int)))=true→(Qm Tryz.prog (Builtin.append_ #[128,128] 128 #[vsl u0 u1 u2,vsl u4 u5 u6]) h fun v3 h4=>∃ a5 n5 c5,v3=(vsl a5 n5 c5)∧R (vsl a5 n5 c5) h4))∧((decide (u3=(u1:Int)))=false→(∃ x7,(IsW x7 ((u1:Int)+(u5:Int)))∧(∃ x8,(Rd Tryz.prog (Builtin.cap_ #[128] 3 #[vsl u0 u1 u2]) h (vi x8))∧(((decide (x7 > x8))=true→(∃ a9 n9 c9,(Rd Tryz.prog (Instr.sliceAt 128 (vsl u0 u1 u2) none (some (vi u3)) none) h (vsl a9 n9 c9))∧(∃ x10,(IsW x10 ((u1:Int)+(u5:Int)))∧(∃ x11,(IsW x11 (x10 - u3))∧(Qm Tryz.prog (Builtin.append_ #[128,3] 128 #[vsl a9 n9 c9,vi x11]) h fun v12 h13=>∃ a14 n14 c14,v12=(vsl a14 n14 c14)∧(∃ a15 n15 c15,(Rd Tryz.prog (Instr.sliceAt 128 (vsl a14 n14 c14) (some (vi u3)) none none) h13 (vsl a15 n15 c15))∧(Qm Tryz.prog (Builtin.copy_ #[128,128] 3 #[vsl a15 n15 c15,vsl u4 u5 u6]) h13 fun v16 h17=>∃ x18,v16=(vi x18)∧(∃ x19,(IsW x19 (u3+(u5:Int)))∧(∃ a20 n20 c20,(Rd Tryz.prog (Instr.sliceAt 128 (vsl a14 n14 c14) (some (vi x19)) none none) h17 (vsl a20 n20 c20))∧(∃ a21 n21 c21,(Rd Tryz.prog (Instr.sliceAt 128 (vsl u0 u1 u2) (some (vi u3)) none none) h17 (vsl a21 n21 c21))∧(Qm Tryz.prog (Builtin.copy_ #[128,128] 3 #[vsl a20 n20 c20,vsl a21 n21 c21]) h17 fun v22 h23=>∃ x24,v22=(vi x24)∧R (vsl a14 n14 c14) h23)))))))))))∧((decide (x7 > x8))=false→(∃ x26,(IsW x26 ((u1:Int)+(u5:Int)))∧(∃ a27 n27 c27,(Rd Tryz.prog (Instr.sliceAt 128 (vsl u0 u1 u2) none (some (vi x26)) none) h (vsl a27 n27 c27))∧(∃ x28,(IsW x28 (u3+(u5:Int)))∧(∃ a29 n29 c29,(Rd Tryz.prog (Instr.sliceAt 128 (vsl a27 n27 c27) (some (vi x28)) none none) h (vsl a29 n29 c29))∧(Qhk Tryz.prog 252 [vsl u4 u5 u6,vsl a29 n29 c29] h fun v30 h31=>∃ p32,v30=(vb p32)∧(((!p32)=true→(∃ x33,(IsW x33 (u3+(u5:Int)))∧(∃ a34 n34 c34,(Rd Tryz.prog (Instr.sliceAt 128 (vsl a27 n27 c27) (some (vi x33)) none none) h31 (vsl a34 n34 c34))∧(∃ a35 n35 c35,(Rd Tryz.prog (Instr.sliceAt 128 (vsl a27 n27 c27) (some (vi u3)) none none) h31 (vsl a35 n35 c35))∧(Qm Tryz.prog (Builtin.copy_ #[128,128] 3 #[vsl a34 n34 c34,vsl a35 n35 c35]) h31 fun v36 h37=>∃ x38,v36=(vi x38)∧(∃ a39 n39 c39,(Rd Tryz.prog (Instr.sliceAt 128 (vsl a27 n27 c27) (some (vi u3)) none none) h37 (vsl a39 n39 c39))∧(Qm Tryz.prog (Builtin.copy_ #[128,128] 3 #[vsl a39 n39 c39,vsl u4 u5 u6]) h37 fun v40 h41=>∃ x42,v40=(vi x42)∧R (vsl a27 n27 c27) h41)))))))∧((!p32)=false→(∃ a44 n44 c44,(Rd Tryz.prog (Instr.sliceAt 128 (vsl a27 n27 c27) (some (vi (u1:Int))) none none) h31 (vsl a44 n44 c44))∧(Qm Tryz.prog (Builtin.copy_ #[128,128] 3 #[vsl a44 n44 c44,vsl u4 u5 u6]) h31 fun v45 h46=>∃ x47,v45=(vi x47)∧(∃ a48 n48 c48,(Rd Tryz.prog (Instr.sliceAt 128 (vsl a27 n27 c27) (some (vi u3)) none none) h46 (vsl a48 n48 c48))∧(Qa Tryz.prog 253 [vsl a48 n48 c48,(vi (u5:Int))] h46 fun v49 h50=>v49=(Qg [])∧R (vsl a27 n27 c27) h50))))))))))))))))))))
theorem YT {u0 u1 u2 u3 u4 u5 u6 h R}(H:Zr u0 u1 u2 u3 u4 u5 u6 h R):Qa Tryz.prog 216 [vsl u0 u1 u2,vi u3,vsl u4 u5 u6] h R:=
 Qd (cfg:=⟨[],[],[(11,[0,1,2,3,4,5,6,7,8]),(15,[0,1,2,3,4,5,6,7,8])]⟩) Qn mixed Tryz.func216 [.one (.v (vsl u0 u1 u2)),.one (.v (vi u3)),.one (.v (vsl u4 u5 u6))] (by kernel_rfl) rfl (by kernel_rfl) H
def Jr (u0:Option Addr)(u1 u2:Nat)(u3:Int)(u4:Int)(u5:Int)(u6:Option Addr)(u7 u8:Nat)(u9:Option Addr)(u10 u11:Nat)(h:Hp)(R:Value→Hp→Prop):Prop:=
 (Qa Tryz.prog 215 [vag [vsl u0 u1 u2],vi u3,vag [vi u4,vi u5]] h fun v1 h2=>∃ x3 p4,v1=(Qg [vi x3,vb p4])∧(Qa Tryz.prog 171 [vsl u0 u1 u2] h2 fun v5 h6=>∃ a7 n7 c7,v5=(vsl a7 n7 c7)∧(let J83:Option Addr→Nat→Nat→Int→Int→Int→Option Addr→Nat→Nat→Bool→Hp→Prop:=fun a315 n315 c315 x316 x317 x318 a319 n319 c319 p320 h321=>(∃ b322 o323,(a315=some ⟨b322,o323,none⟩∧(0:Int)≤x3∧x3 < (n315:Int))∧(∃ x324 x325 x326 a327 n327 c327 p328,(Hp.row h321 b322 (o323+x3.toNat*5) 5=some [vi x324,vi x325,vi x326,vsl a327 n327 c327,vb p328])∧(Qa Tryz.prog 217 [vsl a327 n327 c327] h321 fun v329 h330=>∃ a331 n331 c331,v329=(vsl a331 n331 c331)∧(∃(I333:List Value→Hp→Prop) (m334:List Value→Hp→Nat),I333 [vi 0] h330∧∀ vs335 h336,I333 vs335 h336→∃ x337,vs335=[vi x337]∧(((decide (x337 < (u10:Int)))=true→(∃ b340 o341,(u9=some ⟨b340,o341,none⟩∧(0:Int)≤x337∧x337 < (u10:Int))∧(∃ x342 x343,(Hp.row h336 b340 (o341+x337.toNat*2) 2=some [vi x342,vi x343])∧(∃ b344 o345,(a331=some ⟨b344,o345,none⟩∧(0:Int)≤x337∧x337 < (n331:Int))∧(∃ x346 x347 x348 x349,(Hp.row h336 b344 (o345+x337.toNat*4) 4=some [vi x346,vi x347,vi x348,vi x349])∧(Qa Tryz.prog 132 [vag [vi x346,vi x347,vi x348,vi x349],vag [vi x342,vi x343]] h336 fun v350 h351=>∃ x352 x353 x354 x355,v350=(vag [vi x352,vi x353,vi x354,vi x355])∧(∃ b356 o357,(a331=some ⟨b356,o357,none⟩∧(0:Int)≤x337∧x337 < (n331:Int))∧(Hp.store h351 b356 (o357+x337.toNat*4) [vi x352,vi x353,vi x354,vi x355] fun h358=>(∃ x360,(IsW x360 (x337+1))∧(I333 [vi x360] h358∧m334 [vi x360] h358 < m334 vs335 h336))))))))))∧((decide (x337 < (u10:Int)))=false→(∃ b361 o362,(a315=some ⟨b361,o362,none⟩∧(0:Int)≤x3∧x3 < (n315:Int))∧(Hp.store h336 b361 (o362+x3.toNat*5) [vi x324,vi x325,vi x326,vsl a331 n331 c331,vb p328] fun h363=>R (Qg [vag [vsl a315 n315 c315],vag [vi x316,vi x317,vi x318,vsl a319 n319 c319,vb p320],vb p4]) h363))))))));((p4=true→(∃ b8 o9,(a7=some ⟨b8,o9,none⟩∧(0:Int)≤x3∧x3 < (n7:Int))∧(∃ x10 x11 x12 a13 n13 c13 p14,(Hp.row h6 b8 (o9+x3.toNat*5) 5=some [vi x10,vi x11,vi x12,vsl a13 n13 c13,vb p14])∧(J83 a7 n7 c7 x10 x11 x12 a13 n13 c13 p14 h6))))∧(p4=false→(let J45:Int→Int→Int→Option Addr→Nat→Nat→Bool→Hp→Prop:=fun x71 x72 x73 a74 n74 c74 p75 h76=>(∀ b77,h76 b77=none→let h78:= Hp.set h76 b77 (Qb [vi x71,vi x72,vi x73,vsl a74 n74 c74,vb p75] 150);(Qa Tryz.prog 216 [vsl a7 n7 c7,vi x3,(vsl (some (⟨b77,0,none⟩:Addr)) 1 1)] h78 fun v79 h80=>∃ a81 n81 c81,v79=(vsl a81 n81 c81)∧(J83 a81 n81 c81 0 0 0 none 0 0 false h80)));(∃(I17:List Value→Hp→Prop) (m18:List Value→Hp→Nat),I17 [vi 0,vi u3,vi u4,vi u5,vsl none 0 0,vb false] h6∧∀ vs19 h20,I17 vs19 h20→∃ x21 x22 x23 x24 a25 n25 c25 p26,vs19=[vi x21,vi x22,vi x23,vi x24,vsl a25 n25 c25,vb p26]∧(((decide (x21 < (u7:Int)))=true→(∃ b29 o30,(u6=some ⟨b29,o30,none⟩∧(0:Int)≤x21∧x21 < (u7:Int))∧(∃ x31,(Hp.cell h20 b29 (o30+x21.toNat*1)=some (vi x31))∧(Qa Tryz.prog 76 [vi x31] h20 fun v32 h33=>∃ x34 x35 x36 x37,v32=(vag [vi x34,vi x35,vi x36,vi x37])∧(∀ b38,h33 b38=none→let h39:= Hp.set h33 b38 (Qb [vi x34,vi x35,vi x36,vi x37] 155);(Qm Tryz.prog (Builtin.append_ #[148,148] 148 #[vsl a25 n25 c25,(vsl (some (⟨b38,0,none⟩:Addr)) 1 1)]) h39 fun v40 h41=>∃ a42 n42 c42,v40=(vsl a42 n42 c42)∧(∃ x44,(IsW x44 (x21+1))∧(I17 [vi x44,vi x22,vi x23,vi x24,vsl a42 n42 c42,vb p26] h41∧m18 [vi x44,vi x22,vi x23,vi x24,vsl a42 n42 c42,vb p26] h41 < m18 vs19 h20))))))))∧((decide (x21 < (u7:Int)))=false→(J45 x22 x23 x24 a25 n25 c25 p26 h20))))))))))
theorem QaF {u0 u1 u2 u3 u4 u5 u6 u7 u8 u9 u10 u11 h R}(H:Jr u0 u1 u2 u3 u4 u5 u6 u7 u8 u9 u10 u11 h R):Qa Tryz.prog 167 [vag [vsl u0 u1 u2],vi u3,vag [vi u4,vi u5],vsl u6 u7 u8,vsl u9 u10 u11] h R:=
 Qd (cfg:=⟨[],[(7,([41],[.one (.int .i64)],[(4,[.int .i64,.int .i64,.int .i64,.slice,.bool])])),(15,([68],[.one (.int .i64)],[]))],[(9,[0,1,2,3,4,5,6,7]),(17,[0,1,2,3,4,5,6,7,8,9,10,11]),(20,[0,1,2,3,4,5,6])]⟩) Qn mixed Tryz.func167 [.ag [.v (vsl u0 u1 u2)],.one (.v (vi u3)),.ag [.v (vi u4),.v (vi u5)],.one (.v (vsl u6 u7 u8)),.one (.v (vsl u9 u10 u11))] (by kernel_rfl) rfl (by kernel_rfl) H
def KT (u0:Option Addr)(u1 u2:Nat)(u3:Int)(u4:Int)(h:Hp)(R:Value→Hp→Prop):Prop:=
 (Qa Tryz.prog 171 [vsl u0 u1 u2] h fun v1 h2=>∃ a3 n3 c3,v1=(vsl a3 n3 c3)∧(∃(I5:List Value→Hp→Prop) (m6:List Value→Hp→Nat),I5 [vsl none 0 0,vi 0] h2∧∀ vs7 h8,I5 vs7 h8→∃ a9 n9 c9 x10,vs7=[vsl a9 n9 c9,vi x10]∧(((decide (x10 < (n3:Int)))=true→(let J38:Option Addr→Nat→Nat→Hp→Prop:=fun a41 n41 c41 h42=>(∃ x43,(IsW x43 (x10+1))∧(I5 [vsl a41 n41 c41,vi x43] h42∧m6 [vsl a41 n41 c41,vi x43] h42 < m6 vs7 h8));(∃ b13 o14,(a3=some ⟨b13,o14,none⟩∧(0:Int)≤x10∧x10 < (n3:Int))∧(∃ x15 x16 x17 a18 n18 c18 p19,(Hp.row h8 b13 (o14+x10.toNat*5) 5=some [vi x15,vi x16,vi x17,vsl a18 n18 c18,vb p19])∧(∃ x20,((!p19)=true→IsW x20 (x15+u3))∧(((bif (!p19) then(decide (x20≤u4)) else false)=true→(∃ b21 o22,(a3=some ⟨b21,o22,none⟩∧(0:Int)≤x10∧x10 < (n3:Int))∧(Hp.store h8 b21 ((o22+x10.toNat*5)+4) [vb true] fun h23=>(∃ b24 o25,(a3=some ⟨b24,o25,none⟩∧(0:Int)≤x10∧x10 < (n3:Int))∧(∃ x26 x27 x28 a29 n29 c29 p30,(Hp.row h23 b24 (o25+x10.toNat*5) 5=some [vi x26,vi x27,vi x28,vsl a29 n29 c29,vb p30])∧(∀ b31,h23 b31=none→let h32:= Hp.set h23 b31 (Qb [vi x26,vi x27,vi x28,vsl a29 n29 c29,vb p30] 150);(Qm Tryz.prog (Builtin.append_ #[128,128] 128 #[vsl a9 n9 c9,(vsl (some (⟨b31,0,none⟩:Addr)) 1 1)]) h32 fun v33 h34=>∃ a35 n35 c35,v33=(vsl a35 n35 c35)∧(J38 a35 n35 c35 h34))))))))∧((bif (!p19) then(decide (x20≤u4)) else false)=false→(J38 a9 n9 c9 h8))))))))∧((decide (x10 < (n3:Int)))=false→R (Qg [vag [vsl a3 n3 c3],vsl a9 n9 c9]) h8))))
theorem NL {u0 u1 u2 u3 u4 h R}(H:KT u0 u1 u2 u3 u4 h R):Qa Tryz.prog 113 [vag [vsl u0 u1 u2],vi u3,vi u4] h R:=
 Qd (cfg:=⟨[],[(4,([9,17],[.one (.slice),.one (.int .i64)],[]))],[]⟩) Qn mixed Tryz.func113 [.ag [.v (vsl u0 u1 u2)],.one (.v (vi u3)),.one (.v (vi u4))] (by kernel_rfl) rfl (by kernel_rfl) H
def KV (u0:Option Addr)(u1 u2:Nat)(u3:Int)(u4:Int)(h:Hp)(R:Value→Hp→Prop):Prop:=
 (∀ b1,h b1=none→let h2:= Hp.set h b1 (Qb [vi u3] 3);(∀ b3,h2 b3=none→let h4:= Hp.set h2 b3 (Qb [vi u4] 3);(Qa Tryz.prog 171 [vsl u0 u1 u2] h4 fun v5 h6=>∃ a7 n7 c7,v5=(vsl a7 n7 c7)∧(Qa Tryz.prog 172 [vsl a7 n7 c7,(Value.func (.func 173) #[] #[vhp b1 0,vhp b3 0])] h6 fun v8 h9=>∃ a10 n10 c10,v8=(vsl a10 n10 c10)∧R (vag [vsl a10 n10 c10]) h9))))
theorem NB {u0 u1 u2 u3 u4 h R}(H:KV u0 u1 u2 u3 u4 h R):Qa Tryz.prog 114 [vag [vsl u0 u1 u2],vi u3,vi u4] h R:=
 Qd (cfg:=⟨[4,5],[],[]⟩) Qn mixed Tryz.func114 [.ag [.v (vsl u0 u1 u2)],.one (.v (vi u3)),.one (.v (vi u4))] (by kernel_rfl) rfl (by kernel_rfl) H
def Wr (u0:Int)(u1:Int)(u2:Int)(u3:Option Addr)(u4 u5:Nat)(u6:Bool)(f_0b f_0o:Nat)(f_1b f_1o:Nat)(h:Hp)(R:Value→Hp→Prop):Prop:=
 (∃ x1,(Hp.cell h f_0b f_0o=some (vi x1))∧(∃ x2,(IsW x2 (u0+x1))∧(∃ x3,(Hp.cell h f_1b f_1o=some (vi x3))∧R (vb (decide (x2≤x3))) h)))
theorem Gj {u0 u1 u2 u3 u4 u5 u6 f_0b f_0o f_1b f_1o h R}(H:Wr u0 u1 u2 u3 u4 u5 u6 f_0b f_0o f_1b f_1o h R):Qa Tryz.prog 173 [vag [vi u0,vi u1,vi u2,vsl u3 u4 u5,vb u6],vhp f_0b f_0o,vhp f_1b f_1o] h R:=
 Qd (cfg:=⟨[],[],[]⟩) Qn mixed Tryz.func173 [.ag [.v (vi u0),.v (vi u1),.v (vi u2),.v (vsl u3 u4 u5),.v (vb u6)],.one (.hp f_0b f_0o),.one (.hp f_1b f_1o)] (by kernel_rfl) rfl (by kernel_rfl) H
def Zf (u0:Option Addr)(u1 u2:Nat)(u3:Value)(h:Hp)(R:Value→Hp→Prop):Prop:=
 (Qa Tryz.prog 74 [vsl u0 u1 u2,u3] h fun v1 h2=>∃ x3,v1=(vi x3)∧(((decide (x3=(-1)))=true→R (vsl u0 u1 u2) h2)∧((decide (x3=(-1)))=false→(∃ x5,(IsW x5 (x3+1))∧(∃(I7:List Value→Hp→Prop) (m8:List Value→Hp→Nat),I7 [vi x3,vi x5] h2∧∀ vs9 h10,I7 vs9 h10→∃ x11 x12,vs9=[vi x11,vi x12]∧(((decide (x12 < (u1:Int)))=true→(let J31:Int→Hp→Prop:=fun x34 h35=>(∃ x36,(IsW x36 (x12+1))∧(I7 [vi x34,vi x36] h35∧m8 [vi x34,vi x36] h35 < m8 vs9 h10));(∃ b15 o16,(u0=some ⟨b15,o16,none⟩∧(0:Int)≤x12∧x12 < (u1:Int))∧(∃ x17 x18 x19 a20 n20 c20 p21,(Hp.row h10 b15 (o16+x12.toNat*5) 5=some [vi x17,vi x18,vi x19,vsl a20 n20 c20,vb p21])∧(ZS Tryz.prog u3 [vag [vi x17,vi x18,vi x19,vsl a20 n20 c20,vb p21]] h10 fun v22 h23=>∃ p24,v22=(vb p24)∧(((!p24)=true→(∃ b25 o26,(u0=some ⟨b25,o26,none⟩∧(0:Int)≤x11∧x11 < (u1:Int))∧(Hp.store h23 b25 (o26+x11.toNat*5) [vi x17,vi x18,vi x19,vsl a20 n20 c20,vb p21] fun h27=>(∃ x28,(IsW x28 (x11+1))∧(J31 x28 h27)))))∧((!p24)=false→(J31 x11 h23))))))))∧((decide (x12 < (u1:Int)))=false→(∃ a37 n37 c37,(Rd Tryz.prog (Instr.sliceAt 128 (vsl u0 u1 u2) (some (vi x11)) none none) h10 (vsl a37 n37 c37))∧(Qm Tryz.prog (Builtin.clear_ #[128] 0 #[vsl a37 n37 c37]) h10 fun v38 h39=>v38=(Qg [])∧(∃ a40 n40 c40,(Rd Tryz.prog (Instr.sliceAt 128 (vsl u0 u1 u2) none (some (vi x11)) none) h39 (vsl a40 n40 c40))∧R (vsl a40 n40 c40) h39))))))))))
theorem Yt {u0 u1 u2 u3 h R}(H:Zf u0 u1 u2 u3 h R):Qa Tryz.prog 172 [vsl u0 u1 u2,u3] h R:=
 Qd (cfg:=⟨[],[(5,([5,6],[.one (.int .i64),.one (.int .i64)],[]))],[]⟩) Qn mixed Tryz.func172 [.one (.v (vsl u0 u1 u2)),.one (.v u3)] (by kernel_rfl) rfl (by kernel_rfl) H
def Qi (r:PR):List Value:=(Qc8 r).enc
theorem Qp (r:PR):(Qi r).length=5:=rfl
theorem Jo (r:PR):∀ u ∈ Qi r,u.oneCell'=true:=QnW _
theorem QhW (R:List PR):∀ u ∈ R.flatMap Qi,u.oneCell'=true:=by
 intro u hu
 obtain⟨r,_,hr⟩:=List.mem_flatMap.1 hu
 exact Jo r u hr
structure Tb (h:Hp)(a:Option Addr)(R:List PR):Prop where
 s:SlP Qi h a R.length R
 i:∀ r ∈ R,Qf h r.a (r.acs.flatMap Yx)
theorem Tb.le {h h':Hp}{a:Option Addr}{R:List PR}(T:Tb h a R)(l:h.le h'):Tb h' a R:=⟨T.s.le l,fun r hr=>(T.i r hr).le l⟩
section
variable {h:Hp}{K':Value→Hp→Prop}{a:Option Addr}{R:List PR}{c:Nat}
theorem Ur (S:SlP Qi h a R.length R)(hn:R.length≤1000000)(hK:∀ a' c' h',Qh h h' 150 5 a' R.length c' (R.flatMap Qi)→K' (vsl a' R.length c') h'):Qa Tryz.prog 171 [vsl a R.length c] h K':=by
 refine YX ?_
 unfold Zv
 refine⟨_,Jj (e:=150) (by kernel_rfl),fun e=>?_,fun e=>?_⟩
 ·have h0:R.flatMap Qi=[]:=by
   rcases S.2 with h1|⟨b,o,ha,_⟩
   ·exact h1
   ·rw [ha] at e;cases e
  have hn0:R=[]:=by
   have:=congrArg List.length h0
   rw [Ql Qp] at this
   exact List.eq_nil_of_length_eq_zero (by simp at this;omega)
  subst hn0
  exact hK none 0 h (Qh.nil (Hp.le_refl h) _ _)
 ·intro b3 hb3 h4
  have O0:Qh h h4 150 5 (some ⟨b3,0,none⟩) 0 0 []:=Qh.mk_new (Hp.le_refl h) hb3 _ [] rfl (by simp [maxLen])
  refine Qh.append Qcl O0 (S.le (Hp.le_set (Hp.le_refl h) hb3 _)).2 (Ql Qp R) (QhW R) (by omega) (by omega) fun a' c' h' O' _ _=>⟨_,_,_,rfl,?_⟩
  rw [Nat.zero_add,List.nil_append] at *
  exact hK a' c' h' O'
theorem QiR {l:List AcS}(S:Qf h a (l.flatMap Yx))(hn:l.length≤1000000)(hK:∀ a' c' h',Qo8 h h' a' c' l→K' (vsl a' l.length c') h'):Qa Tryz.prog 217 [vsl a l.length c] h K':=by
 refine Y0 ?_
 unfold Zw
 refine⟨_,Jj (e:=155) (by kernel_rfl),fun e=>?_,fun e=>?_⟩
 ·have h0:l.flatMap Yx=[]:=by
   rcases S with h1|⟨b,o,ha,_⟩
   ·exact h1
   ·rw [ha] at e;cases e
  have hn0:l=[]:=by
   have:=congrArg List.length h0
   rw [Ql YB] at this
   exact List.eq_nil_of_length_eq_zero (by simp at this;omega)
  subst hn0
  exact hK none 0 h (Qh.nil (Hp.le_refl h) _ _)
 ·intro b3 hb3 h4
  have O0:Qh h h4 155 4 (some ⟨b3,0,none⟩) 0 0 []:=Qh.mk_new (Hp.le_refl h) hb3 _ [] rfl (by simp [maxLen])
  have h1:∀ u ∈ l.flatMap Yx,u.oneCell'=true:=by
   intro u hu
   obtain⟨r,_,hr⟩:=List.mem_flatMap.1 hu
   exact QkZ r u hr
  refine Qh.append Qoz O0 (S.le (Hp.le_set (Hp.le_refl h) hb3 _)) (Ql YB l) h1 (by omega) (by omega) fun a' c' h' O' _ _=>⟨_,_,_,rfl,?_⟩
  rw [Nat.zero_add,List.nil_append] at *
  exact hK a' c' h' O'
theorem Qam {fv:Value}{p:PR→Bool}(S:SlP Qi h a R.length R)(hn:R.length≤1000000)(hf:∀ r ∈ R,∀ K2:Value→Hp→Prop,K2 (vb (p r)) h→ZS Tryz.prog fv [vag (Qi r)] h K2)
  (hy:∀(i:Nat) (r:PR),R[i]?=some r→p r=true→(∀ x ∈ R.take i,p x=false)→K' (vi i) h) (hno:(∀ r ∈ R,p r=false)→K' (vi (-1)) h):Qa Tryz.prog 74 [vsl a R.length c,fv] h K':=by
 refine Yy ?_
 unfold Zh
 refine⟨fun vs hh=>hh=h∧∃ i:Nat,vs=[vi i]∧i≤R.length∧∀ r ∈ R.take i,p r=false,fun vs hh=>R.length - (Qr vs 0).toNat,⟨rfl,0,rfl,Nat.zero_le _,by simp⟩,?_⟩
 rintro vs hh ⟨rfl,i,rfl,hi,hz⟩
 refine⟨i,rfl,fun e=>?_,fun e=>?_⟩
 ·have hlt:i < R.length:=by have:=of_decide_eq_true e;omega
  have hx:R[i]?=some R[i]:=List.getElem?_eq_getElem hlt
  have tk:R.take (i+1)=R.take i++[R[i]]:=List.take_succ_eq_append_getElem hlt
  obtain⟨b,o,ea,hr⟩:=S.get Qp (by decide) hx
  refine⟨b,o,⟨ea,by omega,by omega⟩,_,_,_,_,_,_,_,by rw [Int.toNat_natCast];exact hr,hf _ (List.getElem_mem hlt) _ ⟨_,rfl,fun e2=>hy i _ hx e2 hz,fun e2=>?_⟩⟩
  refine⟨_,isW (by unfold InR;omega),⟨rfl,i+1,rfl,by omega,fun r hr=>?_⟩,by simp [Qr];omega⟩
  rw [tk] at hr
  rcases List.mem_append.1 hr with h3|h3
  ·exact hz r h3
  ·rw [List.mem_singleton.1 h3];exact e2
 ·have hge:i=R.length:=by have:=of_decide_eq_false e;omega
  refine hno ?_
  rw [hge,List.take_length] at hz
  exact hz
theorem Qfx {h0:Hp}{x:PR}{i b:Nat}(O:Qh h0 h 150 5 a R.length c (R.flatMap Qi))(hn:R.length≤1000000)(hi:i≤R.length)(hb:h b=some (Qb (Qi x) 150))(hab:a≠some ⟨b,0,none⟩)
  (hK:∀ a' c' h',Qh h0 h' 150 5 a' (R.length+1) c' ((R.take i++x :: R.drop i).flatMap Qi)→K' (vsl a' (R.length+1) c') h'):Qa Tryz.prog 216 [vsl a R.length c,vi i,vsl (some ⟨b,0,none⟩) 1 1] h K':=by
 refine YT ?_
 unfold Zr
 have hT:Tryz.prog.underlying 128=some (.slice 150):=by kernel_rfl
 have hI:(Tryz.prog.info? 150).isSome=true:=by kernel_rfl
 have hS:(Tryz.prog.info? 150).map (·.size)=some 5:=by kernel_rfl
 have hsz:szT Tryz.prog 150=5:=by kernel_rfl
 have hcap:=O.own.cap
 have hHv:Qf h (some ⟨b,0,none⟩) (Qi x):=.inr ⟨b,0,rfl,QT hb (by simp)⟩
 have hA:((R.take i).flatMap Qi).length=i*5:=by rw [Ql Qp,List.length_take,Nat.min_eq_left hi]
 have hD:((R.drop i).flatMap Qi).length=(R.length - i)*5:=by rw [Ql Qp,List.length_drop]
 have hAD:R.flatMap Qi=(R.take i).flatMap Qi++(R.drop i).flatMap Qi:=by rw [←List.flatMap_append,List.take_append_drop]
 have hres:(R.take i++x :: R.drop i).flatMap Qi=(R.take i).flatMap Qi++(Qi x++(R.drop i).flatMap Qi):=by rw [List.flatMap_append,List.flatMap_cons]
 rw [hres] at hK
 have S:SlP Qi h a R.length R:=⟨rfl,O.row⟩
 have rdl:=fun(n c:Nat) (a:Option Addr) (x:Nat) (hh:Hp) (h1:x≤n)=>YM (P:=Tryz.prog) (h:=hh) (t:=128) (e:=150) hT hI (a:=a) (n:=n) (c:=c) (x:=(x:Int)) (by omega) (by omega)
 have rdh:=fun(n c:Nat) (a:Option Addr) (x:Nat) (hh:Hp) (h1:x≤c)=>WE (P:=Tryz.prog) (h:=hh) (t:=128) (e:=150) hT hI (a:=a) (n:=n) (c:=c) (x:=(x:Int)) (by omega) (by omega)
 simp only [Int.toNat_natCast,hsz] at rdl rdh
 have cutG:∀(g x c:Nat),c≠x→MK (some ⟨g,0,none⟩) x c 5=some ⟨g,x*5,none⟩:=by
  intro g x c hne
  unfold MK
  rw [if_neg hne]
  simp only [Option.map_some,Addr.add]
  split
  ·rename_i h0;simp [h0]
  ·simp
 refine⟨_,_,_,rdl R.length c a i h hi,fun e=>absurd (of_decide_eq_true e) (by decide),fun _=>⟨fun e=>?_,fun e=>?_⟩⟩
 ·have hie:i=R.length:=by have:=of_decide_eq_true e;omega
  refine Qh.append Qcl O (m:=1) hHv rfl (Jo x) (by omega) (by omega) fun a' c' h' O' _ _=>⟨_,_,_,rfl,hK a' c' h' ?_⟩
  subst hie
  rw [List.take_length,List.drop_length]
  simpa using O'
 ·have hlt:i < R.length:=by have:=of_decide_eq_false e;omega
  have hDne:(R.drop i).flatMap Qi≠[]:=by
   intro e2
   rw [e2] at hD
   simp at hD
   omega
  refine⟨_,isW (by unfold InR;omega),_,Qq2 hT,fun e2=>?_,fun e2=>?_⟩
  ·have hgt:c < R.length+1:=by have:=of_decide_eq_true e2;omega
   refine⟨_,_,_,rdh R.length c a i h (by omega),_,isW (by unfold InR;omega),_,isW (by unfold InR;omega),?_⟩
   have e3:((R.length:Int)+((1:Nat):Int) - (i:Int))=((R.length+1 - i:Nat):Int):=by omega
   rw [e3]
   have hz:(XG Tryz.prog 150).map Qq=some [vi 0,vi 0,vi 0,vsl none 0 0,vb false]:=by kernel_rfl
   refine QcK Qcl (by kernel_rfl) hz (n:=i) (S.take Qp hi).2 hA (m:=R.length+1 - i) (by omega) (by omega) (by omega) (by omega) fun a14 c14 h13 O13=>⟨_,_,_,rfl,?_⟩
   have hnn:i+(R.length+1 - i)=R.length+1:=by omega
   rw [hnn] at O13 ⊢
   have hc14:=O13.own.cap
   obtain⟨g,L14,rfl,hg14,_⟩:=O13.blk (by omega) (by decide)
   have hZ:((List.replicate (R.length+1 - i) [vi 0,vi 0,vi 0,vsl none 0 0,vb false]).flatten).length=(R.length+1 - i)*5:=by rw [List.length_flatten];simp
   generalize hZe:(List.replicate (R.length+1 - i) [vi 0,vi 0,vi 0,vsl none 0 0,vb false]).flatten=Z at O13 hZ
   have hga:h g=none:=O13.new g rfl
   refine⟨_,_,_,rdl (R.length+1) c14 _ i h13 (by omega),?_⟩
   rw [cutG g i c14 (by omega)]
   refine Qh.copy hT hS O13 rfl (hHv.le O13.le) (by rw [Qp,show Nat.min 1 (R.length+1 - i)=1 from Nat.min_eq_left (by omega)]) (by rw [Qp];omega) (Jo x) (by simp [Qi,D.PRow.enc]) fun h17 O17 k17=>⟨_,rfl,_,isW (by unfold InR;omega),?_⟩
   have e4:((i:Int)+((1:Nat):Int))=((i+1:Nat):Int):=by omega
   rw [e4]
   refine⟨_,_,_,rdl (R.length+1) c14 _ (i+1) h17 (by omega),_,_,_,rdl R.length c a i h17 hi,?_⟩
   rw [cutG g (i+1) c14 (by omega)]
   have l17:h.le h17:=O17.le
   refine Qh.copy hT hS O17 rfl (((S.drop Qp hi hcap).le l17).2) (by rw [hD];congr 1;simp only [Nat.min_def];split<;>omega) (by rw [hD];omega) (QhW _) hDne fun h23 O23 _=>⟨_,rfl,?_⟩
   refine hK _ _ h23 ?_
   have s1:QM ((R.take i).flatMap Qi++Z) (i*5) (Qi x)=(R.take i).flatMap Qi++(Qi x++Z.drop 5):=by
    have:=XD ((R.take i).flatMap Qi) Z 0 (Qi x)
    rw [Nat.add_zero,hA] at this
    rw [this]
    simp [QM,Qp]
   have s2:QM ((R.take i).flatMap Qi++(Qi x++Z.drop 5)) ((i+1)*5) ((R.drop i).flatMap Qi)=(R.take i).flatMap Qi++(Qi x++(R.drop i).flatMap Qi):=by
    have h1:=XD ((R.take i).flatMap Qi) (Qi x++Z.drop 5) 5 ((R.drop i).flatMap Qi)
    have h2:=XD (Qi x) (Z.drop 5) 0 ((R.drop i).flatMap Qi)
    rw [Nat.add_zero,Qp] at h2
    rw [hA,show i*5+5=(i+1)*5 by omega] at h1
    rw [h1,h2]
    congr 2
    unfold QM
    have h3:(Z.drop 5).drop (0+((R.drop i).flatMap Qi).length)=[]:=List.drop_eq_nil_of_le (by rw [List.length_drop,hZ,hD];omega)
    rw [List.take_zero,List.nil_append,h3,List.append_nil]
   rw [s1,s2] at O23
   exact O23.trans O.le
  ·have hle:R.length+1≤c:=by have:=of_decide_eq_false e2;omega
   obtain⟨Y,hY,O1⟩:=Qh.grow O (m:=R.length+1) (by omega) hle
   obtain⟨g,L0,ha,hg,hL0⟩:=O.blk (by omega) (by decide)
   subst ha
   have e3:((R.length:Int)+((1:Nat):Int))=((R.length+1:Nat):Int):=by omega
   have e4:((i:Int)+((1:Nat):Int))=((i+1:Nat):Int):=by omega
   have hbg:b≠g:=fun e=>hab (by rw [e])
   refine⟨_,isW (by unfold InR;omega),?_⟩
   rw [e3]
   refine⟨_,_,_,rdh R.length c _ (R.length+1) h hle,_,isW (by unfold InR;omega),?_⟩
   rw [e4]
   refine⟨_,_,_,rdl (R.length+1) c _ (i+1) h (by omega),?_⟩
   rw [cutG g (i+1) c (by omega)]
   refine QiJ (tR:=4) Tryz.func252 (by kernel_rfl) (by kernel_rfl) (by kernel_rfl) (by kernel_rfl) hT hI hbg hb hg hL0 ⟨_,rfl,fun _=>?_,fun e=>absurd e (by decide)⟩
   refine⟨_,isW (by unfold InR;omega),?_⟩
   refine⟨_,_,_,rdl (R.length+1) c _ (i+1) h (by omega),_,_,_,rdl (R.length+1) c _ i h (by omega),?_⟩
   rw [cutG g (i+1) c (by omega),cutG g i c (by omega)]
   have hsrc:=(S.drop Qp hi hcap).2
   rw [cutG g i c (by omega)] at hsrc
   refine Qh.copy hT hS O1 rfl hsrc (by rw [hD];congr 1;simp only [Nat.min_def];split<;>omega) (by rw [hD];omega) (QhW _) hDne fun h37 O37 k37=>⟨_,rfl,?_⟩
   refine⟨_,_,_,rdl (R.length+1) c _ i h37 (by omega),?_⟩
   rw [cutG g i c (by omega)]
   have hHv37:Qf h37 (some ⟨b,0,none⟩) (Qi x):=.inr ⟨b,0,rfl,QT (k37 b _ hbg hb) (by simp)⟩
   refine Qh.copy hT hS O37 rfl hHv37 (by rw [Qp,show Nat.min 1 (R.length+1 - i)=1 from Nat.min_eq_left (by omega)]) (by rw [Qp];omega) (Jo x) (by simp [Qi,D.PRow.enc]) fun h41 O41 _=>⟨_,rfl,?_⟩
   refine hK _ _ h41 ?_
   have hY5:Y.length=5:=by rw [hY];omega
   have s1:QM (R.flatMap Qi++Y) ((i+1)*5) ((R.drop i).flatMap Qi)=(R.take i).flatMap Qi++(((R.drop i).flatMap Qi++Y).take 5++(R.drop i).flatMap Qi):=by
    have h1:=XD ((R.take i).flatMap Qi) ((R.drop i).flatMap Qi++Y) 5 ((R.drop i).flatMap Qi)
    rw [hA,show i*5+5=(i+1)*5 by omega,←List.append_assoc,←hAD] at h1
    rw [h1]
    congr 1
    unfold QM
    have h3:((R.drop i).flatMap Qi++Y).drop (5+((R.drop i).flatMap Qi).length)=[]:=List.drop_eq_nil_of_le (by rw [List.length_append,hY5];omega)
    rw [h3,List.append_nil]
   have s2:QM ((R.take i).flatMap Qi++(((R.drop i).flatMap Qi++Y).take 5++(R.drop i).flatMap Qi)) (i*5) (Qi x)=(R.take i).flatMap Qi++(Qi x++(R.drop i).flatMap Qi):=by
    have h1:=XD ((R.take i).flatMap Qi) (((R.drop i).flatMap Qi++Y).take 5++(R.drop i).flatMap Qi) 0 (Qi x)
    rw [Nat.add_zero,hA] at h1
    rw [h1]
    congr 1
    unfold QM
    have h5:(((R.drop i).flatMap Qi++Y).take 5).length=5:=by rw [List.length_take,List.length_append,hY5];omega
    rw [List.take_zero,List.nil_append,Nat.zero_add,Qp,List.drop_left' h5]
   rw [s1,s2] at O41
   exact O41
end
theorem QcW {h:Hp}{b i:Nat}{xs:List Value}{t:TypeId}{v:Value}(hv:xs[i]?=some v):Hp.cell (h.set b (Qb xs t)) b i=some v:=by
 unfold Hp.cell
 rw [Hp.set_same]
 simpa using hv
def Qj8 (a k:PK):Int:=if QaC a.1 k.1≠0 then QaC a.1 k.1 else QmR a.2 k.2
theorem Qmo (a k:PK):Qj8 a k < 0↔Qs a k:=by
 unfold Qj8 Qs QmR QaC
 repeat' split
 all_goals omega
theorem Qps (a k:PK):Qj8 a k=0↔a=k:=by
 obtain⟨a1,a2,a3⟩:=a
 obtain⟨k1,k2,k3⟩:=k
 rw [Prod.mk.injEq,Prod.mk.injEq]
 unfold Qj8 QmR QaC
 simp only
 repeat' split
 all_goals omega
section
variable {h:Hp}{K':Value→Hp→Prop}{a:Option Addr}{R:List PR}{c:Nat}
theorem Qo1 {r:PR}{k:PK}{b:Nat}(h1:h.cell b 0=some (vi k.1))(hK:∀ h',h.le h'→K' (vi (Qj8 r.k k)) h'):Qa Tryz.prog 251 [vag (Qi r),vag (Qw k.2),vhp b 0] h K':=by
 refine Gk ?_
 unfold Wh
 refine⟨_,h1,Jy ⟨_,rfl,QcU fun h6 l6=>⟨_,rfl,?_⟩⟩⟩
 intro b8 hb8 h9
 refine Qfh (x:=QaC r.k.1 k.1) (y:=QmR r.k.2 k.2) ⟨rfl,Qf.new _ _ [vi (QaC r.k.1 k.1),vi (QmR r.k.2 k.2)] _⟩ ⟨_,rfl,?_⟩
 exact hK _ (Hp.le_trans l6 (Hp.le_set (Hp.le_refl h6) hb8 _))
theorem Qfu {k:PK}{b:Nat}(S:SlP Qi h a R.length R)(hn:R.length≤1000000)(hs:(R.map (·.k)).Pairwise Qs)(h1:h.cell b 0=some (vi k.1))
  (hK:∀(i:Nat) (is:Bool) (h':Hp),h.le h'→i≤R.length→(∀ x ∈ R.take i,Qs x.k k)→(∀ x,R[i]?=some x→¬ Qs x.k k)→(is=true↔∃ x,R[i]?=some x∧x.k=k)→K' (Qg [vi i,vb is]) h') :
  Qa Tryz.prog 250 [vsl a R.length c,vag (Qw k.2),Value.func (.func 251) #[] #[vhp b 0]] h K':=by
 refine Zn ?_
 unfold QG
 have inv:∀(r:PR) (hh:Hp) (K2:Value→Hp→Prop),h.le hh→(∀ h',hh.le h'→K2 (vi (Qj8 r.k k)) h')→ZS Tryz.prog (Value.func (.func 251) #[] #[vhp b 0]) [vag (Qi r),vag (Qw k.2)] hh K2:=by
  intro r hh K2 l hk
  exact⟨251,#[],#[vhp b 0],rfl,⟨_,Tryz.func251,by kernel_rfl,rfl⟩,Qo1 (Hp.cell_le l h1) hk⟩
 have mono:∀{i j:Nat} {x y:PR},i < j→R[i]?=some x→R[j]?=some y→Qs x.k y.k:=by
  intro i j x y hij hx hy
  obtain⟨hi,ex⟩:=List.getElem?_eq_some_iff.1 hx
  obtain⟨hj,ey⟩:=List.getElem?_eq_some_iff.1 hy
  have:=List.pairwise_iff_getElem.1 hs i j (by simpa using hi) (by simpa using hj) hij
  simpa [ex,ey] using this
 refine⟨fun vs hh=>∃ i j:Nat,vs=[vi i,vi j]∧i≤j∧j≤R.length∧h.le hh∧(∀ m x,m < i→R[m]?=some x→Qs x.k k)∧(∀ m x,j≤m→R[m]?=some x→¬ Qs x.k k),fun vs hh=>(Qr vs 1 - Qr vs 0).toNat,⟨0,R.length,rfl,Nat.zero_le _,Nat.le_refl _,Hp.le_refl h,fun m x hm _=>absurd hm (Nat.not_lt_zero _),fun m x hm hx=>absurd (List.getElem?_eq_some_iff.1 hx).1 (by omega)⟩,?_⟩
 rintro vs hh ⟨i,j,rfl,hij,hj,lh,hlo,hhi⟩
 refine⟨i,j,rfl,fun e=>?_,fun e=>?_⟩
 ·have hlt:i < j:=by have:=of_decide_eq_true e;omega
  have hw:IntKind.wrap .u64 ((i:Int)+(j:Int))=((i+j:Nat):Int):=by
   rw [IntKind.wrap_u64]
   omega
  refine⟨(i:Int)+(j:Int),isW (by unfold InR;omega),((i+j:Nat):Int) / 2 ^ 1,?_,?_⟩
  ·rw [hw]
   exact Qqf (j:=1) (by decide) (by omega)
  have hm:IntKind.wrap .i64 (((i+j:Nat):Int) / 2 ^ 1)=(((i+j) / 2:Nat):Int):=by
   rw [IntKind.wrap_i64]
   omega
  rw [hm]
  have hm1:i≤(i+j) / 2:=by omega
  have hm2:(i+j) / 2 < j:=by omega
  generalize (i+j) / 2=m at hm1 hm2
  have hx:R[m]?=some (R[m]'(by omega)):=List.getElem?_eq_getElem (by omega)
  obtain⟨b2,o2,ea,hr⟩:=(S.le lh).get Qp (by decide) hx
  generalize R[m]'(by omega)=r at hx hr
  refine⟨b2,o2,⟨ea,by omega,by omega⟩,_,_,_,_,_,_,_,by rw [Int.toNat_natCast];exact hr,inv r hh _ lh fun h20 l20=>⟨_,rfl,fun e2=>?_,fun e2=>?_⟩⟩
  ·have hah:=(Qmo r.k k).1 (of_decide_eq_true e2)
   refine⟨_,isW (by unfold InR;omega),⟨m+1,j,by simp,by omega,hj,Hp.le_trans lh l20,fun m' x hm' hx'=>?_,hhi⟩,by simp [Qr];omega⟩
   rcases Nat.lt_or_ge m' m with h5|h5
   ·exact XX (mono h5 hx' hx) hah
   ·have:m'=m:=by omega
    subst this
    rw [hx] at hx'
    cases hx'
    exact hah
  ·have hna:¬ Qs r.k k:=fun q=>of_decide_eq_false e2 ((Qmo r.k k).2 q)
   refine⟨⟨i,m,rfl,hm1,by omega,Hp.le_trans lh l20,hlo,fun m' x hm' hx'=>?_⟩,by simp [Qr];omega⟩
   rcases Nat.eq_or_lt_of_le hm' with h5|h5
   ·subst h5
    rw [hx] at hx'
    cases hx'
    exact hna
   ·intro q
    exact hna (XX (mono h5 hx hx') q)
 ·have hge:i=j:=by have:=of_decide_eq_false e;omega
  subst hge
  have hlo':∀ x ∈ R.take i,Qs x.k k:=by
   intro x hx
   obtain⟨m,hm⟩:=List.getElem?_of_mem hx
   have hml:m < i:=by
    have:=(List.getElem?_eq_some_iff.1 hm).1
    rw [List.length_take] at this
    omega
   rw [List.getElem?_take,if_pos hml] at hm
   exact hlo m x hml hm
  by_cases hlt:i < R.length
  ·have hd:decide (((i:Nat):Int) < ((R.length:Nat):Int))=true:=decide_eq_true (by omega)
   have hx:R[i]?=some R[i]:=List.getElem?_eq_getElem hlt
   obtain⟨b2,o2,ea,hr⟩:=(S.le lh).get Qp (by decide) hx
   generalize R[i]=r at hx hr
   refine⟨b2,o2,fun _=>⟨ea,by omega,by omega⟩,_,_,_,_,_,_,_,fun _=>by rw [Int.toNat_natCast];exact hr,?_⟩
   refine⟨fun x hh'=>hh.le hh'∧x=.t (.one (.v (vi (Qj8 r.k k)))),fun _=>inv r hh _ lh fun h' l'=>⟨_,rfl,l',rfl⟩,fun q=>absurd hd q,?_⟩
   rintro h34 x35 ⟨l34,e35⟩
   cases e35
   rw [hd]
   refine hK i _ h34 (Hp.le_trans lh l34) hj hlo' (fun x hx'=>hhi i x (Nat.le_refl _) hx') ?_
   show decide (Qj8 r.k k=0)=true↔_
   rw [decide_eq_true_iff,Qps]
   constructor
   ·intro q;exact⟨r,hx,q⟩
   ·rintro⟨x,hx',q⟩
    rw [hx] at hx'
    cases hx'
    exact q
  ·have hd:decide (((i:Nat):Int) < ((R.length:Nat):Int))=false:=decide_eq_false (by omega)
   refine⟨0,0,fun q=>(by rw [hd] at q;cases q),0,0,0,none,0,0,false,fun q=>(by rw [hd] at q;cases q),?_⟩
   refine⟨fun x hh'=>hh'=hh,fun q=>(by rw [hd] at q;cases q),fun _=>rfl,?_⟩
   rintro h34 x35 rfl
   rw [hd]
   refine hK i _ h34 lh hj hlo' (fun x hx'=>hhi i x (Nat.le_refl _) hx') ?_
   constructor
   ·intro q;cases q
   ·rintro⟨x,hx',q⟩
    exact absurd (List.getElem?_eq_some_iff.1 hx').1 hlt
theorem Qga {k:PK}(S:SlP Qi h a R.length R)(hn:R.length≤1000000)(hs:(R.map (·.k)).Pairwise Qs)
  (hK:∀(i:Nat) (is:Bool) (h':Hp),h.le h'→i≤R.length→(∀ x ∈ R.take i,Qs x.k k)→(∀ x,R[i]?=some x→¬ Qs x.k k)→(is=true↔∃ x,R[i]?=some x∧x.k=k)→K' (Qg [vi i,vb is]) h') :
  Qa Tryz.prog 215 [vag [vsl a R.length c],vi k.1,vag (Qw k.2)] h K':=by
 refine NK ?_
 unfold KO
 intro b1 hb1 h2
 have l2:h.le h2:=Hp.le_set (Hp.le_refl h) hb1 _
 refine Qfu (S.le l2) hn hs (QcW rfl) fun i is h' l' q1 q2 q3 q4=>⟨_,_,rfl,hK i is h' (Hp.le_trans l2 l') q1 q2 q3 q4⟩
theorem Qfk {h0:Hp}{fv:Value}{p:PR→Bool}(O:Qh h0 h 150 5 a R.length c (R.flatMap Qi))(hn:R.length≤1000000)(hf:∀(hh:Hp) (r:PR),h0.le hh→∀ K2:Value→Hp→Prop,r ∈ R→K2 (vb (p r)) hh→ZS Tryz.prog fv [vag (Qi r)] hh K2)
  (hK:∀ h',h0.le h'→SlP Qi h' a (R.filter fun r=>!p r).length (R.filter fun r=>!p r)→K' (vsl a (R.filter fun r=>!p r).length c) h'):Qa Tryz.prog 172 [vsl a R.length c,fv] h K':=by
 refine Yt ?_
 unfold Zf
 have S:SlP Qi h a R.length R:=⟨rfl,O.row⟩
 have hT:Tryz.prog.underlying 128=some (.slice 150):=by kernel_rfl
 have hI:(Tryz.prog.info? 150).isSome=true:=by kernel_rfl
 have hsz:szT Tryz.prog 150=5:=by kernel_rfl
 have hcap:=O.own.cap
 refine Qam (p:=p) S hn (fun r hr K2 hk=>hf h r O.le K2 hr hk) (fun i0 r0 hr0 hp0 hz=>⟨_,rfl,fun e=>absurd (of_decide_eq_true e) (by omega),fun _=>?_⟩) (fun hno=>⟨_,rfl,fun _=>?_,fun e=>absurd rfl (of_decide_eq_false e)⟩)
 ·have hi0:=(List.getElem?_eq_some_iff.1 hr0).1
  have tk0:R.take (i0+1)=R.take i0++[r0]:=by rw [List.take_succ_eq_append_getElem hi0,(List.getElem?_eq_some_iff.1 hr0).2]
  have f0:(R.take (i0+1)).filter (fun r=>!p r)=R.take i0:=by
   rw [tk0,List.filter_append,List.filter_cons,hp0]
   simp only [Bool.not_true,Bool.false_eq_true,if_false,List.filter_nil,List.append_nil]
   rw [List.filter_eq_self]
   intro x hx
   rw [hz x hx];rfl
  refine⟨_,isW (by unfold InR;omega),?_⟩
  refine⟨fun vs hh=>∃(j:Nat) (Q:List PR),vs=[vi ((R.take j).filter fun r=>!p r).length,vi j]∧i0 < j∧j≤R.length∧Q.length=R.length∧Qh h0 hh 150 5 a R.length c (Q.flatMap Qi)∧Q.take ((R.take j).filter fun r=>!p r).length=(R.take j).filter (fun r=>!p r)∧Q.drop j=R.drop j,fun vs hh=>R.length - (Qr vs 1).toNat,⟨i0+1,R,?_,by omega,hi0,rfl,O,?_,rfl⟩,?_⟩
  ·rw [f0,List.length_take,Nat.min_eq_left (by omega)];simp
  ·rw [f0,List.length_take,Nat.min_eq_left (by omega)]
  rintro vs hh ⟨j,Q,rfl,hij,hj,hQ,OQ,hQ1,hQ2⟩
  have hle:((R.take j).filter fun r=>!p r).length < j:=by
   have h1:R.take j=R.take (i0+1)++(R.take j).drop (i0+1):=by
    have:=(List.take_append_drop (i0+1) (R.take j)).symm
    rw [List.take_take,Nat.min_eq_left (by omega)] at this
    exact this
   rw [h1,List.filter_append,f0,List.length_append,List.length_take]
   have:=List.length_filter_le (fun r=>!p r) ((R.take j).drop (i0+1))
   rw [List.length_drop,List.length_take] at this
   omega
  have SQ:SlP Qi hh a R.length Q:=⟨hQ.symm,OQ.row⟩
  refine⟨_,_,rfl,fun e=>?_,fun e=>?_⟩
  ·have hlt:j < R.length:=by have:=of_decide_eq_true e;omega
   have hx:R[j]?=some R[j]:=List.getElem?_eq_getElem hlt
   have hxQ:Q[j]?=some R[j]:=by
    have:=congrArg (fun l=>l[0]?) hQ2
    simpa [List.getElem?_drop,hx] using this
   have tk:R.take (j+1)=R.take j++[R[j]]:=List.take_succ_eq_append_getElem hlt
   have hmem:=List.getElem_mem hlt
   obtain⟨b,o,ea,hr⟩:=SQ.get Qp (by decide) hxQ
   generalize R[j]=r at *
   have tkf:(R.take (j+1)).filter (fun r=>!p r)=(R.take j).filter (fun r=>!p r)++if p r then [] else [r]:=by
    rw [tk,List.filter_append,List.filter_cons,List.filter_nil]
    cases p r<;>rfl
   generalize hkept:(R.take j).filter (fun r=>!p r)=kept at *
   intro J31
   have hJ:∀(Q2:List PR) (h2:Hp),Q2.length=R.length→Qh h0 h2 150 5 a R.length c (Q2.flatMap Qi)→Q2.take ((R.take (j+1)).filter fun r=>!p r).length=(R.take (j+1)).filter (fun r=>!p r)→Q2.drop (j+1)=R.drop (j+1)→J31 (((R.take (j+1)).filter fun r=>!p r).length:Nat) h2:=by
    intro Q2 h2 q1 q2 q3 q4
    exact⟨_,isW (by unfold InR;omega),⟨j+1,Q2,by simp,by omega,by omega,q1,q2,q3,q4⟩,by simp [Qr];omega⟩
   clear_value J31
   have hd1:Q.drop (j+1)=R.drop (j+1):=by
    have:=congrArg (List.drop 1) hQ2
    rw [List.drop_drop,List.drop_drop] at this
    exact this
   refine⟨b,o,⟨ea,by omega,by omega⟩,_,_,_,_,_,_,_,by rw [Int.toNat_natCast];exact hr,hf hh r OQ.le _ hmem ⟨_,rfl,fun e2=>?_,fun e2=>?_⟩⟩
   ·have hp:p r=false:=by simpa using e2
    rw [hp] at tkf
    simp only [Bool.false_eq_true,if_false] at tkf
    have hki:kept.length < Q.length:=by omega
    have hkx:Q[kept.length]?=some Q[kept.length]:=List.getElem?_eq_getElem hki
    obtain⟨b2,o2,ea2,H2⟩:=Vec.putF (α:=PR) (enc:=Qi) (sz:=5) (T:=150) (h0:=h0) (h:=hh) (a:=a) (c:=c) (l:=Q) Qp (by unfold Vec;rw [hQ];exact OQ) hkx (x':=r) (k:=0) (vs:=Qi r) (by simp [Qi,D.PRow.enc]) (by simp [Qp]) (by simp [QM,Qp,List.drop_of_length_le])
    refine⟨b2,o2,⟨ea2,by omega,by omega⟩,?_⟩
    rw [Int.toNat_natCast]
    refine H2 _ fun h27 V27 _=>⟨_,isW (by unfold InR;omega),?_⟩
    have e5:((kept.length:Int)+1)=((((R.take (j+1)).filter fun r=>!p r).length:Nat):Int):=by rw [tkf];simp
    rw [e5]
    unfold Vec at V27
    rw [List.length_set,hQ] at V27
    refine hJ _ h27 (by rw [List.length_set];exact hQ) V27 ?_ ?_
    ·rw [tkf,List.length_append,List.length_singleton,List.take_succ_eq_append_getElem (by rw [List.length_set];exact hki),List.getElem_set_self,List.take_set_of_le (Nat.le_refl _),hQ1]
    ·rw [List.drop_set_of_lt (by omega),hd1]
   ·have hp:p r=true:=by simpa using e2
    rw [hp] at tkf
    simp only [if_true,List.append_nil] at tkf
    have:=hJ Q hh hQ OQ (by rw [tkf];exact hQ1) hd1
    rw [tkf] at this
    exact this
  ·have hge:j=R.length:=by have:=of_decide_eq_false e;omega
   subst hge
   rw [List.take_length] at hQ1 hle ⊢
   generalize hkept:R.filter (fun r=>!p r)=kept at *
   have rdl:=YM (P:=Tryz.prog) (h:=hh) (t:=128) (e:=150) hT hI (a:=a) (n:=R.length) (c:=c) (x:=(kept.length:Int)) (by omega) (by omega)
   rw [Int.toNat_natCast,hsz] at rdl
   refine⟨_,_,_,rdl,?_⟩
   obtain⟨g,L,rfl,hg,_⟩:=OQ.blk (by omega) (by decide)
   have hcut:MK (some ⟨g,0,none⟩) kept.length c 5=some ⟨g,kept.length*5,none⟩:=by
    unfold MK
    rw [if_neg (by omega)]
    simp only [Option.map_some,Addr.add]
    split
    ·rename_i h0';simp [h0']
    ·simp
   rw [hcut]
   have hz:(XG Tryz.prog 150).map Qq=some [vi 0,vi 0,vi 0,vsl none 0 0,vb false]:=by kernel_rfl
   refine Qh.clear Qcl hz (by intro u hu;simp at hu;rcases hu with rfl|rfl|rfl|rfl|rfl<;>rfl) rfl OQ rfl (by omega) (by omega) fun h39 O39=>⟨rfl,?_⟩
   have rdh:=WE (P:=Tryz.prog) (h:=h39) (t:=128) (e:=150) hT hI (a:=some ⟨g,0,none⟩) (n:=R.length) (c:=c) (x:=(kept.length:Int)) (by omega) (by omega)
   rw [Int.toNat_natCast] at rdh
   refine⟨_,_,_,rdh,hK h39 O39.le ⟨rfl,?_⟩⟩
   have:=O39.own.cut (m:=kept.length) (by omega)
   have e6:(QM (Q.flatMap Qi) (kept.length*5) ((List.replicate (R.length - kept.length) [vi 0,vi 0,vi 0,vsl none 0 0,vb false]).flatten)).take (kept.length*5)=kept.flatMap Qi:=by
    have hl1:((Q.flatMap Qi).take (kept.length*5)).length=kept.length*5:=by rw [List.length_take,Ql Qp];omega
    unfold QM
    rw [List.append_assoc,List.take_append_of_le_length (by rw [hl1];exact Nat.le_refl _),List.take_of_length_le (by rw [hl1];exact Nat.le_refl _)]
    have h7:(Q.take kept.length).flatMap Qi=(Q.flatMap Qi).take (kept.length*5):=by
     have h8:Q.flatMap Qi=(Q.take kept.length).flatMap Qi++(Q.drop kept.length).flatMap Qi:=by rw [←List.flatMap_append,List.take_append_drop]
     rw [h8,List.take_left' (by rw [Ql Qp,List.length_take];omega)]
    rw [←h7,hQ1]
   rw [e6] at this
   exact this.row
 ·have e:R.filter (fun r=>!p r)=R:=by
   rw [List.filter_eq_self]
   intro x hx
   rw [hno x hx];rfl
  rw [e] at hK
  exact hK h O.le S
theorem QgS {size upto:Int}(T:Tb h a R)(hn:R.length≤1000000)(hb:∀ r ∈ R,InR (r.k.1+size))
  (hK:∀ a' c' h',h.le h'→Tb h' a' (R.filter fun r=>!decide (r.k.1+size≤upto))→K' (vag [vsl a' (R.filter fun r=>!decide (r.k.1+size≤upto)).length c']) h'):Qa Tryz.prog 114 [vag [vsl a R.length c],vi size,vi upto] h K':=by
 refine NB ?_
 unfold KV
 intro b1 hb1 h2 b3 hb3 h4
 have l2:h.le h2:=Hp.le_set (Hp.le_refl h) hb1 _
 have l4:h2.le h4:=Hp.le_set (Hp.le_refl h2) hb3 _
 have c1:h4.cell b1 0=some (vi size):=Hp.cell_le l4 (QcW rfl)
 have c3:h4.cell b3 0=some (vi upto):=QcW rfl
 clear_value h4
 clear_value h2
 have l04:=Hp.le_trans l2 l4
 refine Ur (T.le l04).s hn fun a' c' h6 O6=>⟨_,_,_,rfl,?_⟩
 refine Qfk (p:=fun r=>decide (r.k.1+size≤upto)) O6 hn (fun hh r lh K2 hr hk=>?_) fun h9 l9 S9=>⟨_,_,_,rfl,hK _ _ h9 (Hp.le_trans l04 l9) ⟨S9,fun r hr=>(T.i r (List.mem_filter.1 hr).1).le (Hp.le_trans l04 l9)⟩⟩
 refine⟨173,#[],#[vhp b1 0,vhp b3 0],rfl,⟨_,Tryz.func173,by kernel_rfl,rfl⟩,?_⟩
 refine Gj ?_
 unfold Wr
 exact⟨_,Hp.cell_le lh c1,_,isW (hb r hr),_,Hp.cell_le lh c3,hk⟩
end
def QjV (size upto:Int)(r:PR):Bool:=decide (r.k.1+size≤upto)
def Zs (size upto:Int)(r:PR):PR:={ r with t:=r.t||QjV size upto r }
def Yh (size upto:Int)(r:PR):Bool:=!r.t&&QjV size upto r
def Q8 (r:PR):PR:={ r with t:=true }
section
variable {h:Hp}{K':Value→Hp→Prop}{a:Option Addr}{R:List PR}{c:Nat}
theorem Qh.apart {h0 h h':Hp}{e:TypeId}{sz n c:Nat}{a:Option Addr}{xs:List Value}(O:Qh h0 h e sz a n c xs)(l:h0.le h')(hk:∀ b o,a=some ⟨b,0,none⟩→h b=some o→h' b=some o):Qh h0 h' e sz a n c xs:=
 ⟨l,O.own.keep fun g o hg ho=>hk g o hg ho,O.new⟩
theorem Qh.self {h0 h:Hp}{e:TypeId}{sz n c:Nat}{a:Option Addr}{xs:List Value}(O:Qh h0 h e sz a n c xs):∃ hB:Hp,h0.le hB∧Qh hB h e sz a n c xs∧∀ b o,a≠some ⟨b,0,none⟩→h b=some o→hB b=some o:=by
 have e1:∀ b,a=some ⟨b,0,none⟩→(fun b=>if a=some ⟨b,0,none⟩ then none else h b:Hp) b=none:=fun b hb=>if_pos hb
 have e2:∀ b,¬ a=some ⟨b,0,none⟩→(fun b=>if a=some ⟨b,0,none⟩ then none else h b:Hp) b=h b:=fun b hb=>if_neg hb
 generalize (fun b=>if a=some ⟨b,0,none⟩ then none else h b:Hp)=hB at e1 e2
 refine⟨hB,fun b o ho=>?_,⟨fun b o ho=>?_,O.own,e1⟩,fun b o hn ho=>(e2 b hn).trans ho⟩
 ·have:¬ a=some ⟨b,0,none⟩:=fun q=>by rw [O.new b q] at ho;cases ho
  exact(e2 b this).trans (O.le b o ho)
 ·by_cases hq:a=some ⟨b,0,none⟩
  ·rw [e1 b hq] at ho;cases ho
  ·rw [e2 b hq] at ho;exact ho
theorem Qf.over {h h':Hp}{a:Option Addr}{xs:List Value}(H:Qf h a xs)(hk:∀ b o ob,a=some ⟨b,o,none⟩→h b=some ob→h' b=some ob):Qf h' a xs:=by
 rcases H with q|⟨b,o,q,hrw⟩
 ·exact .inl q
 ·refine .inr ⟨b,o,q,?_⟩
  unfold Hp.row at hrw ⊢
  cases hq:h b with
  | none=>rw [hq] at hrw;cases hrw
  | some ob=>rw [hk b o ob q hq];rw [hq] at hrw;exact hrw
theorem QgM {size upto:Int}(T:Tb h a R)(hn:R.length≤1000000)(hb:∀ r ∈ R,InR (r.k.1+size))
  (hK:∀ a' c' a2 c2 h',h.le h'→Tb h' a' (R.map (Zs size upto))→Tb h' a2 ((R.filter (Yh size upto)).map Q8)→K' (Qg [vag [vsl a' R.length c'],vsl a2 ((R.filter (Yh size upto)).map Q8).length c2]) h'):Qa Tryz.prog 113 [vag [vsl a R.length c],vi size,vi upto] h K':=by
 refine NL ?_
 unfold KT
 refine Ur T.s hn fun a3 c3 h2 O2=>⟨_,_,_,rfl,?_⟩
 refine⟨fun vs hh=>∃(i:Nat) (a9:Option Addr) (c9:Nat),vs=[vsl a9 (((R.take i).filter (Yh size upto)).map Q8).length c9,vi i]∧i≤R.length∧Qh h hh 150 5 a3 R.length c3 (((R.take i).map (Zs size upto)++R.drop i).flatMap Qi)∧Qh h hh 150 5 a9 (((R.take i).filter (Yh size upto)).map Q8).length c9 ((((R.take i).filter (Yh size upto)).map Q8).flatMap Qi)∧∀ g,a9=some ⟨g,0,none⟩→a3≠some ⟨g,0,none⟩,fun vs hh=>R.length - (Qr vs 1).toNat,⟨0,none,0,rfl,Nat.zero_le _,by simpa using O2,Qh.nil O2.le _ _,fun g hg=>by cases hg⟩,?_⟩
 rintro vs hh ⟨i,a9,c9,rfl,hi,OA,OB,hap⟩
 refine⟨a9,_,c9,_,rfl,fun e=>?_,fun e=>?_⟩
 ·have hlt:i < R.length:=by have:=of_decide_eq_true e;omega
  have hx:R[i]?=some R[i]:=List.getElem?_eq_getElem hlt
  have tk:R.take (i+1)=R.take i++[R[i]]:=List.take_succ_eq_append_getElem hlt
  have dr:R.drop i=R[i] :: R.drop (i+1):=List.drop_eq_getElem_cons hlt
  have hbr:=hb _ (List.getElem_mem hlt)
  generalize R[i]=r at *
  have htl:((R.take i).map (Zs size upto)).length=i:=by rw [List.length_map,List.length_take];omega
  have hll:((R.take i).map (Zs size upto)++R.drop i).length=R.length:=by rw [List.length_append,htl,List.length_drop];omega
  have hxi:((R.take i).map (Zs size upto)++R.drop i)[i]?=some r:=by
   rw [List.getElem?_append_right (by omega),htl,Nat.sub_self,dr];rfl
  have hnl:(((R.take i).filter (Yh size upto)).map Q8).length≤i:=by
   rw [List.length_map]
   have:=List.length_filter_le (Yh size upto) (R.take i)
   rw [List.length_take] at this
   omega
  have V:Vec Qi 5 150 h hh a3 c3 ((R.take i).map (Zs size upto)++R.drop i):=by unfold Vec;rw [hll];exact OA
  obtain⟨b,o,ea,hr⟩:=(V.slp Qp (by decide)).get Qp (by decide) hxi
  intro J38
  have hJ:∀(a9:Option Addr) (c9:Nat) (h2:Hp),Qh h h2 150 5 a3 R.length c3 (((R.take (i+1)).map (Zs size upto)++R.drop (i+1)).flatMap Qi)→Qh h h2 150 5 a9 (((R.take (i+1)).filter (Yh size upto)).map Q8).length c9 ((((R.take (i+1)).filter (Yh size upto)).map Q8).flatMap Qi)→(∀ g,a9=some ⟨g,0,none⟩→a3≠some ⟨g,0,none⟩)→J38 a9 (((R.take (i+1)).filter (Yh size upto)).map Q8).length c9 h2:=by
   intro a9 c9 h2 q1 q2 q3
   exact⟨_,isW (by unfold InR;omega),⟨i+1,a9,c9,by simp,by omega,q1,q2,q3⟩,by simp [Qr];omega⟩
  clear_value J38
  have ecnd:(bif (!r.t) then(decide ((r.k.1+size:Int)≤upto)) else false)=Yh size upto r:=by unfold Yh QjV;cases r.t<;>rfl
  refine⟨b,o,⟨ea,by omega,by omega⟩,_,_,_,_,_,_,r.t,by rw [Int.toNat_natCast];exact hr,_,fun _=>isW hbr,?_⟩
  show ((bif (!r.t) then(decide ((r.k.1+size:Int)≤upto)) else false)=true→_)∧((bif (!r.t) then(decide ((r.k.1+size:Int)≤upto)) else false)=false→_)
  rw [ecnd]
  have tkf:((R.take (i+1)).filter (Yh size upto)).map Q8=((R.take i).filter (Yh size upto)).map Q8++if Yh size upto r=true then [Q8 r] else []:=by
   rw [tk,List.filter_append,List.map_append,List.filter_cons,List.filter_nil]
   split<;>rfl
  have tkm:(R.take (i+1)).map (Zs size upto)=(R.take i).map (Zs size upto)++[Zs size upto r]:=by rw [tk,List.map_append];rfl
  refine⟨fun e2=>?_,fun e2=>?_⟩
  ·rw [if_pos e2] at tkf
   have etell:Zs size upto r=Q8 r:=by
    unfold Yh at e2
    unfold Zs Q8
    cases ht:r.t<;>simp_all
   obtain⟨b2,o2,ea2,H2⟩:=V.putF Qp hxi (x':=Q8 r) (k:=4) (vs:=[vb true]) (by simp) (by simp) (by simp [QM,Qi,Qc8,D.PRow.enc,Q8])
   have hset:((R.take i).map (Zs size upto)++R.drop i).set i (Q8 r)=(R.take (i+1)).map (Zs size upto)++R.drop (i+1):=by
    rw [List.set_append_right _ _ (by omega),htl,Nat.sub_self,dr,List.set_cons_zero,tkm,etell,List.append_assoc];rfl
   refine⟨b2,o2,⟨ea2,by omega,by omega⟩,?_⟩
   rw [Int.toNat_natCast]
   refine H2 _ fun h23 V23 B23=>?_
   rw [hset] at V23
   have hll2:((R.take (i+1)).map (Zs size upto)++R.drop (i+1)).length=R.length:=by rw [←hset,List.length_set,hll]
   have hxi2:((R.take (i+1)).map (Zs size upto)++R.drop (i+1))[i]?=some (Q8 r):=by
    rw [←hset,List.getElem?_set_self (by rw [hll];exact hlt)]
   obtain⟨b3,o3,ea3,hr3⟩:=(V23.slp Qp (by decide)).get Qp (by decide) hxi2
   have OB23:Qh h h23 150 5 a9 (((R.take i).filter (Yh size upto)).map Q8).length c9 ((((R.take i).filter (Yh size upto)).map Q8).flatMap Qi):=Qh.apart OB V23.le0 fun g o hg ho=>B23.keep g o ho (hap g hg)
   refine⟨b3,o3,⟨ea3,by omega,by omega⟩,_,_,_,_,_,_,_,hr3,?_⟩
   intro b31 hb31 h32
   have V32:=V23.keep0 (Hp.le_set (Hp.le_refl h23) hb31 (Qb (Qi (Q8 r)) 150))
   refine Qh.append Qcl (Qh.set hb31 _ OB23) (Qf.new _ _ (Qi (Q8 r)) _) (m:=1) rfl (Jo _) (by omega) (by omega) fun a35 c35 h34 O34 k1 k2=>⟨_,_,_,rfl,?_⟩
   have hal:∀ g,a3=some ⟨g,0,none⟩→∃ ob,h23.set b31 (Qb (Qi (Q8 r)) 150) g=some ob:=by
    intro g hg
    have:=(Qgs.fp _ _ _ _ _ _).al V32.ownF g hg
    cases hq:h23.set b31 (Qb (Qi (Q8 r)) 150) g with
    | none=>exact absurd hq this
    | some ob=>exact⟨ob,rfl⟩
   have:=hJ a35 c35 h34 ?_ ?_ ?_
   ·rw [tkf,List.length_append] at this;exact this
   ·have V34:Vec Qi 5 150 h h34 a3 c3 ((R.take (i+1)).map (Zs size upto)++R.drop (i+1)):=Qh.apart V32 O34.le fun g o hg ho=>k1 g o ho fun q=>hap g q hg
    unfold Vec at V34
    rw [hll2] at V34
    exact V34
   ·rw [tkf,List.length_append,List.flatMap_append,List.flatMap_singleton];exact O34
   ·intro g hg hg3
    rcases k2 g hg with q|q
    ·exact hap g (q.trans hg) hg3
    ·obtain⟨ob,hob⟩:=hal g hg3
     rw [hob] at q;cases q
  ·rw [if_neg (by rw [e2];decide),List.append_nil] at tkf
   have etell:Zs size upto r=r:=by
    unfold Yh at e2
    unfold Zs
    obtain⟨k,ra,rc,acs,t⟩:=r
    cases t<;>simp_all
   have:=hJ a9 c9 hh ?_ ?_ hap
   ·rw [tkf] at this;exact this
   ·rw [tkm,etell,List.append_assoc]
    rw [dr] at OA
    exact OA
   ·rw [tkf];exact OB
 ·have hge:i=R.length:=by have:=of_decide_eq_false e;omega
  subst hge
  rw [List.take_length,List.drop_length,List.append_nil] at OA
  rw [List.take_length] at OB ⊢
  refine hK a3 c3 a9 c9 hh OA.le ⟨⟨rfl,by exact OA.row⟩,fun r hr=>?_⟩ ⟨⟨rfl,OB.row⟩,fun r hr=>?_⟩
  ·obtain⟨r0,h0,rfl⟩:=List.mem_map.1 hr
   exact(T.i r0 h0).le OA.le
  ·obtain⟨r0,h0,rfl⟩:=List.mem_map.1 hr
   exact(T.i r0 (List.mem_filter.1 h0).1).le OA.le
theorem QiV {k:PK}{ka va:Option Addr}{kn kc vn vc:Nat}{ks:List Int}{v:List Vl}(T:Tb h a R)(hn:R.length≤900000)(hs:(R.map (·.k)).Pairwise Qs)(SK:SlI h ka kn ks)(SV:SlP Qw h va vn v)(hv:v.length=ks.length)(hks:ks.length≤1000)
  (hkd:∀ r ∈ R,r.acs.length=ks.length) (hbd:∀ r ∈ R,∀ x ∈ r.acs,AcB x) (hvs:∀ u ∈ v,XF u)
  (hIn:∀(i:Nat) (r:PR) (a':Option Addr) (c':Nat) (a2:Option Addr) (c2:Nat) (h':Hp),R[i]?=some r→r.k=k→h.le h'→Tb h' a' (R.set i ⟨r.k,a2,c2,ZJ r.acs v,r.t⟩)→K' (Qg [vag [vsl a' R.length c'],vag (Qi r),vb true]) h')
  (hNew:∀(i:Nat) (a':Option Addr) (c':Nat) (a2:Option Addr) (c2:Nat) (h':Hp),i≤R.length→(∀ x ∈ R.take i,Qs x.k k)→(∀ x,R[i]?=some x→¬ Qs x.k k)→(∀ x ∈ R,x.k≠k)→h.le h'→Tb h' a' (R.take i++⟨k,a2,c2,ZJ (Xo ks) v,false⟩ :: R.drop i)→K' (Qg [vag [vsl a' (R.length+1) c'],vag [vi 0,vi 0,vi 0,vsl none 0 0,vb false],vb false]) h') :
  Qa Tryz.prog 167 [vag [vsl a R.length c],vi k.1,vag (Qw k.2),vsl ka kn kc,vsl va vn vc] h K':=by
 refine QaF ?_
 unfold Jr
 refine Qga T.s (by omega) hs fun i is h2 l2 hi hah hna his=>⟨_,_,rfl,?_⟩
 refine Ur (T.le l2).s (by omega) fun a7 c7 h6 O6=>⟨_,_,_,rfl,?_⟩
 have l6:=Hp.le_trans l2 O6.le
 have hvn:=SV.1
 have hkn:=SK.1
 intro J83
 have hJ:∀(a315:Option Addr) (c315:Nat) (Q:List PR) (x316 x317 x318:Int) (a319:Option Addr) (n319 c319:Nat) (p320:Bool) (h321:Hp) (r:PR),Qh h2 h321 150 5 a315 Q.length c315 (Q.flatMap Qi)→Q.length≤1000000→Q[i]?=some r→r.acs.length=ks.length→(∀ x ∈ r.acs,AcB x)→Qf h321 r.a (r.acs.flatMap Yx) →
   (∀(a2:Option Addr) (c2:Nat) (h':Hp),Qh h2 h' 150 5 a315 Q.length c315 ((Q.set i ⟨r.k,a2,c2,ZJ r.acs v,r.t⟩).flatMap Qi)→(∀ g xs,(∀ b o,g=some ⟨b,o,none⟩→a315≠some ⟨b,0,none⟩)→Qf h321 g xs→Qf h' g xs)→Qf h' a2 ((ZJ r.acs v).flatMap Yx)→K' (Qg [vag [vsl a315 Q.length c315],vag [vi x316,vi x317,vi x318,vsl a319 n319 c319,vb p320],vb is]) h')→J83 a315 Q.length c315 x316 x317 x318 a319 n319 c319 p320 h321:=by
  intro a315 c315 Q x316 x317 x318 a319 n319 c319 p320 h321 r OQ hQn hr hrl hrb hri hfin
  have hiQ:=(List.getElem?_eq_some_iff.1 hr).1
  have VQ:Vec Qi 5 150 h2 h321 a315 c315 Q:=OQ
  obtain⟨b,o,ea,hrow⟩:=(VQ.slp Qp (by decide)).get Qp (by decide) hr
  refine⟨b,o,⟨ea,by omega,by omega⟩,_,_,_,r.a,r.acs.length,r.c,r.t,by rw [Int.toNat_natCast];exact hrow,?_⟩
  refine QiR hri (by omega) fun a331 c331 h330 V330=>⟨_,_,_,rfl,?_⟩
  have l330:=V330.le0
  have hacl:=QjE (acs:=r.acs) (r:=v) (by omega)
  refine⟨fun vs hh=>∃ m:Nat,vs=[vi m]∧m≤v.length∧Qo8 h321 hh a331 c331 ((ZJ r.acs v).take m++r.acs.drop m),fun vs hh=>v.length - (Qr vs 0).toNat,⟨0,rfl,Nat.zero_le _,by simpa using V330⟩,?_⟩
  rintro vs hh ⟨m,rfl,hm,V5⟩
  have hlen5:((ZJ r.acs v).take m++r.acs.drop m).length=r.acs.length:=by rw [List.length_append,List.length_take,List.length_drop];omega
  refine⟨m,rfl,fun e=>?_,fun e=>?_⟩
  ·have hlt:m < v.length:=by have:=of_decide_eq_true e;omega
   have hltA:m < r.acs.length:=by omega
   have lh:h.le hh:=Hp.le_trans l2 (Hp.le_trans OQ.le V5.le0)
   have hxv:v[m]?=some v[m]:=List.getElem?_eq_getElem hlt
   obtain⟨b2,o2,ea2,hr2⟩:=(SV.le lh).get Yz (by decide) hxv
   have hxi:((ZJ r.acs v).take m++r.acs.drop m)[m]?=some r.acs[m]:=by
    rw [List.getElem?_append_right (by rw [List.length_take];omega),List.length_take,Nat.min_eq_left (by omega),Nat.sub_self,List.getElem?_drop,Nat.add_zero,List.getElem?_eq_getElem hltA]
   obtain⟨b3,o3,ea3,hr3⟩:=(V5.slp YB (by decide)).get YB (by decide) hxi
   have hni:(ZJ r.acs v)[m]'(by omega)=(r.acs[m].1,Xg r.acs[m].1 r.acs[m].2 v[m]):=by unfold ZJ;rw [List.getElem_zipWith]
   have hset:((ZJ r.acs v).take m++r.acs.drop m).set m (r.acs[m].1,Xg r.acs[m].1 r.acs[m].2 v[m])=(ZJ r.acs v).take (m+1)++r.acs.drop (m+1):=by
    rw [←hni,List.set_append_right _ _ (by rw [List.length_take];omega),List.length_take,Nat.min_eq_left (by omega),Nat.sub_self,List.drop_eq_getElem_cons hltA,List.set_cons_zero,List.take_succ_eq_append_getElem (by omega:m < (ZJ r.acs v).length),List.append_assoc]
    rfl
   have hb1:=hrb _ (List.getElem_mem hltA)
   have hb2:=hvs _ (List.getElem_mem hlt)
   unfold AcB at hb1
   unfold XF at hb2
   have hA0:Qo8 h321 hh a331 c331 ((ZJ r.acs v).take m++r.acs.drop m):=V5
   obtain⟨b4,o4,ea4,H4⟩:=V5.putF YB hxi (x':=(r.acs[m].1,Xg r.acs[m].1 r.acs[m].2 v[m])) (k:=0) (vs:=Yx (r.acs[m].1,Xg r.acs[m].1 r.acs[m].2 v[m])) (by simp [Yx,Qh4]) (by simp [YB]) (by simp [QM,YB,List.drop_of_length_le])
   refine⟨b2,o2,⟨ea2,by omega,by omega⟩,_,_,by rw [Int.toNat_natCast];exact hr2,b3,o3,⟨ea3,by omega,by omega⟩,_,_,_,_,by rw [Int.toNat_natCast];exact hr3,?_⟩
   refine QgN (k:=r.acs[m].1) (s:=r.acs[m].2) (v:=v[m]) (by unfold InR;omega) (by unfold InR;omega) ⟨_,_,_,_,rfl,b4,o4,⟨ea4,by omega,by omega⟩,?_⟩
   rw [Int.toNat_natCast]
   refine H4 _ fun h358 V358 _=>⟨_,isW (by unfold InR;omega),⟨m+1,by simp,by omega,?_⟩,by simp [Qr];omega⟩
   rw [hset] at V358
   exact V358
  ·have hge:m=v.length:=by have:=of_decide_eq_false e;omega
   subst hge
   rw [List.take_of_length_le (by omega),List.drop_of_length_le (by omega),List.append_nil] at V5
   have VQ5:=VQ.keep0 V5.le0
   obtain⟨b2,o2,ea2,H2⟩:=VQ5.putF Qp hr (x':=⟨r.k,a331,c331,ZJ r.acs v,r.t⟩) (k:=0) (vs:=Qi ⟨r.k,a331,c331,ZJ r.acs v,r.t⟩) (by simp [Qi,D.PRow.enc]) (by simp [Qp]) (by simp [QM,Qp,List.drop_of_length_le])
   refine⟨b2,o2,⟨ea2,by omega,by omega⟩,?_⟩
   rw [Int.toNat_natCast]
   have est:Qi ⟨r.k,a331,c331,ZJ r.acs v,r.t⟩=[vi r.k.1,vi r.k.2.1,vi r.k.2.2,vsl a331 r.acs.length c331,vb r.t]:=by unfold Qi Qc8;simp [D.PRow.enc,hacl]
   rw [est,Nat.add_zero] at H2
   refine H2 _ fun h363 V363 B363=>?_
   unfold Vec at V363
   rw [List.length_set] at V363
   have keep:∀ g xs,(∀ b o,g=some ⟨b,o,none⟩→a315≠some ⟨b,0,none⟩)→Qf hh g xs→Qf h363 g xs:=by
    intro g xs hg H
    rcases H with q|⟨b,o,q,hrw⟩
    ·exact .inl q
    ·refine .inr ⟨b,o,q,?_⟩
     unfold Hp.row at hrw ⊢
     cases hq:hh b with
     | none=>rw [hq] at hrw;cases hrw
     | some ob=>rw [B363.keep b ob hq (hg b o q)];rw [hq] at hrw;exact hrw
   refine hfin a331 c331 h363 V363 (fun g xs hg H=>keep g xs hg (H.le V5.le0)) (keep _ _ (fun b o hb he=>?_) (Qh.row V5))
   have hb0:o=0:=QN.at0 (Qh.own V5) b o hb
   subst hb0
   have:=V5.new b hb
   have hal:=(Qgs.fp _ _ _ _ _ _).al VQ.ownF b he
   exact hal this
 clear_value J83
 have hiold:∀{hx:Hp} {r:PR},r ∈ R→h6.le hx→∀(a315:Option Addr) (h2':h2.le hx),Qf hx r.a (r.acs.flatMap Yx):=fun hr l _ _=>(T.i _ hr).le (Hp.le_trans l6 l)
 -- what is there stays behind a change of the own slice
 have kept:∀{hx h':Hp} {a315:Option Addr} {g:Option Addr} {xs:List Value},h2.le h'→Qf h2 g xs→Qf h' g xs:=fun l H=>H.le l
 refine⟨fun e=>?_,fun e=>?_⟩
 ·obtain⟨r,hr,hrk⟩:=his.1 e
  have hmem:=List.mem_of_getElem? hr
  have VQ:Vec Qi 5 150 h2 h6 a7 c7 R:=O6
  obtain⟨b,o,ea,hrow⟩:=(VQ.slp Qp (by decide)).get Qp (by decide) hr
  have hil:=(List.getElem?_eq_some_iff.1 hr).1
  refine⟨b,o,⟨ea,by omega,by omega⟩,_,_,_,_,_,_,_,by rw [Int.toNat_natCast];exact hrow,?_⟩
  refine hJ a7 c7 R _ _ _ _ _ _ _ h6 r O6 (by omega) hr (hkd r hmem) (hbd r hmem) ((T.i r hmem).le l6) fun a2 c2 h' O' _ H2=>?_
  rw [e]
  refine hIn i r a7 c7 a2 c2 h' hr hrk (Hp.le_trans l2 O'.le) ⟨⟨by rw [List.length_set],by exact O'.row⟩,fun r' hr'=>?_⟩
  rcases List.mem_or_eq_of_mem_set hr' with q|q
  ·exact(T.i r' q).le (Hp.le_trans l2 O'.le)
  ·rw [q];exact H2
 ·have hne:∀ x ∈ R,x.k≠k:=by
   intro x hx ek
   obtain⟨m,hm⟩:=List.getElem?_of_mem hx
   rcases Nat.lt_trichotomy m i with h5|h5|h5
   ·have:x ∈ R.take i:=by
     have:(R.take i)[m]?=some x:=by rw [List.getElem?_take,if_pos h5];exact hm
     exact List.mem_of_getElem? this
    have:=hah x this
    rw [ek] at this
    exact Z5 _ this
   ·subst h5
    have:=his.2 ⟨x,hm,ek⟩
    rw [e] at this;cases this
   ·have hil:i < R.length:=by have:=(List.getElem?_eq_some_iff.1 hm).1;omega
    have hy:R[i]?=some R[i]:=List.getElem?_eq_getElem hil
    have h1:=hna _ hy
    have:=List.pairwise_iff_getElem.1 hs i m (by simpa using hil) (by simpa using (List.getElem?_eq_some_iff.1 hm).1) h5
    simp only [List.getElem_map] at this
    rw [(List.getElem?_eq_some_iff.1 hm).2,ek] at this
    exact h1 this
  intro J45
  have hJ45:∀(a74:Option Addr) (c74:Nat) (h76:Hp),Qo8 h6 h76 a74 c74 (Xo ks)→J45 k.1 k.2.1 k.2.2 a74 (Xo ks).length c74 false h76:=by
   intro a74 c74 h76 VA b77 hb77 h78
   have l78:h76.le h78:=Hp.le_set (Hp.le_refl h76) hb77 _
   have k77:h78 b77=some (Qb (Qi ⟨k,a74,c74,Xo ks,false⟩) 150):=Hp.set_same _ _ _
   clear_value h78
   have O78:=(Qh.mono VA.le0 O6).mono l78
   obtain⟨hB,lB,OB,kB⟩:=Qh.self O78
   have hrowB:Qf hB a74 ((Xo ks).flatMap Yx):=Qf.over ((Qh.row VA).le l78) fun b o ob hb ho=>kB b ob (fun q=>by
    have hb0:o=0:=QN.at0 (Qh.own VA) b o hb
    subst hb0
    have h1:=VA.new b hb
    exact(Qgs.fp _ _ _ _ _ _).al (Vec.ownF (show Vec Qi 5 150 h2 h6 a7 c7 R from O6)) b q h1) ho
   refine Qfx (x:=⟨k,a74,c74,Xo ks,false⟩) OB (by omega) hi k77 (fun q=>?_) fun a81 c81 h80 O80=>⟨_,_,_,rfl,?_⟩
   ·have hal:=(Qgs.fp _ _ _ _ _ _).al (Vec.ownF (show Vec Qi 5 150 h2 h6 a7 c7 R from O6)) b77 q
    exact hal (Hp.none_of_le VA.le0 hb77)
   have hQl:(R.take i++(⟨k,a74,c74,Xo ks,false⟩:PR) :: R.drop i).length=R.length+1:=by rw [List.length_append,List.length_cons,List.length_take,List.length_drop];omega
   have htl:(R.take i).length=i:=by rw [List.length_take];omega
   have hQi:(R.take i++(⟨k,a74,c74,Xo ks,false⟩:PR) :: R.drop i)[i]?=some ⟨k,a74,c74,Xo ks,false⟩:=by rw [List.getElem?_append_right (by omega),htl,Nat.sub_self];rfl
   have ha0:(Xo ks).length=ks.length:=by unfold Xo;rw [List.length_map]
   have hrow:Qf h80 a74 ((Xo ks).flatMap Yx):=hrowB.le O80.le
   have O80:=O80.trans lB
   have:=hJ a81 c81 (R.take i++(⟨k,a74,c74,Xo ks,false⟩:PR) :: R.drop i) 0 0 0 none 0 0 false h80 ⟨k,a74,c74,Xo ks,false⟩ (by rw [hQl];exact O80) (by omega) hQi ha0 ?_ hrow fun a2 c2 h' O' _ H2=>?_
   ·rw [hQl] at this;exact this
   ·intro x hx
    unfold Xo at hx
    obtain⟨k0,_,rfl⟩:=List.mem_map.1 hx
    unfold AcB
    simp only
    omega
   ·rw [e]
    have hset:(R.take i++(⟨k,a74,c74,Xo ks,false⟩:PR) :: R.drop i).set i ⟨k,a2,c2,ZJ (Xo ks) v,false⟩=R.take i++⟨k,a2,c2,ZJ (Xo ks) v,false⟩ :: R.drop i:=by
     rw [List.set_append_right _ _ (by omega),htl,Nat.sub_self,List.set_cons_zero]
    rw [hset,hQl] at O'
    rw [hQl]
    have hQl2:(R.take i++(⟨k,a2,c2,ZJ (Xo ks) v,false⟩:PR) :: R.drop i).length=R.length+1:=by rw [List.length_append,List.length_cons,List.length_take,List.length_drop];omega
    refine hNew i a81 c81 a2 c2 h' hi hah hna hne (Hp.le_trans l2 O'.le) ⟨⟨rfl,O'.row⟩,fun r' hr'=>?_⟩
    rcases List.mem_append.1 hr' with q|q
    ·exact(T.i r' (List.mem_of_mem_take q)).le (Hp.le_trans l2 O'.le)
    ·rcases List.mem_cons.1 q with rfl|q
     ·exact H2
     ·exact(T.i r' (List.mem_of_mem_drop q)).le (Hp.le_trans l2 O'.le)
  clear_value J45
  refine⟨fun vs hh=>∃(m:Nat) (aa:Option Addr) (ca:Nat),vs=[vi m,vi k.1,vi k.2.1,vi k.2.2,vsl aa (Xo (ks.take m)).length ca,vb false]∧m≤ks.length∧Qo8 h6 hh aa ca (Xo (ks.take m)),fun vs hh=>ks.length - (Qr vs 0).toNat,⟨0,none,0,rfl,Nat.zero_le _,Qh.nil (Hp.le_refl _) _ _⟩,?_⟩
  rintro vs hh ⟨m,aa,ca,rfl,hm,V⟩
  refine⟨_,_,_,_,aa,_,ca,false,rfl,fun e5=>?_,fun e5=>?_⟩
  ·have hltm:m < ks.length:=by have:=of_decide_eq_true e5;omega
   have tkm:ks.take (m+1)=ks.take m++[ks[m]]:=List.take_succ_eq_append_getElem hltm
   have hal:(Xo (ks.take m)).length=m:=by unfold Xo;rw [List.length_map,List.length_take];omega
   obtain⟨b,o,ea,hc⟩:=(SK.le (Hp.le_trans l6 V.le0)).get (i:=m) (by omega)
   have hgd:ks.getD m 0=ks[m]:=by rw [List.getD_eq_getElem?_getD,List.getElem?_eq_getElem hltm];rfl
   rw [hgd] at hc
   generalize ks[m]=km at *
   refine⟨b,o,⟨ea,by omega,by omega⟩,_,by rw [Int.toNat_natCast];exact hc,QgJ ⟨_,_,_,_,rfl,?_⟩⟩
   intro b38 hb38 h39
   refine Vec.app Qoz YB QkZ V (by rw [hal];omega) (by rw [hal];omega) (x:=(km,(0,0,0))) hb38 fun a' c' h' V'=>⟨_,_,_,rfl,_,isW (by unfold InR;omega),⟨m+1,a',c',?_,by omega,?_⟩,by simp [Qr];omega⟩
   ·rw [tkm];unfold Xo;rw [List.map_append];rfl
   ·rw [tkm];unfold Xo at V' ⊢;rw [List.map_append];exact V'
  ·have hge:m=ks.length:=by have:=of_decide_eq_false e5;omega
   rw [hge,List.take_length] at V ⊢
   exact hJ45 aa ca hh V
end
end Go.Proofs.YthicpjafcpfjoaaGreatDoor
namespace Go.Vc
open Go
structure Ow where
 e:TypeId
 sz:Nat
 a:Option Addr
 n:Nat
 c:Nat
 xs:List Value
def Ow.own (s:Ow)(h:Hp):Prop:=QN h s.e s.sz s.a s.n s.c s.xs
def Ow.at (s:Ow)(b:Nat):Prop:=s.a=some ⟨b,0,none⟩
def YL (g:Nat)(t:TypeId)(cs:List Value):Ow:=⟨t,cs.length,some ⟨g,0,none⟩,1,1,cs⟩
structure Zk (hi h:Hp)(L:List Ow):Prop where
 le:hi.le h
 own:∀ s ∈ L,s.own h
 new:∀ s ∈ L,∀ b,s.at b→hi b=none
 dj:L.Pairwise fun s t=>∀ b,s.at b→¬ t.at b
theorem Ow.al {s:Ow}{h:Hp}(O:s.own h){b:Nat}(hb:s.at b):h b≠none:=by
 rcases O.2 with ⟨h1,_⟩|⟨g,cur,h1,h2,_⟩
 ·unfold Ow.at at hb;rw [h1] at hb;cases hb
 ·unfold Ow.at at hb;rw [h1] at hb;cases hb;rw [h2];simp
theorem Ow.keep {s:Ow}{h h':Hp}(O:s.own h)(hk:∀ b,s.at b→∀ o,h b=some o→h' b=some o):s.own h':=QN.keep O fun g o hg ho=>hk g hg o ho
section
variable {hi h:Hp}{L:List Ow}
theorem Zk.nil (l:hi.le h):Zk hi h []:=⟨l,fun s hs=>(by cases hs),fun s hs=>(by cases hs),List.Pairwise.nil⟩
theorem Zk.grow {h':Hp}(O:Zk hi h L)(l:h.le h'):Zk hi h' L:=⟨Hp.le_trans O.le l,fun s hs=>Ow.keep (O.own s hs) fun b _ o ho=>l b o ho,O.new,O.dj⟩
theorem Zk.ownV (O:Zk hi h L){s:Ow}(hs:s ∈ L):Qh hi h s.e s.sz s.a s.n s.c s.xs:=⟨O.le,O.own s hs,fun b hb=>O.new s hs b hb⟩
theorem Zk.apart (O:Zk hi h L){i j:Nat}{s t:Ow}(hs:L[i]?=some s)(ht:L[j]?=some t)(hne:i≠j){b:Nat}(hb:s.at b):¬ t.at b:=by
 obtain⟨hi',es⟩:=List.getElem?_eq_some_iff.1 hs
 obtain⟨hj',et⟩:=List.getElem?_eq_some_iff.1 ht
 have:=List.pairwise_iff_getElem.1 O.dj
 rcases Nat.lt_or_gt_of_ne hne with q|q
 ·have:=this i j hi' hj' q b
  rw [es,et] at this
  exact this hb
 ·have:=this j i hj' hi' q b
  rw [es,et] at this
  exact fun q2=>this q2 hb
theorem Zk.upd {h':Hp}(O:Zk hi h L){j:Nat}{s s':Ow}(hs:L[j]?=some s)(hk:∀ b o,h b=some o→¬ s.at b→h' b=some o)(O':s'.own h')(hn:∀ b,s'.at b→s.at b∨h b=none):Zk hi h' (L.set j s'):=by
 have hsm:=List.mem_of_getElem? hs
 have hj:=(List.getElem?_eq_some_iff.1 hs).1
 have key:∀{k:Nat} {t:Ow},(L.set j s')[k]?=some t→(k=j∧t=s')∨(k≠j∧L[k]?=some t):=by
  intro k t h1
  by_cases hkj:k=j
  ·subst hkj
   rw [List.getElem?_set_self hj] at h1
   exact .inl ⟨rfl,(Option.some.inj h1).symm⟩
  ·rw [List.getElem?_set_ne (fun e=>hkj e.symm)] at h1
   exact .inr ⟨hkj,h1⟩
 have out:∀{k:Nat} {t:Ow},k≠j→L[k]?=some t→∀ b,t.at b→¬ s'.at b:=by
  intro k t hkj ht b hb hb'
  rcases hn b hb' with q|q
  ·exact O.apart ht hs hkj hb q
  ·exact Ow.al (O.own t (List.mem_of_getElem? ht)) hb q
 refine⟨fun b o ho=>hk b o (O.le b o ho) fun q=>(by rw [O.new s hsm b q] at ho;cases ho),fun t ht=>?_,fun t ht b hb=>?_,?_⟩
 ·obtain⟨k,hk'⟩:=List.getElem?_of_mem ht
  rcases key hk' with ⟨_,rfl⟩|⟨hkj,h1⟩
  ·exact O'
  ·exact Ow.keep (O.own t (List.mem_of_getElem? h1)) fun b hb o ho=>hk b o ho (O.apart h1 hs hkj hb)
 ·obtain⟨k,hk'⟩:=List.getElem?_of_mem ht
  rcases key hk' with ⟨_,rfl⟩|⟨hkj,h1⟩
  ·rcases hn b hb with q|q
   ·exact O.new s hsm b q
   ·exact Hp.none_of_le O.le q
  ·exact O.new t (List.mem_of_getElem? h1) b hb
 ·rw [List.pairwise_iff_getElem]
  intro i k hi' hk' hik b hb hb'
  have e1:=List.getElem?_eq_getElem hi'
  have e2:=List.getElem?_eq_getElem hk'
  rcases key e1 with ⟨q1,q2⟩|⟨q1,q2⟩
  ·rcases key e2 with ⟨q3,q4⟩|⟨q3,q4⟩
   ·omega
   ·rw [q2] at hb
    exact out q3 q4 b hb' hb
  ·rcases key e2 with ⟨q3,q4⟩|⟨q3,q4⟩
   ·rw [q4] at hb'
    exact out q1 q2 b hb hb'
   ·exact O.apart q2 q4 (by omega) hb hb'
theorem Zk.push {h':Hp}(O:Zk hi h L)(l:h.le h'){s:Ow}(O':s.own h')(hn:∀ b,s.at b→h b=none):Zk hi h' (L++[s]):=by
 have O2:=O.grow l
 refine⟨O2.le,fun t ht=>?_,fun t ht b hb=>?_,List.pairwise_append.2 ⟨O.dj,by simp,fun x hx y hy b hb hb'=>?_⟩⟩
 ·rcases List.mem_append.1 ht with q|q
  ·exact O2.own t q
  ·rw [List.mem_singleton.1 q];exact O'
 ·rcases List.mem_append.1 ht with q|q
  ·exact O.new t q b hb
  ·rw [List.mem_singleton.1 q] at hb;exact Hp.none_of_le O.le (hn b hb)
 ·rw [List.mem_singleton.1 hy] at hb'
  exact Ow.al (O.own x hx) hb (hn b hb')
theorem Zk.rebase {L':List Ow}(O:Zk hi h L)(hs:L'.Sublist L):∃ hj:Hp,hi.le hj∧Zk hj h L'∧∀ b o,h b=some o→(∀ s ∈ L',¬ s.at b)→hj b=some o:=by
 have e1:∀ b,(∃ s ∈ L',s.at b)→(open Classical in (fun b=>if ∃ s ∈ L',s.at b then none else h b:Hp)) b=none:=fun b hb=>if_pos hb
 have e2:∀ b,¬(∃ s ∈ L',s.at b)→(open Classical in (fun b=>if ∃ s ∈ L',s.at b then none else h b:Hp)) b=h b:=fun b hb=>if_neg hb
 generalize (open Classical in (fun b=>if ∃ s ∈ L',s.at b then none else h b:Hp))=hj at e1 e2
 have lj:Hp.le hj h:=fun b o ho=>by
  by_cases q:∃ s ∈ L',s.at b
  ·rw [e1 b q] at ho;cases ho
  ·rw [e2 b q] at ho;exact ho
 refine⟨hj,fun b o ho=>?_,⟨lj,fun s h1=>O.own s (hs.mem h1),fun s h1 b hb=>e1 b ⟨s,h1,hb⟩,O.dj.sublist hs⟩,fun b o ho hn=>(e2 b (fun⟨s,q1,q2⟩=>hn s q1 q2)).trans ho⟩
 refine(e2 b ?_).trans (O.le b o ho)
 rintro⟨s,q1,q2⟩
 rw [O.new s (hs.mem q1) b q2] at ho
 cases ho
theorem Zk.blk (O:Zk hi h L){g:Nat}{t:TypeId}{cs:List Value}(hs:YL g t cs ∈ L):h g=some (Qb cs t):=by
 obtain⟨h1,h2⟩:=O.own _ hs
 rcases h2 with ⟨q,_⟩|⟨b,cur,q1,q2,q3,q4,q5,q6⟩
 ·cases q
 ·simp only [YL,Option.some.injEq,Addr.mk.injEq,and_true] at q1 q5 q6
  subst q1
  have:cur.toList=cs:=by
   rw [←q6,Nat.one_mul,List.take_of_length_le (by rw [Array.length_toList];omega)]
  rw [q2,←this]
  simp [YL]
theorem Qke {g:Nat}{t:TypeId}{cs:List Value}(hg:h g=some (Qb cs t)):(YL g t cs).own h:=
 ⟨by simp [YL],.inr ⟨g,cs.toArray,rfl,hg,Nat.le_refl _,by simp [YL,maxLen],by simp [YL],by simp [YL]⟩⟩
theorem Zk.store (O:Zk hi h L){j:Nat}{s:Ow}(hs:L[j]?=some s){i:Nat}{vs:List Value}(hv:0 < vs.length)(hfit:i+vs.length≤s.n*s.sz){b:Nat}(hb:s.at b){K:Hp→Prop}
  (hK:∀ h',Zk hi h' (L.set j { s with xs:=QM s.xs i vs })→(∀ b' o,b'≠b→h b'=some o→h' b'=some o)→K h'):h.store b (0+i) vs K:=by
 refine Qh.store (O.ownV (List.mem_of_getElem? hs)) hv hfit hb fun ob O'=>?_
 have kp:∀ b' o,b'≠b→h b'=some o→(h.set b ob) b'=some o:=fun b' o hne ho=>(Hp.set_other h _ hne).trans ho
 exact hK _ (O.upd hs (fun b' o ho hn=>kp b' o (fun q=>hn (by rw [q];exact hb)) ho) O'.own fun b' hb'=>.inl hb') kp
theorem Zk.put (O:Zk hi h L){j g:Nat}{t:TypeId}{cs:List Value}(hs:L[j]?=some (YL g t cs)){i:Nat}{v:Value}(hi':i < cs.length){K:Hp→Prop}
  (hK:∀ h',Zk hi h' (L.set j (YL g t (cs.set i v)))→(∀ b' o,b'≠g→h b'=some o→h' b'=some o)→K h'):h.store g (0+i) [v] K:=by
 refine O.store hs (by simp) (by simp [YL];omega) rfl fun h' O' kp=>hK h' ?_ kp
 have e:({ YL g t cs with xs:=QM (YL g t cs).xs i [v] }:Ow)=YL g t (cs.set i v):=by
  unfold YL
  simp only [List.length_set]
  rw [JS _ _ _ hi']
 rw [e] at O'
 exact O'
variable {P:Program}
theorem Zk.app (O:Zk hi h L){j:Nat}{s:Ow}(hs:L[j]?=some s){tS ty:TypeId}{bytes:Nat}(T:ElT P tS s.e s.sz bytes){b m:Nat}{news:List Value}{tn:TypeId}(hb:h b=none)(hl:news.length=m*s.sz)(h1:∀ u ∈ news,u.oneCell'=true)
  (hn:(s.n+m)*bytes≤140737488355328) (hn2:s.n+m≤140737488355328) {K:Value→Hp→Prop}
  (hK:∀ a' c' h',Zk hi h' (L.set j { s with a:=a',n:=s.n+m,c:=c',xs:=s.xs++news })→(∀ b' o,h b'=some o→¬ s.at b'→h' b'=some o)→K (vsl a' (s.n+m) c') h') :
  Qm P (Builtin.append_ #[tS,tS] ty #[vsl s.a s.n s.c,vsl (some ⟨b,0,none⟩) m m]) (h.set b (Qb news tn)) K:=by
 have l:h.le (h.set b (Qb news tn)):=Hp.le_set (Hp.le_refl h) hb _
 have O1:=O.grow l
 refine Qh.append T (O1.ownV (List.mem_of_getElem? hs)) (Qf.new _ _ news _) hl h1 hn hn2 fun a' c' h' O' k1 k2=>hK a' c' h' (O1.upd hs (fun b' o ho hn=>k1 b' o ho hn) O'.own fun b' hb'=>?_) fun b' o ho hn=>k1 b' o (l b' o ho) hn
 rcases k2 b' hb' with q|q
 ·exact .inl (show s.a=_ from q.trans hb')
 ·exact .inr q
theorem Qa.frame {f:FuncId}{args:List Value}{hA h:Hp}{K:Value→Hp→Prop}(l:hA.le h)(H:Qa P f args hA K):Qa P f args h fun v h2=>∃ h1,h1.le h2∧(∀ b o,h b=some o→hA b=none→h2 b=some o∧h1 b=none)∧K v h1:=by
 intro w hs
 refine(H w fun b o ho=>hs b o (l b o ho)).mono ?_
 rintro e w' ⟨v,h1,rfl,s1,F,k⟩
 have out:∀ b o,h b=some o→hA b=none→w'.heap[b]?=some o∧h1 b=none:=by
  intro b o ho hn
  have hb:=(Array.getElem?_eq_some_iff.1 (hs b o ho)).1
  obtain⟨q1,q2⟩:=F.keep b hb hn
  exact⟨q1.trans (hs b o ho),q2⟩
 have e1:∀ b,(h b≠none∧hA b=none)→(fun b=>if h b≠none∧hA b=none then h b else h1 b:Hp) b=h b:=fun b hb=>if_pos hb
 have e2:∀ b,¬(h b≠none∧hA b=none)→(fun b=>if h b≠none∧hA b=none then h b else h1 b:Hp) b=h1 b:=fun b hb=>if_neg hb
 generalize (fun b=>if h b≠none∧hA b=none then h b else h1 b:Hp)=h2 at e1 e2
 refine⟨v,h2,rfl,fun b o ho=>?_,⟨F.os,F.tape,F.output,F.size,fun b hb hn=>?_⟩,h1,fun b o ho=>?_,fun b o ho hn=>?_,k⟩
 ·by_cases q:h b≠none∧hA b=none
  ·rw [e1 b q] at ho
   exact(out b o ho q.2).1
  ·rw [e2 b q] at ho
   exact s1 b o ho
 ·have hna:hA b=none:=Hp.none_of_le l hn
  obtain⟨q1,q2⟩:=F.keep b hb hna
  exact⟨q1,(e2 b (fun q=>q.1 hn)).trans q2⟩
 ·refine(e2 b fun q=>?_).trans ho
  cases hq:h b with
  | none=>exact q.1 hq
  | some o2=>
   have:=(out b o2 hq q.2).2
   rw [this] at ho;cases ho
 ·exact⟨(e1 b ⟨by rw [ho];simp,hn⟩).trans ho,(out b o ho hn).2⟩
theorem Zk.frame (O:Zk hi h L){f:FuncId}{args:List Value}{R':Value→Hp→Prop}(H:Qa P f args hi fun v hk=>∀ h2,hk.le h2→Zk hk h2 L→R' v h2):Qa P f args h R':=by
 intro w hs
 refine(Qa.frame O.le H w hs).mono ?_
 rintro e w' ⟨v,h2,rfl,s2,F,h1,l1,kp,k⟩
 refine⟨v,h2,rfl,s2,F,k h2 l1 ⟨l1,fun s hs'=>Ow.keep (O.own s hs') fun b hb o ho=>(kp b o ho (O.new s hs' b hb)).1,fun s hs' b hb=>?_,O.dj⟩⟩
 cases hq:h b with
 | none=>exact absurd hq (Ow.al (O.own s hs') hb)
 | some o=>exact(kp b o hq (O.new s hs' b hb)).2
end
end Go.Vc
namespace Go.Proofs.YthicpjafcpfjoaaGreatDoor
open Go Go.Vc
def GEq (k:Int)(s s':Int × Int × Int):Prop:=s.1=s'.1∧s.2.1=s'.2.1∧((k=4∨k=5)→s.2.2=s'.2.2)
theorem GEq.refl (k:Int)(s:Int × Int × Int):GEq k s s:=⟨rfl,rfl,fun _=>rfl⟩
theorem GEq.trans {k:Int}{a b c:Int × Int × Int}(h:GEq k a b)(h2:GEq k b c):GEq k a c:=⟨h.1.trans h2.1,h.2.1.trans h2.2.1,fun q=>(h.2.2 q).trans (h2.2.2 q)⟩
theorem QaI {l l':List PK}(h:l.Pairwise Qs)(h':l'.Pairwise Qs)(e:∀ k,k ∈ l↔k ∈ l'):l=l':=by
 have p:=(List.perm_ext_iff_of_nodup (YY h) (YY h')).2 e
 exact p.eq_of_pairwise (fun a b _ _ h1 h2=>absurd (XX h1 h2) (Z5 a)) h h'
def Qr1 (q:Qy)(far:Int)(k:PK):Bool:=decide (k.1+(q.size+q.late)≤far - q.delay)
open Go.Txt
structure Qgb (q:Qy)(x:Ad):Prop where
 l:x.2.length=q.aggs.length
 v:∀ v ∈ x.2,XF v
 s:-1000≤x.1.1∧x.1.1≤9999
theorem QpS {q:Qy}(B:QOk q){far:Int}{e:EvL}(E:Yb e){ss:List Int}(hs:∀ s ∈ ss,-1000≤s∧s≤9999):∀ x ∈ Qe7 q far e ss,Qgb q x:=by
 intro x hx
 refine⟨Qot x hx,?_,?_⟩
 ·unfold Qe7 at hx
  obtain⟨s,h1,rfl⟩:=List.mem_map.1 hx
  exact Gz B E
 ·unfold Qe7 at hx
  obtain⟨s,h1,rfl⟩:=List.mem_map.1 hx
  exact hs s ((List.mem_filter.1 h1).1)
theorem Vb {q:Qy}(B:QOk q){e:EvL}(E:Yb e):∀ s ∈ ZL e.1 q.size q.slide,-1000≤s∧s≤9999:=by
 intro s hs
 have h1:=B.s
 have h2:=E.t
 have:=Qlk (by omega) hs
 omega
theorem QpO {q:Qy}(B:QOk q){far:Int}{e:EvL}(E:Yb e):∀ x ∈ QiZ q far e,Qgb q x:=by
 intro x hx
 unfold QiZ at hx
 split at hx
 ·exact QpS B E (Vb B E) x hx
 ·cases hx
theorem QlZ {q:Qy}(B:QOk q):∀(l:List EvL) (far:Int),(∀ e ∈ l,Yb e)→∀ x ∈ QgO q far l,Qgb q x
 | [],far,_,x,hx=>by cases hx
 | e :: l,far,hl,x,hx=>by
  rw [QgO] at hx
  rcases List.mem_append.1 hx with h|h
  ·exact QpO B (hl e (List.mem_cons_self ..)) x h
  ·exact QlZ B l _ (fun y hy=>hl y (List.mem_cons_of_mem _ hy)) x h
theorem Qpy {q:Qy}(B:QOk q){ps:List (List EvL)}(hp:∀ p ∈ ps,∀ e ∈ p,Yb e):∀ x ∈ Qki q ps,Qgb q x:=by
 intro x hx
 unfold Qki at hx
 obtain⟨p,h1,h2⟩:=List.mem_flatMap.1 hx
 exact QlZ B p (-1) (hp p h1) x h2
theorem Qdz {q:Qy}(B:QOk q){e:EvL}:(ZL e.1 q.size q.slide).length≤1000:=by
 have h1:=B.s
 have:=QkU (t:=e.1) (size:=q.size) (slide:=q.slide)
 omega
theorem QI (q:Qy):(Qe q).length=q.aggs.length:=by unfold Qe;rw [List.length_map]
theorem VO {ks:List Int}{rs:List (List Vl)}(hl:∀ r ∈ rs,r.length=ks.length):(YS ks rs).map (·.1)=ks:=by
 rw [Qj5 ks hl,List.map_zipWith]
 have hc:=Qef (n:=ks.length) hl
 generalize KB ks.length rs=cs at hc
 clear hl
 induction ks generalizing cs with
 | nil=>rfl
 | cons k ks ih=>
  match cs,hc with
  | c :: cs,hc=>
   rw [List.zipWith_cons_cons,ih cs (by simpa using hc)]
   rfl
theorem StA.len {ks:List Int}{A:List Ad}{R:List PR}(H:StA ks A R):R.length=(KQ A).length:=by
 have:=congrArg List.length H.keys
 rw [List.length_map] at this
 exact this
end Go.Proofs.YthicpjafcpfjoaaGreatDoor
namespace Go.Proofs.YthicpjafcpfjoaaGreatDoor
open Go Go.Vc
def Qbv (u0:Int)(h:Hp)(R:Value→Hp→Prop):Prop:=
 (((bif (decide (u0 < 1)) then true else(decide (u0 > 3)))=true→R (Qg [vag [vsl none 0 0],(ifv (some (119,(vi 1))))]) h)∧((bif (decide (u0 < 1)) then true else(decide (u0 > 3)))=false→(let J18:Option Addr→Nat→Nat→Hp→Prop:=fun a20 n20 c20 h21=>R (Qg [vag [vsl a20 n20 c20],ifv none]) h21;(∃(I3:List Value→Hp→Prop) (m4:List Value→Hp→Nat),I3 [vi 0,vsl none 0 0] h∧∀ vs5 h6,I3 vs5 h6→∃ x7 a8 n8 c8,vs5=[vi x7,vsl a8 n8 c8]∧(((decide (x7 < u0))=true→(∀ b11,h6 b11=none→let h12:= Hp.set h6 b11 (Qb [(vi (-1))] 3);(Qm Tryz.prog (Builtin.append_ #[46,46] 46 #[vsl a8 n8 c8,(vsl (some (⟨b11,0,none⟩:Addr)) 1 1)]) h12 fun v13 h14=>∃ a15 n15 c15,v13=(vsl a15 n15 c15)∧(∃ x17,(IsW x17 (x7+1))∧(I3 [vi x17,vsl a15 n15 c15] h14∧m4 [vi x17,vsl a15 n15 c15] h14 < m4 vs5 h6)))))∧((decide (x7 < u0))=false→(J18 a8 n8 c8 h6)))))))
theorem Qiz {u0 h R}(H:Qbv u0 h R):Qa Tryz.prog 124 [vi u0] h R:=
 Qd (cfg:=⟨[],[(5,([15],[.one (.int .i64)],[(1,[.slice])]))],[]⟩) Qn mixed Tryz.func124 [.one (.v (vi u0))] (by kernel_rfl) rfl (by kernel_rfl) H
def JE (u0:Option Addr)(u1 u2:Nat)(u3:Int)(u4:Int)(h:Hp)(R:Value→Hp→Prop):Prop:=
 (Qm Tryz.prog (Builtin.append_ #[46,46] 46 #[vsl none 0 0,vsl u0 u1 u2]) h fun v1 h2=>∃ a3 n3 c3,v1=(vsl a3 n3 c3)∧(∃ b4 o5,(a3=some ⟨b4,o5,none⟩∧(0:Int)≤u3∧u3 < (n3:Int))∧(∃ x6,(Hp.cell h2 b4 (o5+u3.toNat*1)=some (vi x6))∧(∃ x7,(Rd Tryz.prog (Builtin.max_ #[3,3] 3 #[vi x6,vi u4]) h2 (vi x7))∧(∃ b8 o9,(a3=some ⟨b8,o9,none⟩∧(0:Int)≤u3∧u3 < (n3:Int))∧(Hp.store h2 b8 (o9+u3.toNat*1) [vi x7] fun h10=>R (vag [vsl a3 n3 c3]) h10))))))
theorem QaX {u0 u1 u2 u3 u4 h R}(H:JE u0 u1 u2 u3 u4 h R):Qa Tryz.prog 112 [vag [vsl u0 u1 u2],vi u3,vi u4] h R:=
 Qd (cfg:=⟨[],[],[]⟩) Qn mixed Tryz.func112 [.ag [.v (vsl u0 u1 u2)],.one (.v (vi u3)),.one (.v (vi u4))] (by kernel_rfl) rfl (by kernel_rfl) H
def Jz (u0:Option Addr)(u1 u2:Nat)(u3:Int)(h:Hp)(R:Value→Hp→Prop):Prop:=
 (∃(I2:List Value→Hp→Prop) (m3:List Value→Hp→Nat),I2 [vi 0,vi 0] h∧∀ vs4 h5,I2 vs4 h5→∃ x6 x7,vs4=[vi x6,vi x7]∧(((decide (x7 < (u1:Int)))=true→(let J17:Int→Hp→Prop:=fun x20 h21=>(∃ x22,(IsW x22 (x7+1))∧(I2 [vi x20,vi x22] h21∧m3 [vi x20,vi x22] h21 < m3 vs4 h5));(Qa Tryz.prog 108 [vag [vsl u0 u1 u2],vi x7,vi u3] h5 fun v10 h11=>∃ x12 p13,v10=(Qg [vi x12,vb p13])∧(((!p13)=true→R (Qg [vi 0,vb false]) h11)∧((!p13)=false→(((bif (decide (x7=0)) then true else(decide (x12 < x6)))=true→(J17 x12 h11))∧((bif (decide (x7=0)) then true else(decide (x12 < x6)))=false→(J17 x6 h11))))))))∧((decide (x7 < (u1:Int)))=false→R (Qg [vi x6,vb true]) h5)))
theorem QaE {u0 u1 u2 u3 h R}(H:Jz u0 u1 u2 u3 h R):Qa Tryz.prog 62 [vag [vsl u0 u1 u2],vi u3] h R:=
 Qd (cfg:=⟨[],[(3,([6,13],[.one (.int .i64),.one (.int .i64)],[]))],[]⟩) Qn mixed Tryz.func62 [.ag [.v (vsl u0 u1 u2)],.one (.v (vi u3))] (by kernel_rfl) rfl (by kernel_rfl) H
def KZ (u0:Option Addr)(u1 u2:Nat)(u3:Int)(u4:Int)(h:Hp)(R:Value→Hp→Prop):Prop:=
 (∃ b1 o2,(u0=some ⟨b1,o2,none⟩∧(0:Int)≤u3∧u3 < (u1:Int))∧(∃ x3,(Hp.cell h b1 (o2+u3.toNat*1)=some (vi x3))∧(((decide (x3 < 0))=true→R (Qg [vi 0,vb false]) h)∧((decide (x3 < 0))=false→(∃ x5,(IsW x5 (x3 - u4))∧R (Qg [vi x5,vb true]) h)))))
theorem NG {u0 u1 u2 u3 u4 h R}(H:KZ u0 u1 u2 u3 u4 h R):Qa Tryz.prog 108 [vag [vsl u0 u1 u2],vi u3,vi u4] h R:=
 Qd (cfg:=⟨[],[],[]⟩) Qn mixed Tryz.func108 [.ag [.v (vsl u0 u1 u2)],.one (.v (vi u3)),.one (.v (vi u4))] (by kernel_rfl) rfl (by kernel_rfl) H
def see (l:List Int)(p:Nat)(t:Int):List Int:=l.set p (max (l.getD p 0) t)
theorem QaY (l:List Int)(p:Nat)(t:Int):(see l p t).length=l.length:=by simp [see]
theorem Qlf (l:List Int)(p:Nat)(t:Int)(hl:∀ x ∈ l,-1≤x∧x≤9999)(ht:0≤t∧t≤9999)(hp:p < l.length):∀ x ∈ see l p t,-1≤x∧x≤9999:=by
 intro x hx
 unfold see at hx
 rcases List.mem_or_eq_of_mem_set hx with h|h
 ·exact hl x h
 ·have:l.getD p 0 ∈ l:=by rw [List.getD_eq_getElem?_getD,List.getElem?_eq_getElem hp];exact List.getElem_mem hp
  have:=hl _ this
  rw [h]
  rcases Int.le_total (l.getD p 0) t with h1|h1
  ·rw [Int.max_eq_right h1];omega
  ·rw [Int.max_eq_left h1];omega
def Qf0:List Int→Int
 | []=>0
 | x :: l=>l.foldl min x
theorem QhB (l:List Int)(x:Int)(h:l≠[]):Qf0 (l++[x])=min (Qf0 l) x:=by
 match l,h with
 | y :: l,_=>simp [Qf0,List.foldl_append]
theorem Qp1 {l:List Int}{x:Int}(h:x ∈ l):Qf0 l≤x:=by
 match l,h with
 | y :: l,h=>
  have key:∀(l:List Int) (y x:Int),(x=y∨x ∈ l)→l.foldl min y≤x:=by
   intro l
   induction l with
   | nil=>intro y x h;simp at h;subst h;exact Int.le_refl _
   | cons z l ih=>
    intro y x h
    simp only [List.foldl_cons]
    rcases h with rfl|h
    ·have:=ih (min x z) (min x z) (.inl rfl);have h2:=Int.min_le_left x z;omega
    ·rcases List.mem_cons.1 h with rfl|h
     ·have:=ih (min y x) (min y x) (.inl rfl);have h2:=Int.min_le_right y x;omega
     ·exact ih _ _ (.inr h)
  exact key l y x (List.mem_cons.1 h)
theorem Qky {l:List Int}(h:l≠[]):Qf0 l ∈ l:=by
 match l,h with
 | y :: l,_=>
  have key:∀(l:List Int) (y:Int),l.foldl min y=y∨l.foldl min y ∈ l:=by
   intro l
   induction l with
   | nil=>intro y;exact .inl rfl
   | cons z l ih=>
    intro y
    simp only [List.foldl_cons]
    rcases ih (min y z) with e|e
    ·rw [e]
     by_cases h:y≤z
     ·exact .inl (Int.min_eq_left h)
     ·exact .inr (by rw [Int.min_eq_right (by omega)];simp)
    ·exact .inr (List.mem_cons_of_mem _ e)
  exact List.mem_cons.2 (key l y)
def Z6 (d:Int)(l:List Int):Int × Bool:=if ∀ x ∈ l,0≤x then(if l=[] then 0 else Qf0 l - d,true) else(0,false)
theorem Qiu {p:Int}{h:Hp}{R:Value→Hp→Prop}(h1:¬(1≤p∧p≤3)→R (Qg [vag [vsl none 0 0],ifv (some (119,vi 1))]) h)
  (h2:1≤p→p≤3→∀ a n c h',Qh h h' 3 1 a n c ((List.replicate p.toNat (-1:Int)).map vi)→R (Qg [vag [vsl a n c],ifv none]) h') :
  Qa Tryz.prog 124 [vi p] h R:=by
 refine Qiz ?_
 unfold Qbv
 refine⟨fun e=>h1 (by simp [Bool.cond_eq_ite] at e;omega),fun e=>?_⟩
 have hp:1≤p∧p≤3:=by simp [Bool.cond_eq_ite] at e;omega
 intro J18
 refine⟨fun vs hh=>∃(i:Nat) (a:Option Addr) (n c:Nat),vs=[vi i,vsl a n c]∧(i:Int)≤p∧Qh h hh 3 1 a n c ((List.replicate i (-1:Int)).map vi),fun vs hh=>p.toNat - (Qr vs 0).toNat,⟨0,_,_,_,rfl,by omega,Qh.nil (Hp.le_refl h) _ _⟩,?_⟩
 rintro vs hh ⟨i,a,n,c,rfl,hi,O⟩
 refine⟨i,a,n,c,rfl,fun e=>?_,fun e=>?_⟩
 ·have hlt:(i:Int) < p:=by simpa using e
  intro b hb h12
  have hn:=O.sli.1
  simp at hn
  refine Qh.append Qfo (Qh.set hb _ O) (Qf.new _ _ [vi (-1)] _) (m:=1) rfl (by simp [Value.oneCell']) (by omega) (by omega) fun a' c' h' O' _ _=>⟨_,_,_,rfl,_,isW (by unfold InR;omega),⟨i+1,a',_,c',rfl,by omega,?_⟩,by simp [Qr];omega⟩
  rw [List.replicate_succ',List.map_append]
  exact O'
 ·have:(i:Int)=p:=by simp at e;omega
  refine h2 hp.1 hp.2 a n c hh ?_
  rw [←this]
  exact O
theorem Qie {a:Option Addr}{n c:Nat}{l:List Int}{p t:Int}{h:Hp}{R:Value→Hp→Prop}(S:SlI h a n l)(hn:n≤1000)(hp:0≤p)(hp':p < n)
  (hK:∀ a' c' h',Qh h h' 3 1 a' n c' ((see l p.toNat t).map vi)→R (vag [vsl a' n c']) h') :
  Qa Tryz.prog 112 [vag [vsl a n c],vi p,vi t] h R:=by
 refine QaX ?_
 unfold JE
 refine Qno Qfo S.2 (by simp [S.1]) (QkK l) (by omega) (by omega) fun a' c' h' O=>⟨_,_,_,rfl,?_⟩
 obtain⟨b,o,ea,hc⟩:=O.sli.get (i:=p.toNat) (by omega)
 refine⟨b,o,⟨ea,hp,hp'⟩,_,hc,_,QiD,b,o,⟨ea,hp,hp'⟩,O.store_i (by omega) ea fun ob O'=>hK _ _ _ O'⟩
theorem NV {a:Option Addr}{n c:Nat}{l:List Int}{p d:Int}{h:Hp}{R:Value→Hp→Prop}(S:SlI h a n l)(hp:0≤p)(hp':p < n)(hr:InR (l.getD p.toNat 0 - d))
  (hK:R (if l.getD p.toNat 0 < 0 then Qg [vi 0,vb false] else Qg [vi (l.getD p.toNat 0 - d),vb true]) h) :
  Qa Tryz.prog 108 [vag [vsl a n c],vi p,vi d] h R:=by
 refine NG ?_
 unfold KZ
 obtain⟨b,o,ea,hc⟩:=S.get (i:=p.toNat) (by omega)
 refine⟨b,o,⟨ea,hp,hp'⟩,_,hc,fun e=>?_,fun e=>?_⟩
 ·rw [if_pos (by simpa using e)] at hK;exact hK
 ·rw [if_neg (by simpa using e)] at hK;exact⟨_,isW hr,hK⟩
theorem Qib {a:Option Addr}{n c:Nat}{l:List Int}{d:Int}{h:Hp}{R:Value→Hp→Prop}(S:SlI h a n l)(hn:n≤1000)(hl:∀ x ∈ l,-1≤x∧x≤9999)(hd:0≤d∧d≤1000)
  (hK:R (Qg [vi (Z6 d l).1,vb (Z6 d l).2]) h) :
  Qa Tryz.prog 62 [vag [vsl a n c],vi d] h R:=by
 refine QaE ?_
 unfold Jz
 have hlen:=S.1
 refine⟨fun vs hh=>hh=h∧∃(i:Nat) (m:Int),vs=[vi m,vi i]∧i≤n∧(∀ x ∈ l.take i,0≤x)∧m=(if l.take i=[] then 0 else Qf0 (l.take i) - d),fun vs hh=>n - (Qr vs 1).toNat,⟨rfl,0,0,rfl,by omega,by simp,by simp⟩,?_⟩
 rintro vs hh ⟨rfl,i,m,rfl,hi,hg,hm⟩
 refine⟨m,i,rfl,fun e=>?_,fun e=>?_⟩
 ·have hlt:i < n:=by simpa using e
  intro J17
  have hx:i < l.length:=by omega
  have hget:l.getD i 0=l[i]:=by rw [List.getD_eq_getElem?_getD,List.getElem?_eq_getElem hx];rfl
  have hb:=hl l[i] (List.getElem_mem hx)
  have tk:l.take (i+1)=l.take i++[l[i]]:=List.take_succ_eq_append_getElem hx
  refine NV S (by omega) (by omega) (by rw [Int.toNat_natCast,hget];unfold InR;omega) ?_
  rw [Int.toNat_natCast,hget]
  by_cases hneg:l[i] < 0
  ·rw [if_pos hneg]
   refine⟨_,_,rfl,fun _=>?_,fun e=>by simp at e⟩
   have:¬ ∀ x ∈ l,0≤x:=fun hall=>by have:=hall _ (List.getElem_mem hx);omega
   unfold Z6 at hK
   rw [if_neg this] at hK
   exact hK
  ·rw [if_neg hneg]
   have next:∀ m':Int,m'=Qf0 (l.take (i+1)) - d→J17 m' hh:=by
    intro m' hm'
    refine⟨_,isW (by unfold InR;omega),⟨rfl,i+1,m',rfl,by omega,?_,?_⟩,by simp [Qr];omega⟩
    ·intro x hx'
     rw [tk] at hx'
     rcases List.mem_append.1 hx' with h1|h1
     ·exact hg x h1
     ·simp at h1;omega
    ·rw [if_neg (by rw [tk];exact List.append_ne_nil_of_right_ne_nil _ (by simp)),hm']
   refine⟨_,_,rfl,fun e=>by simp at e,fun _=>⟨fun e=>next _ ?_,fun e=>next _ ?_⟩⟩
   ·rw [tk]
    by_cases h0:l.take i=[]
    ·rw [h0];simp [Qf0]
    ·rw [if_neg h0] at hm
     rw [QhB _ _ h0]
     have hi0:i≠0:=fun h=>h0 (by rw [h];rfl)
     simp [Bool.cond_eq_ite,hi0] at e
     rw [Int.min_def]
     split<;>omega
   ·rw [tk]
    by_cases h0:l.take i=[]
    ·have:i=0:=by
      have:=congrArg List.length h0
      rw [List.length_take] at this
      simp only [List.length_nil] at this
      omega
     simp [this] at e
    ·rw [if_neg h0] at hm
     rw [QhB _ _ h0]
     simp [Bool.cond_eq_ite] at e
     rw [Int.min_def]
     split<;>omega
 ·have hge:i=n:=by simp at e;omega
  have ht:l.take i=l:=List.take_of_length_le (by omega)
  rw [ht] at hg hm
  unfold Z6 at hK
  rw [if_pos hg,←hm] at hK
  exact hK
structure Pn where
 k:PK
 rs:List (List Vl)
 t:Bool
abbrev Rw:=Bool × PK × List Vl
structure En where
 rd:List Nat
 far:List Int
 pn:List Pn
 late:Nat
 rows:List Rw
def Kl (k:PK)(v:List Vl):List Pn→List Pn
 | []=>[⟨k,[v],false⟩]
 | p :: l=>if Qs p.k k then p :: Kl k v l else if p.k=k then⟨k,p.rs++[v],p.t⟩ :: l else⟨k,[v],false⟩ :: p :: l
def atP (k:PK)(l:List Pn):Option Pn:=l.find? fun p=>decide (p.k=k)
def Uy (ks:List Int)(k:PK)(v:List Vl):Option Pn→List Rw
 | some p=>if p.t=true∧We ks p.rs≠We ks (p.rs++[v]) then [(true,k,We ks p.rs),(false,k,We ks (p.rs++[v]))] else []
 | none=>[]
def Kz (q:Qy)(far:Int)(e:EvL)(st:En)(s:Int):En:=
 if VY q far s then { st with late:=st.late+1 } else
 { st with pn:=Kl (s,ZE q e) (Qx q e) st.pn,rows:=st.rows++Uy (Qe q) (s,ZE q e) (Qx q e) (atP (s,ZE q e) st.pn) }
def UZ (size upto:Int)(p:Pn):Bool:=decide (p.k.1+size≤upto)
def Xi (size upto:Int)(l:List Pn):List Pn:=l.map fun p=>⟨p.k,p.rs,p.t||UZ size upto p⟩
def Qba (size upto:Int)(l:List Pn):List Pn:=l.filter fun p=>!p.t&&UZ size upto p
def Qb5 (size upto:Int)(l:List Pn):List Pn:=l.filter fun p=>!UZ size upto p
def Qhx (ks:List Int)(p:Pn):Rw:=(false,p.k,We ks p.rs)
def Jd (q:Qy)(st:En):En:=
 if (Z6 q.delay st.far).2 then { st with pn:=Qb5 q.size ((Z6 q.delay st.far).1 - q.late) (Xi q.size (Z6 q.delay st.far).1 st.pn),rows:=st.rows++(Qba q.size (Z6 q.delay st.far).1 st.pn).map (Qhx (Qe q)) } else st
def ZU (q:Qy)(far:Int)(e:EvL)(st:En):En:=if Qkr q e then(ZL e.1 q.size q.slide).foldl (Kz q far e) st else st
def Xq (p:Nat)(e:EvL)(st:En):En:={ st with rd:=st.rd.set p (st.rd.getD p 0+1),far:=see st.far p e.1 }
def Y9 (q:Qy)(p:Nat)(e:EvL)(st:En):En:=Jd q (Xq p e (ZU q (st.far.getD p 0) e st))
def K9 (parts:Nat):En:=⟨List.replicate parts 0,List.replicate parts (-1),[],0,[]⟩
theorem Qg5 (k:PK)(v:List Vl):∀ l:List Pn,(Kl k v l).map (·.k)=Vz k (l.map (·.k))
 | []=>rfl
 | p :: l=>by
  rw [Kl,List.map_cons,Vz]
  split
  ·rw [List.map_cons,Qg5 k v l]
  ·split
   ·rename_i h;rw [List.map_cons,h]
   ·rfl
theorem Qbl {k:PK}{v:List Vl}:∀{l:List Pn} {p:Pn},p ∈ Kl k v l→p ∈ l∨(p=⟨k,[v],false⟩∧True)∨∃ p0 ∈ l,p0.k=k∧p=⟨k,p0.rs++[v],p0.t⟩
 | [],p,h=>by rw [Kl] at h;exact .inr (.inl ⟨List.mem_singleton.1 h,trivial⟩)
 | x :: l,p,h=>by
  rw [Kl] at h
  split at h
  ·rcases List.mem_cons.1 h with rfl|h
   ·exact .inl (List.mem_cons_self ..)
   ·rcases Qbl h with h1|h1|⟨p0,h1,h2⟩
    ·exact .inl (List.mem_cons_of_mem _ h1)
    ·exact .inr (.inl h1)
    ·exact .inr (.inr ⟨p0,List.mem_cons_of_mem _ h1,h2⟩)
  ·split at h
   ·rename_i hk
    rcases List.mem_cons.1 h with rfl|h
    ·exact .inr (.inr ⟨x,List.mem_cons_self ..,hk,rfl⟩)
    ·exact .inl (List.mem_cons_of_mem _ h)
   ·rcases List.mem_cons.1 h with rfl|h
    ·exact .inr (.inl ⟨rfl,trivial⟩)
    ·exact .inl h
def Kq (l:List Pn):Nat:=(l.filter fun p=>!p.t).length
theorem Qjq {k:PK}{v:List Vl}:∀ l:List Pn,(Kl k v l).length≤l.length+1∧Kq (Kl k v l)≤Kq l+1
 | []=>by simp [Kl,Kq]
 | p :: l=>by
  obtain⟨h1,h2⟩:=Qjq (k:=k) (v:=v) l
  unfold Kq at *
  rw [Kl]
  split
  ·rw [List.length_cons,List.length_cons]
   refine⟨by omega,?_⟩
   rw [List.filter_cons,List.filter_cons]
   split
   ·rw [List.length_cons,List.length_cons];omega
   ·omega
  ·split
   ·rw [List.length_cons,List.length_cons]
    refine⟨by omega,?_⟩
    rw [List.filter_cons,List.filter_cons]
    split
    ·rename_i h3
     simp
    ·rename_i h3
     omega
   ·refine⟨by simp,?_⟩
    rw [List.filter_cons]
    simp
theorem Qo4 {ks:List Int}{k:PK}{v:List Vl}{o:Option Pn}:(Uy ks k v o).length≤2:=by
 unfold Uy
 split
 ·split<;>simp
 ·simp
structure EnB (q:Qy)(parts N:Nat)(st:En):Prop where
 rl:st.rd.length=parts
 rb:∀ x ∈ st.rd,x≤N
 fl:st.far.length=parts
 fb:∀ x ∈ st.far,-1≤x∧x≤9999
 ps:st.pn.Pairwise fun a b=>Qs a.k b.k
 pa:∀ p ∈ st.pn,p.rs.length≤N∧-1000≤p.k.1∧p.k.1≤9999∧∀ r ∈ p.rs,Qgb q (p.k,r)
 pl:st.pn.length≤N
 ll:st.late≤N
 wl:st.rows.length+Kq st.pn≤3*N
 wo:∀ w ∈ st.rows,w.2.2.length=q.aggs.length
theorem Wa {l:List Pn}:(l.Pairwise fun a b=>Qs a.k b.k)↔(l.map (·.k)).Pairwise Qs:=by rw [List.pairwise_map]
theorem QcP {q:Qy}{k:PK}{rs:List (List Vl)}(h:∀ r ∈ rs,Qgb q (k,r)):(We (Qe q) rs).length=q.aggs.length:=by
 unfold We
 rw [List.length_map,←QI]
 have:=congrArg List.length (VO (ks:=Qe q) (rs:=rs) fun r hr=>by rw [(h r hr).l,QI])
 rw [List.length_map] at this
 exact this
theorem QmV {q:Qy}{k:PK}{v:List Vl}{o:Option Pn}(hv:Qgb q (k,v))(ho:∀ p,o=some p→∀ r ∈ p.rs,Qgb q (k,r)):∀ w ∈ Uy (Qe q) k v o,w.2.2.length=q.aggs.length:=by
 intro w hw
 unfold Uy at hw
 split at hw
 ·rename_i p
  split at hw
  ·have h1:=ho p rfl
   have h2:∀ r ∈ p.rs++[v],Qgb q (k,r):=fun r hr=>by
    rcases List.mem_append.1 hr with h|h
    ·exact h1 r h
    ·rw [List.mem_singleton.1 h];exact hv
   simp only [List.mem_cons,List.not_mem_nil,or_false] at hw
   rcases hw with rfl|rfl
   ·exact QcP h1
   ·exact QcP h2
  ·cases hw
 ·cases hw
theorem QoD {k:PK}{l:List Pn}{p:Pn}(h:atP k l=some p):p ∈ l∧p.k=k:=by
 unfold atP at h
 exact⟨List.mem_of_find?_eq_some h,by have:=List.find?_some h;exact of_decide_eq_true this⟩
theorem Qp4 {l:List Pn}(hs:l.Pairwise fun a b=>Qs a.k b.k){p:Pn}(hp:p ∈ l):atP p.k l=some p:=by
 induction l with
 | nil=>cases hp
 | cons x l ih=>
  obtain⟨h1,h2⟩:=List.pairwise_cons.1 hs
  unfold atP
  rw [List.find?_cons]
  rcases List.mem_cons.1 hp with rfl|hp
  ·rw [decide_eq_true rfl]
  ·have hne:¬ x.k=p.k:=fun e=>Z5 p.k (by have:=h1 p hp;rw [e] at this;exact this)
   rw [decide_eq_false hne]
   exact ih h2 hp
theorem QpG {q:Qy}(B:QOk q){parts N:Nat}{st:En}(H:EnB q parts N st){far:Int}{e:EvL}(E:Yb e){s:Int}(hs:-1000≤s∧s≤9999):EnB q parts (N+1) (Kz q far e st s):=by
 have hv:Qgb q ((s,ZE q e),Qx q e):=⟨by simp [Qx],Gz B E,hs⟩
 unfold Kz
 split
 ·exact⟨H.rl,fun x hx=>Nat.le_succ_of_le (H.rb x hx),H.fl,H.fb,H.ps,fun p hp=>⟨Nat.le_succ_of_le (H.pa p hp).1,(H.pa p hp).2⟩,Nat.le_succ_of_le H.pl,by have:=H.ll;simp only;omega,by have:=H.wl;simp only;omega,H.wo⟩
 ·obtain⟨h1,h2⟩:=Qjq (k:=(s,ZE q e)) (v:=Qx q e) st.pn
  have h3:=Qo4 (ks:=Qe q) (k:=(s,ZE q e)) (v:=Qx q e) (o:=atP (s,ZE q e) st.pn)
  have hpl:=H.pl
  have hwl:=H.wl
  refine⟨H.rl,fun x hx=>Nat.le_succ_of_le (H.rb x hx),H.fl,H.fb,?_,?_,by simp only;omega,by have:=H.ll;simp only;omega,?_,?_⟩
  ·rw [Wa]
   simp only
   rw [Qg5]
   exact YQ _ (Wa.1 H.ps)
  ·intro p hp
   rcases Qbl hp with h|⟨rfl,_⟩|⟨p0,h,hk,rfl⟩
   ·obtain⟨q1,q2⟩:=H.pa p h
    exact⟨by omega,q2⟩
   ·refine⟨by simp,hs.1,hs.2,fun r hr=>?_⟩
    rw [List.mem_singleton.1 hr];exact hv
   ·obtain⟨q1,q2,q3,q4⟩:=H.pa p0 h
    refine⟨by simp;omega,hs.1,hs.2,fun r hr=>?_⟩
    rcases List.mem_append.1 hr with h5|h5
    ·have:=q4 r h5
     rw [hk] at this
     exact this
    ·rw [List.mem_singleton.1 h5];exact hv
  ·simp only [List.length_append]
   omega
  ·intro w hw
   rcases List.mem_append.1 hw with h|h
   ·exact H.wo w h
   ·refine QmV hv (fun p hp r hr=>?_) w h
    obtain⟨h5,h6⟩:=QoD hp
    have:=(H.pa p h5).2.2.2 r hr
    rw [h6] at this
    exact this
theorem VW {q:Qy}(B:QOk q){parts:Nat}{far:Int}{e:EvL}(E:Yb e):∀(ss:List Int) {N:Nat} {st:En},EnB q parts N st→(∀ s ∈ ss,-1000≤s∧s≤9999)→EnB q parts (N+ss.length) (ss.foldl (Kz q far e) st)
 | [],N,st,H,_=>H
 | s :: ss,N,st,H,hs=>by
  have:=VW (far:=far) B E ss (QpG B H E (far:=far) (hs s (List.mem_cons_self ..))) fun x hx=>hs x (List.mem_cons_of_mem _ hx)
  rw [List.length_cons,List.foldl_cons,show N+(ss.length+1)=N+1+ss.length by omega]
  exact this
theorem EnB.mono {q:Qy}{parts N M:Nat}{st:En}(H:EnB q parts N st)(h:N≤M):EnB q parts M st:=
 ⟨H.rl,fun x hx=>Nat.le_trans (H.rb x hx) h,H.fl,H.fb,H.ps,fun p hp=>⟨Nat.le_trans (H.pa p hp).1 h,(H.pa p hp).2⟩,Nat.le_trans H.pl h,Nat.le_trans H.ll h,by have:=H.wl;omega,H.wo⟩
theorem QfR {q:Qy}(B:QOk q){parts N:Nat}{st:En}(H:EnB q parts N st){far:Int}{e:EvL}(E:Yb e):EnB q parts (N+1000) (ZU q far e st):=by
 unfold ZU
 split
 ·exact(VW B E _ H (Vb B E)).mono (by have:=Qdz B (e:=e);omega)
 ·exact H.mono (by omega)
theorem Qhs {q:Qy}{far:Int}{e:EvL}{st:En}{s:Int}:(Kz q far e st s).rd=st.rd∧(Kz q far e st s).far=st.far:=by
 unfold Kz;split<;>exact⟨rfl,rfl⟩
theorem Qfb {q:Qy}{far:Int}{e:EvL}:∀(ss:List Int) (st:En),(ss.foldl (Kz q far e) st).rd=st.rd∧(ss.foldl (Kz q far e) st).far=st.far
 | [],st=>⟨rfl,rfl⟩
 | s :: ss,st=>by
  have:=Qfb (q:=q) (far:=far) (e:=e) ss (Kz q far e st s)
  rw [Qhs.1,Qhs.2] at this
  exact this
theorem Vu {q:Qy}{far:Int}{e:EvL}{st:En}:(ZU q far e st).rd=st.rd∧(ZU q far e st).far=st.far:=by
 unfold ZU;split
 ·exact Qfb _ _
 ·exact⟨rfl,rfl⟩
theorem QjR {q:Qy}{parts N:Nat}{st:En}(H:EnB q parts N st){p:Nat}(hp:p < parts){e:EvL}(E:Yb e):EnB q parts (N+1) (Xq p e st):=by
 have H':=H.mono (Nat.le_succ N)
 refine⟨by simp only [Xq,List.length_set];exact H.rl,fun x hx=>?_,by simp only [Xq,QaY];exact H.fl,Qlf _ _ _ H.fb E.t (by rw [H.fl];exact hp),H'.ps,H'.pa,H'.pl,H'.ll,H'.wl,H'.wo⟩
 simp only [Xq] at hx
 rcases List.mem_or_eq_of_mem_set hx with h|h
 ·exact H'.rb x h
 ·have:st.rd.getD p 0 ∈ st.rd:=by rw [List.getD_eq_getElem?_getD,List.getElem?_eq_getElem (by rw [H.rl];exact hp)];exact List.getElem_mem _
  have:=H.rb _ this
  omega
theorem Qdc (size upto:Int):∀ l:List Pn,(Qba size upto l).length+Kq (Xi size upto l)≤Kq l
 | []=>by simp [Qba,Kq,Xi]
 | p :: l=>by
  have ih:=Qdc size upto l
  unfold Qba Kq Xi at *
  rw [List.map_cons,List.filter_cons,List.filter_cons,List.filter_cons]
  obtain⟨k,rs,t⟩:=p
  simp only
  cases t
  ·cases hd:UZ size upto ⟨k,rs,false⟩<;>simp [hd]<;>omega
  ·cases hd:UZ size upto ⟨k,rs,true⟩<;>simp [hd]<;>omega
theorem Qmt {q:Qy}{parts N:Nat}{st:En}(H:EnB q parts N st):EnB q parts N (Jd q st):=by
 unfold Jd
 split
 ·generalize (Z6 q.delay st.far).1=u
  have hk:(Xi q.size u st.pn).map (·.k)=st.pn.map (·.k):=by unfold Xi;rw [List.map_map];rfl
  have hsub:(Qb5 q.size (u - q.late) (Xi q.size u st.pn)).Sublist (Xi q.size u st.pn):=List.filter_sublist
  have hlen:(Xi q.size u st.pn).length=st.pn.length:=by unfold Xi;rw [List.length_map]
  have hu:=Qdc q.size u st.pn
  have hu2:Kq (Qb5 q.size (u - q.late) (Xi q.size u st.pn))≤Kq (Xi q.size u st.pn):=(hsub.filter _).length_le
  have hpl:=H.pl
  have hwl:=H.wl
  refine⟨H.rl,H.rb,H.fl,H.fb,?_,?_,?_,H.ll,?_,?_⟩
  ·have:(Xi q.size u st.pn).Pairwise fun a b=>Qs a.k b.k:=by
    rw [Wa,hk];exact Wa.1 H.ps
   exact this.sublist hsub
  ·intro p hp
   have:=hsub.mem hp
   unfold Xi at this
   obtain⟨p0,h0,rfl⟩:=List.mem_map.1 this
   exact H.pa p0 h0
  ·have:=hsub.length_le
   simp only
   omega
  ·simp only [List.length_append,List.length_map]
   omega
  ·intro w hw
   rcases List.mem_append.1 hw with h|h
   ·exact H.wo w h
   ·obtain⟨p,hp,rfl⟩:=List.mem_map.1 h
    exact QcP (H.pa p (List.mem_filter.1 hp).1).2.2.2
 ·exact H
theorem Qn1 {q:Qy}(B:QOk q){parts N:Nat}{st:En}(H:EnB q parts N st){p:Nat}(hp:p < parts){e:EvL}(E:Yb e):EnB q parts (N+1001) (Y9 q p e st):=
 Qmt (QjR (QfR B H E) hp E)
theorem Qmv (q:Qy)(parts:Nat):EnB q parts 0 (K9 parts):=by
 unfold K9
 exact⟨List.length_replicate ..,fun x hx=>by rw [List.eq_of_mem_replicate hx];exact Nat.le_refl _,List.length_replicate ..,fun x hx=>by rw [List.eq_of_mem_replicate hx];decide,List.Pairwise.nil,fun p hp=>(by cases hp),Nat.le_refl _,Nat.le_refl _,by simp [Kq],fun w hw=>(by cases hw)⟩
def UL (u0:Option Addr)(u1 u2:Nat)(h:Hp)(R:Value→Hp→Prop):Prop:=
 (∃ b1 o2,((decide ((u1:Int)=1))=true→(u0=some ⟨b1,o2,none⟩∧(0:Int)≤0∧0 < (u1:Int)))∧(∃ x3,((decide ((u1:Int)=1))=true→Hp.cell h b1 (o2+(0:Int).toNat*6)=some (vi x3))∧(((bif (decide ((u1:Int)=1)) then(decide (x3=1)) else false)=true→(∃ b4 o5,(u0=some ⟨b4,o5,none⟩∧(0:Int)≤0∧0 < (u1:Int))∧(∃ x6 x7,(Hp.row h b4 ((o5+(0:Int).toNat*6)+4) 2=some [vi x6,vi x7])∧R (Qg [vag [vi x6,vi x7],vb true]) h)))∧((bif (decide ((u1:Int)=1)) then(decide (x3=1)) else false)=false→R (Qg [vag [vi 0,vi 0],vb false]) h))))
theorem QcD {u0 u1 u2 h R}(H:UL u0 u1 u2 h R):Qa Tryz.prog 221 [vsl u0 u1 u2] h R:=
 Qd (cfg:=⟨[],[],[]⟩) Qn mixed Tryz.func221 [.one (.v (vsl u0 u1 u2))] (by kernel_rfl) rfl (by kernel_rfl) H
def QfS (u0:Int)(u1:Int)(h:Hp)(R:Value→Hp→Prop):Prop:=
 (∀ b1,h b1=none→let h2:= Hp.set h b1 (Qb [vi 1,vi 0,vi 0,vi 0,vi u0,vi u1] 250);R (vsl (some (⟨b1,0,none⟩:Addr)) 1 1) h2)
theorem Qk9 {u0 u1 h R}(H:QfS u0 u1 h R):Qa Tryz.prog 222 [vag [vi u0,vi u1]] h R:=
 Qd (cfg:=⟨[],[],[]⟩) Qn mixed Tryz.func222 [.ag [.v (vi u0),.v (vi u1)]] (by kernel_rfl) rfl (by kernel_rfl) H
def MU (u0:Option Addr)(u1 u2:Nat)(h:Hp)(R:Value→Hp→Prop):Prop:=
 (Qa Tryz.prog 204 [vsl u0 u1 u2] h fun v1 h2=>∃ x3 e4,v1=(Qg [vi x3,ifv e4])∧R (vb (bif (Option.isNone e4) then(decide (x3≠1)) else false)) h2)
theorem Qej {u0 u1 u2 h R}(H:MU u0 u1 u2 h R):Qa Tryz.prog 224 [vsl u0 u1 u2] h R:=
 Qd (cfg:=⟨[],[],[]⟩) Qn mixed Tryz.func224 [.one (.v (vsl u0 u1 u2))] (by kernel_rfl) rfl (by kernel_rfl) H
def V9 (u0:Option Addr)(u1 u2:Nat)(h:Hp)(R:Value→Hp→Prop):Prop:=
 (Qa Tryz.prog 204 [vsl u0 u1 u2] h fun v1 h2=>∃ x3 e4,v1=(Qg [vi x3,ifv e4])∧R (vb (bif (Option.isNone e4) then(decide (x3≠2)) else false)) h2)
theorem QdP {u0 u1 u2 h R}(H:V9 u0 u1 u2 h R):Qa Tryz.prog 226 [vsl u0 u1 u2] h R:=
 Qd (cfg:=⟨[],[],[]⟩) Qn mixed Tryz.func226 [.one (.v (vsl u0 u1 u2))] (by kernel_rfl) rfl (by kernel_rfl) H
def MO (u0:Int)(u1:Option Addr)(u2 u3:Nat)(h:Hp)(R:Value→Hp→Prop):Prop:=
 (Qa Tryz.prog 221 [vsl u1 u2 u3] h fun v1 h2=>∃ x3 x4 p5,v1=(Qg [vag [vi x3,vi x4],vb p5])∧((p5=true→(Qa Tryz.prog 222 [vag [vi x3,vi x4]] h2 fun v6 h7=>∃ a8 n8 c8,v6=(vsl a8 n8 c8)∧(Qa Tryz.prog 223 [vi u0,vsl a8 n8 c8,vsl none 0 0] h7 fun v9 h10=>∃ a11 n11 c11,v9=(vsl a11 n11 c11)∧(Qa Tryz.prog 109 [vsl a11 n11 c11,vag [vi 0,vi 0,vi 0,vi 0,vi 0,vi 0,vi 0]] h10 fun v12 h13=>∃ x14 x15,v12=(vag [vi x14,vi x15])∧(Qa Tryz.prog 222 [vag [vi x14,vi x15]] h13 fun v16 h17=>∃ a18 n18 c18,v16=(vsl a18 n18 c18)∧R (vsl a18 n18 c18) h17)))))∧(p5=false→(∃ x20,(IsW x20 ((u2:Int) - 1))∧(∃ b21 o22,(u1=some ⟨b21,o22,none⟩∧(0:Int)≤x20∧x20 < (u2:Int))∧(∃ x23 x24 x25 x26 x27 x28,(Hp.row h2 b21 (o22+x20.toNat*6) 6=some [vi x23,vi x24,vi x25,vi x26,vi x27,vi x28])∧(∃(J29:SV→Hp→Prop),((bif (decide (u0=4)) then(decide (x23=4)) else false)=true→(Qa Tryz.prog 225 [vsl u1 u2 u3,vi x24] h2 fun v30 h31=>∃ a32 n32 c32,v30=(vsl a32 n32 c32)∧J29 (.t (.one (.v (vsl a32 n32 c32)))) h31))∧(¬((bif (decide (u0=4)) then(decide (x23=4)) else false)=true)→J29 (.t (.one (.v (vsl none 0 0)))) h2)∧∀ h33 a34 n34 c34,J29 (.t (.one (.v (vsl a34 n34 c34)))) h33→(∃(J35:SV→Hp→Prop),((bif (decide (u0=4)) then(decide (x23=4)) else false)=true→(Qa Tryz.prog 224 [vsl a34 n34 c34] h33 fun v36 h37=>∃ p38,v36=(vb p38)∧J35 (.t (.one (.v (vb p38)))) h37))∧(¬((bif (decide (u0=4)) then(decide (x23=4)) else false)=true)→J35 (.t (.one (.v (vb false)))) h33)∧∀ h39 p40,J35 (.t (.one (.v (vb p40)))) h39→(let J55:Bool→Hp→Prop:=fun p57 h58=>((p57=true→(Qa Tryz.prog 225 [vsl u1 u2 u3,vi x24] h58 fun v59 h60=>∃ a61 n61 c61,v59=(vsl a61 n61 c61)∧R (vsl a61 n61 c61) h60))∧(p57=false→(Qa Tryz.prog 223 [vi u0,vsl u1 u2 u3,vsl none 0 0] h58 fun v63 h64=>∃ a65 n65 c65,v63=(vsl a65 n65 c65)∧R (vsl a65 n65 c65) h64)));(((bif (bif (decide (u0=4)) then(decide (x23=4)) else false) then p40 else false)=true→(J55 (bif (bif (decide (u0=4)) then(decide (x23=4)) else false) then p40 else false) h39))∧((bif (bif (decide (u0=4)) then(decide (x23=4)) else false) then p40 else false)=false→(∃(J42:SV→Hp→Prop),((bif (decide (u0=3)) then(decide (x23=3)) else false)=true→(Qa Tryz.prog 225 [vsl u1 u2 u3,vi x24] h39 fun v43 h44=>∃ a45 n45 c45,v43=(vsl a45 n45 c45)∧J42 (.t (.one (.v (vsl a45 n45 c45)))) h44))∧(¬((bif (decide (u0=3)) then(decide (x23=3)) else false)=true)→J42 (.t (.one (.v (vsl none 0 0)))) h39)∧∀ h46 a47 n47 c47,J42 (.t (.one (.v (vsl a47 n47 c47)))) h46→(∃(J48:SV→Hp→Prop),((bif (decide (u0=3)) then(decide (x23=3)) else false)=true→(Qa Tryz.prog 226 [vsl a47 n47 c47] h46 fun v49 h50=>∃ p51,v49=(vb p51)∧J48 (.t (.one (.v (vb p51)))) h50))∧(¬((bif (decide (u0=3)) then(decide (x23=3)) else false)=true)→J48 (.t (.one (.v (vb false)))) h46)∧∀ h52 p53,J48 (.t (.one (.v (vb p53)))) h52→(J55 (bif (bif (decide (u0=3)) then(decide (x23=3)) else false) then p53 else false) h52))))))))))))))
theorem Qfl {u0 u1 u2 u3 h R}(H:MO u0 u1 u2 u3 h R):Qa Tryz.prog 181 [vi u0,vsl u1 u2 u3] h R:=
 Qd (cfg:=⟨[],[],[]⟩) Qn mixed Tryz.func181 [.one (.v (vi u0)),.one (.v (vsl u1 u2 u3))] (by kernel_rfl) rfl (by kernel_rfl) H
def GS (u0:Int)(u1:Option Addr)(u2 u3:Nat)(u4:Int)(u5:Int)(u6:Bool)(h:Hp)(R:Value→Hp→Prop):Prop:=
 (∃(J1:SV→Hp→Prop),((decide (u0=9))=true→(Qa Tryz.prog 110 [vb true] h fun v2 h3=>∃ x4 x5,v2=(vag [vi x4,vi x5])∧J1 (.t (.ag [.v (vi x4),.v (vi x5)])) h3))∧(¬((decide (u0=9))=true)→J1 (.t (.ag [.v (vi 0),.v (vi 0)])) h)∧∀ h6 x7 x8,J1 (.t (.ag [.v (vi x7),.v (vi x8)])) h6→(∃ p9,((decide (u0=9))=true→Rd Tryz.prog ((eqGuard .eql 54 (.tmp 14) (.tmp 15) (vag [vi u4,vi u5]) (vag [vi x7,vi x8]) >>= fun _=>binOp .eql 54 (vag [vi u4,vi u5]) (vag [vi x7,vi x8]))) h6 (vb p9))∧(∃(J10:SV→Hp→Prop),(((bif (decide (u0=9)) then p9 else false)=false∧(decide (u0=10))=true)→(Qa Tryz.prog 110 [vb false] h6 fun v11 h12=>∃ x13 x14,v11=(vag [vi x13,vi x14])∧J10 (.t (.ag [.v (vi x13),.v (vi x14)])) h12))∧(¬((bif (decide (u0=9)) then p9 else false)=false∧(decide (u0=10))=true)→J10 (.t (.ag [.v (vi 0),.v (vi 0)])) h6)∧∀ h15 x16 x17,J10 (.t (.ag [.v (vi x16),.v (vi x17)])) h15→(∃ p18,(((bif (decide (u0=9)) then p9 else false)=false∧(decide (u0=10))=true)→Rd Tryz.prog ((eqGuard .eql 54 (.tmp 22) (.tmp 23) (vag [vi u4,vi u5]) (vag [vi x16,vi x17]) >>= fun _=>binOp .eql 54 (vag [vi u4,vi u5]) (vag [vi x16,vi x17]))) h15 (vb p18))∧(∃(J19:SV→Hp→Prop),((bif (bif (decide (u0=9)) then p9 else false) then true else(bif (decide (u0=10)) then p18 else false))=true→(Qa Tryz.prog 224 [vsl u1 u2 u3] h15 fun v20 h21=>∃ p22,v20=(vb p22)∧J19 (.t (.one (.v (vb p22)))) h21))∧(¬((bif (bif (decide (u0=9)) then p9 else false) then true else(bif (decide (u0=10)) then p18 else false))=true)→J19 (.t (.one (.v (vb false)))) h15)∧∀ h23 p24,J19 (.t (.one (.v (vb p24)))) h23→(((bif (bif (bif (decide (u0=9)) then p9 else false) then true else(bif (decide (u0=10)) then p18 else false)) then p24 else false)=true→R (Qg [vsl u1 u2 u3,vb true]) h23)∧((bif (bif (bif (decide (u0=9)) then p9 else false) then true else(bif (decide (u0=10)) then p18 else false)) then p24 else false)=false→(∃(J25:SV→Hp→Prop),((decide (u0=9))=true→(Qa Tryz.prog 110 [vb false] h23 fun v26 h27=>∃ x28 x29,v26=(vag [vi x28,vi x29])∧J25 (.t (.ag [.v (vi x28),.v (vi x29)])) h27))∧(¬((decide (u0=9))=true)→J25 (.t (.ag [.v (vi 0),.v (vi 0)])) h23)∧∀ h30 x31 x32,J25 (.t (.ag [.v (vi x31),.v (vi x32)])) h30→(∃ p33,((decide (u0=9))=true→Rd Tryz.prog ((eqGuard .eql 54 (.tmp 36) (.tmp 37) (vag [vi u4,vi u5]) (vag [vi x31,vi x32]) >>= fun _=>binOp .eql 54 (vag [vi u4,vi u5]) (vag [vi x31,vi x32]))) h30 (vb p33))∧(let J45:Bool→Hp→Prop:=fun p47 h48=>((p47=true→(Qa Tryz.prog 222 [vag [vi u4,vi u5]] h48 fun v49 h50=>∃ a51 n51 c51,v49=(vsl a51 n51 c51)∧R (Qg [vsl a51 n51 c51,vb true]) h50))∧(p47=false→(∃(J52:SV→Hp→Prop),((decide (u0=6))=true→(Qa Tryz.prog 197 [vi 0] h48 fun v53 h54=>∃ x55 x56,v53=(vag [vi x55,vi x56])∧J52 (.t (.ag [.v (vi x55),.v (vi x56)])) h54))∧(¬((decide (u0=6))=true)→J52 (.t (.ag [.v (vi 0),.v (vi 0)])) h48)∧∀ h57 x58 x59,J52 (.t (.ag [.v (vi x58),.v (vi x59)])) h57→(∃ p60,((decide (u0=6))=true→Rd Tryz.prog ((eqGuard .eql 54 (.tmp 53) (.tmp 54) (vag [vi u4,vi u5]) (vag [vi x58,vi x59]) >>= fun _=>binOp .eql 54 (vag [vi u4,vi u5]) (vag [vi x58,vi x59]))) h57 (vb p60))∧(∃(J61:SV→Hp→Prop),(((bif (decide (u0=6)) then p60 else false)=false∧(decide (u0=8))=true)→(Qa Tryz.prog 197 [vi 1] h57 fun v62 h63=>∃ x64 x65,v62=(vag [vi x64,vi x65])∧J61 (.t (.ag [.v (vi x64),.v (vi x65)])) h63))∧(¬((bif (decide (u0=6)) then p60 else false)=false∧(decide (u0=8))=true)→J61 (.t (.ag [.v (vi 0),.v (vi 0)])) h57)∧∀ h66 x67 x68,J61 (.t (.ag [.v (vi x67),.v (vi x68)])) h66→(∃ p69,(((bif (decide (u0=6)) then p60 else false)=false∧(decide (u0=8))=true)→Rd Tryz.prog ((eqGuard .eql 54 (.tmp 61) (.tmp 62) (vag [vi u4,vi u5]) (vag [vi x67,vi x68]) >>= fun _=>binOp .eql 54 (vag [vi u4,vi u5]) (vag [vi x67,vi x68]))) h66 (vb p69))∧(∃(J70:SV→Hp→Prop),(((bif (bif (decide (u0=6)) then p60 else false) then true else(bif (decide (u0=8)) then p69 else false))=false∧(bif (decide (u0=7)) then u6 else false)=true)→(Qa Tryz.prog 197 [vi 0] h66 fun v71 h72=>∃ x73 x74,v71=(vag [vi x73,vi x74])∧J70 (.t (.ag [.v (vi x73),.v (vi x74)])) h72))∧(¬((bif (bif (decide (u0=6)) then p60 else false) then true else(bif (decide (u0=8)) then p69 else false))=false∧(bif (decide (u0=7)) then u6 else false)=true)→J70 (.t (.ag [.v (vi 0),.v (vi 0)])) h66)∧∀ h75 x76 x77,J70 (.t (.ag [.v (vi x76),.v (vi x77)])) h75→(∃ p78,(((bif (bif (decide (u0=6)) then p60 else false) then true else(bif (decide (u0=8)) then p69 else false))=false∧(bif (decide (u0=7)) then u6 else false)=true)→Rd Tryz.prog ((eqGuard .eql 54 (.tmp 73) (.tmp 74) (vag [vi u4,vi u5]) (vag [vi x76,vi x77]) >>= fun _=>binOp .eql 54 (vag [vi u4,vi u5]) (vag [vi x76,vi x77]))) h75 (vb p78))∧(∃(J79:SV→Hp→Prop),((bif (bif (bif (decide (u0=6)) then p60 else false) then true else(bif (decide (u0=8)) then p69 else false)) then true else(bif (bif (decide (u0=7)) then u6 else false) then p78 else false))=true→(Qa Tryz.prog 226 [vsl u1 u2 u3] h75 fun v80 h81=>∃ p82,v80=(vb p82)∧J79 (.t (.one (.v (vb p82)))) h81))∧(¬((bif (bif (bif (decide (u0=6)) then p60 else false) then true else(bif (decide (u0=8)) then p69 else false)) then true else(bif (bif (decide (u0=7)) then u6 else false) then p78 else false))=true)→J79 (.t (.one (.v (vb false)))) h75)∧∀ h83 p84,J79 (.t (.one (.v (vb p84)))) h83→(((bif (bif (bif (bif (decide (u0=6)) then p60 else false) then true else(bif (decide (u0=8)) then p69 else false)) then true else(bif (bif (decide (u0=7)) then u6 else false) then p78 else false)) then p84 else false)=true→R (Qg [vsl u1 u2 u3,vb true]) h83)∧((bif (bif (bif (bif (decide (u0=6)) then p60 else false) then true else(bif (decide (u0=8)) then p69 else false)) then true else(bif (bif (decide (u0=7)) then u6 else false) then p78 else false)) then p84 else false)=false→(((bif (bif (decide (u0≠9)) then(decide (u0≠10)) else false) then(decide (u4=0)) else false)=true→(Qa Tryz.prog 222 [vag [vi u4,vi u5]] h83 fun v85 h86=>∃ a87 n87 c87,v85=(vsl a87 n87 c87)∧R (Qg [vsl a87 n87 c87,vb true]) h86))∧((bif (bif (decide (u0≠9)) then(decide (u0≠10)) else false) then(decide (u4=0)) else false)=false→R (Qg [vsl none 0 0,vb false]) h83)))))))))))));(((bif (decide (u0=9)) then p33 else false)=true→(J45 (bif (decide (u0=9)) then p33 else false) h30))∧((bif (decide (u0=9)) then p33 else false)=false→(∃(J35:SV→Hp→Prop),((decide (u0=10))=true→(Qa Tryz.prog 110 [vb true] h30 fun v36 h37=>∃ x38 x39,v36=(vag [vi x38,vi x39])∧J35 (.t (.ag [.v (vi x38),.v (vi x39)])) h37))∧(¬((decide (u0=10))=true)→J35 (.t (.ag [.v (vi 0),.v (vi 0)])) h30)∧∀ h40 x41 x42,J35 (.t (.ag [.v (vi x41),.v (vi x42)])) h40→(∃ p43,((decide (u0=10))=true→Rd Tryz.prog ((eqGuard .eql 54 (.tmp 43) (.tmp 44) (vag [vi u4,vi u5]) (vag [vi x41,vi x42]) >>= fun _=>binOp .eql 54 (vag [vi u4,vi u5]) (vag [vi x41,vi x42]))) h40 (vb p43))∧(J45 (bif (decide (u0=10)) then p43 else false) h40)))))))))))))))
theorem Qet {u0 u1 u2 u3 u4 u5 u6 h R}(H:GS u0 u1 u2 u3 u4 u5 u6 h R):Qa Tryz.prog 227 [vi u0,vsl u1 u2 u3,vag [vi u4,vi u5],vb u6] h R:=
 Qd (cfg:=⟨[],[],[(1,[0,1,2,3,4,5,6,7,8,9,10,11,12,13,14,15,16,17,18,19,20]),(3,[0,1,2,3,4,5,6,7]),(4,[0,1,2,3,4,5,6,7]),(6,[0,1,2,3,4,5,6,7,8,9,10,11,12,13,14,15,16,17,18,19,20,21,22,23,24,25,26,27,28,29,30,31,32])]⟩) Qn mixed Tryz.func227 [.one (.v (vi u0)),.one (.v (vsl u1 u2 u3)),.ag [.v (vi u4),.v (vi u5)],.one (.v (vb u6))] (by kernel_rfl) rfl (by kernel_rfl) H
def GH (u0:Int)(u1:Option Addr)(u2 u3:Nat)(u4:Option Addr)(u5 u6:Nat)(h:Hp)(R:Value→Hp→Prop):Prop:=
 (Qa Tryz.prog 221 [vsl u1 u2 u3] h fun v1 h2=>∃ x3 x4 p5,v1=(Qg [vag [vi x3,vi x4],vb p5])∧(Qa Tryz.prog 221 [vsl u4 u5 u6] h2 fun v6 h7=>∃ x8 x9 p10,v6=(Qg [vag [vi x8,vi x9],vb p10])∧(((bif p5 then p10 else false)=true→(Qa Tryz.prog 165 [vi u0,vag [vi x3,vi x4],vag [vi x8,vi x9]] h7 fun v11 h12=>∃ x13 x14,v11=(vag [vi x13,vi x14])∧(Qa Tryz.prog 222 [vag [vi x13,vi x14]] h12 fun v15 h16=>∃ a17 n17 c17,v15=(vsl a17 n17 c17)∧R (vsl a17 n17 c17) h16)))∧((bif p5 then p10 else false)=false→(let J25:Hp→Prop:=fun h26=>(let J33:Hp→Prop:=fun h34=>(Qa Tryz.prog 223 [vi u0,vsl u1 u2 u3,vsl u4 u5 u6] h34 fun v35 h36=>∃ a37 n37 c37,v35=(vsl a37 n37 c37)∧R (vsl a37 n37 c37) h36);((p10=true→(Qa Tryz.prog 227 [vi u0,vsl u1 u2 u3,vag [vi x8,vi x9],vb true] h26 fun v27 h28=>∃ a29 n29 c29 p30,v27=(Qg [vsl a29 n29 c29,vb p30])∧((p30=true→R (vsl a29 n29 c29) h28)∧(p30=false→(J33 h28)))))∧(p10=false→(J33 h26))));((p5=true→(Qa Tryz.prog 227 [vi u0,vsl u4 u5 u6,vag [vi x3,vi x4],vb false] h7 fun v19 h20=>∃ a21 n21 c21 p22,v19=(Qg [vsl a21 n21 c21,vb p22])∧((p22=true→R (vsl a21 n21 c21) h20)∧(p22=false→(J25 h20)))))∧(p5=false→(J25 h7))))))))
theorem Qf7 {u0 u1 u2 u3 u4 u5 u6 h R}(H:GH u0 u1 u2 u3 u4 u5 u6 h R):Qa Tryz.prog 182 [vi u0,vsl u1 u2 u3,vsl u4 u5 u6] h R:=
 Qd (cfg:=⟨[],[],[]⟩) Qn mixed Tryz.func182 [.one (.v (vi u0)),.one (.v (vsl u1 u2 u3)),.one (.v (vsl u4 u5 u6))] (by kernel_rfl) rfl (by kernel_rfl) H
def Qbd (u0:Option Addr)(u1 u2:Nat)(h:Hp)(R:Value→Hp→Prop):Prop:=
 (∃(I2:List Value→Hp→Prop) (m3:List Value→Hp→Nat),I2 [vsl none 0 0,vi 0] h∧∀ vs4 h5,I2 vs4 h5→∃ a6 n6 c6 x7,vs4=[vsl a6 n6 c6,vi x7]∧(((decide (x7 < (u1:Int)))=true→(∃ b10 o11,(u0=some ⟨b10,o11,none⟩∧(0:Int)≤x7∧x7 < (u1:Int))∧(∃ x12 x13 x14 x15 x16 x17,(Hp.row h5 b10 (o11+x7.toNat*6) 6=some [vi x12,vi x13,vi x14,vi x15,vi x16,vi x17])∧(Qa Tryz.prog 180 [vi x12] h5 fun v18 h19=>∃ x20,v18=(vi x20)∧(∃ x21,(IsW x21 ((n6:Int) - x20))∧(∃ a22 n22 c22,(Rd Tryz.prog (Instr.sliceAt 265 (vsl a6 n6 c6) (some (vi x21)) none none) h19 (vsl a22 n22 c22))∧(let J43:Option Addr→Nat→Nat→Hp→Prop:=fun a46 n46 c46 h47=>(∃ a48 n48 c48,(Rd Tryz.prog (Instr.sliceAt 265 (vsl a6 n6 c6) none (some (vi x21)) (some (vi x21))) h47 (vsl a48 n48 c48))∧(∀ b49,h47 b49=none→let h50:= Hp.set h47 b49 (Qb [vsl a46 n46 c46] 28);(Qm Tryz.prog (Builtin.append_ #[265,265] 265 #[vsl a48 n48 c48,(vsl (some (⟨b49,0,none⟩:Addr)) 1 1)]) h50 fun v51 h52=>∃ a53 n53 c53,v51=(vsl a53 n53 c53)∧(∃ x55,(IsW x55 (x7+1))∧(I2 [vsl a53 n53 c53,vi x55] h52∧m3 [vsl a53 n53 c53,vi x55] h52 < m3 vs4 h5)))));(((decide ((n22:Int)=0))=true→(∀ b23,h19 b23=none→let h24:= Hp.set h19 b23 (Qb [vi x12,vi x13,vi x14,vi x15,vi x16,vi x17] 250);(J43 (some (⟨b23,0,none⟩:Addr)) 1 1 h24)))∧((decide ((n22:Int)=0))=false→(((decide ((n22:Int)=1))=true→(∃ b26 o27,(a22=some ⟨b26,o27,none⟩∧(0:Int)≤0∧0 < (n22:Int))∧(∃ a28 n28 c28,(Hp.cell h19 b26 (o27+(0:Int).toNat*1)=some (vsl a28 n28 c28))∧(Qa Tryz.prog 181 [vi x12,vsl a28 n28 c28] h19 fun v29 h30=>∃ a31 n31 c31,v29=(vsl a31 n31 c31)∧(J43 a31 n31 c31 h30)))))∧((decide ((n22:Int)=1))=false→(∃ b33 o34,(a22=some ⟨b33,o34,none⟩∧(0:Int)≤0∧0 < (n22:Int))∧(∃ a35 n35 c35,(Hp.cell h19 b33 (o34+(0:Int).toNat*1)=some (vsl a35 n35 c35))∧(∃ b36 o37,(a22=some ⟨b36,o37,none⟩∧(0:Int)≤1∧1 < (n22:Int))∧(∃ a38 n38 c38,(Hp.cell h19 b36 (o37+(1:Int).toNat*1)=some (vsl a38 n38 c38))∧(Qa Tryz.prog 182 [vi x12,vsl a35 n35 c35,vsl a38 n38 c38] h19 fun v39 h40=>∃ a41 n41 c41,v39=(vsl a41 n41 c41)∧(J43 a41 n41 c41 h40)))))))))))))))))∧((decide (x7 < (u1:Int)))=false→(∃ b56 o57,(a6=some ⟨b56,o57,none⟩∧(0:Int)≤0∧0 < (n6:Int))∧(∃ a58 n58 c58,(Hp.cell h5 b56 (o57+(0:Int).toNat*1)=some (vsl a58 n58 c58))∧R (vsl a58 n58 c58) h5)))))
theorem Qid {u0 u1 u2 h R}(H:Qbd u0 u1 u2 h R):Qa Tryz.prog 125 [vsl u0 u1 u2] h R:=
 Qd (cfg:=⟨[],[(3,([3,11],[.one (.slice),.one (.int .i64)],[]))],[(13,[0,1,2,3,4,5,6]),(9,[0,1,2,3,4,5,6,7,8,9])]⟩) Qn mixed Tryz.func125 [.one (.v (vsl u0 u1 u2))] (by kernel_rfl) rfl (by kernel_rfl) H
theorem Qff {β:Type}{d:β}{F:Nd→β→β→β}(hF:QoW F)(hS:∀(k:Int) n a b,F (shN k n) a b=F n a b){op:Int}(ho:1≤arI op){l m:List Nd}(W:WfL l)(W':WfL m)(hl:0 < l.length)(hm:2≤arI op→0 < m.length) :
  ∃ y,fAt d F (Z1 op l m) (l.length+m.length)=F ⟨op,(l.length:Int) - 1,y,0,(0,0)⟩ (fAt d F l (l.length - 1)) (if arI op=2 then fAt d F m (m.length - 1) else fAt d F l (l.length - 1)):=by
 have ha:=ar0 (op:=op) (by omega)
 have WJ:=WfL.join (op:=op) (by omega) W W' hl hm (by omega)
 have hj:(Z1 op l m)[l.length+m.length]?=some ⟨op,(l.length:Int) - 1,if 1 < arI op then((l.length+m.length:Nat):Int) - 1 else 0,0,(0,0)⟩:=by
  unfold Z1
  rw [List.getElem?_append_right (by simp)]
  simp
 refine⟨if 1 < arI op then((l.length+m.length:Nat):Int) - 1 else 0,(YG hF hj (WJ _ _ hj)).trans ?_⟩
 refine hF _ _ _ _ _ (by simp only;omega) (fun _=>?_) fun h2=>?_
 ·simp only
  rw [show ((l.length:Int) - 1).toNat=l.length - 1 by omega]
  unfold Z1
  rw [List.append_assoc]
  exact QhV _ _ (by omega)
 ·simp only at h2 ⊢
  have h2':arI op=2:=by rcases Q3 (op:=op) (by omega) with q|q|q<;>omega
  rw [if_pos (by omega:1 < arI op),if_pos h2']
  have:=hm h2
  rw [show (((l.length+m.length:Nat):Int) - 1).toNat=l.length+(m.length - 1) by omega]
  exact Qo6 hF hS W' l _ _ (by omega)
theorem QaT:WfL ([]:List Nd):=by intro i n hn;cases hn
theorem Rep.pos {P:EvL→Int × Int}{T:Option Int}{k:Nat}{z:List Nd}(R:Rep P T k z):0 < z.length:=R.ok.pos
theorem Qhb {op:Int}{a b:Option Int}{t:Int}(h:tyG op a b=some t):∃ x y,a=some x∧b=some y:=by
 cases a with
 | none=>cases b<;>cases h
 | some x=>
  cases b with
  | none=>cases h
  | some y=>exact⟨x,y,rfl,rfl⟩
theorem QkH {op x y x' y' t:Int}(h:tyG op (some x) (some y)=some t)(hx:x'=0∨x'=x)(hy:y'=0∨y'=y):tyG op (some x') (some y')=some t:=by
 unfold tyG at h ⊢
 simp only at h ⊢
 split at h
 ·rename_i h1;rw [if_pos h1];exact h
 ·rename_i h1
  rw [if_neg h1]
  split at h
  ·cases h
  ·rename_i h2
   rw [if_neg (by omega)]
   exact h
theorem Rep.join2 {P Q:EvL→Int × Int}{T U:Option Int}{k j:Nat}{x y:List Nd}{op:Int}(ho:arI op=2)(A:Rep P T k x)(B:Rep Q U j y):Rep (fun e=>opV op (P e) (Q e)) (tyG op T U) (k+j+1) (Z1 op x y):=by
 have ar:=ar0 (op:=op) (by omega)
 have hp:=A.pos
 have hq:=B.pos
 have hA:=A.len
 have hB:=B.len
 refine⟨Jn (Qk4 ho A.ok B.ok),by rw [Zo];omega,fun e E=>?_,fun t ht=>?_⟩
 ·rw [Qlu e ho A.ok.wf B.ok.wf hp hq,A.val e E,B.val e E]
  unfold opV
  rw [if_neg (by omega),if_neg (by omega),if_neg (by omega)]
 ·obtain⟨tx,ty,rfl,rfl⟩:=Qhb ht
  obtain⟨tx',e1,h1⟩:=A.ty tx rfl
  obtain⟨ty',e2,h2⟩:=B.ty ty rfl
  obtain⟨y',hy⟩:=Qff (d:=none) (F:=tyF) Xv (fun _ _ _ _=>rfl) (op:=op) (by omega) A.ok.wf B.ok.wf hp (fun _=>hq)
  rw [Zo,show x.length+y.length+1 - 1=x.length+y.length by omega]
  refine⟨t,?_,.inr rfl⟩
  rw [tAt,hy,Kr (by simp only;omega) (by simp only;omega)]
  simp only
  rw [if_pos ho,if_pos ho,show fAt none tyF x (x.length - 1)=some tx' from e1,show fAt none tyF y (y.length - 1)=some ty' from e2]
  exact QkH ht h1 h2
theorem Rep.join1 {P:EvL→Int × Int}{T:Option Int}{k:Nat}{x:List Nd}{op:Int}(ho:arI op=1)(A:Rep P T k x):Rep (fun e=>opV op (P e) (P e)) (tyG op T T) (k+1) (Z1 op x []):=by
 have ar:=ar0 (op:=op) (by omega)
 have hp:=A.pos
 have hA:=A.len
 refine⟨Jn (Qlg ho A.ok),by rw [Zo];simp;omega,fun e E=>?_,fun t ht=>?_⟩
 ·obtain⟨y',hy⟩:=Qff (d:=(0,0)) (F:=XJ e) (YW e) (Qjo e) (op:=op) (by omega) A.ok.wf QaT hp (fun h=>by omega)
  unfold ZX
  rw [Zo,show x.length+([]:List Nd).length+1 - 1=x.length+([]:List Nd).length by omega,vAt,hy,GP e (by simp only;omega) (by simp only;omega),if_neg (by omega)]
  have:=A.val e E
  unfold ZX vAt at this
  rw [this]
 ·obtain⟨tx,ty,rfl,h2⟩:=Qhb ht
  obtain⟨tx',e1,h1⟩:=A.ty tx rfl
  obtain⟨y',hy⟩:=Qff (d:=none) (F:=tyF) Xv (fun _ _ _ _=>rfl) (op:=op) (by omega) A.ok.wf QaT hp (fun h=>by omega)
  rw [Zo,show x.length+([]:List Nd).length+1 - 1=x.length+([]:List Nd).length by omega]
  refine⟨t,?_,.inr rfl⟩
  rw [tAt,hy,Kr (by simp only;omega) (by simp only;omega)]
  simp only
  rw [show fAt none tyF x (x.length - 1)=some tx' from e1]
  simp only [ho,show ¬(1:Int)=2 by decide,if_false]
  exact QkH ht h1 h1
theorem QmY {v:Int × Int}(h:Qo v)(h1:v.1≠1):Gm (Gm v)=v:=by
 obtain⟨a,b⟩:=v
 have:(a=0∧b=0)∨(a=2∧b=0)∨(a=2∧b=1):=by
  unfold Qo at h
  simp only at h h1
  omega
 rcases this with ⟨rfl,rfl⟩|⟨rfl,rfl⟩|⟨rfl,rfl⟩<;>decide
theorem Qe5 {n:Int}(h:-1000000000≤n∧n≤1000000000):WG (w64 n)=(1,n):=by
 rw [QqU (by unfold InR;omega)]
 unfold WG
 rw [if_neg (by omega)]
theorem Qp9 {v:Int × Int}(h:Qo v)(h1:v.1≠2):QdY (QdY v)=v:=by
 obtain⟨a,b⟩:=v
 have:(a=0∧b=0)∨(a=1∧-1000000000≤b∧b≤1000000000):=by
  unfold Qo at h
  simp only at h h1
  omega
 rcases this with ⟨rfl,rfl⟩|⟨rfl,hb⟩
 ·decide
 ·have e1:QdY (1,b)=(1,-b):=by
   unfold QdY
   rw [if_pos rfl]
   exact Qe5 (by simp only;omega)
  rw [e1]
  unfold QdY
  rw [if_pos rfl]
  have:=Qe5 (n:=- -b) (by omega)
  simp only
  rw [this]
  simp
theorem Qrx {v:Int × Int}(h:Qo v)(h1:v.1≠1):v=(0,0)∨v=(2,0)∨v=(2,1):=by
 obtain⟨a,b⟩:=v
 unfold Qo at h
 simp only [Prod.mk.injEq] at *
 omega
theorem Qmm {v:Int × Int}(h:Qo v)(h1:v.1≠1):doV 9 v (2,1)=v∧doV 9 (2,1) v=v:=by
 rcases Qrx h h1 with rfl|rfl|rfl<;>decide
theorem QqB {v:Int × Int}(h:Qo v)(h1:v.1≠1):doV 10 v (2,0)=v∧doV 10 (2,0) v=v:=by
 rcases Qrx h h1 with rfl|rfl|rfl<;>decide
theorem QoK (v:Int × Int):doV 9 v (2,0)=(2,0)∧doV 9 (2,0) v=(2,0):=by
 unfold doV QdX
 simp
theorem Qj3 (a b:Int × Int):doV 10 a b=Gm (QdX (Gm a) (Gm b)):=by
 unfold doV
 rw [if_neg (by decide),if_pos rfl]
theorem Qou (v:Int × Int):doV 10 v (2,1)=(2,1)∧doV 10 (2,1) v=(2,1):=by
 rw [Qj3,Qj3]
 have e:Gm (2,1)=(2,0):=by decide
 rw [e]
 unfold QdX
 constructor
 ·rw [if_pos (.inr rfl)];decide
 ·rw [if_pos (.inl rfl)];decide
theorem QlW {op:Int}(h9:op≠9)(h10:op≠10){a b:Int × Int}(h:a.1=0∨b.1=0):doV op a b=(0,0):=by
 unfold doV
 rw [if_neg h9,if_neg h10,if_neg (by omega)]
theorem QcX {v:Int × Int}(h:Qo v)(h1:v.1≠2):v=(0,0)∨∃ n,v=(1,n)∧-1000000000≤n∧n≤1000000000:=by
 obtain⟨a,b⟩:=v
 unfold Qo at h
 simp only at h h1
 rcases h with ⟨rfl,rfl⟩|⟨rfl,hb⟩|⟨h2,_⟩
 ·exact .inl rfl
 ·exact .inr ⟨b,rfl,hb⟩
 ·exact absurd h2 h1
theorem QqH {v:Int × Int}(h:Qo v)(h1:v.1≠2):doV 6 v (1,0)=v∧doV 6 (1,0) v=v:=by
 rcases QcX h h1 with rfl|⟨n,rfl,hn⟩
 ·decide
 ·unfold doV
  simp only [show ¬(6:Int)=9 by decide,show ¬(6:Int)=10 by decide,if_false,and_self,if_true,Int.add_zero,Int.zero_add]
  exact Qe5 hn
theorem QqD {v:Int × Int}(h:Qo v)(h1:v.1≠2):doV 8 v (1,1)=v∧doV 8 (1,1) v=v:=by
 rcases QcX h h1 with rfl|⟨n,rfl,hn⟩
 ·decide
 ·unfold doV
  simp only [show ¬(8:Int)=9 by decide,show ¬(8:Int)=10 by decide,show ¬(8:Int)=6 by decide,show ¬(8:Int)=7 by decide,if_false,and_self,if_true,Int.mul_one,Int.one_mul]
  exact Qe5 hn
theorem QrM {v:Int × Int}(h:Qo v)(h1:v.1≠2):doV 7 v (1,0)=v:=by
 rcases QcX h h1 with rfl|⟨n,rfl,hn⟩
 ·decide
 ·unfold doV
  simp only [show ¬(7:Int)=9 by decide,show ¬(7:Int)=10 by decide,show ¬(7:Int)=6 by decide,if_false,and_self,if_true,Int.sub_zero]
  exact Qe5 hn
theorem Qo2 {x:List Nd}(O:OkE x){n:Nd}(hx:x[x.length - 1]?=some n)(ha:arI n.op=1) :
  2≤x.length∧n.x=(x.length:Int) - 2∧Blk x 0 (x.length - 1)∧OkE (ZN x 0 (x.length - 1))∧(∀ e,ZX e x=opV n.op (ZX e (ZN x 0 (x.length - 1))) (ZX e (ZN x 0 (x.length - 1))))∧tAt x (x.length - 1)=tyG n.op (tAt x (x.length - 2)) (tAt x (x.length - 2))∧tAt (ZN x 0 (x.length - 1)) ((ZN x 0 (x.length - 1)).length - 1)=tAt x (x.length - 2):=by
 have hp:=O.pos
 have W:=O.wf _ _ hx
 have ar:=ar0 W.a
 have key:∀{e:Nat},Blk x 0 e→e=x.length→Blk x 0 (x.length - 1)∧n.x=(x.length:Int) - 2:=by
  intro e B he
  cases B with
  | @leaf i m h h0=>
   rw [show x.length - 1=0 by omega,h] at hx
   cases hx
   omega
  | @one f i m B h h0 hxx=>
   obtain rfl:i=x.length - 1:=by omega
   rw [h] at hx
   cases hx
   exact⟨B,by omega⟩
  | @two f g i m B B' h h0 hxx hyy=>
   obtain rfl:i=x.length - 1:=by omega
   rw [h] at hx
   cases hx
   omega
 obtain⟨B,hnx⟩:=key O.b rfl
 have hB:=B.lt
 have ec:ZN x 0 (x.length - 1)=x.take (x.length - 1):=by
  unfold ZN seg
  rw [List.drop_zero,Nat.sub_zero]
  exact QiS _
 have OC:=Jn (QnV O.n B)
 have lc:(ZN x 0 (x.length - 1)).length - 1=x.length - 2:=by rw [G6 B];omega
 have pre:∀{β:Type} (d:β) (F:Nd→β→β→β),fAt d F (ZN x 0 (x.length - 1)) (x.length - 2)=fAt d F x (x.length - 2):=by
  intro β d F
  rw [ec]
  exact UQ x (by omega) (by omega)
 refine⟨by omega,hnx,B,OC,fun e=>?_,?_,?_⟩
 ·have h1:vAt e x (x.length - 1)=_:=YG (YW e) hx W
  unfold ZX
  rw [h1,lc,GP e (by omega) (by omega),vAt,pre,show n.x.toNat=x.length - 2 by omega]
  have:∀ a b b',opV n.op a b=opV n.op a b':=by
   intro a b b'
   unfold opV
   split
   ·rfl
   ·split
    ·rfl
    ·split
     ·rfl
     ·omega
  exact this _ _ _
 ·have h1:tAt x (x.length - 1)=_:=YG Xv hx W
  rw [h1,Kr (by omega) (by omega),if_neg (by omega),show n.x.toNat=x.length - 2 by omega]
 ·rw [lc]
  exact pre _ _
theorem Rep.twice {P:EvL→Int × Int}{T:Option Int}{k:Nat}{x:List Nd}{n:Nd}(A:Rep P T k x)(hx:x[x.length - 1]?=some n)(h:(n.op=4∧(Zz (ZN x 0 (x.length - 1))).1≠1)∨(n.op=3∧(Zz (ZN x 0 (x.length - 1))).1≠2))(h0:(Zz (ZN x 0 (x.length - 1))).2=0) :
  Rep (fun e=>opV n.op (P e) (P e)) (tyG n.op T T) (k+1) (ZN x 0 (x.length - 1)):=by
 have ha:arI n.op=1:=by rcases h with ⟨h,_⟩|⟨h,_⟩<;>rw [h]<;>decide
 obtain⟨hl,hnx,B,OC,hv,ht,hc⟩:=Qo2 A.ok hx ha
 have hp:=OC.pos
 have hty:∃ t,tAt (ZN x 0 (x.length - 1)) ((ZN x 0 (x.length - 1)).length - 1)=some t∧(Zz (ZN x 0 (x.length - 1))).1=t:=by
  unfold Zz at h0 ⊢
  cases hq:tAt (ZN x 0 (x.length - 1)) ((ZN x 0 (x.length - 1)).length - 1) with
  | none=>rw [hq] at h0;cases h0
  | some t=>exact⟨t,rfl,rfl⟩
 obtain⟨t,e1,e2⟩:=hty
 rw [e2] at h
 have tr:=Qfn OC (by omega) e1
 refine⟨OC,by rw [G6 B];have:=A.len;omega,fun e E=>?_,fun u hu=>⟨t,e1,?_⟩⟩
 ·have g:=MR OC E (i:=(ZN x 0 (x.length - 1)).length - 1) (by omega)
  have g2:=g.2 t e1
  have n1:t≠1→(vAt e (ZN x 0 (x.length - 1)) ((ZN x 0 (x.length - 1)).length - 1)).1≠1:=fun h q=>by rcases g2 with g2|g2<;>rw [g2] at q<;>omega
  have n2:t≠2→(vAt e (ZN x 0 (x.length - 1)) ((ZN x 0 (x.length - 1)).length - 1)).1≠2:=fun h q=>by rcases g2 with g2|g2<;>rw [g2] at q<;>omega
  rw [←A.val e E,hv e]
  show _=opV n.op _ _
  rcases h with ⟨h,h1⟩|⟨h,h1⟩
  ·rw [h]
   exact(QmY g.1 (n1 h1)).symm
  ·rw [h]
   exact(Qp9 g.1 (n2 h1)).symm
 ·have:=Nx hu
  unfold QgT JB at this
  rcases h with ⟨h,h1⟩|⟨h,h1⟩
  ·rw [h] at this;simp at this;omega
  ·rw [h] at this;simp at this;omega
structure Qce (P:EvL→Int × Int)(op:Int)(k:Nat)(z:List Nd):Prop where
 ok:OkE z
 len:z.length≤k
 val:∀ e,Yb e→ZX e z=P e
 ty:∃ t',tAt z (z.length - 1)=some t'∧(t'=0∨t'=QgT op)
theorem Qce.rep {P:EvL→Int × Int}{op:Int}{k j:Nat}{z:List Nd}(A:Qce P op k z)(hj:k≤j)(T U:Option Int):Rep P (tyG op T U) j z:=
 ⟨A.ok,Nat.le_trans A.len hj,A.val,fun t ht=>by rw [Nx ht];exact A.ty⟩
theorem Qce.cst {P:EvL→Int × Int}{op:Int}{k:Nat}{v:Int × Int}(h:Qo v)(hk:1≤k)(hP:∀ e,Yb e→v=P e)(hT:v.1=0∨v.1=QgT op):Qce P op k (cst v):=
 ⟨QoZ h,hk,hP,v.1,rfl,hT⟩
def Qir (right:Bool)(op:Int)(a v:Int × Int):Int × Int:=if right then doV op a v else doV op v a
theorem QhI {x:List Nd}(h:(Zz x).2=0):tAt x (x.length - 1)=some (Zz x).1:=by
 unfold Zz at h ⊢
 cases hq:tAt x (x.length - 1) with
 | none=>rw [hq] at h;cases h
 | some t=>rfl
theorem QlL {x:List Nd}(O:OkE x){op:Int}{v:Int × Int}{right:Bool}(h:(op=9∧v=(2,1))∨(op=10∧v=(2,0)))(h0:(Zz x).2=0)(h1:(Zz x).1≠1):Qce (fun e=>Qir right op (ZX e x) v) op x.length x:=by
 have hp:=O.pos
 have e1:=QhI h0
 have tr:=Qfn O (by omega) e1
 refine⟨O,Nat.le_refl _,fun e E=>?_,_,e1,?_⟩
 ·have g:=MR O E (i:=x.length - 1) (by omega)
  have g2:=g.2 _ e1
  have n1:(vAt e x (x.length - 1)).1≠1:=fun q=>by rcases g2 with g2|g2<;>rw [g2] at q<;>omega
  unfold Qir
  rcases h with ⟨rfl,rfl⟩|⟨rfl,rfl⟩
  ·cases right
   ·exact(Qmm g.1 n1).2.symm
   ·exact(Qmm g.1 n1).1.symm
  ·cases right
   ·exact(QqB g.1 n1).2.symm
   ·exact(QqB g.1 n1).1.symm
 ·have:QgT op=2:=by rcases h with ⟨rfl,_⟩|⟨rfl,_⟩<;>decide
  omega
theorem QmG {x:List Nd}{op:Int}{v:Int × Int}{right:Bool}(h:(op=9∧v=(2,0))∨(op=10∧v=(2,1))):Qce (fun e=>Qir right op (ZX e x) v) op 1 (cst v):=by
 refine Qce.cst (by rcases h with ⟨_,rfl⟩|⟨_,rfl⟩<;>(unfold Qo;simp)) (Nat.le_refl 1) (fun e E=>?_) (by rcases h with ⟨rfl,rfl⟩|⟨rfl,rfl⟩<;>decide)
 unfold Qir
 rcases h with ⟨rfl,rfl⟩|⟨rfl,rfl⟩
 ·cases right
  ·exact(QoK (ZX e x)).2.symm
  ·exact(QoK (ZX e x)).1.symm
 ·cases right
  ·exact(Qou (ZX e x)).2.symm
  ·exact(Qou (ZX e x)).1.symm
theorem Qka {x:List Nd}(O:OkE x){op:Int}{v:Int × Int}{right:Bool}(h:(op=6∧v=(1,0))∨(op=8∧v=(1,1))∨(op=7∧right=true∧v=(1,0)))(h0:(Zz x).2=0)(h1:(Zz x).1≠2):Qce (fun e=>Qir right op (ZX e x) v) op x.length x:=by
 have hp:=O.pos
 have e1:=QhI h0
 have tr:=Qfn O (by omega) e1
 refine⟨O,Nat.le_refl _,fun e E=>?_,_,e1,?_⟩
 ·have g:=MR O E (i:=x.length - 1) (by omega)
  have g2:=g.2 _ e1
  have n1:(vAt e x (x.length - 1)).1≠2:=fun q=>by rcases g2 with g2|g2<;>rw [g2] at q<;>omega
  unfold Qir
  rcases h with ⟨rfl,rfl⟩|⟨rfl,rfl⟩|⟨rfl,rfl,rfl⟩
  ·cases right
   ·exact(QqH g.1 n1).2.symm
   ·exact(QqH g.1 n1).1.symm
  ·cases right
   ·exact(QqD g.1 n1).2.symm
   ·exact(QqD g.1 n1).1.symm
  ·exact(QrM g.1 n1).symm
 ·have:QgT op=1:=by rcases h with ⟨rfl,_⟩|⟨rfl,_⟩|⟨rfl,_⟩<;>decide
  omega
theorem Qox {x:List Nd}{op:Int}{v:Int × Int}(hv:Qo v){right:Bool}(h9:op≠9)(h10:op≠10)(h0:v.1=0):Qce (fun e=>Qir right op (ZX e x) v) op 1 (cst v):=by
 have ev:v=(0,0):=by
  obtain⟨a,b⟩:=v
  unfold Qo at hv
  simp only [Prod.mk.injEq] at *
  omega
 subst ev
 refine Qce.cst Vj (Nat.le_refl 1) (fun e E=>?_) (.inl rfl)
 unfold Qir
 cases right
 ·exact(QlW h9 h10 (.inl rfl)).symm
 ·exact(QlW h9 h10 (.inr rfl)).symm
theorem Blk.uniq {l:List Nd}{f e:Nat}(B:Blk l f e):∀{f':Nat},Blk l f' e→f=f':=by
 induction B with
 | @leaf i n h h0=>
  intro f' B'
  cases B' with
  | leaf h' h0'=>rfl
  | one B1 h' h0' _=>rw [h] at h';cases h';omega
  | two B1 B2 h' h0' _ _=>rw [h] at h';cases h';omega
 | @one f i n B h h0 hx ih=>
  intro f' B'
  cases B' with
  | leaf h' h0'=>rw [h] at h';cases h';omega
  | one B1 h' h0' _=>exact ih B1
  | two B1 B2 h' h0' _ _=>rw [h] at h';cases h';omega
 | @two f g i n B B' h h0 hx hy ih1 ih2=>
  intro f' C
  cases C with
  | leaf h' h0'=>rw [h] at h';cases h';omega
  | one B1 h' h0' _=>rw [h] at h';cases h';omega
  | @two _ g' _ n' B1 B2 h' h0' hx' hy'=>
   rw [h] at h'
   cases h'
   obtain rfl:g=g':=by omega
   exact ih1 B1
inductive VE (l:List Nd):List (List Nd)→Nat→Prop where
 | nil:VE l [] 0
 | push {s:List (List Nd)} {f e:Nat} {z:List Nd}:VE l s f→Blk l f e→Rep (fun ev=>vAt ev l (e - 1)) (tAt l (e - 1)) (e - f) z→VE l (z :: s) e
theorem VE.len {l:List Nd}{s:List (List Nd)}{e:Nat}(S:VE l s e):s.length≤e:=by
 induction S with
 | nil=>exact Nat.le_refl _
 | push S B R ih=>have:=B.lt;simp;omega
theorem VE.all {l:List Nd}{s:List (List Nd)}{e:Nat}(S:VE l s e):e≤l.length:=by
 cases S with
 | nil=>exact Nat.zero_le _
 | push S B R=>exact B.lt.2
theorem VE.step {l:List Nd}(O:OkE l){s:List (List Nd)}{i:Nat}{n:Nd}(S:VE l s i)(hn:l[i]?=some n) :
  (arI n.op=0∧VE l ([n] :: s) (i+1)) ∨
  (arI n.op=1∧∃ z s' P T k,s=z :: s'∧k≤i∧Rep P T k z∧∀ y,Rep (fun e=>opV n.op (P e) (P e)) (tyG n.op T T) (k+1) y→VE l (y :: s') (i+1)) ∨
  (arI n.op=2∧∃ z z' s' P T k Q U j,s=z' :: z :: s'∧k+j≤i∧Rep P T k z∧Rep Q U j z'∧∀ y,Rep (fun e=>opV n.op (P e) (Q e)) (tyG n.op T U) (k+j+1) y→VE l (y :: s') (i+1)):=by
 have hlt:=(List.getElem?_eq_some_iff.1 hn).1
 have W:=O.wf _ _ hn
 have ar:=ar0 W.a
 have h0:=O.n n (List.mem_of_getElem? hn)
 obtain⟨g,_,B⟩:=O.b.sub i (Nat.zero_le _) hlt
 have hv:∀ e,vAt e l i=_:=fun e=>YG (YW e) hn W
 have ht:tAt l i=_:=YG Xv hn W
 have inv:∀{s:List (List Nd)} {j f:Nat},VE l s j→Blk l f j→∃ z s',s=z :: s'∧VE l s' f∧Rep (fun ev=>vAt ev l (j - 1)) (tAt l (j - 1)) (j - f) z:=by
  intro s j f S B
  cases S with
  | nil=>have:=B.lt;omega
  | push S B' R=>
   obtain rfl:=B'.uniq B
   exact⟨_,_,rfl,S,R⟩
 have hB:=B
 cases B with
 | leaf h ha=>
  rw [hn] at h
  cases h
  refine .inl ⟨ha,.push S hB ?_⟩
  have O1:=Rep.leaf h0 ha
  have W1:=O1.wf 0 n rfl
  refine⟨O1,by simp,fun e E=>?_,fun t e=>⟨t,?_,.inr rfl⟩⟩
  ·show ZX e [n]=vAt e l (i+1 - 1)
   rw [Nat.add_sub_cancel,hv e]
   have:ZX e [n]=_:=YG (YW e) (l:=[n]) (i:=0) rfl W1
   rw [this]
   exact YW e n _ _ _ _ W.a (fun h=>by omega) (fun h=>by omega)
  ·rw [Nat.add_sub_cancel,ht] at e
   rw [←e]
   have:tAt [n] 0=_:=YG Xv (l:=[n]) (i:=0) rfl W1
   show tAt [n] 0=_
   rw [this]
   exact Xv n _ _ _ _ W.a (fun h=>by omega) (fun h=>by omega)
 | @one f _ n' B1 h ha hx=>
  rw [hn] at h
  cases h
  have hlt1:=B1.lt
  obtain⟨z,s',rfl,S',R⟩:=inv S B1
  refine .inr (.inl ⟨ha,z,s',_,_,_,rfl,Nat.sub_le _ _,R,fun y Y=>.push S' hB ?_⟩)
  rw [show i+1 - g=i - g+1 by omega,Nat.add_sub_cancel]
  have ex:n.x.toNat=i - 1:=by omega
  have:tAt l i=tyG n.op (tAt l (i - 1)) (tAt l (i - 1)):=by
   rw [ht,Kr (by omega) (by omega),if_neg (by omega),ex]
  rw [this]
  refine⟨Y.ok,Y.len,fun e E=>?_,Y.ty⟩
  rw [Y.val e E,hv e,GP e (by omega) (by omega),ex]
  have:∀ a b b',opV n.op a b=opV n.op a b':=by
   intro a b b'
   unfold opV
   split
   ·rfl
   ·split
    ·rfl
    ·split
     ·rfl
     ·omega
  exact this _ _ _
 | @two f g' _ n' B1 B2 h ha hx hy=>
  rw [hn] at h
  cases h
  have hlt1:=B1.lt
  have hlt2:=B2.lt
  obtain⟨z',s1,rfl,S1,R'⟩:=inv S B2
  obtain⟨z,s',rfl,S',R⟩:=inv S1 B1
  refine .inr (.inr ⟨ha,z,z',s',_,_,_,_,_,_,rfl,?_,R,R',fun y Y=>.push S' hB ?_⟩)
  ·omega
  rw [show i+1 - g=g' - g+(i - g')+1 by omega,Nat.add_sub_cancel]
  have ex:n.x.toNat=g' - 1:=by omega
  have ey:n.y.toNat=i - 1:=by omega
  have:tAt l i=tyG n.op (tAt l (g' - 1)) (tAt l (i - 1)):=by
   rw [ht,Kr (by omega) (by omega),if_pos ha,ex,ey]
  rw [this]
  refine⟨Y.ok,Y.len,fun e E=>?_,Y.ty⟩
  rw [Y.val e E,hv e,GP e (by omega) (by omega),ex,ey]
theorem VE.done {l:List Nd}(O:OkE l){s:List (List Nd)}(S:VE l s l.length):∃ z,s=[z]∧Rep (fun ev=>ZX ev l) (tAt l (l.length - 1)) l.length z:=by
 have hB:=O.b
 have hp:=O.pos
 have key:∀{e:Nat},VE l s e→e=l.length→∃ z,s=[z]∧Rep (fun ev=>vAt ev l (e - 1)) (tAt l (e - 1)) e z:=by
  intro e S he
  cases S with
  | nil=>omega
  | @push s f e z S' B R=>
   subst he
   obtain rfl:=B.uniq hB
   rw [Nat.sub_zero] at R
   have k2:∀{f:Nat},VE l s f→f=0→s=[]:=by
    intro f S2 hf
    cases S2 with
    | nil=>rfl
    | push _ B' _=>have:=B'.lt;omega
   rw [k2 S' rfl]
   exact⟨z,rfl,R⟩
 exact key S rfl
theorem Qce.mono {P:EvL→Int × Int}{op:Int}{k j:Nat}{z:List Nd}(A:Qce P op k z)(h:k≤j):Qce P op j z:=⟨A.ok,Nat.le_trans A.len h,A.val,A.ty⟩
theorem QoF {n:Nd}(h:Zt n=0)(h1:n.op=1):[n]=cst n.v:=by
 obtain⟨op,x,y,k,v⟩:=n
 simp only at h1
 subst h1
 unfold Zt at h
 split at h
 ·cases h
 ·split at h
  ·cases h
  ·rename_i h2
   have e:arI 1=0:=by decide
   simp only [e] at h2
   have hx:x=0:=by omega
   have hy:y=0:=by omega
   have hk:k=0:=by omega
   subst hx hy hk
   rfl
theorem Rep.cst_val {P:EvL→Int × Int}{T:Option Int}{k:Nat}{v:Int × Int}(A:Rep P T k (Go.Proofs.YthicpjafcpfjoaaGreatDoor.cst v)):∀ e,Yb e→P e=v:=fun e E=>(A.val e E).symm
theorem Qiq {op:Int}(h:6≤op)(a b:Int × Int):opV op a b=doV op a b:=by
 unfold opV
 rw [if_neg (by omega),if_neg (by omega),if_neg (by omega)]
structure NS (h:Hp)(a:Option Addr)(n c:Nat)(l:List Nd):Prop where
 s:SlP ZY h a n l
 c:n≤c
theorem NS.le {h h':Hp}{a:Option Addr}{n c:Nat}{l:List Nd}(S:NS h a n c l)(hl:h.le h'):NS h' a n c l:=⟨S.s.le hl,S.c⟩
theorem NS.of {h h':Hp}{a:Option Addr}{c:Nat}{l:List Nd}(V:Qaf h h' a c l):NS h' a l.length c l:=⟨V.slp Za (by decide),V.own.cap⟩
section
variable {a:Option Addr}{m c:Nat}{l:List Nd}{h:Hp}
theorem YV (S:SlP ZY h a m l){R:Value→Hp→Prop}(hY:∀ n,l=[n]→n.op=1→R (Qg [vag (Qw n.v),vb true]) h)(hN:R (Qg [vag (Qw (0,0)),vb false]) h):Qa Tryz.prog 221 [vsl a m c] h R:=by
 refine QcD ?_
 unfold UL
 obtain rfl:=S.1
 by_cases h1:l.length=1
 ·obtain⟨n,rfl⟩:∃ n,l=[n]:=by
   match l,h1 with
   | [n],_=>exact⟨n,rfl⟩
  obtain⟨b,o,ha,hr⟩:=S.get Za (by decide) (i:=0) rfl
  have A:a=some ⟨b,o,none⟩∧(0:Int)≤0∧(0:Int) < (([n]:List Nd).length:Nat):=⟨ha,by decide,by simp⟩
  refine⟨b,o,fun _=>A,n.op,fun _=>Hp.row_cell hr (i:=0) rfl,fun g=>?_,fun g=>hN⟩
  rw [K7] at g
  have g:=of_decide_eq_true g
  refine⟨b,o,A,_,_,?_,hY n rfl g.2⟩
  exact Hp.row_sub hr (i:=4) (k:=2) (by decide)
 ·have e:decide (((l.length:Nat):Int)=1)=false:=decide_eq_false (by omega)
  refine⟨0,0,fun g=>?_,0,fun g=>?_,fun g=>?_,fun _=>hN⟩
  ·rw [e] at g;cases g
  ·rw [e] at g;cases g
  ·rw [e] at g;cases g
theorem JI {v:Int × Int}{R:Value→Hp→Prop}(hK:∀ a' c' h',h.le h'→NS h' a' 1 c' (cst v)→R (vsl a' 1 c') h'):Qa Tryz.prog 222 [vag (Qw v)] h R:=by
 refine Qk9 ?_
 unfold QfS
 intro b1 hb1 h2
 exact hK _ _ h2 (Hp.le_set (Hp.le_refl h) hb1 _) ⟨⟨rfl,Qf.new _ _ ((cst v).flatMap ZY) _⟩,Nat.le_refl _⟩
theorem QfL {f:Int}(x:Int)(k:Int):(bif (Qz f).isNone then decide (x≠k) else false)=decide (f=0∧x≠k):=by
 rw [YD,K7]
theorem Me (S:SlP ZY h a m l)(O:OkE l)(hm:l.length≤1000000){R:Value→Hp→Prop}(hK:∀ h',h.le h'→R (vb (decide ((Zz l).2=0∧(Zz l).1≠1))) h'):Qa Tryz.prog 224 [vsl a m c] h R:=by
 refine Qej ?_
 unfold MU
 refine Vt S O hm fun h' l'=>⟨_,_,rfl,?_⟩
 rw [QfL]
 exact hK h' l'
theorem V1 (S:SlP ZY h a m l)(O:OkE l)(hm:l.length≤1000000){R:Value→Hp→Prop}(hK:∀ h',h.le h'→R (vb (decide ((Zz l).2=0∧(Zz l).1≠2))) h'):Qa Tryz.prog 226 [vsl a m c] h R:=by
 refine QdP ?_
 unfold V9
 refine Vt S O hm fun h' l'=>⟨_,_,rfl,?_⟩
 rw [QfL]
 exact hK h' l'
theorem Qe9 {op:Int}(ho:arI op=1)(S:NS h a m c l){P:EvL→Int × Int}{T:Option Int}{k:Nat}(A:Rep P T k l)(hk:k≤1000000){R:Value→Hp→Prop}
  (hK:∀ a' n' c' h' z,h.le h'→NS h' a' n' c' z→Rep (fun e=>opV op (P e) (P e)) (tyG op T T) (k+1) z→R (vsl a' n' c') h'):Qa Tryz.prog 181 [vi op,vsl a m c] h R:=by
 refine Qfl ?_
 unfold MO
 have hm:=S.s.1
 subst hm
 have hl:=A.len
 have hp:=A.pos
 have ar:=ar0 (op:=op) (by omega)
 have WN:WfL ([]:List Nd):=QaT
 have J:=A.join1 ho
 have join:∀ h',h.le h'→Qa Tryz.prog 223 [vi op,vsl a l.length c,vsl none 0 0] h' fun v64 h64=>∃(a65:Option Addr) (n65 c65:Nat),v64=vsl a65 n65 c65∧R (vsl a65 n65 c65) h64:=fun h' l'=>
  K0 (S.s.le l') (⟨rfl,.inl rfl⟩:SlP ZY h' none 0 []) WN (by omega) (by simp) fun a' c' h'' V=>⟨_,_,_,rfl,hK _ _ _ _ _ (Hp.le_trans l' V.le0) (NS.of V) J⟩
 refine YV S.s (fun n hn h1=>⟨_,_,true,rfl,fun _=>?_,fun g=>by cases g⟩) ⟨_,_,false,rfl,fun g=>by (cases g),fun _=>?_⟩
 ·subst hn
  have hn0:=A.ok.n n (List.mem_singleton.2 rfl)
  have hc:=QoF hn0 h1
  rw [hc] at A J
  refine JI (v:=n.v) fun a8 c8 h7 l7 S8=>⟨_,_,_,rfl,?_⟩
  refine K0 S8.s (⟨rfl,.inl rfl⟩:SlP ZY h7 none 0 []) WN (by simp) (by simp) fun a11 c11 h10 V=>⟨_,_,_,rfl,?_⟩
  have hjl:(Z1 op (cst n.v) []).length=2:=Zo _ _ _
  refine Qb9 (e:=ev0) (V.slp Za (by decide)) J.ok.wf (by omega) (by omega) fun h13 l13=>⟨_,_,rfl,?_⟩
  have ev:ZX ev0 (Z1 op (cst n.v) [])=opV op n.v n.v:=by
   rw [J.val ev0 Qow,A.cst_val ev0 Qow]
  rw [ev]
  refine JI (v:=opV op n.v n.v) fun a18 c18 h17 l17 S18=>⟨_,_,_,rfl,hK _ _ _ _ _ (Hp.le_trans (Hp.le_trans (Hp.le_trans l7 V.le0) l13) l17) S18 ?_⟩
  have og:=QeS (op:=op) (by omega) n.v n.v
  refine Rep.cst og.1 (by omega) (fun e E=>?_) fun t ht=>?_
  ·rw [A.cst_val e E]
  ·rw [Nx ht];exact og.2
 ·have hx:l[l.length - 1]?=some (l[l.length - 1]'(by omega)):=List.getElem?_eq_getElem (by omega)
  obtain⟨b,o,ha,hr⟩:=S.s.get Za (by decide) hx
  generalize l[l.length - 1]'(by omega)=n at *
  refine⟨_,isW (by unfold InR;omega),b,o,⟨ha,by omega,by omega⟩,n.op,n.x,n.y,n.n,n.v.1,n.v.2,?_,?_⟩
  ·rw [show (((l.length:Nat):Int) - 1).toNat=l.length - 1 by omega]
   exact hr
  have cut:∀(h':Hp),h.le h'→arI n.op=1→∀(K:Value→Hp→Prop),(∀ a' n' c' h'',h'.le h''→NS h'' a' n' c' (ZN l 0 (l.length - 1))→K (vsl a' n' c') h'')→Qa Tryz.prog 225 [vsl a l.length c,vi n.x] h' K:=by
   intro h' l' h1 K hK
   obtain⟨hl2,hnx,B,OC,_⟩:=Qo2 A.ok hx h1
   have e1:l.length - 1=(l.length - 2)+1:=by omega
   rw [e1] at B hK
   exact QjB (S.s.le l') S.c A.ok.wf (by omega) B (by omega) fun a' c' h'' V=>hK _ _ _ _ V.le0 (NS.of V)
  have lc:arI n.op=1→OkE (ZN l 0 (l.length - 1))∧(ZN l 0 (l.length - 1)).length≤1000000:=by
   intro h1
   obtain⟨hl2,hnx,B,OC,_⟩:=Qo2 A.ok hx h1
   exact⟨OC,by rw [G6 B];omega⟩
  -- what is known of the first test
  refine⟨fun x h'=>h.le h'∧∃ a' n' c',x=.t (.one (.v (vsl a' n' c')))∧((op=4∧n.op=4)→NS h' a' n' c' (ZN l 0 (l.length - 1))),fun g=>?_,fun g=>?_,?_⟩
  ·rw [K7] at g
   have g:=of_decide_eq_true g
   exact cut h (Hp.le_refl h) (by rw [g.2];decide) _ fun a' n' c' h'' l'' S'=>⟨_,_,_,rfl,l'',_,_,_,rfl,fun _=>S'⟩
  ·rw [K7] at g
   exact⟨Hp.le_refl h,none,0,0,rfl,fun q=>absurd (decide_eq_true q) g⟩
  rintro h33 a34 n34 c34 ⟨l33,a',n',c',e,S33⟩
  cases e
  refine⟨fun x h'=>h.le h'∧∃ p,x=.t (.one (.v (vb p)))∧((op=4∧n.op=4)→p=decide ((Zz (ZN l 0 (l.length - 1))).2=0∧(Zz (ZN l 0 (l.length - 1))).1≠1)),fun g=>?_,fun g=>?_,?_⟩
  ·rw [K7] at g
   have g:=of_decide_eq_true g
   obtain⟨OC,hC⟩:=lc (by rw [g.2];decide)
   exact Me (S33 g).s OC hC fun h' l'=>⟨_,rfl,Hp.le_trans l33 l',_,rfl,fun _=>rfl⟩
  ·rw [K7] at g
   exact⟨l33,false,rfl,fun q=>absurd (decide_eq_true q) g⟩
  rintro h39 p40 ⟨l39,p,e,hp40⟩
  cases e
  intro J55
  have yes:∀ h',h.le h'→((op=4∧n.op=4∧(Zz (ZN l 0 (l.length - 1))).2=0∧(Zz (ZN l 0 (l.length - 1))).1≠1)∨(op=3∧n.op=3∧(Zz (ZN l 0 (l.length - 1))).2=0∧(Zz (ZN l 0 (l.length - 1))).1≠2))→J55 true h':=by
   intro h' l' hc
   have eop:n.op=op:=by omega
   refine⟨fun _=>?_,fun g=>by cases g⟩
   refine cut h' l' (by rw [eop];exact ho) _ fun a' n' c' h'' l'' S'=>⟨_,_,_,rfl,hK _ _ _ _ _ (Hp.le_trans l' l'') S' ?_⟩
   have:=A.twice hx (by omega) (by omega)
   rw [eop] at this
   exact this
  have no:∀ h',h.le h'→J55 false h':=fun h' l'=>⟨fun g=>by (cases g),fun _=>join h' l'⟩
  clear_value J55
  rw [K7]
  by_cases hc:op=4∧n.op=4
  ·have hp:=hp40 hc
   subst hp
   have e1:decide (op=4∧n.op=4)=true:=decide_eq_true hc
   rw [e1]
   by_cases ht:(Zz (ZN l 0 (l.length - 1))).2=0∧(Zz (ZN l 0 (l.length - 1))).1≠1
   ·rw [decide_eq_true ht]
    exact⟨fun _=>yes _ l39 (by omega),fun g=>by cases g⟩
   ·rw [decide_eq_false ht]
    refine⟨fun g=>by (cases g),fun _=>?_⟩
    have n3:(bif decide (op=3) then decide (n.op=3) else false)=false:=by rw [K7];exact decide_eq_false (by omega)
    rw [n3]
    refine⟨fun x h'=>h'=h39∧x=.t (.one (.v (vsl none 0 0))),fun g=>by (cases g),fun _=>⟨rfl,rfl⟩,?_⟩
    rintro h46 a47 n47 c47 ⟨rfl,e⟩
    cases e
    refine⟨fun x h'=>h'=h46∧x=.t (.one (.v (vb false))),fun g=>by (cases g),fun _=>⟨rfl,rfl⟩,?_⟩
    rintro h52 p53 ⟨rfl,e⟩
    cases e
    exact no _ l39
  ·have e1:decide (op=4∧n.op=4)=false:=decide_eq_false hc
   rw [e1]
   refine⟨fun g=>by (cases g),fun _=>?_⟩
   rw [K7]
   refine⟨fun x h'=>h.le h'∧∃ a' n' c',x=.t (.one (.v (vsl a' n' c')))∧((op=3∧n.op=3)→NS h' a' n' c' (ZN l 0 (l.length - 1))),fun g=>?_,fun g=>?_,?_⟩
   ·have g:=of_decide_eq_true g
    exact cut _ l39 (by rw [g.2];decide) _ fun a' n' c' h'' l'' S'=>⟨_,_,_,rfl,Hp.le_trans l39 l'',_,_,_,rfl,fun _=>S'⟩
   ·exact⟨l39,none,0,0,rfl,fun q=>absurd (decide_eq_true q) g⟩
   rintro h46 a47 n47 c47 ⟨l46,a',n',c',e,S46⟩
   cases e
   refine⟨fun x h'=>h.le h'∧∃ p,x=.t (.one (.v (vb p)))∧((op=3∧n.op=3)→p=decide ((Zz (ZN l 0 (l.length - 1))).2=0∧(Zz (ZN l 0 (l.length - 1))).1≠2)),fun g=>?_,fun g=>?_,?_⟩
   ·have g:=of_decide_eq_true g
    obtain⟨OC,hC⟩:=lc (by rw [g.2];decide)
    exact V1 (S46 g).s OC hC fun h' l'=>⟨_,rfl,Hp.le_trans l46 l',_,rfl,fun _=>rfl⟩
   ·exact⟨l46,false,rfl,fun q=>absurd (decide_eq_true q) g⟩
   rintro h52 p53 ⟨l52,p,e,hp53⟩
   cases e
   by_cases hc3:op=3∧n.op=3
   ·have hp:=hp53 hc3
    subst hp
    rw [decide_eq_true hc3]
    by_cases ht:(Zz (ZN l 0 (l.length - 1))).2=0∧(Zz (ZN l 0 (l.length - 1))).1≠2
    ·rw [decide_eq_true ht]
     exact yes _ l52 (by omega)
    ·rw [decide_eq_false ht]
     exact no _ l52
   ·rw [decide_eq_false hc3]
    exact no _ l52
end
end Go.Proofs.YthicpjafcpfjoaaGreatDoor
