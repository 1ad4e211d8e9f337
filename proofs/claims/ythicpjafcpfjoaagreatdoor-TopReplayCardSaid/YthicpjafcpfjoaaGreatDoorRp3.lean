/-
  Laws and contracts on which the statement's proof stands, part 3. Conditions: those stated at each.
-/
import Derived.Lib.Join
import Derived.WalkKit
import Derived.WalkLawsBesides
import Derived.RangeFuncNested
import Derived.RangeFuncLeaves
import Derived.Orders
import Derived.Test.YthicpjafcpfjoaaGreatDoorProg
import Derived.Sort.Grow
import Derived.Shelf.SlSortCmp.NoneTotal
import Derived.Lib.Overlaps
import Derived.Lib.AppendZerosOnto
import Derived.Test.YthicpjafcpfjoaaGreatDoorRp2
set_option linter.unusedVariables false
set_option maxRecDepth 100000
namespace Go.Proofs.YthicpjafcpfjoaaGreatDoor
open Go Go.Vc Go.Txt
structure QOk (q:Qy):Prop where
 n1:1<=q.aggs.length
 n2:q.aggs.length<=4
 g:∀ a ∈ q.aggs,1<=a.1/\a.1<=5/\(a.1≠1->K3 a.2=0)/\(a.1=1->a.2=[])
 w:q.wh≠[]->K3 q.wh=0
 b:q.by_≠[]->K3 q.by_=0
 s:1<=q.size/\q.size<=1000
 l:1<=q.slide/\q.slide<=1000
 d:0<=q.delay/\q.delay<=1000
 t:0<=q.late/\q.late<=1000
 r:q.slide<=q.size/\q.size<=4*q.slide
 ga:∀ a ∈ q.aggs,a.1≠1->YY a.2 (if a.1=2 then 0 else 1)=0
 wa:q.wh≠[]->YY q.wh 2=0
 ba:q.by_≠[]->YY q.by_ 0=0
theorem MC {l:List Nd}{k:Int}(h:YY l k=0):K3 l=0:=by
 unfold YY at h;split at h
 ·rename_i q;exact absurd h q
 ·rename_i q;exact gA.1 q
theorem Qp5 {q:Qy}(h:Qdo q=0):QOk q:=by
 unfold Qdo at h;split at h
 ·cases h
 rename_i h1;split at h
 ·rename_i h2;exact absurd h h2
 rename_i h2;have h2:=QeR (gA.1 h2);have h3:=QeR h;have ha:∀ a ∈ q.aggs,VO a=0:=fun a ha=>h2 _ (cZ.2 ⟨a,ha,rfl⟩)
 have hw:=h3 (if q.wh=[] then 0 else YY q.wh 2) (by simp)
 have hb:=h3 (if q.by_=[] then 0 else YY q.by_ 0) (by simp)
 have hn:=h3 (VB q) (by simp)
 have hga:∀ a ∈ q.aggs,1<=a.1/\a.1<=5/\(a.1≠1->YY a.2 (if a.1=2 then 0 else 1)=0)/\(a.1=1->a.2=[]):=by
  intro a h4;have h5:=ha a h4;unfold VO at h5;split at h5
  ·cases h5
  ·rename_i h6;refine⟨by omega,by omega,fun h7=>?_,fun h7=>?_⟩
   ·rw [bE h7] at h5;exact h5
   ·exact jA fun h8=>h6 (.inr (.inr ⟨h7,h8⟩))
 have hwa:q.wh≠[]->YY q.wh 2=0:=fun h4=>by rw [bE h4] at hw;exact hw
 have hba:q.by_≠[]->YY q.by_ 0=0:=fun h4=>by rw [bE h4] at hb;exact hb
 have hnn:¬(q.size<1\/q.size>1000\/q.slide<1\/q.slide>1000\/q.delay<0\/q.delay>1000\/q.late<0\/q.late>1000)/\¬(q.slide>q.size\/q.size>4*q.slide):=by
  unfold VB at hn;split at hn
  ·cases hn
  ·rename_i h4;split at hn
   ·cases hn
   ·rename_i h5;exact⟨h4,h5⟩
 exact⟨by omega,by omega,fun a h4=>⟨(hga a h4).1,(hga a h4).2.1,fun h5=>MC ((hga a h4).2.2.1 h5),(hga a h4).2.2.2⟩,fun h4=>MC (hwa h4),fun h4=>MC (hba h4),by omega,by omega,by omega,by omega,by omega,fun a h4 h5=>(hga a h4).2.2.1 h5,hwa,hba⟩
end Go.Proofs.YthicpjafcpfjoaaGreatDoor
namespace Go.Proofs.YthicpjafcpfjoaaGreatDoor
open Go Go.Vc
theorem Qd8 {u0:OaT}{u1 u2:Nat}{u3:Int}{h:Hp}{R:RtT}(H:Qa Pg 203 [vsl u0 u1 u2] h fun v1 h2=>∃ e3,v1=ifv e3/\((Option.isSome e3)=true->R (ifv e3) h2)/\((Option.isSome e3)=false->Qa Pg 204 [vsl u0 u1 u2] h2 fun v5 h6=>∃ x7 e8,v5=Qf [vi x7,ifv e8]/\let J11:OtT->Prop:=fun e12=>R (ifv e12) h6;((cond (cond (cond (Option.isNone e8) (decide (u3≠0)) false) (decide (x7≠u3)) false) (decide (x7≠0)) false)=true->J11 (some (119,vi 3)))/\((cond (cond (cond (Option.isNone e8) (decide (u3≠0)) false) (decide (x7≠u3)) false) (decide (x7≠0)) false)=false->J11 e8))):Qa Pg 146 [vsl u0 u1 u2,vi u3] h R:=callO Tryz.func146 [.one (.v (vsl u0 u1 u2)),.one (.v (vi u3))] H
theorem QcC {u0:OaT}{u1 u2:Nat}{u3:OaT}{u4 u5:Nat}{u6:OaT}{u7 u8:Nat}{u9:Int}{u10:Int}{u11:Int}{u12:Int}{h:Hp}{R:RtT}(H:∀ b1,h b1=none->let h2:=Hp.set h b1 (Qb [vi u9,vi u10] 3);∃(I4:LtT)(m5:LmT),I4 [vi 0] h2/\∀ vs6 h7,I4 vs6 h7->∃ x8,vs6=[vi x8]/\((decide (x8<((2:Nat):Int)))=true->∃ b11 o12,((some (⟨b1,0,none⟩:Addr))=some ⟨b11,o12,none⟩/\(0:Int)<=x8/\x8<((2:Nat):Int))/\∃ x13,Hp.cell h7 b11 (o12+x8.toNat*1)=some (vi x13)/\((cond (decide (x13<1)) true (decide (x13>1000)))=true->R (ifv (some (119,vi 1))) h7)/\((cond (decide (x13<1)) true (decide (x13>1000)))=false->∃ x15,IsW x15 (x8+1)/\I4 [vi x15] h7/\m5 [vi x15] h7<m5 vs6 h7))/\((decide (x8<((2:Nat):Int)))=false->∀ b16,h7 b16=none->let h17:=Hp.set h7 b16 (Qb [vi u11,vi u12] 3);∃(I19:LtT)(m20:LmT),I19 [vi 0] h17/\∀ vs21 h22,I19 vs21 h22->∃ x23,vs21=[vi x23]/\((decide (x23<((2:Nat):Int)))=true->∃ b26 o27,((some (⟨b16,0,none⟩:Addr))=some ⟨b26,o27,none⟩/\(0:Int)<=x23/\x23<((2:Nat):Int))/\∃ x28,Hp.cell h22 b26 (o27+x23.toNat*1)=some (vi x28)/\((cond (decide (x28<0)) true (decide (x28>1000)))=true->R (ifv (some (119,vi 1))) h22)/\((cond (decide (x28<0)) true (decide (x28>1000)))=false->∃ x30,IsW x30 (x23+1)/\I19 [vi x30] h22/\m20 [vi x30] h22<m20 vs21 h22))/\((decide (x23<((2:Nat):Int)))=false->∃ x31,((decide (u10>u9))=false->IsW x31 (4*u10))/\((cond (decide (u10>u9)) true (decide (u9>x31)))=true->R (ifv (some (119,vi 3))) h22)/\((cond (decide (u10>u9)) true (decide (u9>x31)))=false->R (ifv none) h22)))):Qa Pg 147 [vag [vsl u0 u1 u2,vsl u3 u4 u5,vsl u6 u7 u8,vi u9,vi u10,vi u11,vi u12]] h R:=callC ⟨[],[(2,([13],[.one (.int .i64)],[])),(8,([31],[.one (.int .i64)],[]))],[]⟩ Tryz.func147 [.ag [.v (vsl u0 u1 u2),.v (vsl u3 u4 u5),.v (vsl u6 u7 u8),.v (vi u9),.v (vi u10),.v (vi u11),.v (vi u12)]] H
theorem Qfg {u0:OaT}{u1 u2:Nat}{u3:OaT}{u4 u5:Nat}{u6:OaT}{u7 u8:Nat}{u9:Int}{u10:Int}{u11:Int}{u12:Int}{h:Hp}{R:RtT}(H:((cond (decide ((u1:Int)<1)) true (decide ((u1:Int)>4)))=true->R (ifv (some (119,vi 2))) h)/\((cond (decide ((u1:Int)<1)) true (decide ((u1:Int)>4)))=false->∃(I3:LtT)(m4:LmT),I3 [vi 0] h/\∀ vs5 h6,I3 vs5 h6->∃ x7,vs5=[vi x7]/\((decide (x7<(u1:Int)))=true->let J25:HpT:=fun h26=>(∃ x27,IsW x27 (x7+1)/\I3 [vi x27] h26/\m4 [vi x27] h26<m4 vs5 h6);∃ b10 o11,Ix u0 b10 o11 x7 u1/\∃ x12 a13 n13 c13,Hp.row h6 b10 (o11+x7.toNat*2) 2=some [vi x12,vsl a13 n13 c13]/\((cond (cond (decide (x12<1)) true (decide (x12>5))) true (cond (decide (x12=1)) (decide ((n13:Int)>0)) false))=true->R (ifv (some (119,vi 3))) h6)/\((cond (cond (decide (x12<1)) true (decide (x12>5))) true (cond (decide (x12=1)) (decide ((n13:Int)>0)) false))=false->((decide (x12=1))=true->J25 h6)/\((decide (x12=1))=false->let J19:Int->Prop:=fun x20=>(Qa Pg 146 [vsl a13 n13 c13,vi x20] h6 fun v21 h22=>∃ e23,v21=ifv e23/\((Option.isSome e23)=true->R (ifv e23) h22)/\((Option.isSome e23)=false->J25 h22));((decide (x12=2))=true->J19 0)/\((decide (x12=2))=false->J19 1))))/\((decide (x7<(u1:Int)))=false->let J33:HpT:=fun h34=>(let J40:HpT:=fun h41=>(Qa Pg 147 [vag [vsl u0 u1 u2,vsl u3 u4 u5,vsl u6 u7 u8,vi u9,vi u10,vi u11,vi u12]] h41 fun v42 h43=>∃ e44,v42=ifv e44/\R (ifv e44) h43);((decide ((u7:Int)>0))=true->Qa Pg 146 [vsl u6 u7 u8,vi 0] h34 fun v35 h36=>∃ e37,v35=ifv e37/\((Option.isSome e37)=true->R (ifv e37) h36)/\((Option.isSome e37)=false->J40 h36))/\((decide ((u7:Int)>0))=false->J40 h34));((decide ((u4:Int)>0))=true->Qa Pg 146 [vsl u3 u4 u5,vi 2] h6 fun v28 h29=>∃ e30,v28=ifv e30/\((Option.isSome e30)=true->R (ifv e30) h29)/\((Option.isSome e30)=false->J33 h29))/\((decide ((u4:Int)>0))=false->J33 h6)))):Qa Pg 89 [vag [vsl u0 u1 u2,vsl u3 u4 u5,vsl u6 u7 u8,vi u9,vi u10,vi u11,vi u12]] h R:=callC ⟨[],[(4,([23],[.one (.int .i64)],[]))],[]⟩ Tryz.func89 [.ag [.v (vsl u0 u1 u2),.v (vsl u3 u4 u5),.v (vsl u6 u7 u8),.v (vi u9),.v (vi u10),.v (vi u11),.v (vi u12)]] H
theorem QjV {u0:Int}{u1:Int}{u2:Int}{u3:Int}{u4:Int}{u5:Int}{h:Hp}{R:RtT}(H:Qa Pg 180 [vi u0] h fun v1 h2=>∃ x3,v1=vi x3/\((decide (x3<0))=true->R (ifv (some (119,vi 3))) h2)/\((decide (x3<0))=false->∃ p5,((decide (u0≠1))=true->RdG .neq 54 (.tmp 15) (.tmp 16) (vag [vi u4,vi u5]) (vag [vi 0,vi 0]) h2 (vb p5))/\((cond (cond (cond (cond (decide (u0≠1)) p5 false) true (cond (decide (u0≠2)) (decide (u3≠0)) false)) true (cond (decide (x3<2)) (decide (u2≠0)) false)) true (cond (decide (x3<1)) (decide (u1≠0)) false))=true->R (ifv (some (119,vi 3))) h2)/\((cond (cond (cond (cond (decide (u0≠1)) p5 false) true (cond (decide (u0≠2)) (decide (u3≠0)) false)) true (cond (decide (x3<2)) (decide (u2≠0)) false)) true (cond (decide (x3<1)) (decide (u1≠0)) false))=false->((cond (decide (u0=2)) (cond (decide (u3<0)) true (decide (u3>3))) false)=true->R (ifv (some (119,vi 1))) h2)/\((cond (decide (u0=2)) (cond (decide (u3<0)) true (decide (u3>3))) false)=false->Qa Pg 159 [vag [vi u4,vi u5]] h2 fun v8 h9=>∃ e10,v8=ifv e10/\R (ifv e10) h9)))):Qa Pg 246 [vag [vi u0,vi u1,vi u2,vi u3,vi u4,vi u5]] h R:=callO Tryz.func246 [.ag [.v (vi u0),.v (vi u1),.v (vi u2),.v (vi u3),.v (vi u4),.v (vi u5)]] H
theorem QfI {u0:OaT}{u1 u2:Nat}{h:Hp}{R:RtT}(H:((decide ((u1:Int)>40))=true->R (ifv (some (119,vi 2))) h)/\((decide ((u1:Int)>40))=false->∃(I3:LtT)(m4:LmT),I3 [vsl none 0 0,vi 0] h/\∀ vs5 h6,I3 vs5 h6->∃ a7 n7 c7 x8,vs5=[vsl a7 n7 c7,vi x8]/\((decide (x8<(u1:Int)))=true->∃ b11 o12,Ix u0 b11 o12 x8 u1/\∃ x13 x14 x15 x16 x17 x18,Hp.row h6 b11 (o12+x8.toNat*6) 6=some [vi x13,vi x14,vi x15,vi x16,vi x17,vi x18]/\Qa Pg 246 [vag [vi x13,vi x14,vi x15,vi x16,vi x17,vi x18]] h6 fun v19 h20=>∃ e21,v19=ifv e21/\((Option.isSome e21)=true->R (ifv e21) h20)/\((Option.isSome e21)=false->Qa Pg 180 [vi x13] h20 fun v23 h24=>∃ x25,v23=vi x25/\((decide (x25>(n7:Int)))=true->R (ifv (some (119,vi 3))) h24)/\((decide (x25>(n7:Int)))=false->∃ x27,IsW x27 ((n7:Int)-x25)/\∃ a28 n28 c28,Rd Pg (Instr.sliceAt 46 (vsl a7 n7 c7) (some (vi x27)) none none) h24 (vsl a28 n28 c28)/\∃ b29 o30,((decide (x25>0))=true->Ix a28 b29 o30 0 n28)/\∃ x31,((decide (x25>0))=true->Hp.cell h24 b29 (o30+(0:Int).toNat*1)=some (vi x31))/\∃ b32 o33,(((cond (decide (x25>0)) (decide (x31≠x14)) false)=false/\(decide (x25>1))=true)->Ix a28 b32 o33 1 n28)/\∃ x34,(((cond (decide (x25>0)) (decide (x31≠x14)) false)=false/\(decide (x25>1))=true)->Hp.cell h24 b32 (o33+(1:Int).toNat*1)=some (vi x34))/\((cond (cond (decide (x25>0)) (decide (x31≠x14)) false) true (cond (decide (x25>1)) (decide (x34≠x15)) false))=true->R (ifv (some (119,vi 3))) h24)/\((cond (cond (decide (x25>0)) (decide (x31≠x14)) false) true (cond (decide (x25>1)) (decide (x34≠x15)) false))=false->∃ x36,IsW x36 ((n7:Int)-x25)/\∃ a37 n37 c37,Rd Pg (Instr.sliceAt 46 (vsl a7 n7 c7) none (some (vi x36)) none) h24 (vsl a37 n37 c37)/\∀ b38,h24 b38=none->let h39:=Hp.set h24 b38 (Qb [vi x8] 3);Qh Pg (Builtin.append_ #[46,46] 46 #[vsl a37 n37 c37,(vsl (some ⟨b38,0,none⟩) 1 1)]) h39 fun v40 h41=>∃ a42 n42 c42,v40=vsl a42 n42 c42/\∃ x44,IsW x44 (x8+1)/\I3 [vsl a42 n42 c42,vi x44] h41/\m4 [vsl a42 n42 c42,vi x44] h41<m4 vs5 h6))))/\((decide (x8<(u1:Int)))=false->((decide ((n7:Int)≠1))=true->R (ifv (some (119,vi 3))) h6)/\((decide ((n7:Int)≠1))=false->R (ifv none) h6)))):Qa Pg 203 [vsl u0 u1 u2] h R:=callC ⟨[],[(5,([3,15],[.one (.slice),.one (.int .i64)],[]))],[(14,[0,1,2,3,4,5,6,7,8,9,10,11,12,13,14,15,16,17,18,19,20,21])]⟩ Tryz.func203 [.one (.v (vsl u0 u1 u2))] H
theorem Qea {u0:Int}{u1:Int}{h:Hp}{R:RtT}(H:let J4:Bool->Prop:=fun p5=>((p5=true->R (ifv none) h)/\(p5=false->R (ifv (some (119,vi 3))) h));((cond (decide (u0=0)) (decide (u1=0)) false)=true->J4 (cond (decide (u0=0)) (decide (u1=0)) false))/\((cond (decide (u0=0)) (decide (u1=0)) false)=false->((cond (cond (decide (u0=1)) (decide (u1>=(-1000000000))) false) (decide (u1<=1000000000)) false)=true->J4 (cond (cond (decide (u0=1)) (decide (u1>=(-1000000000))) false) (decide (u1<=1000000000)) false))/\((cond (cond (decide (u0=1)) (decide (u1>=(-1000000000))) false) (decide (u1<=1000000000)) false)=false->J4 (cond (decide (u0=2)) (cond (decide (u1=0)) true (decide (u1=1))) false)))):Qa Pg 159 [vag [vi u0,vi u1]] h R:=callO Tryz.func159 [.ag [.v (vi u0),.v (vi u1)]] H
theorem Mp {v:Int × Int}{h:Hp}{R:RtT}(hK:R (ifv (QA (if Qq v then 0 else 3))) h):Qa Pg 159 [vag (Qu v)] h R:=by
 refine Qea ?_
 intro J4;have yes:Qq v->J4 true:=fun hg=>⟨fun _=>by rw [bJ hg] at hK;exact hK,fun e=>by cases e⟩
 have no:¬ Qq v->J4 false:=fun hg=>⟨fun e=>(by cases e),fun _=>by rw [bE hg] at hK;exact hK⟩
 refine⟨fun e=>?_,fun e=>⟨fun e2=>?_,fun e2=>?_⟩⟩
 ·rw [e];exact yes (by unfold Qq;simp [cQ] at e;omega)
 ·rw [e2];exact yes (by unfold Qq;simp [cQ] at e2;omega)
 ·by_cases hg:Qq v
  ·have:(bif (decide (v.1=2)) then(bif (decide (v.2=0)) then true else(decide (v.2=1))) else false)=true:=by unfold Qq at hg;simp [cQ] at e e2 ⊢;omega
   rw [this];exact yes hg
  ·have:(bif (decide (v.1=2)) then(bif (decide (v.2=0)) then true else(decide (v.2=1))) else false)=false:=by unfold Qq at hg;simp [cQ];omega
   rw [this];exact no hg
theorem QhT (v:Int × Int):(v=(0,0))=(v.1=0/\v.2=0):=propext ⟨fun h=>by rw [h];exact⟨rfl,rfl⟩,fun h=>Prod.ext h.1 h.2⟩
theorem Qi7 {n:Nd}{h:Hp}{R:RtT}(hK:R (ifv (QA (ZH n))) h):Qa Pg 246 [vag (Z6 n)] h R:=by
 refine QjV ?_
 unfold ZH at hK;refine Zd ⟨_,rfl,fun q=>?_,fun q=>⟨_,fun _=>QdF (a:=n.v) (b:=(0,0)),fun q2=>?_,fun q2=>⟨fun q3=>?_,fun q3=>Mp (v:=n.v) ⟨_,rfl,?_⟩⟩⟩⟩
 ·rw [bJ (bC q)] at hK;exact hK
 all_goals
  have c1:=bB q;simp only [KS,cor,Qmb] at *
 ·have c2:=bC q2;rw [bE c1,bJ (by simp only [ne_eq,QhT] at c2 ⊢;omega)] at hK
  exact hK
 ·have c2:=bB q2;have c3:=bC q3;rw [bE c1,bE (by simp only [ne_eq,QhT] at c2 ⊢;omega),bJ c3] at hK
  exact hK
 ·have c2:=bB q2;have c3:=bB q3;rw [bE c1,bE (by simp only [ne_eq,QhT] at c2 ⊢;omega),bE c3] at hK
  by_cases hg:Qq n.v
  ·rw [bE (by simp [hg])] at hK
   rw [bJ hg];exact hK
  ·rw [bJ hg] at hK;rw [bE hg];exact hK
theorem Qf0 {a:OaT}{k c:Nat}{l:List Nd}{h:Hp}{R:RtT}(S:SlP Z6 h a k l)(hK:∀ h',h.le h'->R (ifv (QA (K3 l))) h'):Qa Pg 203 [vsl a k c] h R:=by
 refine QfI ?_
 have hk:=S.1;subst hk;refine⟨fun e=>?_,fun e=>?_⟩
 ·have:K3 l=2:=by unfold K3;rw [bJ (by have:=bC e;omega)]
  rw [this] at hK;exact hK h (qO h)
 have h40:l.length<=40:=by have:=bB e;omega
 have e1:K3 l=ZO [] 0 l:=by unfold K3;rw [bE (by omega)]
 rw [e1] at hK;refine⟨fun vs hh=>∃(i:Nat)(a:OaT)(c:Nat)(st:List Int),vs=[vsl a st.length c,vi i]/\i<=l.length/\st.length<=i/\ZO [] 0 l=ZO st i (l.drop i)/\Qg h hh 3 1 a st.length c (st.reverse.map vi),fun vs hh=>l.length-(Qo vs 1).toNat,
  ⟨0,none,0,[],rfl,cE _,cB _,rfl,qY (qO h) _ _⟩,?_⟩
 rintro vs hh ⟨i,a1,c1,st,rfl,hi,hst,hc,O⟩;refine⟨_,_,_,_,rfl,fun q=>?_,fun q=>?_⟩
 ·have hlt:i<l.length:=by have:=bC q;omega
  have hx:l[i]?=some l[i]:=bD hlt
  rw [Qj0 hlt] at hc;obtain⟨b,o,ha,hr⟩:=(S.le O.le).get Zk (by decide) hx
  generalize l[i]=n at *
  refine⟨b,o,⟨ha,by omega,by omega⟩,_,_,_,_,_,_,hr,Qi7 (n:=n) ⟨_,rfl,fun q2=>?_,fun q2=>Zd ⟨_,rfl,?_⟩⟩⟩
  ·rw [QR] at q2;have hf:ZH n≠0:=by simpa using q2
   rw [Qmd rfl hf] at hc;rw [hc] at hK;exact hK hh O.le
  rw [QR] at q2;have hf:ZH n=0:=by simpa using q2
  have har:0<=arI n.op:=Qa1 hf;have SI:SlI hh a1 st.length st.reverse:=by have:=O.sli;exact this
  have hbad:Wi n st=none->R (ifv (QA 3)) hh:=fun hp=>by
   rw [QmW hf hp] at hc;rw [hc] at hK;exact hK hh O.le
  have hcap:=O.own.cap;have hgood:∀ s,Wi n st=some s->∀ x:Int,x=(st.length:Nat)-arI n.op->∀ K:RtT,(∀(a46:OaT)(n46 c46:Nat)(h45:Hp),Qg h h45 3 1 a46 n46 c46 ((((i:Int) :: s).reverse).map vi)->n46=s.length+1->K (vsl a46 n46 c46) h45) ->
    ∃(a38:OaT)(n38 c38:Nat),(Rd Pg (Instr.sliceAt 46 (vsl a1 st.length c1) none (some (vi x)) none) hh (vsl a38 n38 c38))/\(∀(b42:Nat),hh b42=none->Qh Pg (Builtin.append_ #[46,46] 46 #[(vsl a38 n38 c38),(vsl (some ⟨b42,0,none⟩) 1 1)]) (Hp.set hh b42 (Qb [(vi i)] 3)) K):=by
   intro s hs x hx K hK;rw [hx];obtain⟨p1,p2⟩:=Qb5 har hs;rw [<-p1];refine⟨_,_,_,X6 (e:=3) (by kernel_rfl) (by kernel_rfl) (by omega) (by omega),fun b42 hb42=>?_⟩
   rw [bF];have OC:Qg h hh 3 1 a1 s.length c1 (s.reverse.map vi):=by
    have:=O.cut (m:=s.length) (by omega)
    rw [fZ,<-jN,p2] at this;exact this
   refine q8 QeT (Qg.set hb42 _ OC) (qW _ _ [vi i] _) (m:=1) rfl (by simp [Value.oneCell']) (by omega) (by omega) fun a2 c2 h2 O2 _ _=>hK _ _ _ _ ?_ rfl
   rw [gR,cJ];exact O2
  have hnext:∀ s,Wi n st=some s->∀(a46:OaT)(n46 c46:Nat)(h45:Hp),Qg h h45 3 1 a46 n46 c46 ((((i:Int) :: s).reverse).map vi)->n46=s.length+1->∃(x48:Int),IsW x48 ((i:Int)+1)/\(∃(i':Nat)(a:OaT)(c:Nat)(st:List Int),[vsl a46 n46 c46,vi x48]=[vsl a st.length c,vi i']/\i'<=l.length/\st.length<=i'/\ZO [] 0 l=ZO st i' (l.drop i')/\Qg h h45 3 1 a st.length c (st.reverse.map vi))/\l.length-(Qo [vsl a46 n46 c46,vi x48] 1).toNat<l.length-(Qo [vsl a1 st.length c1,vi i] 1).toNat:=by
   intro s hs a46 n46 c46 h45 O45 hn;subst hn;obtain⟨p1,p2⟩:=Qb5 har hs;refine⟨_,iW,⟨i+1,a46,c46,(i:Int) :: s,rfl,by omega,by simp;omega,?_,O45⟩,by simp [Qo];omega⟩
   rw [hc,QnW hf hs]
  refine⟨fun q3=>?_,fun q3=>?_⟩
  ·have hlt2:=bC q3;have:Wi n st=none:=by
    cases hp:Wi n st with
    | none=>rfl
    | some s=>have:=(Qb5 har hp).1;omega
   exact hbad this
  have hge:=bB q3;have hw:∀{K:Int->Prop},K ((st.length:Nat)-arI n.op)->∃ x,IsW x (((st.length:Nat):Int)-arI n.op)/\K x:=fun hk=>⟨_,iW,hk⟩
  refine hw ?_
  have hsz:szT Pg 3=1:=by kernel_rfl
  have rdl:=fun(x:Int)(h0:0<=x)(h1:x<=st.length)=>YD (P:=Pg) (h:=hh) (t:=46) (e:=3) (by kernel_rfl) (by kernel_rfl) (a:=a1) (n:=st.length) (c:=c1) h0 h1
  rw [hsz] at rdl;refine⟨_,_,_,rdl _ (by omega) (by omega),?_⟩
  have SD:=SI.drop (i:=((st.length:Nat)-arI n.op).toNat) (c:=c1) (by omega) hcap
  rcases Zb har with h0|h0|h0
  ·have hs:Wi n st=some st:=by unfold Wi;rw [bJ h0]
   rw [h0];refine⟨0,0,fun g=>(by cases g),0,fun g=>(by cases g),0,0,fun g=>(by cases g.2),0,fun g=>(by cases g.2),fun g=>?_,fun _=>⟨_,iW,hgood st hs _ (by rw [h0]) _ fun a46 n46 c46 h45 O e=>⟨_,_,_,rfl,hnext st hs a46 n46 c46 h45 O e⟩⟩⟩
   exfalso;simp only [KS,cor] at g;have:=bC g;omega
  ·match st with
   | []=>exfalso;simp at hge;omega
   | z :: s=>
    have hx29:(((z :: s).length:Nat):Int)-arI n.op=(s.length:Nat):=by rw [h0];simp
    rw [hx29] at SD ⊢;rw [bF] at SD ⊢;have ed:((z :: s).reverse).drop s.length=[z]:=by rw [gR,pR (by simp)]
    rw [ed] at SD;obtain⟨q,p,hq,hcell⟩:=SD.get (i:=0) (by simp)
    rw [h0];by_cases hz:z=n.x
    ·have hs:Wi n (z :: s)=some s:=by unfold Wi;rw [bE (by omega),bJ h0];simp [hz]
     refine⟨q,p,fun g=>⟨hq,by omega,by simp⟩,z,fun g=>hcell,0,0,fun g=>(by cases g.2),0,fun g=>(by cases g.2),fun g=>?_,fun _=>?_⟩
     ·exfalso;simp only [KS,cor] at g;have:=bC g;omega
     ·exact⟨_,isW (by have:(z :: s).length<=i:=hst;unfold InR;omega),hgood s hs _ hx29.symm _ fun a46 n46 c46 h45 O e=>⟨_,_,_,rfl,hnext s hs a46 n46 c46 h45 O e⟩⟩
    ·have hs:Wi n (z :: s)=none:=by unfold Wi;rw [bE (by omega),bJ h0];simp [hz]
     have:=hbad hs;refine⟨q,p,fun g=>⟨hq,by omega,by simp⟩,z,fun g=>hcell,0,0,fun g=>(by cases g.2),0,fun g=>(by cases g.2),fun _=>this,fun g=>?_⟩
     exfalso;simp only [KS,cor] at g;have:=bB g;omega
  ·match st with
   | []=>exfalso;simp at hge;omega
   | [z]=>exfalso;simp at hge;omega
   | z :: y :: s=>
    have hx29:(((z :: y :: s).length:Nat):Int)-arI n.op=(s.length:Nat):=by rw [h0];simp;omega
    rw [hx29] at SD ⊢;rw [bF] at SD ⊢;have ed:((z :: y :: s).reverse).drop s.length=[y,z]:=by rw [gR,gR,bX,pR (by simp)];rfl
    rw [ed] at SD;have en:(z :: y :: s).length-s.length=2:=by simp;omega
    rw [en] at SD ⊢;obtain⟨q,p,hq,hcell⟩:=SD.get (i:=0) (by simp)
    obtain⟨q',p',hq',hcell'⟩:=SD.get (i:=1) (by simp)
    rw [h0];by_cases hz:y=n.x/\z=n.y
    ·have hs:Wi n (z :: y :: s)=some s:=by unfold Wi;rw [bE (by omega),bE (by omega)];simp [hz.1,hz.2]
     refine⟨q,p,fun g=>⟨hq,by omega,by decide⟩,y,fun g=>hcell,q',p',fun g=>⟨hq',by omega,by decide⟩,z,fun g=>hcell',fun g=>?_,fun _=>?_⟩
     ·exfalso;simp only [KS,cor] at g;have:=bC g;omega
     ·exact⟨_,isW (by have:(z :: y :: s).length<=i:=hst;unfold InR;omega),hgood s hs _ hx29.symm _ fun a46 n46 c46 h45 O e=>⟨_,_,_,rfl,hnext s hs a46 n46 c46 h45 O e⟩⟩
    ·have hs:Wi n (z :: y :: s)=none:=by unfold Wi;rw [bE (by omega),bE (by omega)];simp;intro h1 h2;exact hz ⟨h1,h2⟩
     have:=hbad hs;refine⟨q,p,fun g=>⟨hq,by omega,by decide⟩,y,fun g=>hcell,q',p',fun g=>⟨hq',by omega,by decide⟩,z,fun g=>hcell',fun _=>this,fun g=>?_⟩
     exfalso;simp only [KS,cor] at g;have:=bB g;omega
 ·have hge:i=l.length:=by have:=bB q;omega
  subst hge;rw [gL (cB _),ZO] at hc;refine⟨fun q2=>?_,fun q2=>?_⟩
  ·rw [bE (by have:=bC q2;omega)] at hc
   rw [hc] at hK;exact hK hh O.le
  ·rw [bJ (by have:=bB q2;omega)] at hc
   rw [hc] at hK;exact hK hh O.le
open Go.Txt
def Qbz:Int->Value->List Value:=fun k v=>[vi k,v]
theorem Ji (k:Int)(v:Value):(Qbz k v).length=2:=rfl
structure QAt (h:Hp)(q:Qy)(a1:OaT)(n1:Nat)(a2:OaT)(n2:Nat)(a3:OaT)(n3:Nat):Prop where
 g:Ke Z6 Qbz h a1 n1 q.aggs
 w:SlP Z6 h a2 n2 q.wh
 b:SlP Z6 h a3 n3 q.by_
theorem QAt.le {h h':Hp}{q:Qy}{a1 a2 a3:OaT}{n1 n2 n3:Nat}(Q:QAt h q a1 n1 a2 n2 a3 n3)(l:h.le h'):QAt h' q a1 n1 a2 n2 a3 n3:=⟨Q.g.le l,Q.w.le l,Q.b.le l⟩
abbrev qV (a1:OaT)(n1 c1:Nat)(a2:OaT)(n2 c2:Nat)(a3:OaT)(n3 c3:Nat)(q:Qy):Value:=vag [vsl a1 n1 c1,vsl a2 n2 c2,vsl a3 n3 c3,vi q.size,vi q.slide,vi q.delay,vi q.late]
structure Qp9 (q:Qy):Prop where
 w:q.wh.length<=1000000
 b:q.by_.length<=1000000
 g:∀ a ∈ q.aggs,a.2.length<=1000000
 n:q.aggs.length<=1000000
theorem Jz {a:OaT}{k c:Nat}{l:List Nd}{kind:Int}{h:Hp}{R:RtT}(S:SlP Z6 h a k l)(hl:l.length<=1000000)(hK:∀ h',h.le h'->R (ifv (QA (YY l kind))) h'):Qa Pg 146 [vsl a k c,vi kind] h R:=by
 refine Qd8 ?_
 unfold YY at hK;refine Qf0 S fun h2 l2=>⟨_,rfl,fun e=>?_,fun e=>?_⟩
 ·rw [QR] at e;have e2:K3 l≠0:=by simpa using e
  rw [bJ e2] at hK;exact hK h2 l2
 ·rw [QR] at e;have e2:K3 l=0:=by simpa using e
  rw [bE (fun h=>h e2)] at hK
  refine Vm (S.le l2) (Yq e2).1 hl fun h6 l6=>⟨_,_,rfl,?_⟩
  have hc:(bif (bif (bif (Option.isNone (QA (ZJ l).2)) then(decide ((kind:Int)≠0)) else false) then(decide (((ZJ l).1:Int)≠kind)) else false) then(decide (((ZJ l).1:Int)≠0)) else false)=decide ((((ZJ l).2=0/\kind≠0)/\(ZJ l).1≠kind)/\(ZJ l).1≠0):=by rw [YR,KS,KS,KS]
  rw [hc];intro J11;refine⟨fun q=>?_,fun q=>?_⟩
  ·have q:=bC q;rw [bE (fun h=>h q.1.1.1),bJ ⟨q.1.1.2,q.1.2,q.2⟩] at hK
   exact hK h6 (qP l2 l6)
  ·have q:=bB q;have:=hK h6 (qP l2 l6);by_cases h5:(ZJ l).2≠0
   ·rw [bJ h5] at this;exact this
   ·have h5:(ZJ l).2=0:=gA.1 h5;rw [bE (fun h=>h h5),bE (fun h=>q ⟨⟨⟨h5,h.1⟩,h.2.1⟩,h.2.2⟩)] at this
    show R (ifv (QA (ZJ l).2)) h6;rw [h5];exact this
theorem QgX (h:Hp)(b:Nat)(x y:Int)(T:TypeId){i:Nat}(hi:i<2):(h.set b (Qb [vi x,vi y] T)).cell b (0+(i:Int).toNat*1)=some (vi (if i=0 then x else y)):=by
 match i,hi with
 | 0,_=>exact Qc (qK _ _ _) rfl
 | 1,_=>exact Qc (qK _ _ _) rfl
theorem Qcg {q:Qy}{a1:OaT}{n1 c1:Nat}{a2:OaT}{n2 c2:Nat}{a3:OaT}{n3 c3:Nat}{h:Hp}{R:RtT}(hK:∀ h',h.le h'->R (ifv (QA (VB q))) h'):Qa Pg 147 [qV a1 n1 c1 a2 n2 c2 a3 n3 c3 q] h R:=by
 refine QcC ?_
 intro b1 hb1 h2;have l2:h.le h2:=qQ (qO h) hb1 _;refine⟨fun vs' hh=>hh=h2/\∃ i:Nat,vs'=[vi i]/\i<=2/\(1<=i->1<=q.size/\q.size<=1000)/\(2<=i->1<=q.slide/\q.slide<=1000),fun vs' hh=>2-(Qo vs' 0).toNat,⟨rfl,0,rfl,by omega,by omega,by omega⟩,?_⟩
 rintro vs' hh ⟨rfl,i,rfl,hi,i1,i2⟩;refine⟨i,rfl,fun e=>?_,fun e=>?_⟩
 ·have hlt:i<2:=by have:=bC e;omega
  refine⟨b1,0,⟨rfl,by omega,by omega⟩,_,QgX h b1 q.size q.slide 3 hlt,?_⟩
  rw [cor];refine⟨fun g=>?_,fun g=>?_⟩
  ·have g:=bC g;have e1:VB q=1:=by unfold VB;rw [bJ];split at g<;>omega
   rw [e1] at hK;exact hK _ l2
  ·have g:=bB g;refine⟨_,iW,⟨rfl,i+1,rfl,by omega,fun h=>?_,fun h=>?_⟩,by simp [Qo];omega⟩
   ·by_cases h0:i=0
    ·rw [bJ h0] at g;omega
    ·exact i1 (by omega)
   ·have h0:¬ i=0:=by omega
    rw [bE h0] at g;omega
 ·have hge:i=2:=by have:=bB e;omega
  subst hge;have j1:=i1 (by omega)
  have j2:=i2 (by omega)
  intro b16 hb16 h17;have l17:h.le h17:=qQ l2 hb16 _;refine⟨fun vs' hh=>hh=h17/\∃ i:Nat,vs'=[vi i]/\i<=2/\(1<=i->0<=q.delay/\q.delay<=1000)/\(2<=i->0<=q.late/\q.late<=1000),fun vs' hh=>2-(Qo vs' 0).toNat,⟨rfl,0,rfl,by omega,by omega,by omega⟩,?_⟩
  rintro vs' hh ⟨rfl,i,rfl,hi,i1,i2⟩;refine⟨i,rfl,fun e=>?_,fun e=>?_⟩
  ·have hlt:i<2:=by have:=bC e;omega
   refine⟨b16,0,⟨rfl,by omega,by omega⟩,_,QgX h2 b16 q.delay q.late 3 hlt,?_⟩
   rw [cor];refine⟨fun g=>?_,fun g=>?_⟩
   ·have g:=bC g;have e1:VB q=1:=by unfold VB;rw [bJ];split at g<;>omega
    rw [e1] at hK;exact hK _ l17
   ·have g:=bB g;refine⟨_,iW,⟨rfl,i+1,rfl,by omega,fun h=>?_,fun h=>?_⟩,by simp [Qo];omega⟩
    ·by_cases h0:i=0
     ·rw [bJ h0] at g;omega
     ·exact i1 (by omega)
    ·have h0:¬ i=0:=by omega
     rw [bE h0] at g;omega
  ·have hge:i=2:=by have:=bB e;omega
   subst hge;have j3:=i1 (by omega)
   have j4:=i2 (by omega)
   refine⟨4*q.slide,fun _=>iW,?_⟩
   rw [cor];have hn:VB q=if q.slide>q.size\/q.size>4*q.slide then 3 else 0:=by
    unfold VB;rw [bE (by omega)]
   rw [hn] at hK;refine⟨fun g=>?_,fun g=>?_⟩
   ·rw [bJ (bC g)] at hK;exact hK _ l17
   ·rw [bE (bB g)] at hK;exact hK _ l17
theorem Qnc {α:Type}{l:List α}{g:α->Int}{i:Nat}(hi:i<l.length)(h:∀ y ∈ l.take i,g y=0)(h2:g l[i]=0):∀ y ∈ l.take (i+1),g y=0:=by
 intro y hy;rw [bL hi] at hy;rcases bU.1 hy with h3|h3
 ·exact h y h3
 ·rw [cD.1 h3];exact h2
theorem MH {α:Type}{l:List α}:l=[]↔l.length=0:=fU.symm
theorem G5 {q:Qy}{a1:OaT}{n1 c1:Nat}{a2:OaT}{n2 c2:Nat}{a3:OaT}{n3 c3:Nat}{h:Hp}{R:RtT}(Q:QAt h q a1 n1 a2 n2 a3 n3)(B:Qp9 q)(hK:∀ h',h.le h'->R (ifv (QA (Qdo q))) h'):Qa Pg 89 [qV a1 n1 c1 a2 n2 c2 a3 n3 c3 q] h R:=by
 refine Qfg ?_
 have hn1:=Q.g.len;have hn2:=Q.w.1;have hn3:=Q.b.1;have hB:=B.n;rw [cor];refine⟨fun e=>?_,fun e=>?_⟩
 ·have e:=bC e;have:Qdo q=2:=by unfold Qdo;rw [bJ (by omega)]
  rw [this] at hK;exact hK h (qO h)
 have e:=bB e;have hq:Qdo q=if Z9 (q.aggs.map VO)≠0 then Z9 (q.aggs.map VO) else QlB q:=by unfold Qdo;rw [bE (by omega)]
 rw [hq] at hK;clear hq;refine⟨fun vs' hh=>h.le hh/\∃ i:Nat,vs'=[vi i]/\i<=n1/\∀ y ∈ q.aggs.take i,VO y=0,fun vs' hh=>n1-(Qo vs' 0).toNat,⟨qO h,0,rfl,cE _,by simp⟩,?_⟩
 rintro vs' hh ⟨lh,i,rfl,hi,hz⟩;refine⟨i,rfl,fun g=>?_,fun g=>?_⟩
 ·have hlt:i<n1:=by have:=bC g;omega
  have hlt2:i<q.aggs.length:=by omega
  have hx:q.aggs[i]?=some q.aggs[i]:=bD hlt2
  have hbig:=B.g _ (cF hx);have hall:=@Qnc _ q.aggs VO i hlt2 hz;generalize q.aggs[i]=y at hx hbig hall;obtain⟨k,l⟩:=y;obtain⟨b,o,a',c',ha,hrow,hS⟩:=(Q.g.le lh).row Ji (by decide) hx
  have bad:∀ f,f≠0->VO (k,l)=f->∀ h',h.le h'->R (ifv (QA f)) h':=by
   intro f hf hk h' l';have h1:=QmQ (g:=VO) hz hx (by rw [hk];exact hf)
   rw [h1,hk,bJ hf] at hK;exact hK h' l'
  intro J25;refine⟨b,o,⟨ha,by omega,by omega⟩,k,a',l.length,c',by rw [bF];exact hrow,?_⟩
  have good:VO (k,l)=0->∀ h',h.le h'->J25 h':=fun hk h' l'=>⟨_,iW,⟨l',i+1,rfl,by omega,hall hk⟩,by simp [Qo];omega⟩
  clear_value J25;rw [cor,KS,cor];have hnil:l≠[]↔(l.length:Int)>0:=by rw [ne_eq,MH];omega
  refine⟨fun g2=>?_,fun g2=>⟨fun g3=>?_,fun g3=>?_⟩⟩
  ·have g2:=bC g2;refine bad 3 (by decide) ?_ hh lh
   unfold VO;rw [bJ (by simp only [hnil];omega)]
  ·have g2:=bB g2;have g3:=bC g3;refine good ?_ hh lh
   unfold VO;rw [bE (by simp only [hnil];omega),bJ g3]
  ·have g2:=bB g2;have g3:=bB g3;have hf:VO (k,l)=YY l (if k=2 then 0 else 1):=by unfold VO;rw [bE (by simp only [hnil];omega),bE g3]
   intro J19;have hJ:J19 (if k=2 then 0 else 1):=by
    refine Jz hS hbig fun h' l'=>⟨_,rfl,fun g4=>?_,fun g4=>?_⟩
    ·rw [QR] at g4;exact bad _ (by simpa using g4) hf h' (qP lh l')
    ·rw [QR] at g4;exact good (by rw [hf];simpa using g4) h' (qP lh l')
   clear_value J19;refine⟨fun g4=>?_,fun g4=>?_⟩
   ·rw [bJ (bC g4)] at hJ;exact hJ
   ·rw [bE (bB g4)] at hJ;exact hJ
 ·have hge:i=n1:=by have:=bB g;omega
  have hz0:Z9 (q.aggs.map VO)=0:=GR (by
   intro x hx;obtain⟨y,hy,rfl⟩:=cZ.1 hx;exact hz y (by rw [cY (by omega)];exact hy))
  rw [hz0,bE (fun h=>h rfl)] at hK
  unfold QlB at hK;have Q:=Q.le lh;intro J33;have hJ33:∀ h',hh.le h'->(if q.wh=[] then 0 else YY q.wh 2)=0->J33 h':=by
   intro h' l' hw;rw [hw,Z9,bE (fun h=>h rfl)] at hK
   unfold J33;intro J40;have hJ40:∀ h2,h'.le h2->(if q.by_=[] then 0 else YY q.by_ 0)=0->J40 h2:=by
    intro h2 l2 hb;rw [hb,Z9,bE (fun h=>h rfl)] at hK
    refine Qcg (q:=q) fun h3 l3=>⟨_,rfl,?_⟩
    have:=hK h3 (qP lh (qP l' (qP l2 l3)));rw [Z9,Z9] at this;by_cases hn:VB q≠0
    ·rw [bJ hn] at this;exact this
    ·rw [bE hn] at this;rw [gA.1 hn];exact this
   clear_value J40;refine⟨fun g2=>?_,fun g2=>?_⟩
   ·have hne:¬ q.by_=[]:=by have:=bC g2;rw [MH];omega
    rw [bE hne] at hJ40 hK;refine Jz (Q.le l').b B.b fun h2 l2=>⟨_,rfl,fun g4=>?_,fun g4=>?_⟩
    ·rw [QR] at g4;rw [Z9,bJ (by simpa using g4)] at hK
     exact hK h2 (qP lh (qP l' l2))
    ·rw [QR] at g4;exact hJ40 h2 l2 (by simpa using g4)
   ·have hnil:q.by_=[]:=by have:=bB g2;rw [MH];omega
    exact hJ40 h' (qO h') (bJ hnil)
  clear_value J33;refine⟨fun g2=>?_,fun g2=>?_⟩
  ·have hne:¬ q.wh=[]:=by have:=bC g2;rw [MH];omega
   rw [bE hne] at hJ33 hK;refine Jz Q.w B.w fun h2 l2=>⟨_,rfl,fun g4=>?_,fun g4=>?_⟩
   ·rw [QR] at g4;rw [Z9,bJ (by simpa using g4)] at hK
    exact hK h2 (qP lh l2)
   ·rw [QR] at g4;exact hJ33 h2 l2 (by simpa using g4)
  ·have hnil:q.wh=[]:=by have:=bB g2;rw [MH];omega
   exact hJ33 hh (qO hh) (bJ hnil)
end Go.Proofs.YthicpjafcpfjoaaGreatDoor
namespace Go.Vc
open Go
section
variable {α:Type}
def ftE (fs:List (α × (Nat->Prop))):NpT:=fun b=>∃ x ∈ fs,x.2 b
def Qp2 (fs:List (α × (Nat->Prop))):Prop:=fs.Pairwise fun x y=>∀ b,x.2 b->¬ y.2 b
def ZV (P:α->Hp->(Nat->Prop)->Prop)(l:List α)(h:Hp)(F:NpT):Prop:=
 ∃ fs:List (α × (Nat->Prop)),fs.map Prod.fst=l/\F=ftE fs/\Qp2 fs/\∀ x ∈ fs,P x.1 h x.2
variable {P:α->Hp->(Nat->Prop)->Prop}
theorem ZV.fp (fp:∀ x,Fp (P x))(l:List α):Fp (ZV P l) where
 al:=by
  rintro h F ⟨fs,_,rfl,_,H⟩ b ⟨x,hx,hb⟩;exact(fp x.1).al (H x hx) b hb
 keep:=by
  rintro h h' F ⟨fs,e,rfl,A,H⟩ hk;exact⟨fs,e,rfl,A,fun x hx=>(fp x.1).keep (H x hx) fun b hb=>hk b ⟨x,hx,hb⟩⟩
theorem ZV.nil (h:Hp):ZV P [] h (fun _=>False):=⟨[],rfl,by funext b;simp [ftE],List.Pairwise.nil,fun x hx=>by cases hx⟩
theorem ZV.perm {l l':List α}{h:Hp}{F:NpT}(E:ZV P l h F)(p:l'.Perm l):ZV P l' h F:=by
 obtain⟨fs,rfl,rfl,A,H⟩:=E;have key:∀{m m':List α},m.Perm m'->∀ gs:List (α × (Nat->Prop)),gs.map Prod.fst=m'->∃ gs':List (α × (Nat->Prop)),gs'.map Prod.fst=m/\gs'.Perm gs:=by
  intro m m' q;induction q with
  | nil=>intro gs e;exact⟨gs,e,qC _⟩
  | cons x q ih=>
   intro gs e;match gs,e with
   | g :: gs,e=>
    simp only [dD,g8] at e;obtain⟨gs',e2,p2⟩:=ih gs e.2;exact⟨g :: gs',by rw [dD,e2,e.1],p2.cons g⟩
  | swap x y q=>
   intro gs e;match gs,e with
   | g1 :: g2 :: gs,e=>
    simp only [dD,g8] at e;exact⟨g2 :: g1 :: gs,by simp [e],List.Perm.swap _ _ _⟩
  | trans q1 q2 ih1 ih2=>
   intro gs e;obtain⟨g1,e1,p1⟩:=ih2 gs e;obtain⟨g2,e2,p2⟩:=ih1 g1 e1;exact⟨g2,e2,p2.trans p1⟩
 obtain⟨gs,e,q⟩:=key p fs rfl;refine⟨gs,e,?_,?_,fun x hx=>H x (q.mem_iff.1 hx)⟩
 ·funext b
  apply propext;constructor
  ·rintro⟨x,hx,hb⟩;exact⟨x,q.mem_iff.2 hx,hb⟩
  ·rintro⟨x,hx,hb⟩;exact⟨x,q.mem_iff.1 hx,hb⟩
 ·exact(q.pairwise_iff (fun {x y} hxy b hb hb2=>hxy b hb2 hb)).2 A
theorem ZV.cons {l:List α}{x:α}{h:Hp}{F G:NpT}(E:ZV P l h F)(X:P x h G)(d:∀ b,G b->¬ F b):ZV P (x :: l) h (fun b=>G b\/F b):=by
 obtain⟨fs,rfl,rfl,A,H⟩:=E;refine⟨(x,G) :: fs,rfl,?_,fA.2 ⟨fun y hy b hb hb2=>d b hb ⟨y,hy,hb2⟩,A⟩,?_⟩
 ·funext b
  apply propext;constructor
  ·rintro(hb|⟨y,hy,hb⟩)
   ·exact⟨_,bY ..,hb⟩
   ·exact⟨y,bT _ hy,hb⟩
  ·rintro⟨y,hy,hb⟩;rcases bS.1 hy with rfl|hy
   ·exact .inl hb
   ·exact .inr ⟨y,hy,hb⟩
 ·intro y hy;rcases bS.1 hy with rfl|hy
  ·exact X
  ·exact H y hy
theorem ZV.snoc {l:List α}{x:α}{h:Hp}{F G:NpT}(E:ZV P l h F)(X:P x h G)(d:∀ b,G b->¬ F b):ZV P (l++[x]) h (fun b=>G b\/F b):=(E.cons X d).perm (List.perm_append_comm (l₁:=l) (l₂:=[x]))
theorem ZV.uncons {l:List α}{x:α}{h:Hp}{F:NpT}(E:ZV P (x :: l) h F):∃ G F',P x h G/\ZV P l h F'/\(∀ b,G b->¬ F' b)/\∀ b,F b↔(G b\/F' b):=by
 obtain⟨fs,e,rfl,A,H⟩:=E;match fs,e with
 | (y,G) :: fs,e=>
  simp only [dD,g8] at e;obtain⟨rfl,rfl⟩:=e;obtain⟨A1,A2⟩:=fA.1 A;refine⟨G,ftE fs,H _ (bY ..),⟨fs,rfl,rfl,A2,fun z hz=>H z (bT _ hz)⟩,?_,?_⟩
  ·rintro b hb ⟨z,hz,hb2⟩;exact A1 z hz b hb hb2
  ·intro b;constructor
   ·rintro⟨z,hz,hb⟩;rcases bS.1 hz with rfl|hz
    ·exact .inl hb
    ·exact .inr ⟨z,hz,hb⟩
   ·rintro(hb|⟨z,hz,hb⟩)
    ·exact⟨_,bY ..,hb⟩
    ·exact⟨z,bT _ hz,hb⟩
theorem QeK {l:List α}{i:Nat}(hi:i<l.length):(l[i] :: l.eraseIdx i).Perm l:=by
 rw [List.eraseIdx_eq_take_drop_succ];have e:l=l.take i++l[i] :: l.drop (i+1):=by rw [<-dS,dX]
 have p:=(List.perm_middle (a:=l[i]) (l₁:=l.take i) (l₂:=l.drop (i+1)));rw [<-e] at p;exact p.symm
theorem ZV.at (fp:∀ x,Fp (P x)){l:List α}{h:Hp}{F:NpT}(E:ZV P l h F){i:Nat}{x:α}(hx:l[i]?=some x):∃ G,P x h G/\(∀ b,G b->F b) /\
  ∀(h':Hp)(G':NpT)(x':α),Mut G h G' h'->P x' h' G'->∃ F',ZV P (l.set i x') h' F'/\Mut F h F' h':=by
 obtain⟨hi,rfl⟩:=bG.1 hx
 have p:(l[i] :: l.eraseIdx i).Perm l:=QeK hi;obtain⟨G,F1,X,E1,d,hF⟩:=(E.perm p).uncons;refine⟨G,X,fun b hb=>(hF b).2 (.inl hb),fun h' G' x' M X'=>?_⟩
 obtain⟨k,d'⟩:=M.apart ((ZV.fp fp _).al E1) d;have E2:=((ZV.fp fp _).keep E1 k).cons X' d';have p2:(l.set i x').Perm (x' :: l.eraseIdx i):=by
  have hi2:i<(l.set i x').length:=by rw [dL];exact hi
  have:=QeK hi2;rw [kH,List.eraseIdx_set_eq] at this;exact this.symm
 refine⟨_,E2.perm p2,⟨fun b o hb ho=>M.keep b o (fun q=>hb ((hF b).2 (.inl q))) ho,fun b hb=>?_⟩⟩
 rcases hb with hb|hb
 ·rcases M.new b hb with q|q
  ·exact .inl ((hF b).2 (.inl q))
  ·exact .inr q
 ·exact .inl ((hF b).2 (.inr hb))
end
def Qaf (e:TypeId)(sz:Nat)(a:OaT)(n c:Nat)(xs:List Value)(h:Hp)(F:NpT):Prop:=QT h e sz a n c xs/\F=fun b=>a=some ⟨b,0,none⟩
theorem Qaf.fp (e:TypeId)(sz:Nat)(a:OaT)(n c:Nat)(xs:List Value):Fp (Qaf e sz a n c xs) where
 al:=by
  rintro h F ⟨⟨_,O⟩,rfl⟩ b hb;rcases O with ⟨ha,_⟩|⟨g,cur,ha,hg,_⟩
  ·rw [ha] at hb;cases hb
  ·rw [ha] at hb;cases hb;rw [hg];simp
 keep:=by
  rintro h h' F ⟨⟨h1,O⟩,rfl⟩ hk;refine⟨⟨h1,?_⟩,rfl⟩
  rcases O with O|⟨g,cur,ha,hg,O⟩
  ·exact .inl O
  ·exact .inr ⟨g,cur,ha,hk g ha _ hg,O⟩
structure YT (a:OaT)(h h':Hp):Prop where
 keep:∀ b o,h b=some o->a≠some ⟨b,0,none⟩->h' b=some o
theorem YT.refl (a:OaT)(h:Hp):YT a h h:=⟨fun b o ho _=>ho⟩
theorem YT.trans {a:OaT}{h h' h'':Hp}(x:YT a h h')(y:YT a h' h''):YT a h h'':=⟨fun b o ho hn=>y.keep b o (x.keep b o ho hn) hn⟩
theorem YT.le {a:OaT}{h h':Hp}(l:h.le h'):YT a h h':=⟨fun b o ho _=>l b o ho⟩
theorem YT.mut {a:OaT}{h h':Hp}(x:YT a h h'):Mut (fun b=>a=some ⟨b,0,none⟩) h (fun b=>a=some ⟨b,0,none⟩) h':=⟨fun b o hb ho=>x.keep b o ho hb,fun b hb=>.inl hb⟩
section
variable {α:Type}{enc:α->List Value}{sz:Nat}{T:TypeId}{h0 h:Hp}{a:OaT}{c:Nat}{l:List α}
theorem Vec.putF (he:∀ x,(enc x).length=sz)(V:Vec enc sz T h0 h a c l){i:Nat}{x x':α}(hx:l[i]?=some x){k:Nat}{vs:List Value}(hv:0<vs.length)(hk:k+vs.length<=sz)(hx':enc x'=QP (enc x) k vs) :
  ∃ b o,a=some ⟨b,o,none⟩/\∀ K:HpT,(∀ h',Vec enc sz T h0 h' a c (l.set i x')->YT a h h'->K h')->h.store b (o+i*sz+k) vs K:=by
 have hi:i<l.length:=(bG.1 hx).1
 have hb:(i+1)*sz<=l.length*sz:=d9 _ hi;rw [kA] at hb;rcases V.own.2 with ⟨ha,hn,_⟩|⟨g,cur,ha,_⟩
 ·omega
 ·refine⟨g,0,ha,fun K hK=>?_⟩
  rw [kG];refine Qg.store V (j:=i*sz+k) hv (by omega) ha fun ob V'=>hK _ ?_ ⟨fun b o ho hn=>?_⟩
  ·unfold Vec;rw [<-Qb2 he hk l i x x' hx hx',dL];exact V'
  ·have e:b≠g:=fun q=>hn (by rw [ha,q])
   rw [qL _ _ e];exact ho
variable {P:Program}
theorem Vec.appF {t ty:TypeId}{bytes:Nat}(E:ElT P t T sz bytes)(he:∀ x,(enc x).length=sz)(h1:∀ x,∀ u ∈ enc x,u.oneCell'=true)(V:Vec enc sz T h0 h a c l)(hb:(l.length+1)*bytes<=140737488355328)(hb2:l.length+1<=140737488355328){x:α}{b:Nat}(hbn:h b=none){K:RtT}
  (hK:∀ a' c' h',Vec enc sz T h0 h' a' c' (l++[x])->Mut (fun b=>a=some ⟨b,0,none⟩) h (fun b=>a'=some ⟨b,0,none⟩) h'->K (vsl a' (l++[x]).length c') h'):Qh P (Builtin.append_ #[t,t] ty #[vsl a l.length c,vsl (some ⟨b,0,none⟩) 1 1]) (h.set b (Qb (enc x) T)) K:=by
 refine q8 E (Qg.set hbn _ V) (qW _ _ (enc x) _) (m:=1) (by rw [he,j7]) (h1 x) hb hb2 fun a' c' h' O' hk hn=>?_
 have:=hK a' c' h' (by
  unfold Vec;rw [bO,cP,dN];exact O') ⟨fun b' o hb' ho=>hk b' o (by rw [qL _ _ (fun q=>by subst q;rw [hbn] at ho;cases ho)];exact ho) hb',fun b' hb'=>by
   rcases hn b' hb' with q|q
   ·exact .inl (by rw [q];exact hb')
   ·right;unfold Hp.set at q;split at q
    ·cases q
    ·exact q⟩
 rw [bO] at this;exact this
theorem Vec.ownF (V:Vec enc sz T h0 h a c l):Qaf T sz a l.length c (l.flatMap enc) h (fun b=>a=some ⟨b,0,none⟩):=⟨V.own,rfl⟩
end
end Go.Vc
namespace Go.Proofs.YthicpjafcpfjoaaGreatDoor
open Go Go.Vc
theorem QjM {u0:OaT}{u1 u2:Nat}{u3:OaT}{u4 u5:Nat}{u6:OaT}{u7 u8:Nat}{u9:Int}{u10:Int}{u11:Int}{u12:Int}{u13:Int}{u14:Int}{u15:Int}{u16:Int}{u17:Int}{u18:Int}{u19:Int}{h:Hp}{R:RtT}(H:∃(J1:ShT),((decide ((u4:Int)=0))=false->Qa Pg 109 [vsl u3 u4 u5,vag [vi u13,vi u14,vi u15,vi u16,vi u17,vi u18,vi u19]] h fun v2 h3=>∃ x4 x5,v2=vag [vi x4,vi x5]/\J1 (.t (.ag [.v (vi x4),.v (vi x5)])) h3)/\(¬((decide ((u4:Int)=0))=false)->J1 (.t (.ag [.v (vi 0),.v (vi 0)])) h)/\∀ h6 x7 x8,J1 (.t (.ag [.v (vi x7),.v (vi x8)])) h6->∃(J9:ShT),((decide ((u4:Int)=0))=false->Qa Pg 110 [vb true] h6 fun v10 h11=>∃ x12 x13,v10=vag [vi x12,vi x13]/\J9 (.t (.ag [.v (vi x12),.v (vi x13)])) h11)/\(¬((decide ((u4:Int)=0))=false)->J9 (.t (.ag [.v (vi 0),.v (vi 0)])) h6)/\∀ h14 x15 x16,J9 (.t (.ag [.v (vi x15),.v (vi x16)])) h14->∃ p17,((decide ((u4:Int)=0))=false->RdG .eql 54 (.tmp 13) (.tmp 14) (vag [vi x7,vi x8]) (vag [vi x15,vi x16]) h14 (vb p17))/\R (vb (cond (decide ((u4:Int)=0)) true p17)) h14):Qa Pg 70 [vag [vsl u0 u1 u2,vsl u3 u4 u5,vsl u6 u7 u8,vi u9,vi u10,vi u11,vi u12],vag [vi u13,vi u14,vi u15,vi u16,vi u17,vi u18,vi u19]] h R:=callO Tryz.func70 [.ag [.v (vsl u0 u1 u2),.v (vsl u3 u4 u5),.v (vsl u6 u7 u8),.v (vi u9),.v (vi u10),.v (vi u11),.v (vi u12)],.ag [.v (vi u13),.v (vi u14),.v (vi u15),.v (vi u16),.v (vi u17),.v (vi u18),.v (vi u19)]] H
theorem QfY {u0:OaT}{u1 u2:Nat}{u3:Int}{u4:Int}{u5:OaT}{u6 u7:Nat}{u8:OaT}{u9 u10:Nat}{u11:OaT}{u12 u13:Nat}{u14:Int}{u15:Int}{u16:Int}{u17:Int}{h:Hp}{R:RtT}(H:∃ a1 n1 c1,Rd Pg (Instr.sliceAt 51 (vsl u0 u1 u2) none (some (vi u3)) none) h (vsl a1 n1 c1)/\∃(I3:LtT)(m4:LmT),I3 [(vi (-1)),vi 0] h/\∀ vs5 h6,I3 vs5 h6->∃ x7 x8,vs5=[vi x7,vi x8]/\((decide (x8<(n1:Int)))=true->∃ b11 o12,Ix a1 b11 o12 x8 n1/\∃ x13 x14 x15 x16 x17 x18 x19,Hp.row h6 b11 (o12+x8.toNat*7) 7=some [vi x13,vi x14,vi x15,vi x16,vi x17,vi x18,vi x19]/\∃ x20,Rd Pg (Builtin.max_ #[3,3] 3 #[vi x7,vi x13]) h6 (vi x20)/\∃ x22,IsW x22 (x8+1)/\I3 [vi x20,vi x22] h6/\m4 [vi x20,vi x22] h6<m4 vs5 h6)/\((decide (x8<(n1:Int)))=false->∃ x23,((decide (x7>=0))=true->IsW x23 (u4+u14))/\∃ x24,((decide (x7>=0))=true->IsW x24 (x23+u17))/\∃ x25,((decide (x7>=0))=true->IsW x25 (x7-u16))/\R (vb (cond (decide (x7>=0)) (decide (x24<=x25)) false)) h6)):Qa Pg 72 [vsl u0 u1 u2,vi u3,vi u4,vag [vsl u5 u6 u7,vsl u8 u9 u10,vsl u11 u12 u13,vi u14,vi u15,vi u16,vi u17]] h R:=callC ⟨[],[(3,([9,16],[.one (.int .i64),.one (.int .i64)],[]))],[]⟩ Tryz.func72 [.one (.v (vsl u0 u1 u2)),.one (.v (vi u3)),.one (.v (vi u4)),.ag [.v (vsl u5 u6 u7),.v (vsl u8 u9 u10),.v (vsl u11 u12 u13),.v (vi u14),.v (vi u15),.v (vi u16),.v (vi u17)]] H
theorem Qig {u0:OaT}{u1 u2:Nat}{u3:OaT}{u4 u5:Nat}{u6:OaT}{u7 u8:Nat}{u9:Int}{u10:Int}{u11:Int}{u12:Int}{u13:Int}{u14:Int}{u15:Int}{u16:Int}{u17:Int}{u18:Int}{u19:Int}{h:Hp}{R:RtT}(H:((decide ((u7:Int)=0))=true->Qa Pg 131 [] h fun v1 h2=>∃ x3 x4,v1=vag [vi x3,vi x4]/\R (vag [vi x3,vi x4]) h2)/\((decide ((u7:Int)=0))=false->Qa Pg 109 [vsl u6 u7 u8,vag [vi u13,vi u14,vi u15,vi u16,vi u17,vi u18,vi u19]] h fun v6 h7=>∃ x8 x9,v6=vag [vi x8,vi x9]/\R (vag [vi x8,vi x9]) h7)):Qa Pg 73 [vag [vsl u0 u1 u2,vsl u3 u4 u5,vsl u6 u7 u8,vi u9,vi u10,vi u11,vi u12],vag [vi u13,vi u14,vi u15,vi u16,vi u17,vi u18,vi u19]] h R:=callO Tryz.func73 [.ag [.v (vsl u0 u1 u2),.v (vsl u3 u4 u5),.v (vsl u6 u7 u8),.v (vi u9),.v (vi u10),.v (vi u11),.v (vi u12)],.ag [.v (vi u13),.v (vi u14),.v (vi u15),.v (vi u16),.v (vi u17),.v (vi u18),.v (vi u19)]] H
theorem Qip {u0:OaT}{u1 u2:Nat}{u3:OaT}{u4 u5:Nat}{u6:OaT}{u7 u8:Nat}{u9:OaT}{u10 u11:Nat}{u12:Int}{u13:Int}{u14:Int}{u15:Int}{u16:Int}{u17:Int}{u18:Int}{u19:Int}{u20:Int}{u21:Int}{u22:Int}{h:Hp}{R:RtT}(H:∃(I2:LtT)(m3:LmT),I2 [vi 0] h/\∀ vs4 h5,I2 vs4 h5->∃ x6,vs4=[vi x6]/\((decide (x6<(u4:Int)))=true->∃ b9 o10,Ix u3 b9 o10 x6 u4/\∃ x11 a12 n12 c12,Hp.row h5 b9 (o10+x6.toNat*2) 2=some [vi x11,vsl a12 n12 c12]/\Qa Pg 131 [] h5 fun v13 h14=>∃ x15 x16,v13=vag [vi x15,vi x16]/\let J23:Int->Int->Hp->Prop:=fun x39 x40 h41=>(∃ b42 o43,Ix u0 b42 o43 x6 u1/\∃ x44 x45 x46 x47,Hp.row h41 b42 (o43+x6.toNat*4) 4=some [vi x44,vi x45,vi x46,vi x47]/\Qa Pg 132 [vag [vi x44,vi x45,vi x46,vi x47],vag [vi x39,vi x40]] h41 fun v48 h49=>∃ x50 x51 x52 x53,v48=vag [vi x50,vi x51,vi x52,vi x53]/\∃ b54 o55,Ix u0 b54 o55 x6 u1/\Hp.store h49 b54 (o55+x6.toNat*4) [vi x50,vi x51,vi x52,vi x53] fun h56=>∃ x58,IsW x58 (x6+1)/\I2 [vi x58] h56/\m3 [vi x58] h56<m3 vs4 h5);((decide (x11≠1))=true->Qa Pg 109 [vsl a12 n12 c12,vag [vi u16,vi u17,vi u18,vi u19,vi u20,vi u21,vi u22]] h14 fun v17 h18=>∃ x19 x20,v17=vag [vi x19,vi x20]/\J23 x19 x20 h18)/\((decide (x11≠1))=false->J23 x15 x16 h14))/\((decide (x6<(u4:Int)))=false->R (vsl u0 u1 u2) h5)):Qa Pg 77 [vsl u0 u1 u2,vag [vsl u3 u4 u5,vsl u6 u7 u8,vsl u9 u10 u11,vi u12,vi u13,vi u14,vi u15],vag [vi u16,vi u17,vi u18,vi u19,vi u20,vi u21,vi u22]] h R:=callC ⟨[],[(2,([13],[.one (.int .i64)],[]))],[(7,[0,1,2,3,4,5,6,7,8,9])]⟩ Tryz.func77 [.one (.v (vsl u0 u1 u2)),.ag [.v (vsl u3 u4 u5),.v (vsl u6 u7 u8),.v (vsl u9 u10 u11),.v (vi u12),.v (vi u13),.v (vi u14),.v (vi u15)],.ag [.v (vi u16),.v (vi u17),.v (vi u18),.v (vi u19),.v (vi u20),.v (vi u21),.v (vi u22)]] H
theorem Qbx {u0:Int}{u1:Int}{u2:Int}{u3:OaT}{u4 u5:Nat}{u6:Bool}{f_0b f_0o:Nat}{f_1b f_1o:Nat}{h:Hp}{R:RtT}(H:∃ x1,Hp.cell h f_0b f_0o=some (vi x1)/\∃ x2 x3,((decide (u0=x1))=true->Hp.row h f_1b f_1o 2=some [vi x2,vi x3])/\∃ p4,((decide (u0=x1))=true->RdG .eql 54 (.tmp 11) (.tmp 12) (vag [vi u1,vi u2]) (vag [vi x2,vi x3]) h (vb p4))/\R (vb (cond (decide (u0=x1)) p4 false)) h):Qa Pg 75 [vag [vi u0,vi u1,vi u2,vsl u3 u4 u5,vb u6],vhp f_0b f_0o,vhp f_1b f_1o] h R:=callO Tryz.func75 [.ag [.v (vi u0),.v (vi u1),.v (vi u2),.v (vsl u3 u4 u5),.v (vb u6)],.one (.hp f_0b f_0o),.one (.hp f_1b f_1o)] H
def YZ (u0:Int)(u1:Int)(u2:Int)(u3:OaT)(u4 u5:Nat)(u6:Bool)(u7:Int)(u8:Int)(u9:Int)(u10:OaT)(u11 u12:Nat)(u13:Bool)(h:Hp)(R:RtT):Prop:=
  ((decide (u0≠u7))=true->∃ x1,IsW x1 (u0-u7)/\R (vi x1) h)/\((decide (u0≠u7))=false->Qa Pg 80 [vag [vi u1,vi u2],vag [vi u8,vi u9]] h fun v3 h4=>∃ x5,v3=vi x5/\R (vi x5) h4)
theorem JV {u0 u1 u2 u3 u4 u5 u6 u7 u8 u9 u10 u11 u12 u13 h R}(H:YZ u0 u1 u2 u3 u4 u5 u6 u7 u8 u9 u10 u11 u12 u13 h R):Qa Pg 79 [vag [vi u0,vi u1,vi u2,vsl u3 u4 u5,vb u6],vag [vi u7,vi u8,vi u9,vsl u10 u11 u12,vb u13]] h R:=callO Tryz.func79 [.ag [.v (vi u0),.v (vi u1),.v (vi u2),.v (vsl u3 u4 u5),.v (vb u6)],.ag [.v (vi u7),.v (vi u8),.v (vi u9),.v (vsl u10 u11 u12),.v (vb u13)]] H
theorem Qdv {u0:OaT}{u1 u2:Nat}{u3:OaT}{u4 u5:Nat}{u6:OaT}{u7 u8:Nat}{u9:Int}{u10:Int}{u11:Int}{u12:Int}{u13:OaT}{u14 u15:Nat}{h:Hp}{R:RtT}(H:∃(I2:LtT)(m3:LmT),I2 [vsl none 0 0,vi 0,vi 0] h/\∀ vs4 h5,I2 vs4 h5->∃ a6 n6 c6 x7 x8,vs4=[vsl a6 n6 c6,vi x7,vi x8]/\((decide (x8<(u14:Int)))=true->∃ b11 o12,Ix u13 b11 o12 x8 u14/\∃ a13 n13 c13,Hp.cell h5 b11 (o12+x8.toNat*1)=some (vsl a13 n13 c13)/\∃(I15:LtT)(m16:LmT),I15 [vsl a6 n6 c6,vi x7,vi 0] h5/\∀ vs17 h18,I15 vs17 h18->∃ a19 n19 c19 x20 x21,vs17=[vsl a19 n19 c19,vi x20,vi x21]/\((decide (x21<(n13:Int)))=true->let J173:OaT->Nat->Nat->Int->Hp->Prop:=fun a179 n179 c179 x180 h181=>(∃ x182,IsW x182 (x21+1)/\I15 [vsl a179 n179 c179,vi x180,vi x182] h181/\m16 [vsl a179 n179 c179,vi x180,vi x182] h181<m16 vs17 h18);∃ b24 o25,Ix a13 b24 o25 x21 n13/\∃ x26 x27 x28 x29 x30 x31 x32,Hp.row h18 b24 (o25+x21.toNat*7) 7=some [vi x26,vi x27,vi x28,vi x29,vi x30,vi x31,vi x32]/\Qa Pg 70 [vag [vsl u0 u1 u2,vsl u3 u4 u5,vsl u6 u7 u8,vi u9,vi u10,vi u11,vi u12],vag [vi x26,vi x27,vi x28,vi x29,vi x30,vi x31,vi x32]] h18 fun v33 h34=>∃ p35,v33=vb p35/\((!p35)=true->J173 a19 n19 c19 x20 h34)/\((!p35)=false->Qa Pg 71 [vi x26,vi u9,vi u10] h34 fun v38 h39=>∃ a40 n40 c40,v38=vsl a40 n40 c40/\∃(I42:LtT)(m43:LmT),I42 [vsl a19 n19 c19,vi x20,vi 0] h39/\∀ vs44 h45,I42 vs44 h45->∃ a46 n46 c46 x47 x48,vs44=[vsl a46 n46 c46,vi x47,vi x48]/\((decide (x48<(n40:Int)))=true->let J163:OaT->Nat->Nat->Int->Hp->Prop:=fun a169 n169 c169 x170 h171=>(∃ x172,IsW x172 (x48+1)/\I42 [vsl a169 n169 c169,vi x170,vi x172] h171/\m43 [vsl a169 n169 c169,vi x170,vi x172] h171<m43 vs44 h45);∃ b51 o52,Ix a40 b51 o52 x48 n40/\∃ x53,Hp.cell h45 b51 (o52+x48.toNat*1)=some (vi x53)/\∀ b54,h45 b54=none->let h55:=Hp.set h45 b54 (Qb [vi 0] 3);Hp.store h55 b54 0 [vi x53] fun h56=>∃ x57,Hp.cell h56 b54 0=some (vi x57)/\Qa Pg 72 [vsl a13 n13 c13,vi x21,vi x57,vag [vsl u0 u1 u2,vsl u3 u4 u5,vsl u6 u7 u8,vi u9,vi u10,vi u11,vi u12]] h56 fun v58 h59=>∃ p60,v58=vb p60/\(p60=true->∃ x61,IsW x61 (x47+1)/\J163 a46 n46 c46 x61 h59)/\(p60=false->Qa Pg 73 [vag [vsl u0 u1 u2,vsl u3 u4 u5,vsl u6 u7 u8,vi u9,vi u10,vi u11,vi u12],vag [vi x26,vi x27,vi x28,vi x29,vi x30,vi x31,vi x32]] h59 fun v64 h65=>∃ x66 x67,v64=vag [vi x66,vi x67]/\∀ b68,h65 b68=none->let h69:=Hp.set h65 b68 (Qb [vi 0,vi 0] 54);Hp.store h69 b68 0 [vi x66,vi x67] fun h70=>Qa Pg 74 [vsl a46 n46 c46,(Value.func (.func 75) #[] #[vhp b54 0,vhp b68 0])] h70 fun v71 h72=>∃ x73,v71=vi x73/\let J146:OaT->Nat->Nat->Int->Hp->Prop:=fun a150 n150 c150 x151 h152=>(∃ b153 o154,Ix a150 b153 o154 x151 n150/\∃ a155 n155 c155,Hp.cell h152 b153 ((o154+x151.toNat*5)+3)=some (vsl a155 n155 c155)/\Qa Pg 77 [vsl a155 n155 c155,vag [vsl u0 u1 u2,vsl u3 u4 u5,vsl u6 u7 u8,vi u9,vi u10,vi u11,vi u12],vag [vi x26,vi x27,vi x28,vi x29,vi x30,vi x31,vi x32]] h152 fun v156 h157=>∃ a158 n158 c158,v156=vsl a158 n158 c158/\∃ b159 o160,Ix a150 b159 o160 x151 n150/\Hp.store h157 b159 ((o160+x151.toNat*5)+3) [vsl a158 n158 c158] fun h161=>J163 a150 n150 c150 x47 h161);((decide (x73<0))=true->∃ x74,Hp.cell h72 b54 0=some (vi x74)/\∃ x75 x76,Hp.row h72 b68 0 2=some [vi x75,vi x76]/\let J107:Int->Int->Int->OaT->Nat->Nat->Bool->Hp->Prop:=fun x133 x134 x135 a136 n136 c136 p137 h138=>(∀ b139,h138 b139=none->let h140:=Hp.set h138 b139 (Qb [vi x133,vi x134,vi x135,vsl a136 n136 c136,vb p137] 150);Qh Pg (Builtin.append_ #[128,128] 128 #[vsl a46 n46 c46,(vsl (some ⟨b139,0,none⟩) 1 1)]) h140 fun v141 h142=>∃ a143 n143 c143,v141=vsl a143 n143 c143/\J146 a143 n143 c143 (n46:Int) h142);∃(I78:LtT)(m79:LmT),I78 [vi 0,vi x74,vi x75,vi x76,vsl none 0 0,vb false] h72/\∀ vs80 h81,I78 vs80 h81->∃ x82 x83 x84 x85 a86 n86 c86 p87,vs80=[vi x82,vi x83,vi x84,vi x85,vsl a86 n86 c86,vb p87]/\((decide (x82<(u1:Int)))=true->∃ b90 o91,Ix u0 b90 o91 x82 u1/\∃ x92 a93 n93 c93,Hp.row h81 b90 (o91+x82.toNat*2) 2=some [vi x92,vsl a93 n93 c93]/\Qa Pg 76 [vi x92] h81 fun v94 h95=>∃ x96 x97 x98 x99,v94=vag [vi x96,vi x97,vi x98,vi x99]/\∀ b100,h95 b100=none->let h101:=Hp.set h95 b100 (Qb [vi x96,vi x97,vi x98,vi x99] 155);Qh Pg (Builtin.append_ #[148,148] 148 #[vsl a86 n86 c86,(vsl (some ⟨b100,0,none⟩) 1 1)]) h101 fun v102 h103=>∃ a104 n104 c104,v102=vsl a104 n104 c104/\∃ x106,IsW x106 (x82+1)/\I78 [vi x106,vi x83,vi x84,vi x85,vsl a104 n104 c104,vb p87] h103/\m79 [vi x106,vi x83,vi x84,vi x85,vsl a104 n104 c104,vb p87] h103<m79 vs80 h81)/\((decide (x82<(u1:Int)))=false->J107 x83 x84 x85 a86 n86 c86 p87 h81))/\((decide (x73<0))=false->J146 a46 n46 c46 x73 h72)))/\((decide (x48<(n40:Int)))=false->J173 a46 n46 c46 x47 h45)))/\((decide (x21<(n13:Int)))=false->∃ x183,IsW x183 (x8+1)/\I2 [vsl a19 n19 c19,vi x20,vi x183] h18/\m3 [vsl a19 n19 c19,vi x20,vi x183] h18<m3 vs4 h5))/\((decide (x8<(u14:Int)))=false->Qa Pg 78 [vsl a6 n6 c6,(Value.func (.func 79) #[] #[])] h5 fun v184 h185=>v184=Qf []/\∃(I187:LtT)(m188:LmT),I187 [vsl none 0 0,vi 0] h185/\∀ vs189 h190,I187 vs189 h190->∃ a191 n191 c191 x192,vs189=[vsl a191 n191 c191,vi x192]/\((decide (x192<(n6:Int)))=true->∃ b195 o196,Ix a6 b195 o196 x192 n6/\∃ x197 x198 x199 a200 n200 c200 p201,Hp.row h190 b195 (o196+x192.toNat*5) 5=some [vi x197,vi x198,vi x199,vsl a200 n200 c200,vb p201]/\Qa Pg 81 [vag [vi x197,vi x198,vi x199,vsl a200 n200 c200,vb p201]] h190 fun v202 h203=>∃ x204 x205 x206 a207 n207 c207,v202=vag [vi x204,vi x205,vi x206,vsl a207 n207 c207]/\∀ b208,h203 b208=none->let h209:=Hp.set h203 b208 (Qb [vi x204,vi x205,vi x206,vsl a207 n207 c207] 93);Qh Pg (Builtin.append_ #[80,80] 80 #[vsl a191 n191 c191,(vsl (some ⟨b208,0,none⟩) 1 1)]) h209 fun v210 h211=>∃ a212 n212 c212,v210=vsl a212 n212 c212/\∃ x214,IsW x214 (x192+1)/\I187 [vsl a212 n212 c212,vi x214] h211/\m188 [vsl a212 n212 c212,vi x214] h211<m188 vs189 h190)/\((decide (x192<(n6:Int)))=false->R (Qf [vsl a191 n191 c191,vi x7]) h190))):Qa Pg 36 [vag [vsl u0 u1 u2,vsl u3 u4 u5,vsl u6 u7 u8,vi u9,vi u10,vi u11,vi u12],vsl u13 u14 u15] h R:=callC ⟨[13,14],[(21,([74],[.one (.int .i64)],[(2,[.int .i64,.int .i64,.int .i64,.slice,.bool])])),(11,([6,7,47],[.one (.slice),.one (.int .i64),.one (.int .i64)],[])),(7,([6,7,30],[.one (.slice),.one (.int .i64),.one (.int .i64)],[])),(4,([6,7,24],[.one (.slice),.one (.int .i64),.one (.int .i64)],[])),(33,([19,110],[.one (.slice),.one (.int .i64)],[]))],[(23,[0,1,2,3,4,5,6,7,8]),(26,[0,1,2,3,4,5,6,7,8,9,10,11,12])]⟩ Tryz.func36 [.ag [.v (vsl u0 u1 u2),.v (vsl u3 u4 u5),.v (vsl u6 u7 u8),.v (vi u9),.v (vi u10),.v (vi u11),.v (vi u12)],.one (.v (vsl u13 u14 u15))] H
theorem Zv {u0:OaT}{u1 u2:Nat}{u3:Value}{h:Hp}{R:RtT}(H:∃(I2:LtT)(m3:LmT),I2 [vi 0] h/\∀ vs4 h5,I2 vs4 h5->∃ x6,vs4=[vi x6]/\((decide (x6<(u1:Int)))=true->∃ b9 o10,Ix u0 b9 o10 x6 u1/\∃ x11 x12 x13 a14 n14 c14 p15,Hp.row h5 b9 (o10+x6.toNat*5) 5=some [vi x11,vi x12,vi x13,vsl a14 n14 c14,vb p15]/\ZC Pg u3 [vag [vi x11,vi x12,vi x13,vsl a14 n14 c14,vb p15]] h5 fun v16 h17=>∃ p18,v16=vb p18/\(p18=true->R (vi x6) h17)/\(p18=false->∃ x20,IsW x20 (x6+1)/\I2 [vi x20] h17/\m3 [vi x20] h17<m3 vs4 h5))/\((decide (x6<(u1:Int)))=false->R (vi (-1)) h5)):Qa Pg 74 [vsl u0 u1 u2,u3] h R:=callC ⟨[],[(2,([8],[.one (.int .i64)],[]))],[]⟩ Tryz.func74 [.one (.v (vsl u0 u1 u2)),.one (.v u3)] H
theorem Qbv {u0:Int}{u1:Int}{u2:Int}{u3:OaT}{u4 u5:Nat}{u6:Bool}{h:Hp}{R:RtT}(H:let J30:Int->Int->Int->OaT->Nat->Nat->Hp->Prop:=fun x41 x42 x43 a44 n44 c44 h45=>R (vag [vi x41,vi x42,vi x43,vsl a44 n44 c44]) h45;∃(I2:LtT)(m3:LmT),I2 [vi 0,vi u0,vi u1,vi u2,vsl none 0 0] h/\∀ vs4 h5,I2 vs4 h5->∃ x6 x7 x8 x9 a10 n10 c10,vs4=[vi x6,vi x7,vi x8,vi x9,vsl a10 n10 c10]/\((decide (x6<(u4:Int)))=true->∃ b13 o14,Ix u3 b13 o14 x6 u4/\∃ x15 x16 x17 x18,Hp.row h5 b13 (o14+x6.toNat*4) 4=some [vi x15,vi x16,vi x17,vi x18]/\Qa Pg 137 [vag [vi x15,vi x16,vi x17,vi x18]] h5 fun v19 h20=>∃ x21 x22,v19=vag [vi x21,vi x22]/\∀ b23,h20 b23=none->let h24:=Hp.set h20 b23 (Qb [vi x21,vi x22] 54);Qh Pg (Builtin.append_ #[91,91] 91 #[vsl a10 n10 c10,(vsl (some ⟨b23,0,none⟩) 1 1)]) h24 fun v25 h26=>∃ a27 n27 c27,v25=vsl a27 n27 c27/\∃ x29,IsW x29 (x6+1)/\I2 [vi x29,vi x7,vi x8,vi x9,vsl a27 n27 c27] h26/\m3 [vi x29,vi x7,vi x8,vi x9,vsl a27 n27 c27] h26<m3 vs4 h5)/\((decide (x6<(u4:Int)))=false->J30 x7 x8 x9 a10 n10 c10 h5)):Qa Pg 81 [vag [vi u0,vi u1,vi u2,vsl u3 u4 u5,vb u6]] h R:=callC ⟨[],[(3,([14],[.one (.int .i64)],[(2,[.int .i64,.int .i64,.int .i64,.slice])]))],[(5,[0,1,2,3,4,5,6,7])]⟩ Tryz.func81 [.ag [.v (vi u0),.v (vi u1),.v (vi u2),.v (vsl u3 u4 u5),.v (vb u6)]] H
open Go.Txt
theorem QhL {l:List Nd}(hx:K3 l=0){a:OaT}{n c:Nat}{h:Hp}(S:SlP Z6 h a n l){e:EvL}{R:RtT}(hK:∀ h',h.le h'->R (vag (Qu (ZM e l))) h'):Qa Pg 109 [vsl a n c,vag (Xk e)] h R:=by
 obtain⟨O,hl⟩:=Yq hx;exact Vx S O.wf (by have:=O.pos;omega) (by omega) hK
section
variable {q:Qy}{a1:OaT}{n1 c1:Nat}{a2:OaT}{n2 c2:Nat}{a3:OaT}{n3 c3:Nat}{h:Hp}{R:RtT}
theorem QiQ {e:EvL}(Q:QAt h q a1 n1 a2 n2 a3 n3)(B:QOk q)(hK:∀ h',h.le h'->R (vb (Qbn q e)) h'):Qa Pg 70 [qV a1 n1 c1 a2 n2 c2 a3 n3 c3 q,vag (Xk e)] h R:=by
 refine QjM ?_
 have hn:(decide ((((n2:Nat):Int):Int)=0))=decide (q.wh=[]):=by
  rw [Q.w.1];refine fN.2 ⟨fun h=>?_,fun h=>by rw [h];rfl⟩
  exact fU.1 (by omega)
 rw [hn];refine⟨fun x hh=>h.le hh/\(q.wh≠[]->x=.t (.ag [.v (vi (ZM e q.wh).1),.v (vi (ZM e q.wh).2)])) ,fun e1=>?_,fun e1=>⟨qO h,fun hw=>absurd (cO hw) e1⟩,?_⟩
 ·have hw:=bB e1;exact QhL (B.w hw) Q.w fun h' l'=>⟨_,_,rfl,l',fun _=>rfl⟩
 rintro h6 x7 x8 ⟨l6,e6⟩;refine⟨fun x hh=>h.le hh/\(q.wh≠[]->x=.t (.ag [.v (vi (Ya true).1),.v (vi (Ya true).2)])),fun e1=>QN ⟨_,_,rfl,l6,fun _=>rfl⟩,fun e1=>⟨l6,fun hw=>absurd (cO hw) e1⟩,?_⟩
 rintro h14 x15 x16 ⟨l14,e14⟩;refine⟨decide (ZM e q.wh=Ya true),fun e1=>?_,?_⟩
 ·have hw:=bB e1;have e6:=e6 hw;have e14:=e14 hw;cases e6;cases e14;exact Xz
 ·have:=hK h14 l14;unfold Qbn at this;by_cases hw:q.wh=[]
  ·rw [cL hw] at this ⊢;exact this
  ·rw [cO hw] at this ⊢;exact this
theorem QhU {e:EvL}(Q:QAt h q a1 n1 a2 n2 a3 n3)(B:QOk q)(hK:∀ h',h.le h'->R (vag (Qu (Q3 q e))) h'):Qa Pg 73 [qV a1 n1 c1 a2 n2 c2 a3 n3 c3 q,vag (Xk e)] h R:=by
 refine Qig ?_
 unfold Q3 at hK;have hn:=Q.b.1;refine⟨fun e1=>Zc ⟨_,_,rfl,?_⟩,fun e1=>?_⟩
 ·have e1:=bC e1;have hb:q.by_=[]:=fU.1 (by omega)
  have:=hK h (qO h);rw [bJ hb] at this;exact this
 ·have e1:=bB e1;have hb:q.by_≠[]:=fun e2=>e1 (by rw [hn,e2];rfl)
  refine QhL (B.b hb) Q.b fun h' l'=>⟨_,_,rfl,?_⟩
  have:=hK h' l';rw [bE hb] at this;exact this
theorem QfQ {l:List EvL}{la:OaT}{n c:Nat}{i:Nat}{s:Int}(S:SlP Xk h la n l)(hi:i<=n)(hc:n<=c)(hn:n<=1048576)(he:∀ e ∈ l,0<=e.1/\e.1<=9999)(hs:-1048576<=s/\s<=1048576)(B:QOk q)(hK:R (vb (WP q (ZX (l.take i)) s)) h):Qa Pg 72 [vsl la n c,vi i,vi s,qV a1 n1 c1 a2 n2 c2 a3 n3 c3 q] h R:=by
 refine QfY ?_
 have h1:=B.s;have h2:=B.t;have h3:=B.d;have hln:=S.1;refine⟨la,i,c,?_,?_⟩
 ·have:=X6 (P:=Pg) (h:=h) (t:=51) (e:=56) (by kernel_rfl) (by kernel_rfl) (a:=la) (n:=n) (c:=c) (x:=(i:Int)) (by omega) (by omega)
  simpa using this
 have S':=S.take (sz:=7) (fun _=>rfl) hi
 have hfb:∀ j,-1<=ZX (l.take j)/\ZX (l.take j)<=9999:=by
  intro j;have key:∀(m:List EvL)(x:Int),(∀ e ∈ m,0<=e.1/\e.1<=9999)->-1<=x->x<=9999->-1<=m.foldl (fun m e=>max m e.1) x/\m.foldl (fun m e=>max m e.1) x<=9999:=by
   intro m;induction m with
   | nil=>intro x _ h1 h2;exact⟨h1,h2⟩
   | cons e m ih=>
    intro x hm h1 h2;have:=hm e (bY ..);exact ih (max x e.1) (fun y hy=>hm y (bT _ hy)) (by omega) (by omega)
  exact key _ (-1) (fun e he'=>he e (gC he')) (by omega) (by omega)
 refine⟨fun vs hh=>hh=h/\∃ j:Nat,vs=[vi (ZX (l.take j)),vi j]/\j<=i,fun vs hh=>i-(Qo vs 1).toNat,⟨rfl,0,rfl,cE _⟩,?_⟩
 rintro vs hh ⟨rfl,j,rfl,hj⟩;refine⟨_,_,rfl,fun e=>?_,fun e=>?_⟩
 ·have hlt:j<i:=by have:=bC e;omega
  have hx:l[j]?=some l[j]:=bD (by omega)
  have hx':(l.take i)[j]?=some l[j]:=by rw [pG hlt,hx]
  obtain⟨b,o,ea,hr⟩:=S'.get (sz:=7) (fun _=>rfl) (by decide) hx'
  refine⟨b,o,⟨ea,by omega,by omega⟩,_,_,_,_,_,_,_,by rw [bF];exact hr,_,Qek,_,iW,⟨rfl,j+1,?_,by omega⟩,by simp [Qo];omega⟩
  have tk:l.take (j+1)=l.take j++[l[j]]:=bL (by omega)
  unfold ZX;rw [tk,fM];rfl
 ·have hge:j=i:=by have:=bB e;omega
  subst hge;have hf:=hfb j;refine⟨_,fun _=>iW,_,fun _=>iW,_,fun _=>iW,?_⟩
  have e2:(bif (decide ((ZX (l.take j):Int)>=0)) then(decide (s+q.size+q.late<=ZX (l.take j)-q.delay)) else false)=WP q (ZX (l.take j)) s:=by
   unfold WP;by_cases h5:0<=ZX (l.take j)
   ·rw [cL (show ZX (l.take j)>=0 from h5)];rfl
   ·rw [cO (show ¬ ZX (l.take j)>=0 from h5)];rfl
  rw [e2];exact hK
end
end Go.Proofs.YthicpjafcpfjoaaGreatDoor
namespace Go.Proofs.YthicpjafcpfjoaaGreatDoor
open Go Go.Vc
structure Yb (e:EvL):Prop where
 t:0<=e.1/\e.1<=9999
 k:Qq e.2.1/\e.2.1.1≠2
 a:Qq e.2.2.1/\e.2.2.1.1≠2
 b:Qq e.2.2.2/\e.2.2.2.1≠2
theorem Qhf {v:Int × Int}(h:Qdn v=0):Qq v/\v.1≠2:=by
 unfold Qdn at h;split at h
 ·cases h
 ·rename_i h1;constructor
  ·exact mW fun q=>h1 (.inl q)
  ·exact fun q=>h1 (.inr q)
theorem Qbf {e:EvL}(h:K5 e=0):Yb e:=by
 unfold K5 at h;split at h
 ·cases h
 ·rename_i h0;simp only [QkN] at h;split at h
  ·rename_i h1;split at h
   ·rename_i h2;split at h
    ·rename_i h3;exact⟨by omega,Qhf h1,Qhf h2,Qhf h3⟩
    ·rename_i h3;exact absurd h h3
   ·rename_i h2;exact absurd h h2
  ·rename_i h1;exact absurd h h1
abbrev ev0:EvL:=(0,(0,0),(0,0),(0,0))
theorem QnZ:Yb ev0:=Qbf (by decide +kernel)
theorem KA (n:Int):Qq (Kd n)/\(Kd n).1≠2:=by
 unfold Kd Qq;split
 ·simp
 ·simp;omega
theorem U6 (b:Bool):Qq (Ya b):=by
 unfold Ya Qq;cases b<;>simp
theorem UN:Qq (0,0):=by unfold Qq;simp
theorem QjP (a b:Int × Int):Qq (Qdk a b)/\(Qdk a b).1≠1:=by
 unfold Qdk Qq;split
 ·simp
 ·split<;>simp
theorem QaW (a:Int × Int):Qq (VW a)/\(VW a).1≠1:=by
 unfold VW;split
 ·exact⟨U6 _,by unfold Ya;simp⟩
 ·exact⟨UN,by simp⟩
theorem QjE (a:Int × Int):Qq (Qds a)/\(Qds a).1≠2:=by
 unfold Qds;split
 ·exact KA _
 ·exact⟨UN,by simp⟩
def opV (op:Int)(a b:Int × Int):Int × Int:=if op=3 then Qds a else if op=4 then VW a else if op=5 then Ya (decide (a.1=0)) else doV op a b
def QfS (op:Int):Int:=if op=5\/op=11\/op=12 then 2 else Ju op
theorem MM {op:Int}{a b:Option Int}{t:Int}(h:tyG op a b=some t):t=QfS op:=by
 unfold QfS;cases a with
 | none=>cases b<;>cases h
 | some a=>
  cases b with
  | none=>cases h
  | some b=>
   unfold tyG at h;simp only at h;split at h
   ·rename_i h1;rw [bJ (.inl h1)];simpa using h.symm
   ·split at h
    ·cases h
    ·split at h
     ·rename_i h1 _ h2;rw [bJ (.inr h2)];simpa using h.symm
     ·rename_i h1 _ h2;rw [bE (by omega)];simpa using h.symm
theorem Qew {op:Int}(ho:3<=op/\op<=12)(a b:Int × Int):Qq (opV op a b)/\((opV op a b).1=0\/(opV op a b).1=QfS op):=by
 have key:∀ v:Int × Int,Qq v->v.1=0\/v.1=1\/v.1=2:=by intro v h;unfold Qq at h;omega
 unfold opV QfS Ju;split
 ·rename_i h;have:=QjE a;have:=key _ this.1;exact⟨(QjE a).1,by subst h;simp;omega⟩
 ·split
  ·rename_i _ h;have:=QaW a;have:=key _ this.1;exact⟨(QaW a).1,by subst h;simp;omega⟩
  ·split
   ·rename_i _ _ h;exact⟨U6 _,by subst h;simp [Ya]⟩
   ·unfold doV;split
    ·rename_i h;have:=QjP a b;have:=key _ this.1;exact⟨(QjP a b).1,by subst h;simp;omega⟩
    ·split
     ·rename_i h;have:=QaW (Qdk (VW a) (VW b));have:=key _ this.1;exact⟨(QaW _).1,by subst h;simp;omega⟩
     ·split
      ·split
       ·rename_i h;have:=KA (w64 (a.2+b.2));have:=key _ this.1;exact⟨(KA _).1,by subst h;simp;omega⟩
       ·split
        ·rename_i h;have:=KA (w64 (a.2-b.2));have:=key _ this.1;exact⟨(KA _).1,by subst h;simp;omega⟩
        ·split
         ·rename_i h;have:=KA (w64 (a.2*b.2));have:=key _ this.1;exact⟨(KA _).1,by subst h;simp;omega⟩
         ·split
          ·rename_i h;exact⟨U6 _,by subst h;simp [Ya]⟩
          ·split
           ·rename_i h;exact⟨U6 _,by subst h;simp [Ya]⟩
           ·exact⟨UN,.inl rfl⟩
      ·exact⟨UN,.inl rfl⟩
theorem Mf (e:EvL){n:Nd}(h1:¬ n.op=1)(h2:¬ n.op=2)(a b:Int × Int):Wf e n a b=opV n.op a b:=by
 unfold Wf opV;rw [bE h1,bE h2]
theorem Qky {e:EvL}(E:Yb e)(n:Int):Qq (Qch e n)/\(Qch e n).1≠2:=by
 unfold Qch;split
 ·exact KA _
 ·split
  ·exact E.k
  ·split
   ·exact E.a
   ·exact E.b
theorem Qfy {n:Nd}(h:ZH n=0):Qq n.v:=by
 unfold ZH at h;split at h
 ·cases h
 ·split at h
  ·cases h
  ·split at h
   ·cases h
   ·split at h
    ·cases h
    ·rename_i hg;exact mW fun q=>hg q
theorem Gs {l:List Nd}(O:OkE l){e:EvL}(E:Yb e){i:Nat}(hi:i<l.length):Qq (vAt e l i)/\∀ t,tAt l i=some t->(vAt e l i).1=0\/(vAt e l i).1=t:=by
 have hx:l[i]?=some l[i]:=bD hi
 have W:=O.wf i _ hx;have h0:=O.n _ (cM hi);have hv:vAt e l i=_:=YX (Xp e) hx W;have ht:tAt l i=_:=YX XU hx W;rw [hv,ht];generalize l[i]=n at *
 have ar:=ar0 W.a;by_cases h1:n.op=1
 ·have e1:∀ a b,Wf e n a b=n.v:=fun a b=>bJ h1
  have e2:∀ a b,tyF n a b=some n.v.1:=fun a b=>bJ h1
  rw [e1,e2];exact⟨Qfy h0,fun t ht=>by cases ht;exact .inr rfl⟩
 ·by_cases h2:n.op=2
  ·have e1:∀ a b,Wf e n a b=Qch e n.n:=fun a b=>by unfold Wf;rw [bE h1,bJ h2]
   have e2:∀ a b,tyF n a b=some 1:=fun a b=>by unfold tyF;rw [bE h1,bJ h2]
   rw [e1,e2];have:=Qky E n.n;refine⟨this.1,fun t ht=>?_⟩
   cases ht;have h:=this.1;unfold Qq at h;omega
  ·rw [Mf e h1 h2,KQ h1 h2];have ho:3<=n.op/\n.op<=12:=by rcases Zb W.a with q|q|q<;>omega
   have:=Qew ho;exact⟨(this _ _).1,fun t ht=>by rw [MM ht];exact(this _ _).2⟩
theorem QdT {l:List Nd}(O:OkE l){i:Nat}(hi:i<l.length){t:Int}(h:tAt l i=some t):t=0\/t=1\/t=2:=by
 have hx:l[i]?=some l[i]:=bD hi
 have W:=O.wf i _ hx;have h0:=O.n _ (cM hi);have ht:tAt l i=_:=YX XU hx W;rw [ht] at h;generalize l[i]=n at *
 by_cases h1:n.op=1
 ·have e2:∀ a b,tyF n a b=some n.v.1:=fun a b=>bJ h1
  rw [e2] at h;cases h;have:=Qfy h0;unfold Qq at this;omega
 ·by_cases h2:n.op=2
  ·have e2:∀ a b,tyF n a b=some 1:=fun a b=>by unfold tyF;rw [bE h1,bJ h2]
   rw [e2] at h;cases h;omega
  ·rw [KQ h1 h2] at h;rw [MM h];unfold QfS Ju;split
   ·omega
   ·split<;>omega
structure Rep (P:EvL->Int × Int)(T:Option Int)(k:Nat)(z:List Nd):Prop where
 ok:OkE z
 len:z.length<=k
 val:∀ e,Yb e->ZM e z=P e
 ty:∀ t,T=some t->∃ t',tAt z (z.length-1)=some t'/\(t'=0\/t'=t)
abbrev cst (v:Int × Int):List Nd:=[⟨1,0,0,0,v⟩]
theorem Qnz {v:Int × Int}(h:Qq v):OkE (cst v):=by
 refine Jk ?_
 have hF:ZH ⟨1,0,0,0,v⟩=0:=by unfold ZH;rw [bE (show ¬ arI 1<0 by decide),bE (by simp),bE (by simp),bE (by simp [h])]
 rw [ZO,bE (fun q=>q hF)]
 rfl
theorem Rep.cst {P:EvL->Int × Int}{T:Option Int}{k:Nat}{v:Int × Int}(h:Qq v)(hk:1<=k)(hP:∀ e,Yb e->v=P e)(hT:∀ t,T=some t->v.1=0\/v.1=t):Rep P T k (cst v):=
 ⟨Qnz h,hk,fun e E=>hP e E,fun t ht=>⟨v.1,rfl,hT t ht⟩⟩
theorem Rep.leaf {n:Nd}(h:ZH n=0)(ha:arI n.op=0):OkE [n]:=by
 refine Jk ?_
 rw [ZO,bE (fun q=>q h)]
 unfold Wi;rw [bJ ha];rfl
open Go.Txt
def Yp (a:AcS):List Value:=QfD a.1 a.2
theorem Zg (a:AcS):(Yp a).length=4:=rfl
theorem Qhv (a:AcS):∀ u ∈ Yp a,u.oneCell'=true:=by
 intro u hu;simp only [Yp,QfD,bS,dB,fV] at hu;rcases hu with rfl|rfl|rfl|rfl<;>rfl
def AcB (a:AcS):Prop:=0<=a.2.1/\a.2.1<=1000000000/\-1000000000000000000<=a.2.2.1/\a.2.2.1<=1000000000000000000
theorem J0 {q:Qy}(B:QOk q){e:EvL}(E:Yb e):∀ v ∈ Qp q e,Xd v:=by
 intro v hv;unfold Qp at hv;obtain⟨a,ha,rfl⟩:=cZ.1 hv;split
 ·unfold Xd;decide
 ·rename_i h1;obtain⟨O,_⟩:=Yq ((B.g a ha).2.2.1 h1);exact(Gs O E (by have:=O.pos;omega)).1.small
theorem Qa5 {ks:List Int}{rs:List (List Vl)}(hl:∀ r ∈ rs,r.length=ks.length)(hv:∀ r ∈ rs,∀ v ∈ r,Xd v)(hn:rs.length<=1000000000):∀ a ∈ Yl ks rs,AcB a:=by
 have hcol:∀(rs:List (List Vl)),(∀ r ∈ rs,∀ v ∈ r,Xd v)->∀ c ∈ KV ks.length rs,c.length<=rs.length/\∀ v ∈ c,Xd v:=by
  intro rs;induction rs using Y0 with
  | h0=>
   intro _ c hc;rw [fQ hc];exact⟨cB _,fun v hv=>by cases hv⟩
  | h1 rs r ih=>
   intro hv c hc;have ih:=ih fun x hx=>hv x (fF _ hx)
   rw [GK] at hc;unfold QmA at hc;obtain⟨i,hi,rfl⟩:=kJ.1 hc;rw [g7] at hi;rw [jW];obtain⟨h1,h2⟩:=ih _ (cM (by omega:i<(KV ks.length rs).length))
   refine⟨by simp;omega,fun v hv2=>?_⟩
   rcases bU.1 hv2 with h3|h3
   ·exact h2 v h3
   ·rw [cD.1 h3];exact hv r (by simp) _ (cM _)
 intro a ha;rw [QiG ks hl] at ha;obtain⟨i,hi,rfl⟩:=kJ.1 ha;rw [g7] at hi;rw [jW];obtain⟨h1,h2⟩:=hcol rs hv _ (cM (by omega:i<(KV ks.length rs).length))
 generalize (KV ks.length rs)[i]=c at h1 h2;have:=Qc9 (k:=ks[i]) c (0,0,0) h2 (gQ _);unfold AcB QoZ;simp only at this ⊢;omega
theorem QkY {h:Hp}{b o:Nat}{vs:List Value}{K K':HpT}(H:h.store b o vs K)(hk:∀ h',K h'->K' h'):h.store b o vs K':=by
 obtain⟨c,e,h1,h2,h3⟩:=H;exact⟨c,e,h1,h2,hk _ h3⟩
theorem QlP:ElT Pg 148 155 4 32:=.of (by kernel_rfl) (by kernel_rfl) (by decide)
theorem QaO {acs:List AcS}{r:List Vl}(h:r.length=acs.length):(Za acs r).length=acs.length:=by unfold Za;rw [g7];omega
abbrev Qam:=Vec Yp 4 155
theorem Qhb {q:Qy}{a1:OaT}{n1 c1:Nat}{a2:OaT}{n2 c2:Nat}{a3:OaT}{n3 c3:Nat}{h0 h:Hp}{R:RtT}{e:EvL}{aa:OaT}{ca:Nat}{acs:List AcS}(Q:QAt h0 q a1 n1 a2 n2 a3 n3)(B:QOk q)(E:Yb e)
  (V:Qam h0 h aa ca acs) (hk:acs.map (·.1)=Qd q) (hb:∀ a ∈ acs,AcB a)
  (hK:∀ h',Qam h0 h' aa ca (Za acs (Qp q e))->YT aa h h'->R (vsl aa acs.length ca) h'):Qa Pg 77 [vsl aa acs.length ca,qV a1 n1 c1 a2 n2 c2 a3 n3 c3 q,vag (Xk e)] h R:=by
 refine Qip ?_
 have hlen:acs.length=q.aggs.length:=by have:=congrArg List.length hk;unfold Qd at this;rw [bQ,bQ] at this;exact this
 have hvl:(Qp q e).length=acs.length:=by unfold Qp;rw [bQ,hlen]
 have hnl:=QaO hvl;have hn1:n1=acs.length:=by rw [hlen];exact Q.g.len
 have hn4:=B.n2;refine⟨fun vs hh=>∃ i:Nat,vs=[vi i]/\i<=acs.length/\Qam h0 hh aa ca ((Za acs (Qp q e)).take i++acs.drop i)/\YT aa h hh,fun vs hh=>acs.length-(Qo vs 0).toNat,⟨0,rfl,cE _,by simpa using V,YT.refl _ _⟩,?_⟩
 rintro vs hh ⟨i,rfl,hi,V5,F5⟩;refine⟨i,rfl,fun e1=>?_,fun e1=>?_⟩
 ·have hlt:i<acs.length:=by have:=bC e1;omega
  have hx:q.aggs[i]?=some q.aggs[i]:=bD (by omega)
  have hvi:(Qp q e)[i]'(by omega)=if (q.aggs[i]'(by omega)).1=1 then(0,0) else ZM e (q.aggs[i]'(by omega)).2:=by unfold Qp;rw [jF]
  have hki:(acs[i]).1=(q.aggs[i]'(by omega)).1:=by
   have h3:(acs.map (·.1))[i]?=(Qd q)[i]?:=by rw [hk]
   unfold Qd at h3;rw [cC,cC,hx,bD hlt] at h3
   simpa using h3
  have hsm:=J0 B E _ (cM (by omega:i<(Qp q e).length))
  have hai:=hb _ (cM hlt);have hmem:=cM (by omega:i<q.aggs.length)
  have hni:(Za acs (Qp q e))[i]'(by omega)=(acs[i].1,Zt acs[i].1 acs[i].2 ((Qp q e)[i]'(by omega))):=by unfold Za;rw [jW]
  have h5:h0.le hh:=V5.le0;have tail:∀(v:Int × Int)(h41:Hp),hh.le h41->v=(Qp q e)[i]'(by omega)->∃ b o,aa=some ⟨b,o,none⟩/\(∃ x44 x45 x46 x47,Hp.row h41 b (o+i*4) 4=some [vi x44,vi x45,vi x46,vi x47]/\Qa Pg 132 [vag [vi x44,vi x45,vi x46,vi x47],vag [vi v.1,vi v.2]] h41 fun v48 h49=>∃ x50 x51 x52 x53,v48=vag [vi x50,vi x51,vi x52,vi x53]/\Hp.store h49 b (o+i*4) [vi x50,vi x51,vi x52,vi x53] fun h56=>Qam h0 h56 aa ca ((Za acs (Qp q e)).take (i+1)++acs.drop (i+1))/\YT aa h h56):=by
   intro v h41 l41 hv;have V41:=V5.keep0 l41;have hxi:((Za acs (Qp q e)).take i++acs.drop i)[i]?=some acs[i]:=by
    rw [dP (by rw [bZ];omega),bZ,dU (by omega),fT,fP,f7,bD hlt]
   obtain⟨b,o,ea,hr⟩:=(V41.slp Zg (by decide)).get Zg (by decide) hxi
   have hset:((Za acs (Qp q e)).take i++acs.drop i).set i ((Za acs (Qp q e))[i]'(by omega))=(Za acs (Qp q e)).take (i+1)++acs.drop (i+1):=by
    rw [gJ _ _ (by rw [bZ];omega),bZ,dU (by omega),fT,dS hlt,dJ,bL (by omega:i<(Za acs (Qp q e)).length),bX]
    rfl
   refine⟨b,o,ea,_,_,_,_,hr,?_⟩
   rw [hv];refine NF (k:=acs[i].1) (s:=acs[i].2) (v:=(Qp q e)[i]'(by omega)) (by unfold AcB at hai;unfold InR;omega) (by unfold AcB at hai;unfold Xd at hsm;unfold InR;omega) ⟨_,_,_,_,rfl,?_⟩
   obtain⟨b',o',ea',H⟩:=V41.putF Zg hxi (x':=(Za acs (Qp q e))[i]'(by omega)) (k:=0) (vs:=Yp ((Za acs (Qp q e))[i]'(by omega))) (by rw [Zg];decide) (by rw [Zg];decide) (by simp [QP,Yp,QfD])
   rw [ea] at ea';cases ea';have:=H (fun h56=>Qam h0 h56 aa ca ((Za acs (Qp q e)).take (i+1)++acs.drop (i+1))/\YT aa h h56) (fun h' V' F'=>⟨by rw [<-hset];exact V',F5.trans ((YT.le l41).trans F')⟩)
   rw [hni] at this;exact this
  obtain⟨b,o,a',c',ha,hrow,hS⟩:=(Q.g.le h5).row Ji (by decide) hx
  refine⟨b,o,⟨ha,by omega,by omega⟩,(q.aggs[i]'(by omega)).1,a',(q.aggs[i]'(by omega)).2.length,c',by rw [bF];exact hrow,Zc ⟨0,0,rfl,?_⟩⟩
  intro J;have hJ:∀(v:Int × Int)(h41:Hp),hh.le h41->v=(Qp q e)[i]'(by omega)->J v.1 v.2 h41:=by
   intro v h41 l41 hv;obtain⟨b,o,ea,x44,x45,x46,x47,hr,hc⟩:=tail v h41 l41 hv;refine⟨b,o,⟨ea,by omega,by omega⟩,x44,x45,x46,x47,by rw [bF];exact hr,hc.mono ?_⟩
   rintro v48 h49 ⟨x50,x51,x52,x53,e48,hs⟩;refine⟨x50,x51,x52,x53,e48,b,o,⟨ea,by omega,by omega⟩,?_⟩
   rw [bF];refine QkY hs ?_
   rintro h56 ⟨V',F'⟩;exact⟨_,iW,⟨i+1,rfl,by omega,V',F'⟩,by simp [Qo];omega⟩
  clear_value J;refine⟨fun e2=>?_,fun e2=>?_⟩
  ·have e2:=bC e2;refine QhL ((B.g _ hmem).2.2.1 e2) hS fun h' l'=>⟨_,_,rfl,hJ _ h' l' ?_⟩
   rw [hvi,bE e2]
  ·have e2:=gA.1 (bB e2);refine hJ (0,0) hh (qO _) ?_
   rw [hvi,bJ e2]
 ·have hge:i=acs.length:=by have:=bB e1;omega
  rw [hge,kL,dH,cY (by omega)] at V5
  exact hK hh V5 F5
end Go.Proofs.YthicpjafcpfjoaaGreatDoor
namespace Go.Vd
open Go.Vc
open Go
structure Fr (h h':Hp)(w w':World):Prop where
 os:w'.os=w.os
 tape:w'.tape=w.tape
 output:w'.output=w.output
 size:w.heap.size<=w'.heap.size
 drawn:w.drawn<=w'.drawn
 keep:∀ b,b<w.heap.size->h b=none->w'.heap[b]?=w.heap[b]?/\h' b=none
def Qa (P:Program)(f:FuncId)(args:List Value)(h:Hp)(K:RtT):Prop:=
 ∀ w,Sub h w->Calls P f args.toArray w fun e w'=>∃ v h',e=.returned v/\Sub h' w'/\Fr h h' w w'/\K v h'
def Qh (P:Program)(m:Sem Value)(h:Hp)(K:RtT):Prop:=
 ∀ w,Sub h w->∃ v w' h',m.run P w=.ok v w'/\Sub h' w'/\Fr h h' w w'/\K v h'
def WX (P:Program)(m:Sem Unit)(h:Hp)(K:HpT):Prop:=
 ∀ w,Sub h w->∃ w' h',m.run P w=.ok () w'/\Sub h' w'/\Fr h h' w w'/\K h'
def Qbk (P:Program)(f:FuncId)(args:List Value)(h:Hp)(K:RtT):Prop:=
 ∀ w,Sub h w->∃ v w' h',(callFunc f args.toArray).run P w=.ok (.value v) w'/\Sub h' w'/\Fr h h' w w'/\K v h'
def ZC (P:Program)(fv:Value)(args:List Value)(h:Hp)(K:RtT):Prop:=
 ∃ f pre post,fv=.func (.func f) pre post/\(∃ fn,P.funcs[f]?=some fn/\(fn.name == "runtime.NumGoroutine")=false/\fn.body.isNone=false)/\Qa P f (pre.toList++args++post.toList) h K
section
variable (P:Program)
end
def vcE (P:Program)(cfg:Cfg)(o:Oper)(ch:List (Nat × Bool))(st:St)(h:Hp)(K:SV->List Box->Hp->Prop):Prop:=
 match o.op with
 | .alloc T=>match Xg P T with
  | some z=>newBox cfg o st h T z K
  | none=>False
 | .box T x=>match st.ev ch x with
  | .t w=>newBox cfg o st h T w.cells K
  | _=>False
 | .buildSlice T n parts=>
  match P.underlying T,partsL st ch parts.toList with
  | some (.slice e),some ps=>
   match Xg P e with
   | some z=>
    bif (Nat.ble 1 (szT P e)&&Nat.beq z.length (szT P e)&&Nat.ble (n*szT P e) 4096) then
     match UI (fun i=>some (i*szT P e,szT P e)) ((List.replicate n z).flatten) ps with
     | some cs=>bif QC cs then ∀ b,h b=none->K (.t (.one (.v (.slice (some ⟨b,0,none⟩) n n)))) st.b (h.set b (.cells (Qn cs).toArray e (0,0))) else False
     | none=>False
    else False
   | none=>False
  | _,_=>False
 | .store T x y=>
  match st.ev ch x,st.ev ch y with
  | .bp i o,.t w=>
   match st.b[i]? with
   | some bx=>bif (Nat.ble 1 (szT P T)&&Nat.beq w.cells.length (szT P T)&&Nat.ble (o+w.cells.length) bx.c.length&&QC w.cells) then K .any (Kq st.b i ⟨bx.ty,QP bx.c o w.cells,bx.st+1⟩) h else False
   | none=>False
  | .t (.one (.hp b o)),.t w=>bif (Nat.ble 1 (szT P T)&&Nat.beq w.cells.length (szT P T)&&QC w.cells) then h.store b o (Qn w.cells) (fun h'=>K .any st.b h') else False
  | _,_=>False
 | .call { callee:=.value (.func g),args:=args,.. }=>
  match st.evs ch args.toList with
  | some vs=>
   match (P.funcs[g]?).map (·.body.isSome) with
   | some true=>Qa P g vs h fun v h'=>res (shp P o.type) v fun x=>K x st.b h'
   | some false=>Qbk P g vs h fun v h'=>res (shp P o.type) v fun x=>K x st.b h'
   | none=>False
  | none=>False
 | .call { callee:=.value (.tmp t),args:=args,.. }=>
  match st.evs ch args.toList,(st.ev ch (.tmp t)).val? with
  | some vs,some fv=>ZC P fv vs h fun v h'=>res (shp P o.type) v fun x=>K x st.b h'
  | _,_=>False
 | .call { callee:=.builtin b,args:=args,argTypes:=ts }=>
  match st.evs ch args.toList with
  | some vs=>
   let go (m:Sem Value):Prop:=Qh P m h fun v h'=>res (shp P o.type) v fun x=>K x st.b h'
   match b with
   | .append=>go (Builtin.append_ ts o.type vs.toArray)
   | .copy=>go (Builtin.copy_ ts o.type vs.toArray)
   | .delete=>go (Builtin.delete_ ts o.type vs.toArray)
   | .clear=>go (Builtin.clear_ ts o.type vs.toArray)
   | _=>False
  | none=>False
 | .makeMap T none=>Qh P (Instr.makeMap T none) h fun v h'=>res (shp P o.type) v fun x=>K x st.b h'
 | .makeSlice T l c=>match (st.ev ch l).val?,(st.ev ch c).val? with
  | some l,some c=>Qh P (Instr.makeSlice T l c) h fun v h'=>res (shp P o.type) v fun x=>K x st.b h'
  | _,_=>False
 | .convert src dst x=>match (st.ev ch x).val? with
  | some a=>Qh P (convert src dst a) h fun v h'=>res (shp P o.type) v fun x=>K x st.b h'
  | none=>False
 | .mapUpdate T m k x=>match (st.ev ch m).val?,(st.ev ch k).val?,(st.ev ch x).val? with
  | some m,some k,some x=>WX P (Instr.mapUpdate T m k x) h fun h'=>K .any st.b h'
  | _,_,_=>False
 | .insert T m k x=>match (st.ev ch m).val?,(st.ev ch k).val?,(st.ev ch x).val? with
  | some m,some k,some x=>WX P (Instr.mapUpdate T m k x) h fun h'=>K .any st.b h'
  | _,_,_=>False
 | .range T x=>match (st.ev ch x).val? with
  | some a=>Qh P (Instr.range T a) h fun v h'=>K (.t (.one (.v v))) st.b h'
  | none=>False
 | .next it s=>match (st.ev ch it).val? with
  | some a=>Qh P (Instr.next a s o.type) h fun v h'=>res (shp P o.type) v fun x=>K x st.b h'
  | none=>False
 | _=>False
def QG (P:Program)(cfg:Cfg)(ops:Array Oper)(o:Oper)(st:St)(h:Hp)(K:St->Hp->Prop):Prop:=
 match o.guard with
 | none=>
  bif isE P o.op then vcE P cfg o [] st h fun sv b h'=>St.put ⟨st.n,st.t,st.g,b⟩ o.dst none sv fun st'=>K st' h'
  else vcV P o [] (fun p=>p) st h fun sv=>st.put o.dst none sv fun st'=>K st' h
 | some (j,p)=>
  match (ops[j]?).bind (·.dst) with
  | none=>False
  | some s=>
   bif okGd st 8 s then
    bif isE P o.op then
     (bif YS o.op then
      ∃ J:ShT,(condP st 8 s p->vcE P cfg o (chain st 8 s p) st h fun sv _ h'=>J sv h')/\(¬ condP st 8 s p->J (dfl (shp P o.type)) h) /\
       ∀ h':Hp,alS (shp P o.type) fun x=>J x h'->st.put o.dst (some (s,p)) x fun st'=>K st' h'
     else
      (condP st 8 s p->vcE P cfg o (chain st 8 s p) st h fun sv b h'=>St.put ⟨st.n,st.t,st.g,b⟩ o.dst none sv fun st'=>K st' h') /\
      (¬ condP st 8 s p->st.put o.dst (some (s,p)) (dfl (shp P o.type)) fun st'=>K st' h))
    else vcV P o (chain st 8 s p) (fun q=>condP st 8 s p->q) st h fun sv=>st.put o.dst (some (s,p)) sv fun st'=>K st' h
   else False
def Qbw (P:Program)(cfg:Cfg)(ops:Array Oper):List Oper->St->Hp->(St->Hp->Prop)->Prop
 | [],st,h,K=>K st h
 | o :: l,st,h,K=>QG P cfg ops o st h fun st' h'=>Qbw P cfg ops l st' h' K
def vcD (P:Program)(cfg:Cfg)(ops:Array Oper)(ms:List Nat):List Nat->List Fg->St->Hp->(St->Hp->Prop)->Prop
 | [],_,st,h,K=>K st h
 | i :: l,fl,st,h,K=>
  match ops[i]? with
  | none=>False
  | some o=>
   bif isE P o.op then
    (bif isA o.op then QG P cfg ops o st h fun st' h'=>vcD P cfg ops ms l fl st' h' K
     else QG P cfg ops o st h fun st' h'=>agn (ms.getD i 0) st.b st'.b h' fl (vcD P cfg ops ms l fl st' h' K))
   else KR P ops i o st h fl fun fl' st'=>vcD P cfg ops ms l fl' st' h K
def vcC (P:Program)(cfg:Cfg):Code->St->Hp->(Ex->St->Hp->Prop)->Prop
 | .skip,st,h,Q=>Q .nrm st h
 | .region id ops draw,st,h,Q=>bif draw then
   (match YJ id cfg.ord with
    | some l=>bif (KK P cfg ops (Nn ops.toList []) [] l&&Qbe ops.size l) then vcD P cfg ops (Nn ops.toList []) l [] st h fun st' h'=>Q .nrm (V0 (Yr ops.toList) st') h' else False
    | none=>False)
  else Qbw P cfg ops ops.toList st h fun st' h'=>Q .nrm (V0 (Yr ops.toList) st') h'
 | .seq a b,st,h,Q=>vcC P cfg a st h fun e st' h'=>match e with
  | .nrm=>vcC P cfg b st' h' Q
  | e=>Q e st' h'
 | .cond c a b,st,h,Q=>match st.ev [] c with
  | .t (.one (.v (.bool t)))=>(t=true->vcC P cfg a st h Q)/\(t=false->vcC P cfg b st h Q)
  | _=>False
 | .block id a,st,h,Q=>vcC P cfg a st h fun e st' h'=>match e with
  | .ext i=>bif Nat.beq i id then Q .nrm st' h' else Q (.ext i) st' h'
  | e=>Q e st' h'
 | .loop a,st,h,Q=>
  match (Uo a).bind fun r=>YJ r cfg.ann with
  | none=>False
  | some (slots,shs,bxs)=>
   match YL st slots bxs,(Nat.beq shs.length slots.length&&WD st bxs&&QnS slots (QH a)) with
   | none,_=>False
   | _,false=>False
   | some vs0,true=>∃(I:LtT)(μ:LmT),I vs0 h/\∀ vs h',I vs h'->NY shs fun xs=>Qpd bxs fun ys=>vs=Kt xs++JE ys /\
     vcC P cfg a (Y7 st (QH a) slots bxs xs ys) h' fun e st' h''=>match e with
      | .nrm=>match YL st' slots bxs with
       | some vs'=>bif (NB 0 st.b st'.b bxs&&WD st' bxs) then(I vs' h''/\μ vs' h'' < μ vs h') else False
       | none=>False
      | e=>Q e st' h''
 | .exit id,st,h,Q=>Q (.ext id) st h
 | .ret,st,h,Q=>Q .ret st h
 | .rangeFunc _ _ _ _,_,_,_=>False
 | _,_,_,_=>False
def Qif (P:Program)(cfg:Cfg)(fn:Func)(args:List TW)(h:Hp)(R:RtT):Prop:=
 match fn.body with
 | none=>False
 | some c=>vcC P cfg c ⟨fn.ntmps,ZN args,fun _=>false,[]⟩ h fun e st' h'=>match e with
  | .ext _=>False
  | _=>Qbs P st' h' fn.results.toList fun vs=>match vs with
   | [v]=>R v h'
   | vs=>R (.tuple vs.toArray) h'
structure RelR (ρ:Nat->Option Nat)(w0:World)(h0:Hp)(st:St)(h:Hp)(a:Act)(w:World):Prop where
 n:a.tmps.size=st.n
 d:QoB a.defers w0 w h
 fr:∀ i,(st.t i).ok ρ a.tmps (a.tmps.getD i undef)
 gd:∀ i s p x,st.t i=.gd s p x->st.g s=true
 sub:Sub h w
 F:Fr h0 h w0 w
 box:∀ i bx,st.b[i]?=some bx->∃ b,ρ i=some b/\w.heap[b]?=some (.cells (Qn bx.c).toArray bx.ty (0,0))/\h b=none/\w0.heap.size<=b
 dom:∀ i b,ρ i=some b->i<st.b.length
 inj:∀ i j b,ρ i=some b->ρ j=some b->i=j
def Rel (w0:World)(h0:Hp)(st:St)(h:Hp)(a:Act)(w:World):Prop:=∃ ρ,RelR ρ w0 h0 st h a w
theorem RelR.toVc {ρ:Nat->Option Nat}{w0:World}{h0:Hp}{st:St}{h:Hp}{a:Act}{w:World}(R:RelR ρ w0 h0 st h a w):Vc.RelR ρ w0 h0 st h a w:=⟨R.n,R.d,R.fr,R.gd,R.sub,⟨R.F.os,R.F.tape,R.F.output,R.F.size,R.F.keep⟩,R.box,R.dom,R.inj⟩
section
variable {ρ:Nat->Option Nat}{w0:World}{h0:Hp}{st:St}{h:Hp}{a:Act}{w:World}
theorem ev_ok (R:RelR ρ w0 h0 st h a w){ch:List (Nat × Bool)}(hch:∀ s p,(s,p) ∈ ch->a.tmps.getD s undef=.bool p)(x:Operand):(st.ev ch x).ok ρ (a.eval x):=Vc.ev_ok R.toVc hch x
theorem val_ok (R:RelR ρ w0 h0 st h a w){ch:List (Nat × Bool)}(hch:∀ s p,(s,p) ∈ ch->a.tmps.getD s undef=.bool p){x:Operand}{v:Value}(hv:(st.ev ch x).val?=some v):a.eval x=v:=Vc.val_ok R.toVc hch hv
theorem evs_ok (R:RelR ρ w0 h0 st h a w){ch:List (Nat × Bool)}(hch:∀ s p,(s,p) ∈ ch->a.tmps.getD s undef=.bool p):∀{l:List Operand} {vs:List Value},st.evs ch l=some vs->l.map a.eval=vs:=Vc.evs_ok R.toVc hch
theorem optV_ok (R:RelR ρ w0 h0 st h a w){ch:List (Nat × Bool)}(hch:∀ s p,(s,p) ∈ ch->a.tmps.getD s undef=.bool p){x:Option Operand}{v:Option Value}(hv:optV st ch x=some v):x.map a.eval=v:=Vc.optV_ok R.toVc hch hv
theorem partsL_ok (R:RelR ρ w0 h0 st h a w){ch:List (Nat × Bool)}(hch:∀ s p,(s,p) ∈ ch->a.tmps.getD s undef=.bool p):∀{l:List (Nat × Operand)} {vs:List (Nat × TW)},partsL st ch l=some vs->l.map (fun q=>(q.1,a.eval q.2))=vs.map (fun q=>(q.1,q.2.val)):=Vc.partsL_ok R.toVc hch
end
section
variable {P:Program}{ρ:Nat->Option Nat}{w0:World}{h0:Hp}{st:St}{h:Hp}{a:Act}{w:World}{ch:List (Nat × Bool)}{G:Prop->Prop}{K:SV->Prop}
theorem vcV_ok (R:RelR ρ w0 h0 st h a w)(hch:∀ s p,(s,p) ∈ ch->a.tmps.getD s undef=.bool p)(hG:∀ p,G p->p){o:Oper}(H:vcV P o ch G st h K) :
  ∃ sv,K sv/\Qqs P o ρ a w sv:=Vc.vcV_ok R.toVc hch hG H
end
theorem Fr.refl (h:Hp)(w:World):Fr h h w w:=⟨rfl,rfl,rfl,cB _,cB _,fun _ _ hb=>⟨rfl,hb⟩⟩
theorem Fr.trans {h h' h'':Hp}{w w' w'':World}(x:Fr h h' w w')(y:Fr h' h'' w' w''):Fr h h'' w w'':=
 ⟨y.os.trans x.os,y.tape.trans x.tape,y.output.trans x.output,dK x.size y.size,dK x.drawn y.drawn,fun b hb hn=>
  let ⟨e1,n1⟩:=x.keep b hb hn
  let ⟨e2,n2⟩:=y.keep b (mV hb x.size) n1
  ⟨e2.trans e1,n2⟩⟩
theorem Fr.push (h:Hp)(w:World)(o:Obj):Fr h h w (w.alloc o):=
 ⟨rfl,rfl,rfl,by show _<=(w.heap.push o).size;simp,cB _,fun b hb hn=>⟨by rw [YM,bE (by omega)],hn⟩⟩
theorem Fr.pushSet (h:Hp)(w:World)(o:Obj):Fr h (h.set w.heap.size o) w (w.alloc o):=
 ⟨rfl,rfl,rfl,by show _<=(w.heap.push o).size;simp,cB _,fun b hb hn=>⟨by rw [YM,bE (by omega)],by rw [qL _ _ (by omega)];exact hn⟩⟩
section
variable {P:Program}{cfg:Cfg}{ρ:Nat->Option Nat}{w0:World}{h0:Hp}{st:St}{h:Hp}{a:Act}{w:World}{ch:List (Nat × Bool)}
theorem RelR.step (R:RelR ρ w0 h0 st h a w){h':Hp}{w':World}(hs:Sub h' w')(hf:Fr h h' w w'):RelR ρ w0 h0 st h' a w' where
 n:=R.n
 d:=by
  refine⟨R.d.1,fun d hd=>?_⟩
  obtain⟨D,e,h1,h2,h3⟩:=R.d.2 d hd;obtain⟨e1,n1⟩:=hf.keep D (bV.1 h1).1 h2
  exact⟨D,e,e1.trans h1,n1,h3⟩
 fr:=R.fr
 gd:=R.gd
 sub:=hs
 F:=R.F.trans hf
 box i bx hb:=by
  obtain⟨b,h1,h2,h3,h4⟩:=R.box i bx hb;have hlt:b<w.heap.size:=(bV.1 h2).1
  obtain⟨e,n⟩:=hf.keep b hlt h3;exact⟨b,h1,e.trans h2,n,h4⟩
 dom:=R.dom
 inj:=R.inj
theorem RelR.newBox (R:RelR ρ w0 h0 st h a w)(ty:TypeId)(cs:List TV) :
  RelR (fun i=>if i=st.b.length then some w.heap.size else ρ i) w0 h0 ⟨st.n,st.t,st.g,st.b++[⟨ty,cs,0⟩]⟩ h a (w.alloc (.cells (Qn cs).toArray ty)) where
 n:=R.n
 d:=by
  refine⟨R.d.1,fun d hd=>?_⟩
  obtain⟨D,e,h1,h2,h3⟩:=R.d.2 d hd;have hlt:=(bV.1 h1).1
  exact⟨D,e,by rw [YM,bE (by omega)];exact h1,h2,h3⟩
 fr i:=by
  refine Sl.ok_mono (ρ:=ρ) ?_ (R.fr i)
  intro j b hj;have:=R.dom j b hj;simp [show ¬ j=st.b.length by omega,hj]
 gd:=R.gd
 sub:=R.sub.push _
 F:=R.F.trans (Fr.push h w _)
 box i bx hb:=by
  by_cases hi:i=st.b.length
  ·subst hi;simp at hb;subst hb;refine⟨w.heap.size,by simp,?_,R.sub.none,R.F.size⟩
   rw [YM,bJ rfl]
  ·have hlt:i<st.b.length:=by
    have:=(bG.1 hb).1
    simp at this;omega
   rw [dO hlt] at hb
   obtain⟨b,h1,h2,h3,h4⟩:=R.box i bx hb;have hb2:b<w.heap.size:=(bV.1 h2).1
   refine⟨b,by simp [hi,h1],?_,h3,h4⟩
   rw [YM,bE (by omega)]
   exact h2
 dom i b hi:=by
  split at hi
  ·rename_i e;simp;omega
  ·have:=R.dom i b hi;simp;omega
 inj i j b hi hj:=by
  have hbl:∀ k,ρ k=some b->b<w.heap.size:=by
   intro k hk;have:=R.dom k b hk;obtain⟨bx,hbx⟩:∃ bx,st.b[k]?=some bx:=⟨st.b[k],by simp [this]⟩
   obtain⟨b',h1,h2,_⟩:=R.box k bx hbx;rw [hk] at h1;obtain rfl:=cU h1;exact(bV.1 h2).1
  split at hi<;>split at hj
  ·omega
  ·have:=hbl _ hj;simp at hi;omega
  ·have:=hbl _ hi;simp at hj;omega
  ·exact R.inj i j b hi hj
theorem RelR.setBox (R:RelR ρ w0 h0 st h a w){i b:Nat}{bx:Box}(hb:st.b[i]?=some bx)(hρ:ρ i=some b)(c:List TV) :
  RelR ρ w0 h0 ⟨st.n,st.t,st.g,Kq st.b i ⟨bx.ty,c,bx.st+1⟩⟩ h a (w.setRow b (Qn c).toArray) where
 n:=R.n
 d:=by
  refine⟨R.d.1,fun d hd=>?_⟩
  obtain⟨D,e,h1,h2,h3⟩:=R.d.2 d hd;obtain⟨b',k1,k2,k3,k4⟩:=R.box i bx hb;rw [hρ] at k1;obtain rfl:=cU k1;refine⟨D,e,?_,h2,h3⟩
  rw [Zp w b _ _ _ _ k2,bE (by intro e2;subst e2;rw [k2] at h1;cases h1)]
  exact h1
 fr:=R.fr
 gd:=R.gd
 sub:=by
  obtain⟨b',h1,h2,h3,h4⟩:=R.box i bx hb;rw [hρ] at h1;obtain rfl:=cU h1;intro k o hk;rw [Zp w b _ _ _ _ h2,bE (by intro e;subst e;simp [h3] at hk)]
  exact R.sub k o hk
 F:=by
  obtain⟨b',h1,h2,h3,h4⟩:=R.box i bx hb;rw [hρ] at h1;obtain rfl:=cU h1;refine⟨R.F.os,R.F.tape,R.F.output,by simpa [World.setRow] using R.F.size,R.F.drawn,fun k hk hn=>?_⟩
  obtain⟨e,n⟩:=R.F.keep k hk hn;exact⟨by rw [Zp w b _ _ _ _ h2,bE (by omega)];exact e,n⟩
 box j bj hj:=by
  obtain⟨b',h1,h2,h3,h4⟩:=R.box i bx hb;rw [hρ] at h1;obtain rfl:=cU h1;simp only [Wh] at hj;split at hj
  ·rename_i e;obtain⟨rfl,_⟩:=e;simp only [bH] at hj;subst hj;exact⟨b,hρ,by rw [Zp w b _ _ _ _ h2,bJ rfl],h3,h4⟩
  ·rename_i e;obtain⟨b2,k1,k2,k3,k4⟩:=R.box j bj hj;have hjl:j<st.b.length:=(bG.1 hj).1
   have hne:b2≠b:=by intro e2;subst e2;exact e ⟨R.inj j i b2 k1 hρ,hjl⟩
   exact⟨b2,k1,by rw [Zp w b _ _ _ _ h2,bE hne];exact k2,k3,k4⟩
 dom j b' hj:=by simpa [Xu] using R.dom j b' hj
 inj:=R.inj
def Nxt (w0:World)(h0:Hp)(st:St)(K:SV->List Box->Hp->Prop)(o:Oper)(a:Act)(next:Act->World->Prop):Prop:=
 ∀ sv b' h' ρ' v w',K sv b' h'->RelR ρ' w0 h0 ⟨st.n,st.t,st.g,b'⟩ h' a w'->sv.ok ρ' v->Qs st.b b'->next (a.put o.dst v) w'
variable {K:SV->List Box->Hp->Prop}{o:Oper}{next:Act->World->Prop}{Q:Exit->Act->World->Prop}
theorem Ku (R:RelR ρ w0 h0 st h a w){ty:TypeId}{cs:List TV}(H:newBox cfg o st h ty cs K)(hn:Nxt w0 h0 st K o a next)
  (hrun:(execOp a.eval o).run P w=.ok (.value (.pointer (some ⟨w.heap.size,0,none⟩))) (w.alloc (.cells (Qn cs).toArray ty))):o.upon P a next Q ((execOp a.eval o).run P w):=by
 rw [hrun,Oper.upon_value];unfold newBox at H;cases ho:QC cs with
 | false=>rw [ho] at H;exact H.elim
 | true=>
  rw [ho] at H;simp only [cX] at H;cases hp:Qbh cfg o.dst with
  | true=>
   rw [hp] at H;simp only [cX] at H;exact hn _ _ _ ρ _ _ (H w.heap.size R.sub.none) (R.step (R.sub.pushSet _) (Fr.pushSet h w _)) rfl (qM _)
  | false=>
   rw [hp] at H;simp only [dM] at H;exact hn _ _ _ _ _ _ H (R.newBox ty cs) ⟨w.heap.size,by simp,rfl⟩ (Mu _)
theorem ZD (R:RelR ρ w0 h0 st h a w){m:Sem Value}{sh:Sh}(H:Qh P m h fun v h'=>res sh v fun x=>K x st.b h')(hn:Nxt w0 h0 st K o a next)
  (hrun:(execOp a.eval o).run P w=(m.run P w).andThen fun v w'=>.ok (.value v) w'):o.upon P a next Q ((execOp a.eval o).run P w):=by
 obtain⟨v,w',h',h1,h2,h3,h4⟩:=H w R.sub;obtain⟨x,⟨rfl,hk⟩,hx⟩:=XQ (show exS sh _ from h4)
 rw [hrun,h1,Result.andThen_ok,Oper.upon_value];exact hn _ _ _ ρ _ _ hk (R.step h2 h3) (qJ hx) (qM _)
theorem UC (R:RelR ρ w0 h0 st h a w){f:FuncId}{vs:List Value}{sh:Sh}(H:Qa P f vs h fun v h'=>res sh v fun x=>K x st.b h')(hn:Nxt w0 h0 st K o a next)
  (hrun:(execOp a.eval o).run P w=.ok (.enter f vs.toArray) w):o.upon P a next Q ((execOp a.eval o).run P w):=by
 rw [hrun,Oper.upon_enter];refine(H w R.sub).mono ?_
 rintro e w' ⟨v,h',rfl,h2,h3,h4⟩;obtain⟨x,⟨rfl,hk⟩,hx⟩:=XQ (show exS sh _ from h4)
 exact hn _ _ _ ρ _ _ hk (R.step h2 h3) (qJ hx) (qM _)
end
section
variable {P:Program}{cfg:Cfg}{ρ:Nat->Option Nat}{w0:World}{h0:Hp}{st:St}{h:Hp}{a:Act}{w:World}{ch:List (Nat × Bool)}
variable {K:SV->List Box->Hp->Prop}{next:Act->World->Prop}{Q:Exit->Act->World->Prop}
theorem Qaz (hP:WZ P)(R:RelR ρ w0 h0 st h a w)(hch:∀ s p,(s,p) ∈ ch->a.tmps.getD s undef=.bool p){o:Oper}(H:vcE P cfg o ch st h K)(hn:Nxt w0 h0 st K o a next) :
  o.upon P a next Q ((execOp a.eval o).run P w):=by
 obtain⟨d,op,ty,pos,af,gd⟩:=o;have hev:=fun x=>ev_ok R hch x
 have hval:=fun {x:Operand} {v:Value} (hv:(st.ev ch x).val?=some v)=>val_ok R hch hv
 cases op with
 | alloc T=>
  simp only [vcE] at H;split at H
  ·rename_i z hz;exact Ku R H hn (by rw [Zo (m:=Instr.alloc T true (.tuple #[])) rfl,QcS hz];rfl)
  ·exact H.elim
 | box T x=>
  simp only [vcE] at H;have hx:=hev x;split at H
  ·rename_i y e;rw [e] at hx;cases ho:QC y.cells with
   | false=>unfold newBox at H;rw [ho] at H;exact H.elim
   | true=>
    have hpl:X7 y=true:=by
     cases y with
     | one v=>simp [TW.cells,QC] at ho;exact ho
     | ag l=>rfl
    have hc:=YB hpl;refine Ku R H hn ?_
    rw [Zo (m:=Instr.box T (a.eval x)) rfl,Qge,show a.eval x=y.val from hx]
    rw [hc];rfl
  ·exact H.elim
 | buildSlice T n parts=>
  simp only [vcE] at H;split at H
  ·rename_i e ps hu hps;split at H
   ·rename_i z hz;cases hc:(Nat.ble 1 (szT P e)&&Nat.beq z.length (szT P e)&&Nat.ble (n*szT P e) 4096) with
    | false=>rw [hc] at H;exact H.elim
    | true=>
     rw [hc] at H;simp only [cG] at hc;simp only [cX] at H;split at H
     ·rename_i cs hf;cases ho:QC cs with
      | false=>rw [ho] at H;exact H.elim
      | true=>
       rw [ho] at H;simp only [cX] at H;have hE:(execOp a.eval ⟨d,.buildSlice T n parts,ty,pos,af,gd⟩).run P w=((Instr.buildSlice T n (ps.map fun q=>(q.1,q.2.val)).toArray).run P w).andThen fun v w'=>.ok (.value v) w':=by
        have e:=partsL_ok R hch hps;have:parts.map (fun(q:Nat × Operand)=>(q.1,a.eval q.2))=(ps.map fun q=>(q.1,q.2.val)).toArray:=by apply jR;simpa using e
        rw [<-this];exact Zo rfl
       rw [hE,UW hu hz (bP hc.1.1) (cT hc.1.2) (bP hc.2) (WI hps) hf,Result.andThen_ok,Oper.upon_value];exact hn _ _ _ ρ _ _ (H w.heap.size R.sub.none) (R.step (R.sub.pushSet _) (Fr.pushSet h w _)) rfl (qM _)
     ·exact H.elim
   ·exact H.elim
  ·exact H.elim
 | store T x y=>
  simp only [vcE] at H;have hx:=hev x;have hy:=hev y;have hE:∀ b o',a.eval x=.pointer (some ⟨b,o',none⟩)->(execOp a.eval ⟨d,.store T x y,ty,pos,af,gd⟩).run P w=((storeVar T ⟨b,o',none⟩ (a.eval y)).run P w).andThen fun _ w'=>.ok .skip w':=by
   intro b o' hb;simp [execOp,hb,Instr.storeAt,Instr.sureAddr]
  split at H
  ·rename_i i o' y' e1 e2;rw [e1] at hx;rw [e2] at hy;obtain⟨b,hb,hx⟩:=hx;split at H
   ·rename_i bx hbx;cases hc:(Nat.ble 1 (szT P T)&&Nat.beq y'.cells.length (szT P T)&&Nat.ble (o'+y'.cells.length) bx.c.length&&QC y'.cells) with
    | false=>rw [hc] at H;exact H.elim
    | true=>
     rw [hc] at H;simp only [cG] at hc;simp only [cX] at H;have hpl:X7 y'=true:=by
      cases y' with
      | one v=>simp [TW.cells,QC] at hc;exact hc.2
      | ag l=>rfl
     obtain⟨b',k1,k2,k3,k4⟩:=R.box i bx hbx;rw [hb] at k1;obtain rfl:=cU k1;have hfit:=bP hc.1.2;have hrun:=WA (P:=P) (w:=w) (T:=T) (b:=b) (o:=o') (v:=y'.val) (vs:=Qn y'.cells) (bP hc.1.1.1) (YB hpl).symm
      (by rw [QM];exact cT hc.1.1.2) (XB hc.2) k2 (by simpa [QM] using hfit)
     rw [hE _ _ hx,show a.eval y=y'.val from hy,hrun,Result.andThen_ok,Oper.upon_skip]
     have hset:=R.setBox hbx hb (QP bx.c o' y'.cells);rw [NP] at hset;exact hn .any _ _ ρ undef _ H (by simpa using hset) trivial (JP hbx _)
   ·exact H.elim
  ·rename_i b o' y' e1 e2;rw [e1] at hx;rw [e2] at hy;have hx':a.eval x=.pointer (some ⟨b,o',none⟩):=hx;cases hc:(Nat.ble 1 (szT P T)&&Nat.beq y'.cells.length (szT P T)&&QC y'.cells) with
   | false=>rw [hc] at H;exact H.elim
   | true=>
    rw [hc] at H;simp only [cG] at hc;simp only [cX] at H;obtain⟨c,t,hb,hfit,hk⟩:=H;have hpl:X7 y'=true:=by
     cases y' with
     | one v=>simp [TW.cells,QC] at hc;exact hc.2
     | ag l=>rfl
    have hwb:=R.sub b _ hb;have hrun:=WA (P:=P) (w:=w) (T:=T) (b:=b) (o:=o') (v:=y'.val) (vs:=Qn y'.cells) (bP hc.1.1) (YB hpl).symm
     (by rw [QM];exact cT hc.1.2) (XB hc.2) hwb hfit
    rw [hE _ _ hx',show a.eval y=y'.val from hy,hrun,Result.andThen_ok,Oper.upon_skip]
    refine hn .any _ _ ρ undef _ hk (R.step ?_ ?_) trivial (qM _)
    ·intro k o hk;rw [Zp w b _ _ _ _ hwb];by_cases e:k=b
     ·subst e;rw [qK] at hk;rw [bJ rfl,hk]
     ·rw [qL _ _ e] at hk;rw [bE e];exact R.sub k o hk
    ·refine⟨rfl,rfl,rfl,by simp [World.setRow],cB _,fun k hk hkn=>?_⟩
     have e:k≠b:=by intro e;subst e;simp [hb] at hkn
     exact⟨by rw [Zp w b _ _ _ _ hwb,bE e],by rw [qL _ _ e];exact hkn⟩
  ·exact H.elim
 | call c=>
  obtain⟨callee,args,ts⟩:=c;have hargs:∀ vs,st.evs ch args.toList=some vs->args.map a.eval=vs.toArray:=by
   intro vs hvs;have e:=evs_ok R hch hvs;apply jR;simpa using e
  cases callee with
  | invoke r m=>exact H.elim
  | value f=>
   cases f with
   | func g=>
    simp only [vcE] at H;split at H
    ·rename_i vs hvs;have hE:(execOp a.eval ⟨d,.call ⟨.value (.func g),args,ts⟩,ty,pos,af,gd⟩).run P w=(callFunc g vs.toArray).run P w:=by
      simp [execOp,resolve,invoke,Act.eval,Deferred.ofValue,hargs vs hvs]
     split at H
     ·rename_i hb;obtain⟨fn,hf,hbody⟩:=dF.1 hb;exact UC R H hn (by rw [hE,Y5 hf (hP g fn hf) hbody])
     ·rename_i hb;obtain⟨v,w',h',k1,k2,k3,k4⟩:=H w R.sub;obtain⟨x,⟨rfl,hk⟩,hx⟩:=XQ (show exS _ _ from k4)
      rw [hE,k1,Oper.upon_value];exact hn _ _ _ ρ _ _ hk (R.step k2 k3) (qJ hx) (qM _)
     ·exact H.elim
    ·exact H.elim
   | tmp t=>
    simp only [vcE] at H;split at H
    ·rename_i vs fv hvs hfv;obtain⟨g,pre,post,rfl,⟨fn,hf,hname,hb⟩,hc⟩:=H;have hE:(execOp a.eval ⟨d,.call ⟨.value (.tmp t),args,ts⟩,ty,pos,af,gd⟩).run P w=(callFunc g (pre.toList++vs++post.toList).toArray).run P w:=by
      have e:(pre.toList++vs++post.toList).toArray=pre++vs.toArray++post:=by apply jR;simp
      rw [e];simp [execOp,resolve,invoke,hval hfv,Deferred.ofValue,hargs vs hvs]
     have hb':fn.body.isSome=true:=by cases hq:fn.body<;>simp_all
     exact UC R hc hn (by rw [hE,Y5 hf hname hb'])
    ·exact H.elim
   | _=>exact H.elim
  | builtin b=>
   have hE:∀(m:Sem Value)(vs:List Value),st.evs ch args.toList=some vs->(∀ cs,builtin b ts ty cs vs.toArray=(do pure (.value (<-m)))) ->
     (execOp a.eval ⟨d,.call ⟨.builtin b,args,ts⟩,ty,pos,af,gd⟩).run P w=(m.run P w).andThen fun v w'=>.ok (.value v) w':=by
    intro m vs hvs hm;simp [execOp,resolve,invoke,hargs vs hvs,hm]
   simp only [vcE] at H;split at H
   ·rename_i vs hvs;split at H
    ·exact ZD R H hn (hE _ vs hvs (fun _=>rfl))
    ·exact ZD R H hn (hE _ vs hvs (fun _=>rfl))
    ·exact ZD R H hn (hE _ vs hvs (fun _=>rfl))
    ·exact ZD R H hn (hE _ vs hvs (fun _=>rfl))
    ·exact H.elim
   ·exact H.elim
 | makeMap T r=>
  cases r with
  | some r=>exact H.elim
  | none=>exact ZD R (show Qh P _ h _ from H) hn (Zo (by simp [execOp]))
 | makeSlice T l c=>
  simp only [vcE] at H;split at H
  ·rename_i u v e1 e2;exact ZD R H hn (Zo (by simp [execOp,hval e1,hval e2]))
  ·exact H.elim
 | convert s t x=>
  simp only [vcE] at H;split at H
  ·rename_i u e1;exact ZD R H hn (Zo (by simp [execOp,hval e1]))
  ·exact H.elim
 | mapUpdate T m k x=>
  simp only [vcE] at H;split at H
  ·rename_i m' k' x' e1 e2 e3;obtain⟨w',h',k1,k2,k3,k4⟩:=H w R.sub;have hE:(execOp a.eval ⟨d,.mapUpdate T m k x,ty,pos,af,gd⟩).run P w=((Instr.mapUpdate T m' k' x').run P w).andThen fun _ w'=>.ok .skip w':=by
    simp [execOp,hval e1,hval e2,hval e3]
   rw [hE,k1,Result.andThen_ok,Oper.upon_skip];exact hn .any _ _ ρ undef _ k4 (R.step k2 k3) trivial (qM _)
  ·exact H.elim
 | insert T m k x=>
  simp only [vcE] at H;split at H
  ·rename_i m' k' x' e1 e2 e3;obtain⟨w',h',k1,k2,k3,k4⟩:=H w R.sub;have hE:(execOp a.eval ⟨d,.insert T m k x,ty,pos,af,gd⟩).run P w=((Instr.mapUpdate T m' k' x').run P w).andThen fun _ w'=>.ok .skip w':=by
    simp [execOp,hval e1,hval e2,hval e3]
   rw [hE,k1,Result.andThen_ok,Oper.upon_skip];exact hn .any _ _ ρ undef _ k4 (R.step k2 k3) trivial (qM _)
  ·exact H.elim
 | range T x=>
  simp only [vcE] at H;split at H
  ·rename_i u e1;obtain⟨v,w',h',k1,k2,k3,k4⟩:=H w R.sub;have hE:(execOp a.eval ⟨d,.range T x,ty,pos,af,gd⟩).run P w=((Instr.range T u).run P w).andThen fun v w'=>.ok (.value v) w':=Zo (by simp [execOp,hval e1])
   rw [hE,k1,Result.andThen_ok,Oper.upon_value];exact hn _ _ _ ρ _ _ k4 (R.step k2 k3) rfl (qM _)
  ·exact H.elim
 | next it s=>
  simp only [vcE] at H;split at H
  ·rename_i u e1;exact ZD R H hn (Zo (by simp [execOp,hval e1]))
  ·exact H.elim
 | _=>exact H.elim
end
section
variable {P:Program}{cfg:Cfg}{ρ:Nat->Option Nat}{w0:World}{h0:Hp}{st:St}{h:Hp}{a:Act}{w:World}
theorem Wb (R:RelR ρ w0 h0 st h a w){dst:Option Nat}{gd:Option (Nat × Bool)}{x:SV}{K:St->Prop}(H:st.put dst gd x K){v:Value}
  (hv:match gd with
   | none=>x.ok ρ v
   | some (s,p)=>(a.tmps.getD s undef=.bool p->x.ok ρ v)/\(a.tmps.getD s undef≠.bool p->v=undef)) :
  ∃ st',K st'/\RelR ρ w0 h0 st' h (a.put dst v) w/\Ev (GE dst) st st':=by
 cases dst with
 | none=>exact⟨st,H,R,qN _ _⟩
 | some d=>
  cases gd with
  | none=>
   simp only [St.put] at H;cases hc:(Nat.blt d st.n&&!(st.g d)) with
   | false=>rw [hc] at H;exact H.elim
   | true=>
    rw [hc] at H;simp only [cG,gO] at hc;have hd:d<a.tmps.size:=by rw [R.n];exact bC (by have:=hc.1;simpa [qH] using this)
    refine⟨_,H,⟨by simp [Act.put,R.n],R.d,fun i=>?_,?_,R.sub,R.F,R.box,R.dom,R.inj⟩,⟨rfl,fun i hi=>?_,qM _⟩⟩
    ·simp only [Act.put];rw [XP _ _ _ _ hd];cases hb:Nat.beq i d with
     | true=>
      have:=cT hb;simp only [cX,bJ this];exact hv
     | false=>
      have hne:=d7 hb;simp only [dM,bE hne];have hr:=R.fr i;cases hi:st.t i with
      | s y=>rw [hi] at hr;exact hr
      | gd k p y=>
       rw [hi] at hr;have hk:=R.gd i k p y hi;have hkd:k≠d:=by intro e;subst e;rw [hc.2] at hk;simp at hk
       simp only [Sl.ok] at hr ⊢;rw [XP _ _ _ _ hd,bE hkd];exact hr
    ·intro i s p y hi;simp only at hi;cases hb:Nat.beq i d with
     | true=>rw [hb] at hi;simp at hi
     | false=>rw [hb] at hi;exact R.gd i s p y hi
    ·have hne:i≠d:=by simpa [GE] using hi
     have:Nat.beq i d=false:=by cases hq:Nat.beq i d<;>simp_all
     simp [this]
  | some q=>
   obtain⟨s,p⟩:=q;simp only [St.put] at H;cases hc:(Nat.blt d st.n&&!(Nat.beq d s||st.g d)) with
   | false=>rw [hc] at H;exact H.elim
   | true=>
    rw [hc] at H;simp only [cG,gO] at hc;have hd:d<a.tmps.size:=by rw [R.n];exact bC (by have:=hc.1;simpa [qH] using this)
    have hnm:¬ d=s/\¬ st.g d=true:=by have:=hc.2;simp only [Bool.or_eq_false_iff] at this;exact⟨d7 this.1,by simp [this.2]⟩
    refine⟨_,H,⟨by simp [Act.put,R.n],R.d,fun i=>?_,?_,R.sub,R.F,R.box,R.dom,R.inj⟩,⟨rfl,fun i hi=>?_,qM _⟩⟩
    ·simp only [Act.put];rw [XP _ _ _ _ hd];cases hb:Nat.beq i d with
     | true=>
      have:=cT hb;simp only [cX,bJ this,Sl.ok];rw [XP _ _ _ _ hd,bE (fun e=>hnm.1 e.symm)]
      exact hv
     | false=>
      have hne:=d7 hb;simp only [dM,bE hne];have hr:=R.fr i;cases hi:st.t i with
      | s y=>rw [hi] at hr;exact hr
      | gd k p y=>
       rw [hi] at hr;have hk:=R.gd i k p y hi;have hkd:k≠d:=by intro e;subst e;exact hnm.2 hk
       simp only [Sl.ok] at hr ⊢;rw [XP _ _ _ _ hd,bE hkd];exact hr
    ·intro i k p' y hi;simp only at hi;cases hb:Nat.beq i d with
     | true=>
      rw [hb] at hi;simp only [cX,Sl.gd.injEq] at hi;simp [hi.1]
     | false=>
      rw [hb] at hi;have:=R.gd i k p' y hi;simp only;cases hq:Nat.beq k s<;>simp [this]
    ·have hne:i≠d:=by simpa [GE] using hi
     have:Nat.beq i d=false:=by cases hq:Nat.beq i d<;>simp_all
     simp [this]
theorem cond_spec (R:RelR ρ w0 h0 st h a w):∀(n s:Nat)(p:Bool),okGd st n s=true ->
  (condP st n s p->a.tmps.getD s undef=.bool p/\∀ s' p',(s',p') ∈ chain st n s p->a.tmps.getD s' undef=.bool p') /\
  (¬ condP st n s p->a.tmps.getD s undef≠.bool p):=Vc.cond_spec R.toVc
end
theorem Ma {P:Program}{cfg:Cfg}{o:Oper}{ch:List (Nat × Bool)}{st:St}{h:Hp}{J:ShT}{K:SV->List Box->Hp->Prop}(hc:YS o.op=true)(hk:∀ sv h',J sv h'->(exS (shp P o.type) fun y=>y=sv)->K sv st.b h')(H:vcE P cfg o ch st h fun sv _ h'=>J sv h') :
  vcE P cfg o ch st h K:=by
 obtain⟨dst,op,ty,pos,af,gd⟩:=o;have hR:∀ v h',(res (shp P ty) v fun x=>J x h')->res (shp P ty) v fun x=>K x st.b h':=fun v h' hr=>QgO (fun x=>hk x h') hr
 have hsem:∀ m,(Qh P m h fun v h'=>res (shp P ty) v fun x=>J x h')->Qh P m h fun v h'=>res (shp P ty) v fun x=>K x st.b h':=
  fun m Hm w hs=>let ⟨v,w',h',h1,h2,h3,h4⟩:=Hm w hs;⟨v,w',h',h1,h2,h3,hR _ _ h4⟩
 have hcall:∀ f vs,(Qa P f vs h fun v h'=>res (shp P ty) v fun x=>J x h')->Qa P f vs h fun v h'=>res (shp P ty) v fun x=>K x st.b h':=
  fun f vs Hm w hs=>(Hm w hs).mono fun e w' ⟨v,h',h1,h2,h3,h4⟩=>⟨v,h',h1,h2,h3,hR _ _ h4⟩
 cases op with
 | call c=>
  obtain⟨callee,args,ts⟩:=c;cases callee with
  | builtin b=>
   simp only [vcE] at H ⊢;split at H
   ·cases b<;>first|exact H.elim|exact hsem _ H
   ·exact H.elim
  | value f=>
   cases f with
   | func g=>
    simp only [vcE] at H ⊢;split at H
    ·rename_i vs hvs;cases hb:(P.funcs[g]?).map (·.body.isSome) with
     | none=>rw [hb] at H;exact H.elim
     | some q=>
      rw [hb] at H;cases q with
      | true=>exact hcall _ _ H
      | false=>exact fun w hs=>let ⟨v,w',h',h1,h2,h3,h4⟩:=H w hs;⟨v,w',h',h1,h2,h3,hR _ _ h4⟩
    ·exact H.elim
   | tmp t=>
    simp only [vcE] at H ⊢;split at H
    ·obtain⟨f,pre,post,e,hfn,hcl⟩:=H;exact⟨f,pre,post,e,hfn,hcall _ _ hcl⟩
    ·exact H.elim
   | _=>exact H.elim
  | invoke r m=>exact H.elim
 | _=>cases hc
theorem Jp {P:Program}{cfg:Cfg}(hP:WZ P){ops:Array Oper}{o:Oper}{w0:World}{h0:Hp}{st:St}{h:Hp}{a:Act}{w:World}{K:St->Hp->Prop}{Q:Exit->Act->World->Prop}{N:Act->World->Prop}
  (R:Rel w0 h0 st h a w) (H:QG P cfg ops o st h K)
  (hn:∀ st' h' a' w',K st' h'->Rel w0 h0 st' h' a' w'->Ev (GE o.dst) st st'->N a' w'):if Region.wanted o (yielded ops a.tmps) then o.wp P a w N Q\/(o.asks P a w/\LetsOut Q) else N (a.put o.dst undef) w:=by
 obtain⟨ρ,R⟩:=R;unfold QG at H;have hnE:∀{gdr:Option (Nat × Bool)},Nxt w0 h0 st (fun sv b h'=>St.put ⟨st.n,st.t,st.g,b⟩ o.dst none sv fun st'=>K st' h') o a N:=by
  intro _ sv b' h' ρ' v w' hk R' hsv hb;obtain⟨st',k1,k2,k3⟩:=Wb R' (gd:=none) hk hsv;exact hn st' h' _ _ k1 ⟨ρ',k2⟩ ⟨k3.n,k3.t,hb.trans k3.b⟩
 cases hg:o.guard with
 | none=>
  rw [hg] at H;simp only at H;rw [bJ (Gg hg _)];left;unfold Oper.wp;cases hE:isE P o.op with
  | true=>
   rw [hE] at H;simp only [cX] at H;exact Qaz hP R (ch:=[]) (fun _ _ hm=>by simp at hm) H (hnE (gdr:=none))
  | false=>
   rw [hE] at H;simp only [dM] at H;obtain⟨sv,hk,v,hr,hsv⟩:=vcV_ok R (ch:=[]) (fun _ _ hm=>by simp at hm) (G:=fun p=>p) (fun p hp=>hp) H
   rw [hr,Oper.upon_value];obtain⟨st',k1,k2,k3⟩:=Wb R (gd:=none) hk hsv;exact hn st' h _ _ k1 ⟨ρ,k2⟩ k3
 | some q=>
  obtain⟨j,p⟩:=q;rw [hg] at H;simp only at H;split at H
  ·exact H.elim
  ·rename_i s hj;cases hok:okGd st 8 s with
   | false=>rw [hok] at H;exact H.elim
   | true=>
    rw [hok] at H;simp only [cX] at H;have hspec:=cond_spec R 8 s p hok;have hw:=QcV (ops:=ops) hg hj a.tmps;cases hE:isE P o.op with
    | true=>
     rw [hE] at H;simp only [cX] at H;cases hC:YS o.op with
     | true=>
      rw [hC] at H;simp only [cX] at H;obtain⟨J,H1,H2,H3⟩:=H;by_cases hc:condP st 8 s p
      ·obtain⟨h1,h2⟩:=hspec.1 hc;rw [bJ (hw.2 h1)];left;unfold Oper.wp;refine Qaz hP R h2 (Ma (K:=fun sv b h'=>b=st.b/\J sv h'/\exS (shp P o.type) fun y=>y=sv) hC (fun sv h' q1 q2=>⟨rfl,q1,q2⟩) (H1 hc)) ?_
       rintro sv b' h' ρ' v w' ⟨hk0,hk1,hk2⟩ R' hsv hb;subst hk0;obtain⟨st',k1,k2,k3⟩:=Wb R' (gd:=some (s,p)) (G8 (H3 h') hk2 hk1) (v:=v) ⟨fun _=>hsv,fun e=>(e h1).elim⟩
       exact hn st' h' _ _ k1 ⟨ρ',k2⟩ ⟨k3.n,k3.t,hb.trans k3.b⟩
      ·have h1:=hspec.2 hc;rw [bE (fun e=>h1 (hw.1 e))]
       obtain⟨st',k1,k2,k3⟩:=Wb R (gd:=some (s,p)) (v:=undef) (G8 (H3 h) (Qhs _) (H2 hc)) ⟨fun e=>(h1 e).elim,fun _=>rfl⟩
       exact hn st' h _ _ k1 ⟨ρ,k2⟩ k3
     | false=>
     rw [hC] at H;simp only [dM] at H;by_cases hc:condP st 8 s p
     ·obtain⟨h1,h2⟩:=hspec.1 hc;rw [bJ (hw.2 h1)];left;unfold Oper.wp;exact Qaz hP R h2 (H.1 hc) (hnE (gdr:=none))
     ·have h1:=hspec.2 hc;rw [bE (fun e=>h1 (hw.1 e))]
      obtain⟨st',k1,k2,k3⟩:=Wb R (gd:=some (s,p)) (v:=undef) (H.2 hc) ⟨fun e=>(h1 e).elim,fun _=>rfl⟩
      exact hn st' h _ _ k1 ⟨ρ,k2⟩ k3
    | false=>
     rw [hE] at H;simp only [dM] at H;by_cases hc:condP st 8 s p
     ·obtain⟨h1,h2⟩:=hspec.1 hc;rw [bJ (hw.2 h1)];left;unfold Oper.wp;obtain⟨sv,hk,v,hr,hsv⟩:=vcV_ok R h2 (fun q hq=>hq hc) H
      rw [hr,Oper.upon_value];obtain⟨st',k1,k2,k3⟩:=Wb R (gd:=some (s,p)) hk (v:=v) ⟨fun _=>hsv,fun e=>(e h1).elim⟩
      exact hn st' h _ _ k1 ⟨ρ,k2⟩ k3
     ·have h1:=hspec.2 hc;rw [bE (fun e=>h1 (hw.1 e))]
      obtain⟨sv,hk⟩:=Qlk H;obtain⟨st',k1,k2,k3⟩:=Wb R (gd:=some (s,p)) hk (v:=undef) ⟨fun e=>(h1 e).elim,fun _=>rfl⟩
      exact hn st' h _ _ k1 ⟨ρ,k2⟩ k3
theorem Qhk {P:Program}{cfg:Cfg}(hP:WZ P){ops:Array Oper}{o:Oper}{w0:World}{h0:Hp}{st:St}{h:Hp}{a:Act}{w:World}{K:St->Hp->Prop}{Q:Exit->Act->World->Prop}{rest:List Oper}
  (R:Rel w0 h0 st h a w) (H:QG P cfg ops o st h K)
  (hn:∀ st' h' a' w',K st' h'->Rel w0 h0 st' h' a' w'->Ev (GE o.dst) st st'->wpList P ops Q rest a' w'):wpList P ops Q (o :: rest) a w:=by
 unfold wpList;exact Jp hP R H hn
section
variable {P:Program}{cfg:Cfg}{st st1:St}{d:Nat}{ch:List (Nat × Bool)}
theorem Agr.vcE (A:Agr d st st1){o:Oper}(h:∀ x ∈ o.op.operands.toList,x≠.tmp d){hp:Hp}{K:SV->List Box->Hp->Prop}:Vd.vcE P cfg o ch st1 hp K=Vd.vcE P cfg o ch st hp K:=by
 obtain⟨dst,op,ty,pos,af,gd⟩:=o;have hnb:∀ T cs,Vc.newBox cfg ⟨dst,op,ty,pos,af,gd⟩ st1 hp T cs K=Vc.newBox cfg ⟨dst,op,ty,pos,af,gd⟩ st hp T cs K:=by intro T cs;simp only [Vc.newBox,A.b]
 cases op with
 | alloc T=>simp only [Vd.vcE,hnb]
 | box T x=>simp only [Vd.vcE,hnb];rw [A.ev (h x (by simp [Op.operands]))]
 | buildSlice T n ps=>
  simp only [Vd.vcE,A.b];rw [A.partsL (fun x hx=>h x.2 (by simp only [Op.operands,cZ];exact⟨x,hx,rfl⟩))]
 | store T x y=>simp only [Vd.vcE,A.b];rw [A.ev (h x (by simp [Op.operands])),A.ev (h y (by simp [Op.operands]))]
 | call c=>
  obtain⟨callee,args,ts⟩:=c;have ha:∀ x ∈ args.toList,x≠.tmp d:=fun x hx=>h x (by simp only [Op.operands,Call.operands];cases callee<;>simp_all)
  cases callee with
  | builtin b=>simp only [Vd.vcE,A.b];rw [A.evs ha]
  | value f=>
   cases f with
   | func g=>simp only [Vd.vcE,A.b];rw [A.evs ha]
   | tmp t=>simp only [Vd.vcE,A.b];rw [A.evs ha,A.ev (h (.tmp t) (by simp [Op.operands,Call.operands]))]
   | _=>rfl
  | invoke r m=>rfl
 | makeMap T r=>cases r<;>simp only [Vd.vcE,A.b]
 | convert s t x=>simp only [Vd.vcE,A.b];rw [A.ev (h x (by simp [Op.operands]))]
 | makeSlice T l c=>simp only [Vd.vcE,A.b];rw [A.ev (h l (by simp [Op.operands])),A.ev (h c (by simp [Op.operands]))]
 | mapUpdate T m k x=>simp only [Vd.vcE,A.b];rw [A.ev (h m (by simp [Op.operands])),A.ev (h k (by simp [Op.operands])),A.ev (h x (by simp [Op.operands]))]
 | insert T m k x=>simp only [Vd.vcE,A.b];rw [A.ev (h m (by simp [Op.operands])),A.ev (h k (by simp [Op.operands])),A.ev (h x (by simp [Op.operands]))]
 | range T x=>simp only [Vd.vcE,A.b];rw [A.ev (h x (by simp [Op.operands]))]
 | next it s=>simp only [Vd.vcE,A.b];rw [A.ev (h it (by simp [Op.operands]))]
 | _=>rfl
end
section
variable {P:Program}{cfg:Cfg}{ops:Array Oper}{st st1:St}{d:Nat}
theorem XY {o:Oper}{h:Hp}{K:St->Hp->Prop}(hE:isE P o.op=false):QG P cfg ops o st h K↔∃ g,gdO ops o=some g/\okG st g/\Yc st o.dst g/\∃ sv,VS P g o st h sv/\K (Qm st o.dst g sv) h:=by
 unfold QG gdO;cases hg:o.guard with
 | none=>
  simp only [hE,dM,bH,gU,okG,jL];constructor
  ·intro H;obtain⟨sv,h1,h2⟩:=VD.pick (show (QY P o [] st).sem P (fun p=>p) h _ from H)
   rw [Zl] at h2;exact⟨h2.1,sv,h1,h2.2⟩
  ·rintro⟨h1,sv,h2,h3⟩;exact VD.mono (fun _ b o hb=>hb) (fun p q f=>f) (fun x hx=>by rw [hx];exact Zl.2 ⟨h1,h3⟩) h2
 | some q=>
  obtain⟨j,p⟩:=q;simp only;cases hj:(ops[j]?).bind (·.dst) with
  | none=>simp
  | some s=>
   simp only [fD,bH,gU,okG,hE,dM];cases hok:okGd st 8 s with
   | false=>simp
   | true=>
    simp only [cX,jL];constructor
    ·intro H;obtain⟨sv,h1,h2⟩:=VD.pick (show (QY P o (chain st 8 s p) st).sem P (fun q=>condP st 8 s p->q) h _ from H)
     rw [Zl] at h2;exact⟨h2.1,sv,h1,h2.2⟩
    ·rintro⟨h1,sv,h2,h3⟩;exact VD.mono (fun _ b o hb=>hb) (fun p q f g c=>f (g c)) (fun x hx=>by rw [hx];exact Zl.2 ⟨h1,h3⟩) h2
theorem Wz {o:Oper}{st:St}{ch:List (Nat × Bool)}{h:Hp}{K K':SV->List Box->Hp->Prop}(hk:∀ sv b h',Qs st.b b->K sv b h'->K' sv b h')(H:vcE P cfg o ch st h K):vcE P cfg o ch st h K':=by
 obtain⟨dst,op,ty,pos,af,gd⟩:=o;have same:∀ sv h',K sv st.b h'->K' sv st.b h':=fun sv h'=>hk sv st.b h' (qM _)
 have hsem:∀ m sh,(Qh P m h fun v h'=>res sh v fun x=>K x st.b h')->Qh P m h fun v h'=>res sh v fun x=>K' x st.b h':=by intro m sh H w hs;obtain⟨v,w',h',h1,h2,h3,h4⟩:=H w hs;exact⟨v,w',h',h1,h2,h3,QL (fun x hx=>same _ _ hx) h4⟩
 have hcall:∀ f vs sh,(Qa P f vs h fun v h'=>res sh v fun x=>K x st.b h')->Qa P f vs h fun v h'=>res sh v fun x=>K' x st.b h':=by intro f vs sh H w hs;exact(H w hs).mono fun e w' ⟨v,h',h1,h2,h3,h4⟩=>⟨v,h',h1,h2,h3,QL (fun x hx=>same _ _ hx) h4⟩
 cases op with
 | alloc T=>
  simp only [vcE] at *
  split at H
  ·exact JR hk H
  ·exact H.elim
 | box T x=>
  simp only [vcE] at *
  split at H
  ·exact JR hk H
  ·exact H.elim
 | buildSlice T n parts=>
  simp only [vcE] at *
  rcases hu:P.underlying T with _|d'
  ·rw [hu] at H;exact H.elim
  ·rcases hp:partsL st ch parts.toList with _|ps
   ·rw [hu,hp] at H;cases d'<;>exact H.elim
   ·rw [hu,hp] at H;cases d' with
    | slice e=>
     simp only at *
     rcases hz:Xg P e with _|z
     ·rw [hz] at H;exact H.elim
     ·rw [hz] at H;simp only at *
      rcases dC (Nat.ble 1 (szT P e)&&Nat.beq z.length (szT P e)&&Nat.ble (n*szT P e) 4096) with hc|hc
      ·rw [hc] at H ⊢;simp only [cX] at *
       rcases hf:UI (fun i=>some (i*szT P e,szT P e)) ((List.replicate n z).flatten) ps with _|cs
       ·rw [hf] at H;exact H.elim
       ·rw [hf] at H;simp only at *
        rcases dC (QC cs) with ho|ho
        ·rw [ho] at H ⊢;exact fun b hb=>same _ _ (H b hb)
        ·rw [ho] at H;exact H.elim
      ·rw [hc] at H;exact H.elim
    | _=>exact H.elim
 | store T x y=>
  simp only [vcE] at *
  split at H
  ·rename_i i o' y' e1 e2;rcases hb:st.b[i]? with _|bx
   ·rw [hb] at H;exact H.elim
   ·rw [hb] at H;simp only at *
    rcases dC (Nat.ble 1 (szT P T)&&Nat.beq y'.cells.length (szT P T)&&Nat.ble (o'+y'.cells.length) bx.c.length&&QC y'.cells) with hc|hc
    ·rw [hc] at H ⊢;exact hk _ _ _ (JP hb _) H
    ·rw [hc] at H;exact H.elim
  ·rename_i b o' y' e1 e2;rcases dC (Nat.ble 1 (szT P T)&&Nat.beq y'.cells.length (szT P T)&&QC y'.cells) with hc|hc
   ·rw [hc] at H ⊢;simp only [cX] at *
    obtain⟨c,e,h1,h2,h3⟩:=H;exact⟨c,e,h1,h2,same _ _ h3⟩
   ·rw [hc] at H;exact H.elim
  ·exact H.elim
 | call c=>
  obtain⟨callee,args,ts⟩:=c;cases callee with
  | invoke r m=>exact H.elim
  | value f=>
   cases f with
   | func g=>
    simp only [vcE] at *
    split at H
    ·split at H
     ·exact hcall _ _ _ H
     ·intro w hs;obtain⟨v,w',h',h1,h2,h3,h4⟩:=H w hs;exact⟨v,w',h',h1,h2,h3,QL (fun x hx=>same _ _ hx) h4⟩
     ·exact H.elim
    ·exact H.elim
   | tmp t=>
    simp only [vcE] at *
    split at H
    ·obtain⟨f,pre,post,h1,h2,h3⟩:=H;exact⟨f,pre,post,h1,h2,hcall _ _ _ h3⟩
    ·exact H.elim
   | _=>exact H.elim
  | builtin b=>
   simp only [vcE] at *
   split at H
   ·split at H
    ·exact hsem _ _ H
    ·exact hsem _ _ H
    ·exact hsem _ _ H
    ·exact hsem _ _ H
    ·exact H.elim
   ·exact H.elim
 | makeMap T r=>
  cases r with
  | some r=>exact H.elim
  | none=>exact hsem _ _ H
 | convert s t x=>
  simp only [vcE] at *
  split at H
  ·exact hsem _ _ H
  ·exact H.elim
 | makeSlice T l c=>
  simp only [vcE] at *
  split at H
  ·exact hsem _ _ H
  ·exact H.elim
 | mapUpdate T m k x=>
  simp only [vcE] at *
  split at H
  ·intro w hs;obtain⟨w',h',h1,h2,h3,h4⟩:=H w hs;exact⟨w',h',h1,h2,h3,same _ _ h4⟩
  ·exact H.elim
 | insert T m k x=>
  simp only [vcE] at *
  split at H
  ·intro w hs;obtain⟨w',h',h1,h2,h3,h4⟩:=H w hs;exact⟨w',h',h1,h2,h3,same _ _ h4⟩
  ·exact H.elim
 | range T x=>
  simp only [vcE] at *
  split at H
  ·intro w hs;obtain⟨v,w',h',h1,h2,h3,h4⟩:=H w hs;exact⟨v,w',h',h1,h2,h3,same _ _ h4⟩
  ·exact H.elim
 | next it s=>
  simp only [vcE] at *
  split at H
  ·exact hsem _ _ H
  ·exact H.elim
 | _=>exact H.elim
theorem Qcj {o:Oper}{st:St}{ch:List (Nat × Bool)}{h:Hp}{K:SV->List Box->Hp->Prop}{J:ShT}(hc:YS o.op=true)(hk:∀ sv h',K sv st.b h'->J sv h')(H:vcE P cfg o ch st h K):vcE P cfg o ch st h fun sv _ h'=>J sv h':=by
 obtain⟨dst,op,ty,pos,af,gd⟩:=o;have hR:∀ v h',(res (shp P ty) v fun x=>K x st.b h')->res (shp P ty) v fun x=>J x h':=fun v h' hr=>QL (fun x=>hk x h') hr
 have hsem:∀ m,(Qh P m h fun v h'=>res (shp P ty) v fun x=>K x st.b h')->Qh P m h fun v h'=>res (shp P ty) v fun x=>J x h':=
  fun m Hm w hs=>let ⟨v,w',h',h1,h2,h3,h4⟩:=Hm w hs;⟨v,w',h',h1,h2,h3,hR _ _ h4⟩
 have hcall:∀ f vs,(Qa P f vs h fun v h'=>res (shp P ty) v fun x=>K x st.b h')->Qa P f vs h fun v h'=>res (shp P ty) v fun x=>J x h':=
  fun f vs Hm w hs=>(Hm w hs).mono fun e w' ⟨v,h',h1,h2,h3,h4⟩=>⟨v,h',h1,h2,h3,hR _ _ h4⟩
 cases op with
 | call c=>
  obtain⟨callee,args,ts⟩:=c;cases callee with
  | builtin b=>
   simp only [Vd.vcE] at H ⊢;split at H
   ·cases b<;>first|exact H.elim|exact hsem _ H
   ·exact H.elim
  | value f=>
   cases f with
   | func g=>
    simp only [Vd.vcE] at H ⊢;split at H
    ·rename_i vs hvs;cases hb:(P.funcs[g]?).map (·.body.isSome) with
     | none=>rw [hb] at H;exact H.elim
     | some q=>
      rw [hb] at H;cases q with
      | true=>exact hcall _ _ H
      | false=>exact fun w hs=>let ⟨v,w',h',h1,h2,h3,h4⟩:=H w hs;⟨v,w',h',h1,h2,h3,hR _ _ h4⟩
    ·exact H.elim
   | tmp t=>
    simp only [Vd.vcE] at H ⊢;split at H
    ·obtain⟨f,pre,post,e,hfn,hcl⟩:=H;exact⟨f,pre,post,e,hfn,hcall _ _ hcl⟩
    ·exact H.elim
   | _=>exact H.elim
  | invoke r m=>exact H.elim
 | _=>cases hc
theorem Vv {o:Oper}{h:Hp}{K:St->Hp->Prop}(hE:isE P o.op=true):QG P cfg ops o st h K↔∃ g,gdO ops o=some g/\okG st g /\
  (coG st g->vcE P cfg o (chG st g) st h fun sv b h'=>Yc ⟨st.n,st.t,st.g,b⟩ o.dst (pgO o g)/\K (Qm ⟨st.n,st.t,st.g,b⟩ o.dst (pgO o g) sv) h') /\
  (¬ coG st g->Yc st o.dst g/\K (Qm st o.dst g (dfl (shp P o.type))) h):=by
 unfold QG gdO;cases hg:o.guard with
 | none=>
  have e0:pgO o none=none:=by unfold pgO;cases YS o.op<;>rfl
  simp only [hE,cX,bH,gU,okG,coG,chG,jL,not_true_eq_false,qF,true_implies,mH,Zl,e0]
 | some q=>
  obtain⟨j,p⟩:=q;simp only;cases hj:(ops[j]?).bind (·.dst) with
  | none=>simp
  | some s=>
   simp only [fD,bH,gU,okG,coG,chG,hE,cX];cases hok:okGd st 8 s with
   | false=>simp
   | true=>
    cases hC:YS o.op with
    | false=>
     have e0:pgO o (some (s,p))=none:=by unfold pgO;rw [hC];rfl
     simp only [cX,dM,jL,Zl,e0]
    | true=>
     have e0:pgO o (some (s,p))=some (s,p):=by unfold pgO;rw [hC];rfl
     simp only [cX,jL,e0];constructor
     ·rintro⟨J,H1,H2,H3⟩;exact⟨fun hc=>Ma hC (fun sv h' q1 q2=>Zl.1 (G8 (H3 h') q2 q1)) (H1 hc),fun hc=>Zl.1 (G8 (H3 h) (Qhs _) (H2 hc))⟩
     ·rintro⟨H1,H2⟩;exact⟨fun sv h'=>Yc st o.dst (some (s,p))/\K (Qm st o.dst (some (s,p)) sv) h',fun hc=>Qcj hC (fun sv h' q1=>q1) (H1 hc),fun hc=>H2 hc,fun h'=>Qll fun x hx=>Zl.2 hx⟩
theorem QkD {j i:Oper}{nj:Nat}(A:ZW ops j i)(W:WF st)(hi:isE P i.op=false){h:Hp}{fl:List Fg}{F:List Fg->St->Prop}
  (H:KR P ops nj j st h fl fun fl' s=>QG P cfg ops i s h fun s2 _=>F fl' s2):QG P cfg ops i st h fun s _=>KR P ops nj j s h fl fun fl' s2=>F fl' s2:=by
 obtain⟨gj,hgj,okj,pj,svj,vj,H⟩:=Yt.1 H;obtain⟨gi,hgi,oki,pi,svi,vi,H⟩:=(XY hi).1 H;obtain⟨e1,e2,_,_,_⟩:=NW (P:=P) A W hgi pj (v:=svj) (h:=h);have pi':=(YK A hgj hgi pj).1 pi;have A':ZW ops i j:=⟨A.yx,A.xy,fun d e hd he=>(A.ne e d he hd).symm⟩
 obtain⟨f1,f2,f3,_,_⟩:=NW (P:=P) A' W hgj pi' (v:=svi) (h:=h);refine(XY hi).2 ⟨gi,hgi,e1.1 oki,pi',svi,(e2 _).1 vi,?_⟩
 refine Yt.2 ⟨gj,hgj,f1.2 okj,(YK A' hgi hgj pi').2 pj,svj,(f2 _).2 vj,?_⟩
 rw [Xl A',f3];exact H
theorem QiO {o:Oper}{ch:List (Nat × Bool)}{st:St}(hA:isA o.op=true):∃ D:AD,∀ h K,vcE P cfg o ch st h K↔D.sem st.b h K:=by
 obtain⟨dst,op,ty,pos,af,gd⟩:=o;cases op with
 | alloc T=>
  simp only [vcE];split
  ·exact QbH
  ·exact⟨.no,fun h K=>dY⟩
 | box T x=>
  simp only [vcE];split
  ·exact QbH
  ·exact⟨.no,fun h K=>dY⟩
 | buildSlice T n parts=>
  simp only [vcE];split
  ·rename_i e ps hu hp;split
   ·rename_i z hz;rcases dC (Nat.ble 1 (szT P e)&&Nat.beq z.length (szT P e)&&Nat.ble (n*szT P e) 4096) with hc|hc
    ·rw [hc];simp only [cX];split
     ·rename_i cs _;rcases dC (QC cs) with ho|ho
      ·rw [ho];exact⟨.pub (fun b=>.t (.one (.v (.slice (some ⟨b,0,none⟩) n n)))) _,fun h K=>dY⟩
      ·rw [ho];exact⟨.no,fun h K=>dY⟩
     ·exact⟨.no,fun h K=>dY⟩
    ·rw [hc];exact⟨.no,fun h K=>dY⟩
   ·exact⟨.no,fun h K=>dY⟩
  ·exact⟨.no,fun h K=>dY⟩
 | _=>cases hA
theorem Qg2 {o:Oper}{ch:List (Nat × Bool)}{st:St}{h:Hp}{K:SV->List Box->Hp->Prop}(hA:isA o.op=true)(H:vcE P cfg o ch st h K):vcE P cfg o ch st h fun sv b h2=>(h.le h2/\∀(k:Nat)(x:Box),st.b[k]?=some x->b[k]?=some x)/\K sv b h2:=by
 obtain⟨D,hD⟩:=QiO (P:=P) (cfg:=cfg) (ch:=ch) (st:=st) hA;rw [hD] at H ⊢;cases D with
 | no=>exact H
 | pub f ob=>
  intro b hb;refine⟨⟨fun i p hp=>?_,fun _ _ e=>e⟩,H b hb⟩
  have:i≠b:=fun e=>by rw [e,hb] at hp;cases hp
  simp [Hp.set,this,hp]
 | prv sv bx=>
  refine⟨⟨fun _ _ e=>e,fun k x e=>?_⟩,H⟩
  rw [dO (bG.1 e).1]
  exact e
theorem Qko {j e:Oper}{nj:Nat}(A:ZW ops j e)(W:WF st)(he:isE P e.op=true){h:Hp}{fl:List Fg}{X:List Fg->St->St->Hp->Prop}{F:List Fg->St->Hp->Prop}{Z:St->Hp->Prop->Prop}
  (hZ:∀ s h2 {p q:Prop},(p->q)->Z s h2 p->Z s h2 q)
  (hX:∀ gj svj s2 h2,(h.le h2/\(∀(k:Nat)(x:Box),st.b[k]?=some x->s2.b[k]?=some x)\/isA e.op=false/\Qs st.b s2.b)->X (Z1 P j (chG st gj) (GG st gj) st nj svj fl) (Qm st j.dst gj svj) s2 h2->VS P gj j st h svj->(∀(k:Nat)(x:Box),boxR j st (chG st gj)=some k->st.b[k]?=some x->s2.b[k]?=some x) /\
   ((QY P j (chG st gj) st).hr=true->(QY P j (chG st gj) st).again P (GG st gj) h2 svj)/\∀ s,s.b=s2.b->Z s h2 (F (Z1 P j (chG st gj) (GG st gj) st nj svj fl) s2 h2))
  (H:KR P ops nj j st h fl fun fl' s=>QG P cfg ops e s h fun s2 h2=>X fl' s s2 h2) :
  QG P cfg ops e st h fun s h2=>Z s h2 (KR P ops nj j s h2 fl fun fl' s2=>F fl' s2 h2):=by
 obtain⟨gj,hgj,okj,pj,svj,vj,H⟩:=Yt.1 H;obtain⟨ge,hge,oke,H1,H2⟩:=(Vv he).1 H;obtain⟨e1,_,_,e4,e5⟩:=NW (P:=P) A W hge pj (v:=svj) (h:=h);have A':ZW ops e j:=⟨A.yx,A.xy,fun d e' hd he=>(A.ne e' d he hd).symm⟩
 have hbb:(Qm st j.dst gj svj).b=st.b:=Ym;have fin:∀ q b h2 sv,(q=none\/q=ge)->(h.le h2/\(∀(k:Nat)(x:Box),st.b[k]?=some x->b[k]?=some x)\/isA e.op=false/\Qs st.b b)->Yc st e.dst q ->
   X (Z1 P j (chG st gj) (GG st gj) st nj svj fl) (Qm st j.dst gj svj) (Qm ⟨(Qm st j.dst gj svj).n,(Qm st j.dst gj svj).t,(Qm st j.dst gj svj).g,b⟩ e.dst q sv) h2 ->
   Z (Qm ⟨st.n,st.t,st.g,b⟩ e.dst q sv) h2 (KR P ops nj j (Qm ⟨st.n,st.t,st.g,b⟩ e.dst q sv) h2 fl fun fl' s2=>F fl' s2 h2):=by
  intro q b h2 sv hqq hbx hpe hx;have hb2:(Qm ⟨(Qm st j.dst gj svj).n,(Qm st j.dst gj svj).t,(Qm st j.dst gj svj).g,b⟩ e.dst q sv).b=b:=Ym;obtain⟨y1,y2,y3⟩:=hX gj svj _ h2 (by rw [hb2];exact hbx) hx vj
  rw [hb2] at y1;exact hZ _ _ (fun hF=>QnK A' W hgj okj pj vj hge hqq y1 y2 hpe hF) (y3 _ (by rw [hb2];exact Ym))
 refine(Vv he).2 ⟨ge,hge,e1.1 oke,fun hc=>?_,fun hc=>?_⟩
 ·have:=H1 (by rw [e4];exact hc)
  rw [e5] at this;have this2:vcE P cfg e (chG st ge) (Qm st j.dst gj svj) h fun sv b h2=>(h.le h2/\(∀(k:Nat)(x:Box),st.b[k]?=some x->b[k]?=some x)\/isA e.op=false/\Qs st.b b) /\
    (Yc ⟨(Qm st j.dst gj svj).n,(Qm st j.dst gj svj).t,(Qm st j.dst gj svj).g,b⟩ e.dst (pgO e ge)/\X (Z1 P j (chG st gj) (GG st gj) st nj svj fl) (Qm st j.dst gj svj) (Qm ⟨(Qm st j.dst gj svj).n,(Qm st j.dst gj svj).t,(Qm st j.dst gj svj).g,b⟩ e.dst (pgO e ge) sv) h2):=by
   cases hAe:isA e.op with
   | true=>
    refine Wz ?_ (Qg2 hAe this)
    rintro sv b h2 _ ⟨⟨q1,q2⟩,q3⟩;rw [hbb] at q2;exact⟨.inl ⟨q1,q2⟩,q3⟩
   | false=>
    refine Wz ?_ this
    intro sv b h2 hbm q3;rw [hbb] at hbm;exact⟨.inr ⟨rfl,hbm⟩,q3⟩
  have hloc:∀ K,vcE P cfg e (chG st ge) (Qm st j.dst gj svj) h K=vcE P cfg e (chG st ge) st h K:=by
   intro K;rcases Wp (st:=st) (dst:=j.dst) (g:=gj) (x:=svj) with ⟨_,eq⟩|⟨d,hd,AG⟩
   ·rw [eq]
   ·exact Agr.vcE AG (fun z hz hze=>A.xy d hd (Q4 hz hze))
  rw [hloc] at this2;refine Wz ?_ this2
  rintro sv b h2 _ ⟨q0,q1,q2⟩;exact⟨XH (st:=st) (j:=j) (gj:=gj) (svj:=svj) (b:=b) q1,fin _ b h2 sv (Qnu e ge) q0 (XH (st:=st) (j:=j) (gj:=gj) (svj:=svj) (b:=b) q1) q2⟩
 ·obtain⟨q1,q2⟩:=H2 (by rw [e4];exact hc)
  have hpe:=XH (st:=st) (j:=j) (gj:=gj) (svj:=svj) (b:=(Qm st j.dst gj svj).b) q1;refine⟨hpe,fin ge st.b h (dfl (shp P e.type)) (.inr rfl) (.inl ⟨fun _ _ e=>e,fun _ _ e=>e⟩) hpe ?_⟩
  have:(⟨(Qm st j.dst gj svj).n,(Qm st j.dst gj svj).t,(Qm st j.dst gj svj).g,st.b⟩:St)=Qm st j.dst gj svj:=by rw [<-hbb]
  rw [this];exact q2
end
section
variable {P:Program}{cfg:Cfg}{ops:Array Oper}{ms:List Nat}
theorem JH {o:Oper}{st:St}{h:Hp}{K K':St->Hp->Prop}(hE:isE P o.op=false)(W:WF st)(H:QG P cfg ops o st h K)(hk:∀ s,WF s->K s h->K' s h):QG P cfg ops o st h K':=by
 obtain⟨g,h1,h2,h3,sv,h4,h5⟩:=(XY hE).1 H;exact(XY hE).2 ⟨g,h1,h2,h3,sv,h4,hk _ (U3 W) h5⟩
theorem Qae {o:Oper}{st:St}{h:Hp}{K K':St->Hp->Prop}(hE:isE P o.op=true)(H:QG P cfg ops o st h K)(hk:∀ s h',K s h'->K' s h'):QG P cfg ops o st h K':=by
 obtain⟨g,h1,h2,h3,h4⟩:=(Vv hE).1 H;exact(Vv hE).2 ⟨g,h1,h2,fun c=>Wz (fun sv b h' _ hb=>⟨hb.1,hk _ _ hb.2⟩) (h3 c),fun c=>⟨(h4 c).1,hk _ _ (h4 c).2⟩⟩
theorem ZZ {o:Oper}{st:St}{h:Hp}{K K':St->Hp->Prop}(H:QG P cfg ops o st h K)(hk:∀ s h',K s h'->K' s h'):QG P cfg ops o st h K':=by
 cases hE:isE P o.op with
 | true=>exact Qae hE H hk
 | false=>
  obtain⟨g,h1,h2,h3,sv,h4,h5⟩:=(XY hE).1 H;exact(XY hE).2 ⟨g,h1,h2,h3,sv,h4,hk _ _ h5⟩
theorem UM {i:Nat}{o:Oper}(ho:ops[i]?=some o)(hE:isE P o.op=true){l:List Nat}{fl:List Fg}{st:St}{h:Hp}{K:St->Hp->Prop} :
  vcD P cfg ops ms (i :: l) fl st h K↔QG P cfg ops o st h fun s h'=>rk (isA o.op) (ms.getD i 0) st.b s.b h' fl (vcD P cfg ops ms l fl s h' K):=by
 simp only [vcD,ho,hE,cX];cases isA o.op<;>exact dY
theorem UV {i:Nat}{o:Oper}(ho:ops[i]?=some o)(hE:isE P o.op=false){l:List Nat}{fl:List Fg}{st:St}{h:Hp}{K:St->Hp->Prop} :
  vcD P cfg ops ms (i :: l) fl st h K↔KR P ops i o st h fl fun fl' s=>vcD P cfg ops ms l fl' s h K:=by
 simp only [vcD,ho,hE,dM]
theorem U2:∀(l:List Nat) {fl fl':List Fg} {st:St} {h:Hp} {K:St->Hp->Prop},fl'.Sublist fl->vcD P cfg ops ms l fl st h K->vcD P cfg ops ms l fl' st h K
 | [],fl,fl',st,h,K,_,H=>H
 | i :: l,fl,fl',st,h,K,hf,H=>by
  cases ho:ops[i]? with
  | none=>simp [vcD,ho] at H
  | some o=>
   cases hE:isE P o.op with
   | true=>
    rw [UM ho hE] at H ⊢;refine ZZ H fun s h' hk=>?_
    cases hA:isA o.op with
    | true=>rw [hA] at hk;exact U2 l hf hk
    | false=>rw [hA] at hk;exact Qlg hf (Yd (U2 l hf) hk)
   | false=>
    rw [UV ho hE] at H ⊢;exact Qd4 (fun g sv s hk=>U2 l (Qgu hf) hk) H
inductive CD where
 | no|call (f:FuncId) (vs:List Value)|ext (f:FuncId) (vs:List Value)|sem (m:Sem Value)|inv (fv:Value) (vs:List Value)
def CD.ask (P:Program)(s:Sh)(h:Hp)(K:ShT):CD->Prop
 | .no=>False
 | .call f vs=>Qa P f vs h fun v h'=>res s v fun x=>K x h'
 | .ext f vs=>Qbk P f vs h fun v h'=>res s v fun x=>K x h'
 | .sem m=>Qh P m h fun v h'=>res s v fun x=>K x h'
 | .inv fv vs=>ZC P fv vs h fun v h'=>res s v fun x=>K x h'
theorem QiS {o:Oper}{ch:List (Nat × Bool)}{st:St}(hC:YS o.op=true):∃ D:CD,∀ b h K,vcE P cfg o ch ⟨st.n,st.t,st.g,b⟩ h K↔D.ask P (shp P o.type) h (fun x h'=>K x b h'):=by
 obtain⟨dst,op,ty,pos,af,gd⟩:=o;have hevs:∀ b l,(⟨st.n,st.t,st.g,b⟩:St).evs ch l=st.evs ch l:=by
  intro b l;induction l with
  | nil=>rfl
  | cons q l ih=>simp only [St.evs,ih];rfl
 have hev:∀ b x,(⟨st.n,st.t,st.g,b⟩:St).ev ch x=st.ev ch x:=fun b x=>rfl
 have none':(∀ b h K,vcE P cfg ⟨dst,op,ty,pos,af,gd⟩ ch ⟨st.n,st.t,st.g,b⟩ h K↔False)->∃ D:CD,∀ b h K,vcE P cfg ⟨dst,op,ty,pos,af,gd⟩ ch ⟨st.n,st.t,st.g,b⟩ h K↔D.ask P (shp P ty) h (fun x h'=>K x b h'):=fun h=>⟨.no,h⟩
 cases op with
 | call c=>
  obtain⟨callee,args,ts⟩:=c;cases callee with
  | invoke r m=>exact none' fun b h K=>dY
  | builtin bb=>
   simp only [vcE,hevs];cases hv:st.evs ch args.toList with
   | none=>exact⟨.no,fun b h K=>dY⟩
   | some vs=>
    cases bb with
    | append=>exact⟨.sem _,fun b h K=>dY⟩
    | copy=>exact⟨.sem _,fun b h K=>dY⟩
    | delete=>exact⟨.sem _,fun b h K=>dY⟩
    | clear=>exact⟨.sem _,fun b h K=>dY⟩
    | _=>exact⟨.no,fun b h K=>dY⟩
  | value f=>
   cases f with
   | func g=>
    simp only [vcE,hevs];cases hv:st.evs ch args.toList with
    | none=>exact⟨.no,fun b h K=>dY⟩
    | some vs=>
     simp only;cases hb:(P.funcs[g]?).map (·.body.isSome) with
     | none=>exact⟨.no,fun b h K=>dY⟩
     | some q=>
      cases q with
      | true=>exact⟨.call g vs,fun b h K=>dY⟩
      | false=>exact⟨.ext g vs,fun b h K=>dY⟩
   | tmp t=>
    simp only [vcE,hevs,hev];cases hv:st.evs ch args.toList with
    | none=>exact⟨.no,fun b h K=>dY⟩
    | some vs=>
     cases hf:(st.ev ch (.tmp t)).val? with
     | none=>exact⟨.no,fun b h K=>dY⟩
     | some fv=>exact⟨.inv fv vs,fun b h K=>dY⟩
   | const v=>exact none' fun b h K=>dY
   | global g=>exact none' fun b h K=>dY
 | _=>cases hC
theorem Jt {h h':Hp}{b:Nat}{ob:Obj}{w w':World}(hb:h b=none)(hs:Sub (h.set b ob) w)(hs':Sub h' w')(F:Fr h h' w w'):h' b=none/\Sub (h'.set b ob) w'/\Fr (h.set b ob) (h'.set b ob) w w':=by
 have h1:w.heap[b]?=some ob:=hs b ob (by simp [Hp.set])
 have hlt:b<w.heap.size:=(bV.1 h1).1
 obtain⟨k1,k2⟩:=F.keep b hlt hb;refine⟨k2,fun i o ho=>?_,F.os,F.tape,F.output,F.size,F.drawn,fun i hi hn=>?_⟩
 ·unfold Hp.set at ho;split at ho
  ·rename_i e;rw [e,k1,h1];exact ho
  ·exact hs' i o ho
 ·unfold Hp.set at hn ⊢;split at hn
  ·cases hn
  ·rename_i hne;rw [bE hne];exact F.keep i hi hn
theorem CD.mono {D:CD}{s:Sh}{h:Hp}{K K':ShT}(hk:∀ x h',K x h'->K' x h')(H:D.ask P s h K):D.ask P s h K':=by
 cases D with
 | no=>exact H
 | call f vs=>exact fun w hs=>(H w hs).mono fun e w' ⟨v,h',h1,h2,h3,h4⟩=>⟨v,h',h1,h2,h3,QL (fun x=>hk x h') h4⟩
 | ext f vs=>exact fun w hs=>let ⟨v,w',h',h1,h2,h3,h4⟩:=H w hs;⟨v,w',h',h1,h2,h3,QL (fun x=>hk x h') h4⟩
 | sem m=>exact fun w hs=>let ⟨v,w',h',h1,h2,h3,h4⟩:=H w hs;⟨v,w',h',h1,h2,h3,QL (fun x=>hk x h') h4⟩
 | inv fv vs=>
  obtain⟨f,pre,post,e,hf,H⟩:=H;exact⟨f,pre,post,e,hf,fun w hs=>(H w hs).mono fun e w' ⟨v,h',h1,h2,h3,h4⟩=>⟨v,h',h1,h2,h3,QL (fun x=>hk x h') h4⟩⟩
theorem CD.frame {D:CD}{s:Sh}{h:Hp}{b:Nat}{ob:Obj}{K:ShT}(hb:h b=none)(H:D.ask P s h K):D.ask P s (h.set b ob) fun x h2=>∃ h',h' b=none/\h2=h'.set b ob/\K x h':=by
 have hc:∀ f vs,(Qa P f vs h fun v h'=>res s v fun x=>K x h')->Qa P f vs (h.set b ob) fun v h2=>res s v fun x=>∃ h',h' b=none/\h2=h'.set b ob/\K x h':=by
  intro f vs H w hs;refine(H w (Kc hb hs)).mono fun e w' ⟨v,h',h1,h2,h3,h4⟩=>?_
  obtain⟨k1,k2,k3⟩:=Jt hb hs h2 h3;exact⟨v,_,h1,k2,k3,QL (fun x hx=>⟨h',k1,rfl,hx⟩) h4⟩
 cases D with
 | no=>exact H
 | call f vs=>exact hc f vs H
 | ext f vs=>
  intro w hs;obtain⟨v,w',h',h1,h2,h3,h4⟩:=H w (Kc hb hs);obtain⟨k1,k2,k3⟩:=Jt hb hs h2 h3;exact⟨v,w',_,h1,k2,k3,QL (fun x hx=>⟨h',k1,rfl,hx⟩) h4⟩
 | sem m=>
  intro w hs;obtain⟨v,w',h',h1,h2,h3,h4⟩:=H w (Kc hb hs);obtain⟨k1,k2,k3⟩:=Jt hb hs h2 h3;exact⟨v,w',_,h1,k2,k3,QL (fun x hx=>⟨h',k1,rfl,hx⟩) h4⟩
 | inv fv vs=>
  obtain⟨f,pre,post,e,hf,H⟩:=H;exact⟨f,pre,post,e,hf,hc _ _ H⟩
theorem CD.sub {D:CD}{s:Sh}{h:Hp}{K:ShT}(H:D.ask P s h K):D.ask P s h fun x h'=>(∃ w,Sub h' w)/\K x h':=by
 have hc:∀ f vs,(Qa P f vs h fun v h'=>res s v fun x=>K x h')->Qa P f vs h fun v h'=>res s v fun x=>(∃ w,Sub h' w)/\K x h':=
  fun f vs H w hs=>(H w hs).mono fun e w' ⟨v,h',h1,h2,h3,h4⟩=>⟨v,h',h1,h2,h3,QL (fun x hx=>⟨⟨w',h2⟩,hx⟩) h4⟩
 cases D with
 | no=>exact H
 | call f vs=>exact hc f vs H
 | ext f vs=>exact fun w hs=>let ⟨v,w',h',h1,h2,h3,h4⟩:=H w hs;⟨v,w',h',h1,h2,h3,QL (fun x hx=>⟨⟨w',h2⟩,hx⟩) h4⟩
 | sem m=>exact fun w hs=>let ⟨v,w',h',h1,h2,h3,h4⟩:=H w hs;⟨v,w',h',h1,h2,h3,QL (fun x hx=>⟨⟨w',h2⟩,hx⟩) h4⟩
 | inv fv vs=>
  obtain⟨f,pre,post,e,hf,H⟩:=H;exact⟨f,pre,post,e,hf,hc _ _ H⟩
theorem CD.ex {D:CD}{s:Sh}{h:Hp}{K:ShT}(hw:∃ w,Sub h w)(H:D.ask P s h K):∃ x h',K x h':=by
 obtain⟨w,hs⟩:=hw;have hr:∀ v h',(res s v fun x=>K x h')->∃ x h',K x h':=fun v h' hr=>let ⟨x,hx,_⟩:=XQ hr;⟨x,h',hx.2⟩
 have hc:∀ f vs,(Qa P f vs h fun v h'=>res s v fun x=>K x h')->∃ x h',K x h':=by intro f vs H;obtain⟨e,w',fr,⟨v,h',_,_,_,h4⟩,_⟩:=H w hs [];exact hr _ _ h4
 cases D with
 | no=>exact H.elim
 | call f vs=>exact hc f vs H
 | ext f vs=>obtain⟨v,w',h',h1,h2,h3,h4⟩:=H w hs;exact hr _ _ h4
 | sem m=>obtain⟨v,w',h',h1,h2,h3,h4⟩:=H w hs;exact hr _ _ h4
 | inv fv vs=>
  obtain⟨f,pre,post,e,hf,H⟩:=H;exact hc _ _ H
theorem ZK {o:Oper}{st:St}{h:Hp}{K:St->Hp->Prop}(hE:isE P o.op=true)(hg:o.guard=none):QG P cfg ops o st h K↔vcE P cfg o [] st h fun sv b h'=>Yc st o.dst none/\K (Qm ⟨st.n,st.t,st.g,b⟩ o.dst none sv) h':=by
 unfold QG;rw [hg];simp only [hE,cX,Zl];exact dY
theorem QkH {c e:Oper}{st:St}{m:Nat}(A:ZW ops c e)(W:WF st)(hac:AC e c)(hEc:isE P c.op=true)(hEe:isE P e.op=true){h:Hp}{fl:List Fg}{F:St->Hp->Prop}(hf:FM fl)(hw:∃ w,Sub h w)
  (H:QG P cfg ops c st h fun s1 h1=>agn m st.b s1.b h1 fl (QG P cfg ops e s1 h1 fun s2 h2=>F s2 h2)) :
  QG P cfg ops e st h fun s h'=>QG P cfg ops c s h' fun s2 h2=>agn m s.b s2.b h2 fl (F s2 h2):=by
 obtain⟨hA,hge,hC,hgc⟩:=hac;have A':ZW ops e c:=⟨A.yx,A.xy,fun d e hd he=>(A.ne e d he hd).symm⟩
 obtain⟨DC,hDC⟩:=QiS (P:=P) (cfg:=cfg) (o:=c) (ch:=[]) (st:=st) hC;obtain⟨DA,hDA⟩:=QiO (P:=P) (cfg:=cfg) (o:=e) (ch:=[]) (st:=st) hA;rw [ZK hEc hgc,show st=⟨st.n,st.t,st.g,st.b⟩ from rfl,hDC] at H
 have hloc:∀ x h1 K,vcE P cfg e [] (Qm st c.dst none x) h1 K=vcE P cfg e [] st h1 K:=by
  intro x h1 K;rcases Wp (st:=st) (dst:=c.dst) (g:=none) (x:=x) with ⟨_,eq⟩|⟨d,hd,AG⟩
  ·rw [eq]
  ·exact Agr.vcE AG (fun z hz hze=>A.xy d hd (Q4 hz hze))
 have hloc2:∀ x b h1 K,vcE P cfg c [] (Qm ⟨st.n,st.t,st.g,b⟩ e.dst none x) h1 K=vcE P cfg c [] ⟨st.n,st.t,st.g,b⟩ h1 K:=by
  intro x b h1 K;rcases Wp (st:=⟨st.n,st.t,st.g,b⟩) (dst:=e.dst) (g:=none) (x:=x) with ⟨_,eq⟩|⟨d,hd,AG⟩
  ·rw [eq]
  ·exact Agr.vcE AG (fun z hz hze=>A'.xy d hd (Q4 hz hze))
 have H2:DC.ask P (shp P c.type) h fun x h1=>Yc st c.dst none/\agn m st.b st.b h1 fl (DA.sem st.b h1 fun sv b h2=>Yc (Qm st c.dst none x) e.dst none/\F (Qm ⟨(Qm st c.dst none x).n,(Qm st c.dst none x).t,(Qm st c.dst none x).g,b⟩ e.dst none sv) h2):=by
  refine CD.mono (fun x h1 hx=>⟨hx.1,?_⟩) H
  have hx2:=hx.2;rw [Ym] at hx2;refine Yd (fun hv=>?_) hx2
  rw [ZK hEe hge,hloc,hDA] at hv;exact hv
 have pc:Yc st c.dst none:=let ⟨_,_,hx⟩:=CD.ex hw H2;hx.1
 have ne:DA≠.no:=by intro e;obtain⟨x,h1,_,hx⟩:=CD.ex hw H2;rw [e] at hx;exact NK hx
 rw [ZK hEe hge,hDA];cases DA with
 | no=>exact(ne rfl).elim
 | pub f ob=>
  have pe:Yc st e.dst none:=by obtain⟨x,h1,⟨w,hs⟩,_,hx⟩:=CD.ex hw (CD.sub H2);have:=NK hx w.heap.size hs.none;exact XH (st:=st) (j:=c) (gj:=none) (svj:=x) (b:=(Qm st c.dst none x).b) this.1
  intro b hb;refine⟨pe,?_⟩
  rw [ZK hEc hgc,hloc2,hDC];refine CD.mono (fun x h2 hx=>?_) (CD.frame hb H2)
  obtain⟨h1,hb1,rfl,hx1,hx2⟩:=hx;refine⟨?_,?_⟩
  ·exact(YK (st:=st) A' (gx:=none) (gy:=none) (by simp [gdO,hge]) (by simp [gdO,hgc]) pe).2 pc
  ·rw [Ym,Ym];refine Yd (fun hv=>?_) (Qfj (Hp.le_set' hb1 ob) hf hx2)
   have:=(hv b hb1).2;rw [Ms] at this ⊢;rw [Xl A' (gx:=none) (gy:=none)];exact this
 | prv sv bx=>
  have pe:Yc st e.dst none:=by obtain⟨x,h1,_,hx⟩:=CD.ex hw H2;have:=NK hx;exact XH (st:=st) (j:=c) (gj:=none) (svj:=x) (b:=(Qm st c.dst none x).b) this.1
  refine⟨pe,?_⟩
  rw [ZK hEc hgc,hloc2,hDC];refine CD.mono (fun x h1 hx=>?_) H2
  obtain⟨hx1,hx2⟩:=hx;refine⟨?_,?_⟩
  ·exact(YK (st:=⟨st.n,st.t,st.g,st.b++[bx]⟩) A' (gx:=none) (gy:=none) (by simp [gdO,hge]) (by simp [gdO,hgc]) pe).2 pc
  ·rw [Ym,Ym];refine Yd (fun hv=>?_) (Qfx (x:=bx) hx2)
   have:=hv.2;rw [Ms] at this ⊢;rw [Xl A' (gx:=none) (gy:=none)];exact this
theorem Qey {o:Oper}{ch:List (Nat × Bool)}{st:St}(hB:isB cfg o=true):(∀ h K,¬ vcE P cfg o ch st h K)\/∃(f:Nat->SV)(ob:Obj),∀ h K,vcE P cfg o ch st h K↔∀ b,h b=none->K (f b) st.b (h.set b ob):=by
 obtain⟨dst,op,ty,pos,af,gd⟩:=o;have key:∀{o:Oper} {t:TypeId} {cs:List TV},Qbh cfg o.dst=true->(∀(h:Hp)(K:SV->List Box->Hp->Prop),¬ newBox cfg o st h t cs K)\/∃(f:Nat->SV)(ob:Obj),∀ h K,newBox cfg o st h t cs K↔∀ b,h b=none->K (f b) st.b (h.set b ob):=by
  intro o t cs hp;unfold newBox;rw [hp];cases QC cs with
  | false=>exact .inl fun h K q=>q
  | true=>exact .inr ⟨fun b=>.t (.one (.hp b 0)),_,fun h K=>dY⟩
 unfold isB at hB;cases op with
 | alloc T=>
  simp only [vcE];split
  ·exact key hB
  ·exact .inl fun h K q=>q
 | box T x=>
  simp only [vcE];split
  ·exact key hB
  ·exact .inl fun h K q=>q
 | buildSlice T n parts=>
  simp only [vcE];split
  ·rename_i e ps hu hp;split
   ·rename_i z hz;rcases dC (Nat.ble 1 (szT P e)&&Nat.beq z.length (szT P e)&&Nat.ble (n*szT P e) 4096) with hc|hc
    ·rw [hc];simp only [cX];split
     ·rename_i cs _;rcases dC (QC cs) with ho|ho
      ·rw [ho];exact .inr ⟨fun b=>.t (.one (.v (.slice (some ⟨b,0,none⟩) n n))),_,fun h K=>dY⟩
      ·rw [ho];exact .inl fun h K q=>q
     ·exact .inl fun h K q=>q
    ·rw [hc];exact .inl fun h K q=>q
   ·exact .inl fun h K q=>q
  ·exact .inl fun h K q=>q
 | _=>cases hB
theorem QkZ {c e:Oper}{st:St}(A:ZW ops c e)(W:WF st)(hab:AB cfg e c)(hEc:isE P c.op=true)(hEe:isE P e.op=true){h:Hp}{F:St->Hp->Prop}(hw:∃ w,Sub h w)
  (H:QG P cfg ops c st h fun s1 h1=>QG P cfg ops e s1 h1 fun s2 h2=>F s2 h2) :
  QG P cfg ops e st h fun s h'=>QG P cfg ops c s h' fun s2 h2=>F s2 h2:=by
 obtain⟨hBe,hge,hBc,hgc⟩:=hab;have A':ZW ops e c:=⟨A.yx,A.xy,fun d e hd he=>(A.ne e d he hd).symm⟩
 rw [ZK hEc hgc] at H;have hloc:∀ x h1 K,vcE P cfg e [] (Qm st c.dst none x) h1 K=vcE P cfg e [] st h1 K:=by
  intro x h1 K;rcases Wp (st:=st) (dst:=c.dst) (g:=none) (x:=x) with ⟨_,eq⟩|⟨d,hd,AG⟩
  ·rw [eq]
  ·exact Agr.vcE AG (fun z hz hze=>A.xy d hd (Q4 hz hze))
 have hloc2:∀ x h1 K,vcE P cfg c [] (Qm st e.dst none x) h1 K=vcE P cfg c [] st h1 K:=by
  intro x h1 K;rcases Wp (st:=st) (dst:=e.dst) (g:=none) (x:=x) with ⟨_,eq⟩|⟨d,hd,AG⟩
  ·rw [eq]
  ·exact Agr.vcE AG (fun z hz hze=>A'.xy d hd (Q4 hz hze))
 have eb:∀(d:Option Nat)(x:SV),(⟨(Qm st d none x).n,(Qm st d none x).t,(Qm st d none x).g,st.b⟩:St)=Qm st d none x:=by intro d x;have e1:=Ym (st:=st) (dst:=d) (g:=none) (x:=x);generalize Qm st d none x=s at e1;obtain⟨n,t,g,b⟩:=s;simp only at e1;rw [e1]
 rcases Qey (P:=P) (cfg:=cfg) (o:=c) (ch:=[]) (st:=st) hBc with hn|⟨fc,oc,hc⟩
 ·exact(hn _ _ H).elim
 rcases Qey (P:=P) (cfg:=cfg) (o:=e) (ch:=[]) (st:=st) hBe with hn|⟨fe,oe,he⟩
 ·rw [hc] at H;obtain⟨b,hb,_⟩:=Qa8 hw 0;have q2:QG P cfg ops e (Qm st c.dst none (fc b)) (h.set b oc) F:=(H b hb).2;rw [ZK hEe hge,hloc] at q2;exact(hn _ _ q2).elim
 rw [hc] at H;have H2:∀ b,h b=none->Yc st c.dst none/\∀ b2,(h.set b oc) b2=none->Yc (Qm st c.dst none (fc b)) e.dst none/\F (Qm (Qm st c.dst none (fc b)) e.dst none (fe b2)) ((h.set b oc).set b2 oe):=by
  intro b hb;refine⟨(H b hb).1,?_⟩
  have q2:QG P cfg ops e (Qm st c.dst none (fc b)) (h.set b oc) F:=(H b hb).2;rw [ZK hEe hge,hloc,he] at q2;intro b2 hb2;have q3:=q2 b2 hb2;rw [eb] at q3;exact q3
 have sset:∀{b b2:Nat} {o o2:Obj},b≠b2->(h.set b o).set b2 o2=(h.set b2 o2).set b o:=by
  intro b b2 o o2 hne;funext i
  simp only [Hp.set];by_cases h1:i=b2
  ·by_cases h2:i=b
   ·exact(hne (h2.symm.trans h1)).elim
   ·simp [h1];intro q;exact(hne q.symm).elim
  ·simp [h1]
 have nn:∀{b b2:Nat} {o:Obj},(h.set b o) b2=none->b2≠b/\h b2=none:=by
  intro b b2 o hq;unfold Hp.set at hq;split at hq
  ·cases hq
  ·rename_i h1;exact⟨h1,hq⟩
 rw [ZK hEe hge,he];intro b2 hb2;obtain⟨b0,hb0,hne0⟩:=Qa8 hw b2;have pc:=(H2 b0 hb0).1;have pe:Yc st e.dst none:=by
  have:=((H2 b0 hb0).2 b2 (by simp [Hp.set,hne0.symm,hb2])).1
  exact(YK (st:=st) A (gx:=none) (gy:=none) (by simp [gdO,hgc]) (by simp [gdO,hge]) pc).1 this
 refine⟨pe,?_⟩
 show QG P cfg ops c (Qm st e.dst none (fe b2)) (h.set b2 oe) F;rw [ZK hEc hgc,hloc2,hc];intro b hb;obtain⟨hne,hbh⟩:=nn hb;have q:=(H2 b hbh).2 b2 (by simp [Hp.set,hne.symm,hb2])
 refine⟨(YK (st:=st) A' (gx:=none) (gy:=none) (by simp [gdO,hge]) (by simp [gdO,hgc]) pe).2 pc,?_⟩
 rw [eb,Xl A' (gx:=none) (gy:=none),<-sset hne];exact q.2
theorem exV {i:Nat}{oi:Oper}(hi:ops[i]?=some oi)(hEi:isE P oi.op=false):∀(A:List Nat) {B:List Nat} {fl:List Fg} {st:St} {h:Hp} {K:St->Hp->Prop},WF st ->
  (∀ j ∈ A,∀ oj,ops[j]?=some oj->isE P oj.op=false/\ZW ops oi oj)->vcD P cfg ops ms (A++i :: B) fl st h K->QG P cfg ops oi st h fun s _=>vcD P cfg ops ms (A++B) fl s h K
 | [],B,fl,st,h,K,W,hA,H=>by
  rw [dE,UV hi hEi] at H;obtain⟨g,h1,h2,h3,sv,h4,h5⟩:=Yt.1 H;exact(XY hEi).2 ⟨g,h1,h2,h3,sv,h4,U2 B Qfh h5⟩
 | j :: A,B,fl,st,h,K,W,hA,H=>by
  cases hj:ops[j]? with
  | none=>simp [vcD,hj] at H
  | some oj=>
   obtain⟨hEj,hap⟩:=hA j (by simp) oj hj
   rw [dA,UV hj hEj] at H;have H2:KR P ops j oj st h fl fun fl' s=>QG P cfg ops oi s h fun s2 _=>vcD P cfg ops ms (A++B) fl' s2 h K:=
    Ve W (fun g sv s Ws hk=>exV hi hEi A Ws (fun k hk'=>hA k (by simp [hk'])) hk) H
   have hap':ZW ops oj oi:=⟨hap.yx,hap.xy,fun d e hd he=>(hap.ne e d he hd).symm⟩
   have H3:=QkD (F:=fun fl' s2=>vcD P cfg ops ms (A++B) fl' s2 h K) hap' W hEi H2
   refine JH hEi W H3 fun s Ws hk=>?_
   rw [dA,UV hj hEj];exact hk
theorem exE {i:Nat}{oi:Oper}(hi:ops[i]?=some oi)(hEi:isE P oi.op=true):∀(A:List Nat) {B:List Nat} {fl:List Fg} {st:St} {h:Hp} {K:St->Hp->Prop},WF st->FM fl->(∃ w,Sub h w) ->
  (∀ j ∈ A,bit (ms.getD i 0) j=false/\∀ oj,ops[j]?=some oj->((isE P oj.op=false\/AC oi oj)\/AB cfg oi oj)/\ZW ops oi oj)->vcD P cfg ops ms (A++i :: B) fl st h K ->
  QG P cfg ops oi st h fun s h2=>rk (isA oi.op) (ms.getD i 0) st.b s.b h2 fl (vcD P cfg ops ms (A++B) fl s h2 K)
 | [],B,fl,st,h,K,W,hf,hw,hA,H=>by
  rw [dE,UM hi hEi] at H;exact H
 | j :: A,B,fl,st,h,K,W,hf,hw,hA,H=>by
  cases hj:ops[j]? with
  | none=>simp [vcD,hj] at H
  | some oj=>
   obtain⟨hbit,hA1⟩:=hA j (by simp)
   obtain⟨hEj,hap⟩:=hA1 oj hj;have hap':ZW ops oj oi:=⟨hap.yx,hap.xy,fun d e hd he=>(hap.ne e d he hd).symm⟩
   cases hEj':isE P oj.op with
   | false=>
    rw [dA,UV hj hEj'] at H;have H2:KR P ops j oj st h fl fun fl' s=>QG P cfg ops oi s h fun s2 h2=>(FM fl'->rk (isA oi.op) (ms.getD i 0) s.b s2.b h2 fl' (vcD P cfg ops ms (A++B) fl' s2 h2 K)):=by
     refine Ve W (fun g sv s Ws hk=>?_) H
     exact ZZ (exE hi hEi A Ws (QdA hf) hw (fun k hk'=>hA k (by simp [hk'])) hk) fun s2 h2 hq _=>hq
    have H3:=Qko (F:=fun fl' s2 h2=>vcD P cfg ops ms (A++B) fl' s2 h2 K) (X:=fun fl' s s2 h2=>FM fl'->rk (isA oi.op) (ms.getD i 0) s.b s2.b h2 fl' (vcD P cfg ops ms (A++B) fl' s2 h2 K))
     (Z:=fun s h2 p=>rk (isA oi.op) (ms.getD i 0) st.b s.b h2 fl p) hap' W hEi (fun s h2 p q hpq hz=>Qdz hpq hz) ?_ H2
    ·refine ZZ H3 fun s h2 hk=>Qdz (fun hv=>?_) hk
     rw [dA,UV hj hEj'];exact hv
    ·intro gj svj s2 h2 hbx hx vj;have hx:=hx (QdA hf);rw [Ym] at hx;cases hAe:isA oi.op with
     | true=>
      rw [hAe] at hx hbx;rcases hbx with ⟨hl,hb⟩|⟨hb,_⟩
      ·refine⟨fun k x _=>hb k x,fun _=>VD.again_le (QhF st gj) hl (VD.sem_again vj),fun s hs=>hx⟩
      ·cases hb
     | false=>
      rw [hAe] at hx;obtain⟨y1,y2,y3⟩:=Qjx hbit hx;refine⟨fun k x hk hkx=>?_,y2,fun s hs=>by rw [hs];exact y3⟩
      rcases hbx with ⟨_,hb⟩|⟨_,hb⟩
      ·exact hb k x hkx
      ·exact Qdb (y1 k hk) hb hkx
   | true=>
    by_cases hab:AB cfg oi oj
    ·have hAj:=QgS hab.2.2.1;have hAi:=QgS hab.1;rw [dA,UM hj hEj',hAj] at H;rw [hAi];have H2:QG P cfg ops oj st h fun s1 h1=>QG P cfg ops oi s1 h1 fun s2 h2=>vcD P cfg ops ms (A++B) fl s2 h2 K:=by
      rw [ZK hEj' hab.2.2.2] at H ⊢;rcases Qey (P:=P) (cfg:=cfg) (o:=oj) (ch:=[]) (st:=st) hab.2.2.1 with hn|⟨f,ob,hc⟩
      ·exact(hn _ _ H).elim
      rw [hc] at H ⊢;intro b hb;refine⟨(H b hb).1,?_⟩
      have:=exE hi hEi A (st:=Qm st oj.dst none (f b)) (U3 W) hf (Qgl hw hb ob) (fun k hk'=>hA k (by simp [hk'])) (H b hb).2
      rw [hAi] at this;exact this
     have H3:=QkZ (F:=fun s2 h2=>vcD P cfg ops ms (A++B) fl s2 h2 K) hap' W hab hEj' hEi hw H2
     refine ZZ H3 fun s h2 hk=>?_
     show vcD P cfg ops ms (j :: A++B) fl s h2 K;rw [dA,UM hj hEj',hAj];exact hk
    have hac:AC oi oj:=by
     rcases hEj with (h1|h1)|h1
     ·rw [h1] at hEj';cases hEj'
     ·exact h1
     ·exact absurd h1 hab
    have hnA:isA oj.op=false:=by have:=hac.2.2.1;cases ho:oj.op<;>rw [ho] at this<;>first|rfl|cases this
    rw [dA,UM hj hEj',hnA] at H;rw [hac.1];have H2:QG P cfg ops oj st h fun s1 h1=>agn (ms.getD j 0) st.b s1.b h1 fl (QG P cfg ops oi s1 h1 fun s2 h2=>vcD P cfg ops ms (A++B) fl s2 h2 K):=by
     rw [ZK hEj' hac.2.2.2] at H ⊢;obtain⟨DC,hDC⟩:=QiS (P:=P) (cfg:=cfg) (o:=oj) (ch:=[]) (st:=st) hac.2.2.1;rw [show st=⟨st.n,st.t,st.g,st.b⟩ from rfl,hDC] at H ⊢
     refine CD.mono (fun x h1 hx=>?_) (CD.sub H)
     refine⟨hx.2.1,Yd (fun hv=>?_) hx.2.2⟩
     have:=exE hi hEi A (st:=Qm st oj.dst none x) (U3 W) hf hx.1 (fun k hk'=>hA k (by simp [hk'])) hv
     rw [hac.1] at this;exact this
    have H3:=QkH (F:=fun s2 h2=>vcD P cfg ops ms (A++B) fl s2 h2 K) hap' W hac hEj' hEi hf hw H2
    refine ZZ H3 fun s h2 hk=>?_
    show vcD P cfg ops ms (j :: A++B) fl s h2 K;rw [dA,UM hj hEj',hnA];exact hk
theorem Qbo (hP:WZ P){w0:World}{h0:Hp}{K:St->Hp->Prop}{Q:Exit->Act->World->Prop}{st0:St}{D:List Nat}(hD:∀(i:Nat)(o:Oper),ops[i]?=some o->∀ d,o.dst=some d->d ∈ D)
  (hms:∀ listed:Array Bool,DC ops listed->∀(k:Nat)(o:Oper),ops[k]?=some o->(∀ e ∈ o.after,Region.binds .any e=true->listed.getD e.on false=true)->∀ j,bit (ms.getD k 0) j=true->listed.getD j false=true)
  (hQ:∀ st' h' a' w',K st' h'->Rel w0 h0 st' h' a' w'->Ev D st0 st'->Q .normal a' w') :
  ∀(n:Nat) {L:List Nat} {fl:List Fg} {st:St} {h:Hp} {a:Act} {w:World} {listed:Array Bool},FM fl->L.length=n->listed.size=ops.size->(∀ i,i<ops.size->(listed.getD i true=false↔i ∈ L))->(∀ i ∈ L,i<ops.size)->L.Nodup->L.Pairwise (PR (P:=P) (cfg:=cfg) ops ms)->DC ops listed ->
   (∀(i:Nat)(o:Oper),ops[i]?=some o->∀ e ∈ o.after,Region.binds .any e=true->e.on<ops.size/\e.on≠i) ->
   Rel w0 h0 st h a w->Ev D st0 st->vcD P cfg ops ms L fl st h K->wpAny P .any ops Q n listed a w
 | 0,L,fl,st,h,a,w,listed,hfm,hn,hsz,hL,hlt,hnd,hpw,hdc,hin,R,E,H=>by
  obtain rfl:=dR hn;refine⟨?_,hQ st h a w H R E⟩
  cases hr:Region.ready .any ops listed with
  | nil=>rfl
  | cons i l=>
   have:i ∈ Region.ready .any ops listed:=by rw [hr];simp
   obtain⟨h1,o,ho,_⟩:=mem_ready.1 this;have:=(hL i (bV.1 ho).1).1 h1
   simp at this
 | n+1,L,fl,st,h,a,w,listed,hfm,hn,hsz,hL,hlt,hnd,hpw,hdc,hin,R,E,H=>by
  have hlist:∀ i,i<ops.size->i ∉ L->listed.getD i false=true:=by
   intro i hi hm;have hb:listed.getD i true=listed[i]'(by omega):=by simp [show i<listed.size by omega]
   have hb':listed.getD i false=listed[i]'(by omega):=by simp [show i<listed.size by omega]
   rw [hb',<-hb];cases hq:listed.getD i true with
   | true=>rfl
   | false=>exact(hm ((hL i hi).1 hq)).elim
  refine⟨?_,?_⟩
  ·intro hr;match L,hn with
   | x :: L',_=>
    have hx:=hlt x (by simp)
    obtain⟨ox,hox⟩:∃ o,ops[x]?=some o:=⟨ops[x],by simp [hx]⟩
    have:x ∈ Region.ready .any ops listed:=by
     refine mem_ready.2 ⟨(hL x hx).2 (by simp),ox,hox,fun e he hb=>?_⟩
     refine hlist _ (hin x ox hox e he hb).1 ?_
     intro hm;rcases bS.1 hm with hm|hm
     ·exact(hin x ox hox e he hb).2 hm
     ·exact((fA.1 hpw).1 _ hm).dep ox hox e he hb rfl
    rw [hr] at this;simp at this
  ·intro i hi;obtain⟨hl1,oi,hoi,hdeps⟩:=mem_ready.1 hi;have hil:i<ops.size:=(bV.1 hoi).1
   have hiL:=(hL i hil).1 hl1;obtain⟨A,B,rfl⟩:=List.append_of_mem hiL;have hmask:=hms listed hdc i oi hoi hdeps;have hunl:∀ j ∈ A,bit (ms.getD i 0) j=false:=by
    intro j hj;cases hb:bit (ms.getD i 0) j with
    | false=>rfl
    | true=>
     have h1:=hmask j hb;have h2:=(hL j (hlt j (by simp [hj]))).2 (by simp [hj])
     have hjs:j<listed.size:=by rw [hsz];exact hlt j (by simp [hj])
     simp [hjs] at h1 h2;rw [h1] at h2;simp at h2
   have hpr:∀ j ∈ A,PR (P:=P) (cfg:=cfg) ops ms j i:=fun j hj=>(mE.1 hpw).2.2 j hj i (by simp)
   obtain⟨ρ,R0⟩:=R;have W:WF st:=fun i s p x hi=>R0.gd i s p x hi
   have R:Rel w0 h0 st h a w:=⟨ρ,R0⟩;have Hop:QG P cfg ops oi st h fun s h2=>vcD P cfg ops ms (A++B) fl s h2 K:=by
    cases hE:isE P oi.op with
    | true=>
     refine ZZ (exE hoi hE A W hfm ⟨w,R0.sub⟩ (fun j hj=>⟨hunl j hj,fun oj hoj=>(hpr j hj).un (hunl j hj) oj oi hoj hoi⟩) H) fun s h2 hk=>QqG hk
    | false=>
     refine JH hE W (exV hoi hE A W (fun j hj oj hoj=>?_) H) fun s _ hk=>hk
     obtain⟨q1,q2⟩:=(hpr j hj).un (hunl j hj) oj oi hoj hoi;refine⟨?_,q2⟩
     rcases q1 with (q1|q1)|q1
     ·exact q1
     all_goals
      exfalso;have:isA oi.op=true:=by first|exact q1.1|exact QgS q1.1
      cases ho:oi.op<;>rw [ho] at this hE<;>first|(cases hE;done)|(cases this;done)
   unfold wpOp;rw [hoi];refine Jp hP R Hop ?_
   intro st' h' a' w' hk R' E';have hnd':=jV.1 hnd;refine Qbo hP hD hms hQ n hfm (by simp at hn ⊢;omega) (by simp [hsz]) ?_ ?_ ?_ ?_ ?_ hin R' (E.trans (E'.mono ?_)) hk
   ·intro k hk;by_cases hki:i=k
    ·subst hki;have hnm:i ∉ A++B:=by
      rw [jV] at hnd;simp only [bU,not_or];refine⟨fun hm=>hnd.2.2 i hm i (by simp) rfl,?_⟩
      have:=(f8.1 hnd.2.1).1;exact this
     simp only [hnm,iff_false];simp [hsz,hk]
    ·rw [getD_set_ne true hki,hL k hk];simp only [bU,bS];constructor
     ·rintro(h1|h1|h1)
      ·exact .inl h1
      ·exact(hki h1.symm).elim
      ·exact .inr h1
     ·rintro(h1|h1)
      ·exact .inl h1
      ·exact .inr (.inr h1)
   ·intro k hk;exact hlt k (by simp only [bU,bS] at hk ⊢;rcases hk with h1|h1<;>simp [h1])
   ·exact hnd.sublist (kR (jH A) (fX i B))
   ·exact hpw.sublist (kR (jH A) (fX i B))
   ·intro k o ho hlk e he hb;by_cases hki:i=k
    ·subst hki;rw [hoi] at ho;obtain rfl:=cU ho;exact getD_set_true (hdeps e he hb)
    ·rw [getD_set_ne false hki] at hlk;exact getD_set_true (hdc k o ho hlk e he hb)
   ·intro d hd;cases hod:oi.dst with
    | none=>rw [hod] at hd;simp [GE] at hd
    | some x=>rw [hod] at hd;simp [GE] at hd;subst hd;exact hD i oi hoi d hod
theorem QhY (hP:WZ P)(hm:P.follows .mixedOrders=true){id:Nat}{l:List Nat}{w0:World}{h0:Hp}{st:St}{h:Hp}{a:Act}{w:World}{K:St->Hp->Prop}{Q:Exit->Act->World->Prop}
  (hchk:KK P cfg ops (Nn ops.toList []) [] l=true) (hin:Qbe ops.size l=true) (R:Rel w0 h0 st h a w) (H:vcD P cfg ops (Nn ops.toList []) l [] st h K)
  (hQ:∀ st' h' a' w',K st' h'->Rel w0 h0 st' h' a' w'->Ev (Yr ops.toList) st st'->Q .normal a' w'):(Code.region id ops true).wp P Q a w:=by
 obtain⟨k1,k2,k3,k4,k5⟩:=GN (ops:=ops) (ms:=Nn ops.toList []) hchk (by simp) j6 (by simp)
 have hlen:l.length=ops.size:=by simpa using k4
 have hall:∀ i,i<ops.size->i ∈ l:=by intro i hi;exact QaH hin i hi
 obtain⟨ρ,R0⟩:=R;have R1:Rel w0 h0 st h a { w with drawn:=w.drawn+1 }:=
  ⟨ρ,R0.step (h':=h) (w':={ w with drawn:=w.drawn+1 }) R0.sub ⟨rfl,rfl,rfl,cB _,Nat.le_succ _,fun b hb hn=>⟨rfl,hn⟩⟩⟩
 refine wp_region_any hm ?_
 refine Qbo hP (D:=Yr ops.toList) (st0:=st) ?_ ?_ hQ ops.size (L:=l) (fl:=[]) (fun f hf=>by simp at hf) hlen (by simp) ?_ (fun i hi=>(k2 i hi).1) k3 k1 ?_ ?_ R1 (qN _ _) H
 ·intro i o ho d hd;have:∀(m:List Oper),o ∈ m->d ∈ Yr m:=by
   intro m;induction m with
   | nil=>simp
   | cons x m ih=>
    intro hm;rcases bS.1 hm with rfl|hm
    ·simp [Yr,hd]
    ·exact Qfo (ih hm)
  exact this _ (by simpa using mB ho)
 ·intro listed hdc k o ho hall' j hj;refine Qca ops.toList [] 0 rfl (fun i o hi=>by simpa using hi) hdc (fun d _ j hj=>?_) (fun k o hk=>by omega) k o ho hall' j hj
  simp [List.getD,GX] at hj
 ·intro i hi;simp [hall i hi,hi]
 ·intro k o ho hlk;exfalso;by_cases hk:k<ops.size<;>simp [hk] at hlk
 ·intro i o ho e he hb;exact k5 i (hall i (bV.1 ho).1) o ho e he hb
end
section
variable {P:Program}{cfg:Cfg}{w0:World}{h0:Hp}
theorem Gf (hP:WZ P){ops:Array Oper}{Q:Exit->Act->World->Prop}:∀(l:List Oper) {st:St} {h:Hp} {a:Act} {w:World} {K:St->Hp->Prop},Rel w0 h0 st h a w->Qbw P cfg ops l st h K ->
  (∀ st' h' a' w',K st' h'->Rel w0 h0 st' h' a' w'->Ev (Yr l) st st'->Q .normal a' w')->wpList P ops Q l a w
 | [],st,h,a,w,K,R,H,hn=>hn st h a w H R (qN _ _)
 | o :: l,st,h,a,w,K,R,H,hn=>by
  refine Qhk hP R (show QG P cfg ops o st h _ from H) ?_
  intro st' h' a' w' hk R' E';refine Gf hP l R' hk ?_
  intro st2 h2 a2 w2 hk2 R2 E2;exact hn st2 h2 a2 w2 hk2 R2 ((E'.mono fun i hi=>QaY hi).trans (E2.mono fun i hi=>MW hi))
theorem QdS {ρ:Nat->Option Nat}{st:St}{h:Hp}{a:Act}{w:World}(R:RelR ρ w0 h0 st h a w)(hg:st.g=(fun _=>false))(i s:Nat)(p:Bool)(x:SV):st.t i≠.gd s p x:=by
 intro e;have:=R.gd i s p x e;rw [hg] at this;simp at this
theorem U8 {st0 st:St}{h:Hp}{a:Act}{w:World}{D:List Nat}(R0:∀ i s p x,st0.t i≠.gd s p x)(R:Rel w0 h0 st h a w)(E:Ev D st0 st):Rel w0 h0 (V0 D st) h a w/\(V0 D st).g=(fun _=>false)/\Ev D st0 (V0 D st):=by
 obtain⟨ρ,R⟩:=R;have hno:∀ i s p x,(V0 D st).t i≠.gd s p x:=by
  intro i s p x e;simp only [V0] at e;split at e
  ·simp at e
  ·rename_i s' p' x' hi;cases hm:JL i D with
   | true=>rw [hm] at e;simp at e
   | false=>
    have:i ∉ D:=by intro hd;rw [Ys.2 hd] at hm;simp at hm
    rw [E.t i this] at hi;exact R0 i _ _ _ hi
 refine⟨⟨ρ,R.n,R.d,fun i=>?_,fun i s p x e=>(hno i s p x e).elim,R.sub,R.F,R.box,R.dom,R.inj⟩,rfl,E.n,fun i hi=>?_,E.b⟩
 ·have hr:=R.fr i;simp only [V0];split
  ·rename_i x hx;rw [hx] at hr;exact hr
  ·rename_i s p x hx;cases hm:JL i D with
   | true=>exact trivial
   | false=>
    have:i ∉ D:=by intro hd;rw [Ys.2 hd] at hm;simp at hm
    rw [E.t i this] at hx;exact(R0 i _ _ _ hx).elim
 ·have e:=E.t i hi;simp only [V0];split
  ·rename_i x hx;rw [<-e,hx]
  ·rename_i s p x hx;rw [e] at hx;exact(R0 i _ _ _ hx).elim
def QmH (w0:World)(h0:Hp)(D:List Nat)(st:St)(Q:Ex->St->Hp->Prop)(e:Exit)(a:Act)(w:World):Prop:=
 ∃ x st' h',QQ e=some x/\Q x st' h'/\Rel w0 h0 st' h' a w/\st'.g=(fun _=>false)/\Ev D st st'
theorem NQ {st st':St}{h:Hp}{a:Act}{w:World}{D slots:List Nat}{bxs:List (Nat × List Sh1)}{xs:List TW}{ys:List (List TV)}
  (hg0:∀ i s p x,st.t i≠.gd s p x) (hbnd:∀ i j o,i ∉ D->st.t i=.s (.bp j o)->j<st.b.length) (hsub:∀ i,i ∈ slots->i ∈ D)
  (R:Rel w0 h0 st' h a w) (hg':st'.g=(fun _=>false)) (hn:st'.n=st.n) (ht:∀ i,i ∉ D->st'.t i=st.t i)
  (hlb:st.b.length<=st'.b.length) (hty:∀(j:Nat)(x y:Box),st.b[j]?=some x->st'.b[j]?=some y->y.ty=x.ty)
  (hsame:∀(j:Nat)(x y:Box),(YJ j bxs).isSome=false->st.b[j]?=some x->st'.b[j]?=some y->Qn y.c=Qn x.c)
  (hbi:∀(k:Nat)(q:Nat × List Sh1),bxs[k]?=some q->q.1<st.b.length)
  (hv:YL st' slots bxs=some (Kt xs++JE ys)) (hxl:xs.length=slots.length) (hyl:ys.length=bxs.length)
  (hylen:∀(k:Nat)(q:Nat × List Sh1)(y:List TV)(x:Box),bxs[k]?=some q->ys[k]?=some y->st'.b[q.1]?=some x->y.length=x.c.length)
  (hg:st.g=(fun _=>false)):Rel w0 h0 (Y7 st D slots bxs xs ys) h a w:=by
 obtain⟨ρ,R⟩:=R;have hsv:WL st' slots=some (Kt xs)/\Ub st' bxs=some (JE ys):=by
  unfold YL at hv;split at hv
  ·rename_i u v hu hv';simp only [bH] at hv;have hl:=Vt hu;obtain⟨e1,e2⟩:=mO hv (by rw [hl,QaT,hxl])
   exact⟨by rw [hu,e1],by rw [hv',e2]⟩
  ·simp at hv
 have key:∀(j:Nat)(x y:Box),(Zn st.b bxs ys)[j]?=some x->st'.b[j]?=some y->Qn x.c=Qn y.c/\x.ty=y.ty:=by
  have:∀(l:List (Nat × List Sh1))(zs:List (List TV))(b:List Box),Ub st' l=some (JE zs)->zs.length=l.length ->
    (∀(k:Nat)(q:Nat × List Sh1)(y:List TV)(x:Box),l[k]?=some q->zs[k]?=some y->st'.b[q.1]?=some x->y.length=x.c.length) ->
    (∀(k:Nat)(q:Nat × List Sh1),l[k]?=some q->q.1<b.length) ->
    (∀(j:Nat)(x y:Box),b[j]?=some x->st'.b[j]?=some y->(Qn x.c=Qn y.c\/(YJ j l).isSome=true)/\x.ty=y.ty) ->
    ∀(j:Nat)(x y:Box),(Zn b l zs)[j]?=some x->st'.b[j]?=some y->Qn x.c=Qn y.c/\x.ty=y.ty:=by
   intro l;induction l with
   | nil=>intro zs b _ _ _ _ hb j x y hx hy;obtain⟨h1,h2⟩:=hb j x y (by simpa [Zn] using hx) hy;exact⟨h1.resolve_right (by simp [YJ]),h2⟩
   | cons q l ih=>
    obtain⟨i,s⟩:=q;intro zs b H hl hlen hbi hb;cases zs with
    | nil=>simp at hl
    | cons z zs=>
     simp only [Ub] at H;split at H
     ·rename_i bx vs hbx hvs;simp only [bH,JE] at H;have hylen:=hlen 0 (i,s) z bx rfl rfl hbx;have hsp:=mO H (by simp [QM,hylen])
      have hib:i<b.length:=hbi 0 (i,s) rfl;obtain⟨b0,hb0⟩:∃ b0,b[i]?=some b0:=⟨b[i],by simp [hib]⟩
      simp only [Zn,hb0];refine ih zs _ (by rw [hvs,hsp.2]) (by simpa using hl) (fun k q y' x h1 h2 h3=>hlen (k+1) q y' x (by simpa using h1) (by simpa using h2) h3)
       (fun k q hq=>by rw [Xu];exact hbi (k+1) q (by simpa using hq)) ?_
      intro j x y hx hy;rw [Wh] at hx;split at hx
      ·rename_i e;obtain⟨rfl,_⟩:=e;rw [hbx] at hy;obtain rfl:=cU hy;simp only [bH] at hx;subst hx;exact⟨.inl hsp.1.symm,(hb j b0 bx hb0 hbx).2⟩
      ·rename_i e;obtain⟨h1,h2⟩:=hb j x y hx hy;refine⟨?_,h2⟩
       rcases h1 with h1|h1
       ·exact .inl h1
       ·simp only [YJ] at h1;cases hq:Nat.beq j i with
        | true=>
         have:=cT hq;subst this;exact(e ⟨rfl,hib⟩).elim
        | false=>rw [hq] at h1;exact .inr h1
     ·simp at H
  refine this bxs ys st.b hsv.2 hyl hylen hbi ?_
  intro j x y hx hy;refine⟨?_,(hty j x y hx hy).symm⟩
  cases hq:(YJ j bxs).isSome with
  | true=>exact .inr rfl
  | false=>exact .inl (hsame j x y hq hx hy).symm
 refine⟨fun i=>if i<st.b.length then ρ i else none,?_,R.d,?_,?_,R.sub,R.F,?_,?_,?_⟩
 ·rw [R.n,hn];rfl
 ·have hst:∀ i x,st'.t i=.s (.t x)->a.tmps.getD i undef=x.val:=by intro i x hx;have:=R.fr i;rw [hx] at this;exact this
  refine Mh (st:=st') hst slots xs _ ?_ hsv.1
  intro i;cases hm:JL i D with
  | true=>exact trivial
  | false=>
   have hi:i ∉ D:=by intro hd;rw [Ys.2 hd] at hm;simp at hm
   have hr:=R.fr i;rw [ht i hi] at hr;simp only [dM];cases hs:st.t i with
   | gd s p x=>exact(hg0 i s p x hs).elim
   | s x=>
    rw [hs] at hr;cases x with
    | bp j o=>
     obtain⟨b,h1,h2⟩:=hr;exact⟨b,by simp [hbnd i j o hi hs,h1],h2⟩
    | _=>exact hr
 ·intro i s p x e;refine(Ue slots xs _ ?_ i s p x e).elim
  intro i s p x;cases hm:JL i D with
  | true=>simp
  | false=>exact hg0 i s p x
 ·intro i bx hbx;have hil:i<st.b.length:=by
   have:=(bG.1 hbx).1
   simpa [Y7,Xs] using this
  obtain⟨by',hby⟩:∃ y,st'.b[i]?=some y:=⟨st'.b[i]'(by omega),by simp [show i<st'.b.length by omega]⟩
  obtain⟨b,h1,h2,h3,h4⟩:=R.box i by' hby;obtain⟨k1,k2⟩:=key i bx by' hbx hby;exact⟨b,by simp [hil,h1],by rw [k1,k2];exact h2,h3,h4⟩
 ·intro i b hi;split at hi
  ·rename_i hl;simpa [Y7,Xs] using hl
  ·simp at hi
 ·intro i j b hi hj;split at hi
  ·split at hj
   ·exact R.inj i j b hi hj
   ·simp at hj
  ·simp at hi
theorem GW (hP:WZ P){l0 n:Nat}{ops:Array Oper}{Q:Exit->Act->World->Prop}:∀(l:List Oper),QgU l=true->∀{st:St} {h:Hp} {a:Act} {w:World} {K:St->Hp->Prop},Rel w0 h0 st h a w->Qbw P cfg ops l st h K ->
  (∀ st' h' a' w',K st' h'->Rel w0 h0 st' h' a' w'->Ev (Yr l) st st'->Q .normal a' w')->wpListIn (Fence.wide.inRound l0) n P ops Q l a w
 | [],_,st,h,a,w,K,R,H,hn=>hn st h a w H R (qN _ _)
 | o :: l,hf,st,h,a,w,K,R,H,hn=>by
  simp only [QgU,cG] at hf;have hnd:∀ c,o.op≠.defer c:=by
   intro c e;rw [e] at hf;cases hf.1
  have key:=Jp (Q:=fun _ _ _=>False) hP R (show QG P cfg ops o st h _ from H) (N:=wpListIn (Fence.wide.inRound l0) n P ops Q l) ?_
  ·unfold wpListIn;split
   ·rename_i hw;rw [bJ hw] at key;rcases key with h1|⟨_,_,_,h1⟩
    ·exact Qlb hnd h1
    ·exact h1.elim
   ·rename_i hw;rw [bE hw] at key;exact⟨fun _ _=>trivial,key⟩
  ·intro st' h' a' w' hk R' E';refine GW hP l hf.2 R' hk ?_
   intro st2 h2 a2 w2 hk2 R2 E2;exact hn st2 h2 a2 w2 hk2 R2 ((E'.mono fun i hi=>QaY hi).trans (E2.mono fun i hi=>MW hi))
theorem QnH (hP:WZ P){l0 n:Nat}:∀(c:Code),WQ c=true->∀{st:St} {h:Hp} {a:Act} {w:World} {Q:Ex->St->Hp->Prop},vcC P cfg c st h Q->st.g=(fun _=>false)->Rel w0 h0 st h a w->c.wpIn (Fence.wide.inRound l0) n P (QmH w0 h0 (QH c) st Q) a w:=by
 intro c;induction c with
 | skip=>intro _ st h a w Q H hg R;exact wpIn_skip ⟨.nrm,st,h,rfl,H,R,hg,qN _ _⟩
 | region id ops draw=>
  intro hf st h a w Q H hg R;simp only [WQ,cG,gO] at hf;obtain⟨hd,hf⟩:=hf;subst hd;simp only [vcC,dM] at H;refine wpIn_region_list (GW hP ops.toList hf R H ?_)
  intro st' h' a' w' hk R' E';obtain⟨ρ,R0⟩:=R;obtain⟨k1,k2,k3⟩:=U8 (QdS R0 hg) R' E';exact⟨.nrm,_,h',rfl,hk,k1,k2,k3⟩
 | seq x y ihx ihy=>
  intro hf st h a w Q H hg R;simp only [WQ,cG] at hf;refine wpIn_seq (wpIn_mono (ihx hf.1 H hg R) ?_)
  rintro e a' w' ⟨ex,st',h',he,hq,R',hg',E'⟩;have hD:∀ i,i ∈ QH x->i ∈ QH (.seq x y):=fun i hi=>by simp [QH,hi]
  have hD':∀ i,i ∈ QH y->i ∈ QH (.seq x y):=fun i hi=>by simp [QH,hi]
  cases e with
  | normal=>
   simp only [QQ,bH] at he;subst he;refine wpIn_mono (ihy hf.2 hq hg' R') ?_
   rintro e a2 w2 ⟨ex,st2,h2,he,hq,R2,hg2,E2⟩;exact⟨ex,st2,h2,he,hq,R2,hg2,(E'.mono hD).trans (E2.mono hD')⟩
  | exit id=>simp only [QQ,bH] at he;subst he;exact⟨_,st',h',rfl,hq,R',hg',E'.mono hD⟩
  | ret=>simp only [QQ,bH] at he;subst he;exact⟨_,st',h',rfl,hq,R',hg',E'.mono hD⟩
  | goto l=>simp [QQ] at he
  | panic ch=>simp [QQ] at he
  | outgrown=>simp [QQ] at he
 | cond c x y ihx ihy=>
  intro hf st h a w Q H hg R;simp only [WQ,cG] at hf;simp only [vcC] at H;split at H
  ·rename_i t ht;obtain⟨ρ,R0⟩:=R;have hc:a.eval c=.bool t:=We ht (ev_ok R0 (fun _ _ hm=>by simp at hm) c)
   refine wpIn_cond_split hc (fun e=>?_) (fun e=>?_)
   ·refine wpIn_mono (ihx hf.1 (H.1 e) hg ⟨ρ,R0⟩) ?_
    rintro e a2 w2 ⟨ex,st2,h2,he,hq,R2,hg2,E2⟩;exact⟨ex,st2,h2,he,hq,R2,hg2,E2.mono fun i hi=>by simp [QH,hi]⟩
   ·refine wpIn_mono (ihy hf.2 (H.2 e) hg ⟨ρ,R0⟩) ?_
    rintro e a2 w2 ⟨ex,st2,h2,he,hq,R2,hg2,E2⟩;exact⟨ex,st2,h2,he,hq,R2,hg2,E2.mono fun i hi=>by simp [QH,hi]⟩
  ·exact H.elim
 | block id x ihx=>
  intro hf st h a w Q H hg R;simp only [WQ] at hf;refine wpIn_block (wpIn_mono (ihx hf H hg R) ?_)
  rintro e a' w' ⟨ex,st',h',he,hq,R',hg',E'⟩;cases e with
  | normal=>simp only [QQ,bH] at he;subst he;exact⟨_,st',h',rfl,hq,R',hg',E'⟩
  | exit i=>
   simp only [QQ,bH] at he;subst he;simp only at hq;simp only [Exit.inBlock];cases hb:Nat.beq i id with
   | true=>
    rw [hb] at hq;rw [bJ (cT hb)];exact⟨_,st',h',rfl,hq,R',hg',E'⟩
   | false=>
    rw [hb] at hq;rw [bE (d7 hb)];exact⟨_,st',h',rfl,hq,R',hg',E'⟩
  | ret=>simp only [QQ,bH] at he;subst he;exact⟨_,st',h',rfl,hq,R',hg',E'⟩
  | goto l=>simp [QQ] at he
  | panic ch=>simp [QQ] at he
  | outgrown=>simp [QQ] at he
 | exit id=>intro _ st h a w Q H hg R;exact wpIn_exit ⟨_,st,h,rfl,H,R,hg,qN _ _⟩
 | ret=>intro _ st h a w Q H hg R;exact wpIn_ret ⟨_,st,h,rfl,H,R,hg,qN _ _⟩
 | _=>intro hf;cases hf
theorem QkM (hP:WZ P)(hm:P.follows .mixedOrders=true):∀(c:Code) {st:St} {h:Hp} {a:Act} {w:World} {Q:Ex->St->Hp->Prop},vcC P cfg c st h Q->st.g=(fun _=>false)->Rel w0 h0 st h a w->c.wp P (QmH w0 h0 (QH c) st Q) a w:=by
 intro c;induction c with
 | skip=>intro st h a w Q H hg R;exact wp_skip ⟨.nrm,st,h,rfl,H,R,hg,qN _ _⟩
 | region id ops draw=>
  intro st h a w Q H hg R;simp only [vcC] at H;cases draw with
  | true=>
   simp only [cX] at H;split at H
   ·rename_i l hl;rcases dC (KK P cfg ops (Nn ops.toList []) [] l&&Qbe ops.size l) with hc|hc
    ·rw [hc] at H;simp only [cX] at H;simp only [cG] at hc;refine QhY hP hm hc.1 hc.2 R H ?_
     intro st' h' a' w' hk R' E';obtain⟨ρ,R0⟩:=R;obtain⟨k1,k2,k3⟩:=U8 (QdS R0 hg) R' E';exact⟨.nrm,_,h',rfl,hk,k1,k2,k3⟩
    ·rw [hc] at H;exact H.elim
   ·exact H.elim
  | false=>
   simp only [dM] at H;refine wp_region_list (Gf hP ops.toList R H ?_)
   intro st' h' a' w' hk R' E';obtain⟨ρ,R0⟩:=R;obtain⟨k1,k2,k3⟩:=U8 (QdS R0 hg) R' E';exact⟨.nrm,_,h',rfl,hk,k1,k2,k3⟩
 | seq x y ihx ihy=>
  intro st h a w Q H hg R;refine wp_seq (wp_mono (ihx H hg R) ?_)
  rintro e a' w' ⟨ex,st',h',he,hq,R',hg',E'⟩;have hD:∀ i,i ∈ QH x->i ∈ QH (.seq x y):=fun i hi=>by simp [QH,hi]
  have hD':∀ i,i ∈ QH y->i ∈ QH (.seq x y):=fun i hi=>by simp [QH,hi]
  cases e with
  | normal=>
   simp only [QQ,bH] at he;subst he;refine wp_mono (ihy hq hg' R') ?_
   rintro e a2 w2 ⟨ex,st2,h2,he,hq,R2,hg2,E2⟩;exact⟨ex,st2,h2,he,hq,R2,hg2,(E'.mono hD).trans (E2.mono hD')⟩
  | exit id=>simp only [QQ,bH] at he;subst he;exact⟨_,st',h',rfl,hq,R',hg',E'.mono hD⟩
  | ret=>simp only [QQ,bH] at he;subst he;exact⟨_,st',h',rfl,hq,R',hg',E'.mono hD⟩
  | goto l=>simp [QQ] at he
  | panic ch=>simp [QQ] at he
  | outgrown=>simp [QQ] at he
 | cond c x y ihx ihy=>
  intro st h a w Q H hg R;simp only [vcC] at H;split at H
  ·rename_i t ht;obtain⟨ρ,R0⟩:=R;have hc:a.eval c=.bool t:=We ht (ev_ok R0 (fun _ _ hm=>by simp at hm) c)
   refine wp_cond_split hc (fun e=>?_) (fun e=>?_)
   ·refine wp_mono (ihx (H.1 e) hg ⟨ρ,R0⟩) ?_
    rintro e a2 w2 ⟨ex,st2,h2,he,hq,R2,hg2,E2⟩;exact⟨ex,st2,h2,he,hq,R2,hg2,E2.mono fun i hi=>by simp [QH,hi]⟩
   ·refine wp_mono (ihy (H.2 e) hg ⟨ρ,R0⟩) ?_
    rintro e a2 w2 ⟨ex,st2,h2,he,hq,R2,hg2,E2⟩;exact⟨ex,st2,h2,he,hq,R2,hg2,E2.mono fun i hi=>by simp [QH,hi]⟩
  ·exact H.elim
 | block id x ihx=>
  intro st h a w Q H hg R;refine wp_block (wp_mono (ihx H hg R) ?_)
  rintro e a' w' ⟨ex,st',h',he,hq,R',hg',E'⟩;cases e with
  | normal=>simp only [QQ,bH] at he;subst he;exact⟨_,st',h',rfl,hq,R',hg',E'⟩
  | exit i=>
   simp only [QQ,bH] at he;subst he;simp only at hq;simp only [Exit.inBlock];cases hb:Nat.beq i id with
   | true=>
    rw [hb] at hq;rw [bJ (cT hb)];exact⟨_,st',h',rfl,hq,R',hg',E'⟩
   | false=>
    rw [hb] at hq;rw [bE (d7 hb)];exact⟨_,st',h',rfl,hq,R',hg',E'⟩
  | ret=>simp only [QQ,bH] at he;subst he;exact⟨_,st',h',rfl,hq,R',hg',E'⟩
  | goto l=>simp [QQ] at he
  | panic ch=>simp [QQ] at he
  | outgrown=>simp [QQ] at he
 | loop x ihx=>
  intro st h a w Q H hg R;simp only [vcC] at H;split at H
  ·exact H.elim
  ·rename_i slots shs bxs hann;split at H
   ·exact H.elim
   ·exact H.elim
   ·rename_i vs0 hv0 hchk;simp only [cG] at hchk;obtain⟨⟨hc1,hc2⟩,hc3⟩:=hchk;have hshs:=cT hc1;have hlens:=Ww hc2;have hsub:=QgW hc3;obtain⟨I,μ,hI0,hround⟩:=H;have hR:=R;obtain⟨ρ,R0⟩:=R;have hg0:=QdS R0 hg;have hbnd:∀ i j o,i ∉ QH x->st.t i=.s (.bp j o)->j<st.b.length:=by
     intro i j o _ hi;have hr:=R0.fr i;rw [hi] at hr;obtain⟨b,h1,_⟩:=hr;exact R0.dom j b h1
    have hbi:∀(k:Nat)(q:Nat × List Sh1),bxs[k]?=some q->q.1<st.b.length:=by intro k q hq;obtain⟨bx,hbx,_⟩:=hlens k q hq;exact(bG.1 hbx).1
    let Inv:Nat->Act->World->Prop:=fun n a w=>∃ vs h' xs ys,n=μ vs h'/\I vs h'/\Rel w0 h0 (Y7 st (QH x) slots bxs xs ys) h' a w /\
     vcC P cfg x (Y7 st (QH x) slots bxs xs ys) h' fun e st' h''=>match e with
      | .nrm=>match YL st' slots bxs with
       | some vs'=>bif (NB 0 st.b st'.b bxs&&WD st' bxs) then(I vs' h''/\μ vs' h'' < μ vs h') else False
       | none=>False
      | e=>Q e st' h''
    have head:∀ st' h' a w vs,Rel w0 h0 st' h' a w->st'.g=(fun _=>false)->st'.n=st.n->(∀ i,i ∉ QH x->st'.t i=st.t i)->st.b.length<=st'.b.length ->
      (∀(j:Nat)(x y:Box),st.b[j]?=some x->st'.b[j]?=some y->y.ty=x.ty)->(∀(j:Nat)(x y:Box),(YJ j bxs).isSome=false->st.b[j]?=some x->st'.b[j]?=some y->Qn y.c=Qn x.c) ->
      (∀(k:Nat)(q:Nat × List Sh1)(y:Box),bxs[k]?=some q->st'.b[q.1]?=some y->y.c.length=q.2.length) ->
      YL st' slots bxs=some vs->I vs h'->Inv (μ vs h') a w:=by
     intro st' h' a w vs R' hg' hn' ht' hlb' hty' hsame' hlen' hv' hI';obtain⟨xs,hx,hxl⟩:=QaB (hround vs h' hI');obtain⟨ys,⟨hvs,hvc⟩,hyl,hylen⟩:=QcG hx;refine⟨vs,h',xs,ys,rfl,hI',?_,hvc⟩
     refine NQ hg0 hbnd hsub R' hg' hn' ht' hlb' hty' hsame' hbi (by rw [hv',hvs]) (by rw [hxl,hshs]) hyl ?_ hg
     intro k q y bx h1 h2 h3;rw [hylen k q y h1 h2,hlen' k q bx h1 h3]
    refine Qgx Inv (μ vs0 h) ?_ ?_
    ·refine head st h a w vs0 hR hg rfl (fun _ _=>rfl) (cB _) (fun j u v h1 h2=>by rw [h1] at h2;obtain rfl:=cU h2;rfl) (fun j u v _ h1 h2=>by rw [h1] at h2;obtain rfl:=cU h2;rfl) ?_ hv0 hI0
     intro k q y h1 h2;obtain⟨bx,hbx,hl⟩:=hlens k q h1;rw [hbx] at h2;obtain rfl:=cU h2;exact hl
    ·rintro n a w ⟨vs,h',xs,ys,rfl,hI',hRl,hvc⟩;refine wp_mono (ihx hvc hg hRl) ?_
     have hE0:Ev (QH x) st (Y7 st (QH x) slots bxs xs ys):=Qgy hsub;rintro e a2 w2 ⟨ex,st2,h2,he,hq,R2,hg2,E2⟩;cases e with
     | normal=>
      simp only [QQ,bH] at he;subst he;simp only at hq;split at hq
      ·rename_i vs' hv';cases hsB':(NB 0 st.b st2.b bxs&&WD st2 bxs) with
       | false=>rw [hsB'] at hq;exact hq.elim
       | true=>
        rw [hsB'] at hq;simp only [cX] at hq;simp only [cG] at hsB';obtain⟨hsB,hcl⟩:=hsB';have hE:=hE0.trans E2;refine⟨μ vs' h2,hq.2,head st2 h2 a2 w2 vs' R2 hg2 hE.n hE.t (QcN hE.b) ?_ ?_ ?_ hv' hq.1⟩
        ·intro j u v h1 h2;obtain⟨y,hy,ht,_⟩:=hE.b j u h1;rw [h2] at hy;obtain rfl:=cU hy;exact ht
        ·intro j u v hl h1 h2;have hs:=(Qai _ _ _ 0 hsB).2 j u v (by rw [dW];exact hl) h1 h2
         obtain⟨y,hy,_,_,hst⟩:=hE.b j u h1;rw [h2] at hy;obtain rfl:=cU hy;rw [hst hs.symm]
        ·intro k q y h1 h2;obtain⟨bx,hbx,hl⟩:=Ww hcl k q h1;rw [hbx] at h2;obtain rfl:=cU h2;exact hl
      ·exact hq.elim
     | exit id=>simp only [QQ,bH] at he;subst he;exact⟨_,st2,h2,rfl,hq,R2,hg2,hE0.trans E2⟩
     | ret=>simp only [QQ,bH] at he;subst he;exact⟨_,st2,h2,rfl,hq,R2,hg2,hE0.trans E2⟩
     | goto l=>simp [QQ] at he
     | panic ch=>simp [QQ] at he
     | outgrown=>simp [QQ] at he
 | exit id=>intro st h a w Q H hg R;exact wp_exit ⟨_,st,h,rfl,H,R,hg,qN _ _⟩
 | ret=>intro st h a w Q H hg R;exact wp_ret ⟨_,st,h,rfl,H,R,hg,qN _ _⟩
 | _=>intros;rename_i H _ _;exact H.elim
end
section
variable {P:Program}{cfg:Cfg}{w0:World}{h0:Hp}
theorem resV_ok {ρ:Nat->Option Nat}{st:St}{h:Hp}{a:Act}{w:World}(R:RelR ρ w0 h0 st h a w):∀{l:List ResultVar} {vs:List Value},QjI P st l=some vs ->
  (l.mapM (WB a.tmps)).run P w=.ok vs w:=Vc.resV_ok R.toVc
theorem vcRes_ok {st:St}{h:Hp}:∀{l:List ResultVar} {K:List Value->Prop},Qbs P st h l K->∃ vs,K vs/\∀{ρ:Nat->Option Nat} {a:Act} {w:World},RelR ρ w0 h0 st h a w->(l.mapM (WB a.tmps)).run P w=.ok vs w:=fun H=>let ⟨vs,k,e⟩:=Vc.vcRes_ok (w0:=w0) (h0:=h0) H;⟨vs,k,fun R=>e R.toVc⟩
theorem Wv {ρ:Nat->Option Nat}{st:St}{h:Hp}{fn:Func}{vs:List Value}{n:Nat}{K:Ending->World->Prop}(H:∀{ρ:Nat->Option Nat} {a:Act} {w:World},RelR ρ w0 h0 st h a w->(fn.results.toList.mapM (WB a.tmps)).run P w=.ok vs w)(hK:∀ W,Sub h W->Fr h0 h w0 W->K (.returned (Qo2 vs)) W) :
  ∀(ds:List Deferred) {a:Act} {w:World},RelR ρ w0 h0 st h a w->a.defers=ds->LeavesInM Fence.wide n P fn a.tmps K ds .returning w
 | [],a,w,R,_=>⟨_,QeI (H R),hK w R.sub R.F⟩
 | d :: ds,a,w,R,hd=>by
  have hm:=R.d;rw [hd] at hm;obtain⟨D,e,k1,k2,k3⟩:=hm.2 d bY;refine⟨by simp,.inl ⟨D,w.putObj D (.deferred none),by rw [e],run_takeDeferred k1,?_⟩⟩
  have hsz:(w.putObj D (.deferred none)).heap.size=w.heap.size:=by simp [World.putObj]
  have hoth:∀ b,b≠D->(w.putObj D (.deferred none)).heap[b]?=w.heap[b]?:=fun b hb=>World.putObj_heap_other hb
  have R':RelR ρ w0 h0 st h { a with defers:=ds } (w.putObj D (.deferred none)):=by
   refine⟨R.n,⟨(f8.1 hm.1).2,?_⟩,R.fr,R.gd,?_,⟨R.F.os,R.F.tape,R.F.output,by rw [hsz];exact R.F.size,R.F.drawn,?_⟩,?_,R.dom,R.inj⟩
   ·intro x hx;obtain⟨D',e',j1,j2,j3⟩:=hm.2 x (bT _ hx);refine⟨D',e',?_,j2,j3⟩
    rw [hoth D' (fun e2=>?_)]
    ·exact j1
    ·subst e2;rw [<-e] at e';subst e';exact(f8.1 hm.1).1 hx
   ·intro b o hb;rw [hoth b (fun e2=>by subst e2;rw [k2] at hb;cases hb)]
    exact R.sub b o hb
   ·intro b hb hn;rw [hoth b (fun e2=>by subst e2;omega)]
    exact R.F.keep b hb hn
   ·intro i bx hb;obtain⟨b,j1,j2,j3,j4⟩:=R.box i bx hb;refine⟨b,j1,?_,j3,j4⟩
    rw [hoth b (fun e2=>by subst e2;rw [k1] at j2;cases j2)]
    exact j2
  exact Wv (a:={ a with defers:=ds }) H hK ds R' rfl
theorem Qha (hP:WZ P)(hm:P.follows .mixedOrders=true){f:FuncId}{fn:Func}(hf:P.funcs[f]?=some fn){args:List TW}{h:Hp}{R:RtT}(hn:args.length<=fn.ntmps)(H:Qif P cfg fn args h R):Qa P f (args.map TW.val) h R:=by
 intro w hs;unfold Qif at H;split at H
 ·exact H.elim
 ·rename_i c hb;refine(callsIn_wide (n:=3)).1 (callsIn_of_wp_marks hf hb trivial (wpIn_wide.2 ?_))
  have hR0:Rel w h ⟨fn.ntmps,ZN args,fun _=>false,[]⟩ h { tmps:=(args.map TW.val).toArray++Array.replicate (fn.ntmps-(args.map TW.val).toArray.size) undef,defers:=[] } w:=by
   refine⟨fun _=>none,?_,⟨j6,fun d hd=>by cases hd⟩,QcK args _,?_,hs,Fr.refl h w,?_,?_,?_⟩
   ·simp;omega
   ·intro i s p x e;have:∀(args:List TW)(i:Nat),ZN args i≠.gd s p x:=by
     intro args;induction args with
     | nil=>intro i;simp [ZN]
     | cons y l ih=>intro i;cases i<;>simp [ZN];exact ih _
    exact(this args i e).elim
   ·intro i bx hbx;simp at hbx
   ·intro i b hb;simp at hb
   ·intro i j b hb;simp at hb
  refine wp_mono (QkM hP hm c H rfl hR0) ?_
  rintro e a' w' ⟨ex,st',h',he,hq,⟨ρ,R'⟩,hg',E'⟩;have fin:(Qbs P st' h' fn.results.toList fun vs=>match vs with
    | [v]=>R v h'
    | vs=>R (.tuple vs.toArray) h')->LeavesInM Fence.wide 3 P fn a'.tmps (fun e w'=>∃ v h',e=.returned v/\Sub h' w'/\Fr h h' w w'/\R v h') a'.defers .returning w':=by
   intro hx;obtain⟨vs,hk,hv⟩:=vcRes_ok hx;refine Wv hv (fun W k1 k2=>⟨_,h',rfl,k1,k2,?_⟩) _ R' rfl
   match vs,hk with
   | [],hk=>exact hk
   | [v],hk=>exact hk
   | u :: v :: l,hk=>exact hk
  cases e with
  | normal=>simp only [QQ,bH] at he;subst he;exact fin hq
  | ret=>simp only [QQ,bH] at he;subst he;exact fin hq
  | exit id=>simp only [QQ,bH] at he;subst he;exact hq.elim
  | goto l=>simp [QQ] at he
  | panic ch=>simp [QQ] at he
  | outgrown=>simp [QQ] at he
theorem Ud (hP:WZ P)(hm:P.follows .mixedOrders=true){f:FuncId}{fn:Func}(hf:P.funcs[f]?=some fn)(args:List TW){vs:List Value}{h:Hp}{R:RtT}(hn:Nat.ble args.length fn.ntmps=true)(hv:vs=args.map TW.val){V:Prop}(hV:V=Qif P cfg fn args h R)(H:V):Qa P f vs h R:=by
 subst hv;exact Qha hP hm hf (bP hn) (hV▸H)
theorem Qa.mono {f:FuncId}{vs:List Value}{h:Hp}{R R':RtT}(H:Qa P f vs h R)(hr:∀ v h',R v h'->R' v h'):Qa P f vs h R':=
 fun w hs=>(H w hs).mono fun e w' ⟨v,h',h1,h2,h3,h4⟩=>⟨v,h',h1,h2,h3,hr _ _ h4⟩
end
end Go.Vd
namespace Go.Proofs.YthicpjafcpfjoaaGreatDoor.D
open Go Go.Vd
open Go.Vc (Hp IsW WZ Qb vag vb vi vs vsl)
theorem Qi6:WZ Pg:=by
 have h:(Pg.funcs.all fun fn=>!(fn.name == "runtime.NumGoroutine"))=true:=by kernel_rfl
 intro f fn hf;rw [Array.all_eq_true] at h;obtain⟨hlt,he⟩:=bV.mp hf
 have:=h f hlt;rw [he] at this;simpa using this
theorem mixed:Pg.follows .mixedOrders=true:=by kernel_rfl
theorem WU {u0:Int}{h:Hp}{R:RtT}(H:R (vb (decide (u0≠u0))) h):Qa Pg 196 [vi u0] h R:=
 Ud (cfg:=⟨[],[],[]⟩) Qi6 mixed Tryz.func196 [.one (.v (vi u0))] (by kernel_rfl) rfl (by kernel_rfl) H
theorem Wa {u0:Int}{u1:Int}{h:Hp}{R:RtT}(H:Qa Pg 196 [vi u0] h fun v1 h2=>∃ p3,v1=vb p3/\Qa Pg 196 [vi u1] h2 fun v4 h5=>∃ p6,v4=vb p6/\(p3=true->(p6=true->R (vi 0) h5)/\(p6=false->R (vi (-1)) h5))/\(p3=false->(p6=true->R (vi 1) h5)/\(p6=false->((decide (u0<u1))=true->R (vi (-1)) h5)/\((decide (u0<u1))=false->((decide (u0>u1))=true->R (vi 1) h5)/\((decide (u0>u1))=false->R (vi 0) h5))))):Qa Pg 136 [vi u0,vi u1] h R:=
 Ud (cfg:=⟨[],[],[]⟩) Qi6 mixed Tryz.func136 [.one (.v (vi u0)),.one (.v (vi u1))] (by kernel_rfl) rfl (by kernel_rfl) H
theorem Un {u0:OaT}{u1 u2:Nat}{h:Hp}{R:RtT}(H:∃(I2:LtT)(m3:LmT),I2 [vi 0] h/\∀ vs4 h5,I2 vs4 h5->∃ x6,vs4=[vi x6]/\((decide (x6<(u1:Int)))=true->∃ b9 o10,(u0=some ⟨b9,o10,none⟩/\(0:Int)<=x6/\x6<(u1:Int))/\∃ x11,Hp.cell h5 b9 (o10+x6.toNat*1)=some (vi x11)/\((decide (x11≠0))=true->R (vi x11) h5)/\((decide (x11≠0))=false->∃ x13,IsW x13 (x6+1)/\I2 [vi x13] h5/\m3 [vi x13] h5<m3 vs4 h5))/\((decide (x6<(u1:Int)))=false->R (vi 0) h5)):Qa Pg 135 [vsl u0 u1 u2] h R:=
 Ud (cfg:=⟨[],[(3,([8],[.one (.int .i64)],[]))],[]⟩) Qi6 mixed Tryz.func135 [.one (.v (vsl u0 u1 u2))] (by kernel_rfl) rfl (by kernel_rfl) H
theorem Kf {u0:Int}{u1:Int}{u2:Int}{u3:Int}{h:Hp}{R:RtT}(H:Qa Pg 136 [vi u0,vi u2] h fun v1 h2=>∃ x3,v1=vi x3/\Qa Pg 136 [vi u1,vi u3] h2 fun v4 h5=>∃ x6,v4=vi x6/\∀ b7,h5 b7=none->let h8:=Hp.set h5 b7 (Qb [vi x3,vi x6] 3);Qa Pg 135 [(vsl (some ⟨b7,0,none⟩) 2 2)] h8 fun v9 h10=>∃ x11,v9=vi x11/\R (vi x11) h10):Qa Pg 80 [vag [vi u0,vi u1],vag [vi u2,vi u3]] h R:=
 Ud (cfg:=⟨[],[],[(1,[0,1,2,3,5,6,7,8,4,9,10,11,12])]⟩) Qi6 mixed Tryz.func80 [.ag [.v (vi u0),.v (vi u1)],.ag [.v (vi u2),.v (vi u3)]] (by kernel_rfl) rfl (by kernel_rfl) H
def YZ (u0:Int)(u1:Int)(u2:Int)(u3:OaT)(u4 u5:Nat)(u6:Bool)(u7:Int)(u8:Int)(u9:Int)(u10:OaT)(u11 u12:Nat)(u13:Bool)(h:Hp)(R:RtT):Prop:=
  ((decide (u0≠u7))=true->∃ x1,IsW x1 (u0-u7)/\R (vi x1) h)/\((decide (u0≠u7))=false->Qa Pg 80 [vag [vi u1,vi u2],vag [vi u8,vi u9]] h fun v3 h4=>∃ x5,v3=vi x5/\R (vi x5) h4)
theorem JV {u0 u1 u2 u3 u4 u5 u6 u7 u8 u9 u10 u11 u12 u13 h R}(H:YZ u0 u1 u2 u3 u4 u5 u6 u7 u8 u9 u10 u11 u12 u13 h R):Qa Pg 79 [vag [vi u0,vi u1,vi u2,vsl u3 u4 u5,vb u6],vag [vi u7,vi u8,vi u9,vsl u10 u11 u12,vb u13]] h R:=
 Ud (cfg:=⟨[],[],[]⟩) Qi6 mixed Tryz.func79 [.ag [.v (vi u0),.v (vi u1),.v (vi u2),.v (vsl u3 u4 u5),.v (vb u6)],.ag [.v (vi u7),.v (vi u8),.v (vi u9),.v (vsl u10 u11 u12),.v (vb u13)]] (by kernel_rfl) rfl (by kernel_rfl) H
def cI (x y:Int):Int:=if x<y then -1 else if x>y then 1 else 0
def cV (a b:Int × Int):Int:=if cI a.1 b.1≠0 then cI a.1 b.1 else cI a.2 b.2
theorem QpX {e:Int}(h:-9223372036854775808<=e/\e<=9223372036854775807):IsW e e:=(IntWalk.i64_in _ h).symm
theorem VJ {x y:Int}{h:Hp}{R:RtT}(hK:R (vi (cI x y)) h):Qa Pg 136 [vi x,vi y] h R:=by
 have nan:∀{z:Int} {K:RtT},K (vb false) h->Qa Pg 196 [vi z] h K:=by
  intro z K hk;refine WU ?_
  simpa using hk
 refine Wa ?_
 unfold cI at hK;refine nan ⟨_,rfl,nan ⟨_,rfl,fun e=>by (cases e),fun _=>⟨fun e=>by (cases e),fun _=>⟨fun e=>?_,fun e=>⟨fun e2=>?_,fun e2=>?_⟩⟩⟩⟩⟩
 ·rw [bJ (bC e)] at hK;exact hK
 ·rw [bE (bB e),bJ (bC e2)] at hK;exact hK
 ·rw [bE (bB e),bE (bB e2)] at hK;exact hK
def QoA (l:List Value):Int:=match l with|[.int _ x]=>x|_=>0
theorem QjH {x y:Int}{b:Nat}{h:Hp}{R:RtT}(c0:Hp.cell h b 0=some (vi x))(c1:Hp.cell h b 1=some (vi y))(hK:R (vi (if x≠0 then x else y)) h):Qa Pg 135 [vsl (some ⟨b,0,none⟩) 2 2] h R:=by
 refine Un ?_
 refine⟨fun vs hh=>hh=h/\∃ i:Nat,vs=[vi i]/\i<=2/\(0<i->x=0)/\(1<i->y=0),fun vs hh=>2-(QoA vs).toNat,⟨rfl,0,rfl,by decide,by simp,by simp⟩,?_⟩
 rintro vs hh ⟨rfl,i,rfl,hi,h1,h2⟩;refine⟨i,rfl,fun e=>?_,fun e=>?_⟩
 ·have hlt:i<2:=by have:=bC e;omega
  match i,hlt with
  | 0,_=>
   refine⟨b,0,⟨rfl,by omega,by omega⟩,x,c0,fun e=>?_,fun e=>⟨1,QpX (by omega),⟨rfl,1,rfl,by omega,fun _=>?_,fun q=>absurd q (by omega)⟩,by simp [QoA]⟩⟩
   ·have hx:x≠0:=bC e;rw [bJ hx] at hK;exact hK
   ·have:=bB e;simpa using this
  | 1,_=>
   have hx:=h1 (by decide)
   refine⟨b,0,⟨rfl,by omega,by omega⟩,y,c1,fun e=>?_,fun e=>⟨2,QpX (by omega),⟨rfl,2,rfl,by omega,fun _=>hx,fun _=>?_⟩,by simp [QoA]⟩⟩
   ·rw [bE (by simp [hx])] at hK;exact hK
   ·have:=bB e;simpa using this
 ·have hge:i=2:=by have:=bB e;omega
  subst hge;have hx:=h1 (by decide)
  have hy:=h2 (by decide)
  rw [bE (by simp [hx]),hy] at hK
  exact hK
theorem Qbp {a b:Int × Int}{h:Hp}{R:RtT}(hK:∀ h',R (vi (cV a b)) h'):Qa Pg 80 [vag [vi a.1,vi a.2],vag [vi b.1,vi b.2]] h R:=by
 refine Kf ?_
 refine VJ ⟨_,rfl,VJ ⟨_,rfl,?_⟩⟩
 intro b7 hb7 h8;exact QjH (x:=cI a.1 b.1) (y:=cI a.2 b.2) (by simp [h8,Hp.cell,Hp.set,Qb]) (by simp [h8,Hp.cell,Hp.set,Qb]) ⟨_,rfl,hK _⟩
structure PRow where
 s:Int
 k:Int × Int
 a:OaT
 n:Nat
 c:Nat
 t:Bool
 deriving Inhabited
def PRow.enc (r:PRow):List Value:=[vi r.s,vi r.k.1,vi r.k.2,vsl r.a r.n r.c,vb r.t]
def PRow.cf (x y:PRow):Int:=if x.s≠y.s then x.s-y.s else cV x.k y.k
theorem QjJ {x y:PRow}(hb:-9223372036854775808<=x.s-y.s/\x.s-y.s<=9223372036854775807){h:Hp}:Qa Pg 79 [vag x.enc,vag y.enc] h fun v _=>v=vi (PRow.cf x y):=by
 refine JV ?_
 unfold YZ PRow.cf;refine⟨fun e=>⟨_,QpX hb,?_⟩,fun e=>Qbp fun h'=>⟨_,rfl,?_⟩⟩
 ·rw [bJ (bC e)]
 ·rw [bE (bB e)]
theorem closure_world {x y:PRow}(hb:-9223372036854775808<=x.s-y.s/\x.s-y.s<=9223372036854775807)(W:World):Calls Pg 79 #[.agg x.enc.toArray,.agg y.enc.toArray] W fun e w'=>e=.returned (.int .i64 (PRow.cf x y))/\∃ q os',w'=Go.Sort.grow (W.drewN q) os':=by
 have H:=QjJ hb (h:=fun _=>none) W (fun b o ho=>by cases ho)
 refine H.mono ?_
 rintro e w' ⟨v,h',rfl,_,F,rfl⟩;refine⟨rfl,w'.drawn-W.drawn,w'.heap.extract W.heap.size w'.heap.size,?_⟩
 have eh:w'.heap=W.heap++w'.heap.extract W.heap.size w'.heap.size:=by
  apply Array.ext_getElem?;intro i;rw [Array.getElem?_append]
  by_cases hi:i<W.heap.size
  ·rw [bJ hi];exact(F.keep i hi rfl).1
  ·rw [bE hi,Array.getElem?_extract]
   by_cases h2:i<w'.heap.size
   ·rw [bJ (by rw [pQ];omega),show W.heap.size+(i-W.heap.size)=i by omega]
   ·rw [bE (by rw [pQ];omega),Array.getElem?_eq_none (by omega)]
 have ed:w'.drawn=W.drawn+(w'.drawn-W.drawn):=by have:=F.drawn;omega
 cases w' with
 | mk heap tape drawn os output=>
  have e1:os=W.os:=F.os;have e2:tape=W.tape:=F.tape;have e3:output=W.output:=F.output;subst e1 e2 e3;unfold Go.Sort.grow World.drewN;simp only [World.mk.injEq,jL];exact⟨eh,ed,trivial⟩
end Go.Proofs.YthicpjafcpfjoaaGreatDoor.D
namespace Go.Proofs.YthicpjafcpfjoaaGreatDoor
open Go Go.Vc Go.Txt
structure PR where
 k:PK
 a:OaT
 c:Nat
 acs:List AcS
 t:Bool
def ZU (r:PR):D.PRow:=⟨r.k.1,r.k.2,r.a,r.acs.length,r.c,r.t⟩
theorem Qbb (r:D.PRow):r.enc.length=5:=rfl
theorem QjK (r:D.PRow):∀ u ∈ r.enc,u.oneCell'=true:=by
 intro u hu;simp only [D.PRow.enc,bS,dB,fV] at hu;rcases hu with rfl|rfl|rfl|rfl|rfl<;>rfl
def Qqn (r:PR):Hp->(Nat->Prop)->Prop:=Qaf 155 4 r.a r.acs.length r.c (r.acs.flatMap Yp)
theorem Ki (r:PR):Fp (Qqn r):=Qaf.fp _ _ _ _ _ _
abbrev QqR:=Vec D.PRow.enc 5 150
structure Xc (h0 h:Hp)(a:OaT)(c:Nat)(R:List PR):Prop where
 v:QqR h0 h a c (R.map ZU)
 i:∃ F,ZV Qqn R h F/\(∀ b,F b->h0 b=none)/\∀ b,F b->a≠some ⟨b,0,none⟩
section
variable {h0 h:Hp}{a:OaT}{c:Nat}{R:List PR}
theorem Xc.nil (hl:h0.le h):Xc h0 h none 0 []:=⟨qY hl _ _,_,ZV.nil h,fun b hb=>hb.elim,fun b hb=>hb.elim⟩
theorem Xc.le0 (N:Xc h0 h a c R):h0.le h:=N.v.le0
theorem Xc.le (N:Xc h0 h a c R){h':Hp}(l:h.le h'):Xc h0 h' a c R:=by
 obtain⟨F,E,n1,n2⟩:=N.i;exact⟨N.v.keep0 l,F,(ZV.fp Ki R).keep E fun b _ o ho=>l b o ho,n1,n2⟩
theorem Xc.row (N:Xc h0 h a c R){i:Nat}{r:PR}(hr:R[i]?=some r):∃ b o,a=some ⟨b,o,none⟩/\h.row b (o+i*5) 5=some (ZU r).enc:=by
 have hx:(R.map ZU)[i]?=some (ZU r):=by rw [cC,hr];rfl
 exact(N.v.slp Qbb (by decide)).get Qbb (by decide) hx
theorem Xc.inner (N:Xc h0 h a c R){i:Nat}{r:PR}(hr:R[i]?=some r):Qam h0 h r.a r.c r.acs /\
  ∀(h':Hp)(acs':List AcS),h0.le h'->Qam h0 h' r.a r.c acs'->acs'.length=r.acs.length->YT r.a h h'->Xc h0 h' a c (R.set i { r with acs:=acs' }):=by
 obtain⟨F,E,n1,n2⟩:=N.i;obtain⟨G,X,hGF,H⟩:=E.at Ki hr;obtain⟨O,rfl⟩:=X;refine⟨⟨N.le0,O,fun g hg=>n1 g (hGF g hg)⟩,fun h' acs' l' V' hlen F'=>?_⟩
 obtain⟨F2,E2,M⟩:=H h' (fun b=>r.a=some ⟨b,0,none⟩) { r with acs:=acs' } F'.mut ⟨V'.own,rfl⟩
 obtain⟨k,d⟩:=M.apart ((Qaf.fp _ _ _ _ _ _).al N.v.ownF) (fun b hb hb2=>n2 b hb hb2)
 refine⟨?_,F2,E2,(M.old N.le0 n1).2,fun b hb hb2=>d b hb hb2⟩
 have e:(R.set i { r with acs:=acs' }).map ZU=R.map ZU:=by
  rw [gM];have e2:ZU { r with acs:=acs' }=ZU r:=by unfold ZU;simp [hlen]
  rw [e2];apply fR;intro j;rw [gN]
  split
  ·rename_i hij;subst hij;rw [cC,hr]
   obtain⟨hi,_⟩:=bG.1 hr
   rw [bJ (by simpa using hi)]
   rfl
  ·rfl
 rw [e];have O2:=(Qaf.fp _ _ _ _ _ _).keep N.v.ownF k;exact⟨l',O2.1,N.v.new⟩
theorem Xc.again (N:Xc h0 h a c R){i:Nat}{r:PR}(hr:R[i]?=some r):∃ b o,a=some ⟨b,o,none⟩/\∀ K:HpT,(∀ h',Xc h0 h' a c R->h0.le h'->K h')->h.store b (o+i*5+3) [vsl r.a r.acs.length r.c] K:=by
 have hx:(R.map ZU)[i]?=some (ZU r):=by rw [cC,hr];rfl
 obtain⟨b,o,ea,H⟩:=N.v.putF Qbb hx (x':=ZU r) (k:=3) (vs:=[vsl r.a r.acs.length r.c]) (by simp) (by simp) (by simp [QP,ZU,D.PRow.enc])
 refine⟨b,o,ea,fun K hK=>H K fun h' V' F'=>hK h' ?_ V'.le0⟩
 obtain⟨F,E,n1,n2⟩:=N.i;have es:(R.map ZU).set i (ZU r)=R.map ZU:=by
  apply fR;intro j;rw [gN]
  split
  ·rename_i hij;subst hij;rw [hx,bJ (bG.1 hx).1]
  ·rfl
 rw [es] at V';exact⟨V',F,(ZV.fp Ki R).keep E fun b hb o ho=>F'.keep b o ho (n2 b hb),n1,n2⟩
theorem Qal:ElT Pg 128 150 5 56:=.of (by kernel_rfl) (by kernel_rfl) (by decide)
theorem Xc.app (N:Xc h0 h a c R){h1:Hp}(l1:h.le h1){r:PR}(V:Qam h h1 r.a r.c r.acs)(hb:R.length+1<=1000000){b:Nat}(hbn:h1 b=none){K:RtT}
  (hK:∀ a' c' h',Xc h0 h' a' c' (R++[r])->K (vsl a' (R.length+1) c') h'):Qh Pg (Builtin.append_ #[128,128] 128 #[vsl a R.length c,vsl (some ⟨b,0,none⟩) 1 1]) (h1.set b (Qb (ZU r).enc 150)) K:=by
 obtain⟨F,E,n1,n2⟩:=N.i;have hR:(R.map ZU).length=R.length:=bQ _;have key:=Vec.appF (ty:=128) Qal Qbb QjK (N.v.keep0 l1) (by rw [hR];omega) (by rw [hR];omega) (x:=ZU r) hbn (K:=K) (fun a' c' h' V' M=>by
  have E1:=(ZV.fp Ki R).keep E fun b _ o ho=>l1 b o ho
  have hG:∀ g,r.a=some ⟨g,0,none⟩->h g=none:=V.new
  have hd:∀ b,r.a=some ⟨b,0,none⟩->¬ F b:=fun b hb hF=>(ZV.fp Ki R).al E b hF (hG b hb)
  have E2:=E1.snoc (P:=Qqn) (x:=r) (G:=fun b=>r.a=some ⟨b,0,none⟩) ⟨V.own,rfl⟩ hd
  have hna:∀ b,a=some ⟨b,0,none⟩->¬(r.a=some ⟨b,0,none⟩\/F b):=by
   intro b hb hq;rcases hq with hq|hq
   ·exact(Qaf.fp _ _ _ _ _ _).al N.v.ownF b hb (hG b hq)
   ·exact n2 b hq hb
  obtain⟨k,d⟩:=M.apart ((ZV.fp Ki _).al E2) hna;have e3:(R.map ZU++[ZU r]).length=R.length+1:=by simp
  rw [e3];refine hK a' c' h' ⟨by rw [cJ];exact V',_,(ZV.fp Ki _).keep E2 k,fun b hb=>?_,fun b hb hb2=>d b hb2 hb⟩
  rcases hb with hb|hb
  ·exact qR N.le0 (hG b hb)
  ·exact n1 b hb)
 rw [hR] at key;exact key
theorem Qcr {r:PR}{K:PK}{b1 b2:Nat}{R':RtT}(h1:h.cell b1 0=some (vi K.1))(h2:h.row b2 0 2=some (Qu K.2))(hK:R' (vb (decide (r.k=K))) h):Qa Pg 75 [vag (ZU r).enc,vhp b1 0,vhp b2 0] h R':=by
 refine Qbx ?_
 refine⟨_,h1,_,_,fun _=>h2,decide (r.k.2=K.2),fun _=>Xz,?_⟩
 have e:(bif (decide ((r.k.1:Int)=K.1)) then(decide (r.k.2=K.2)) else false)=decide (r.k=K):=by rw [KS];exact fN.2 (Prod.ext_iff).symm
 have:(ZU r).s=r.k.1:=rfl;show R' (vb (bif (decide ((r.k.1:Int)=K.1)) then(decide (r.k.2=K.2)) else false)) h;rw [e];exact hK
theorem Qbg (N:Xc h0 h a c R)(hn:R.length<=1000000){K:PK}{b1 b2:Nat}{R':RtT}(h1:h.cell b1 0=some (vi K.1))(h2:h.row b2 0 2=some (Qu K.2))
  (hy:∀(i:Nat)(r:PR),R[i]?=some r->r.k=K->R' (vi i) h) (hno:(∀ r ∈ R,r.k≠K)->R' (vi (-1)) h):Qa Pg 74 [vsl a R.length c,Value.func (.func 75) #[] #[vhp b1 0,vhp b2 0]] h R':=by
 refine Zv ?_
 refine⟨fun vs hh=>hh=h/\∃ i:Nat,vs=[vi i]/\i<=R.length/\∀ r ∈ R.take i,r.k≠K,fun vs hh=>R.length-(Qo vs 0).toNat,⟨rfl,0,rfl,cE _,by simp⟩,?_⟩
 rintro vs hh ⟨rfl,i,rfl,hi,hz⟩;refine⟨i,rfl,fun e=>?_,fun e=>?_⟩
 ·have hlt:i<R.length:=by have:=bC e;omega
  have hx:R[i]?=some R[i]:=bD hlt
  have tk:R.take (i+1)=R.take i++[R[i]]:=bL hlt;obtain⟨b,o,ea,hr⟩:=N.row hx;refine⟨b,o,⟨ea,by omega,by omega⟩,_,_,_,_,_,_,_,by rw [bF];exact hr,75,#[],#[vhp b1 0,vhp b2 0],rfl,⟨_,Tryz.func75,by kernel_rfl,rfl⟩,Qcr h1 h2 ⟨_,rfl,fun e2=>?_,fun e2=>?_⟩⟩
  ·exact hy i _ hx (bC e2)
  ·have e2:=bB e2;refine⟨_,iW,⟨rfl,i+1,rfl,by omega,fun r hr=>?_⟩,by simp [Qo];omega⟩
   rw [tk] at hr;rcases bU.1 hr with h3|h3
   ·exact hz r h3
   ·rw [cD.1 h3];exact e2
 ·have hge:i=R.length:=by have:=bB e;omega
  refine hno ?_
  rw [hge,dG] at hz;exact hz
end
theorem QhA:ElT Pg 91 54 2 16:=.of (by kernel_rfl) (by kernel_rfl) (by decide)
theorem QpL (v:Vl):∀ u ∈ Qu v,u.oneCell'=true:=by
 intro u hu;simp only [Qu,bS,dB,fV] at hu;rcases hu with rfl|rfl<;>rfl
abbrev QnN:=Vec Qu 2 54
def Yk (a:AcS):Vl:=Qhc a.1 a.2
theorem JY {r:PR}{h:Hp}{R':RtT}(S:SlP Yp h r.a r.acs.length r.acs)(hn:r.acs.length<=1000)
  (hK:∀ a c h',QnN h h' a c (r.acs.map Yk)->R' (vag [vi r.k.1,vi r.k.2.1,vi r.k.2.2,vsl a (r.acs.map Yk).length c]) h'):Qa Pg 81 [vag (ZU r).enc] h R':=by
 refine Qbv ?_
 intro J30;have hJ:∀ a c h',QnN h h' a c (r.acs.map Yk)->J30 r.k.1 r.k.2.1 r.k.2.2 a (r.acs.map Yk).length c h':=hK
 clear_value J30;refine⟨fun vs hh=>∃(i:Nat)(a:OaT)(c:Nat),vs=[vi i,vi r.k.1,vi r.k.2.1,vi r.k.2.2,vsl a ((r.acs.take i).map Yk).length c]/\i<=r.acs.length/\QnN h hh a c ((r.acs.take i).map Yk),fun vs hh=>r.acs.length-(Qo vs 0).toNat,⟨0,none,0,rfl,cE _,qY (qO h) _ _⟩,?_⟩
 rintro vs hh ⟨i,a,c,rfl,hi,V⟩;refine⟨_,_,_,_,_,_,_,rfl,fun e=>?_,fun e=>?_⟩
 ·have hlt:i<r.acs.length:=by have:=bC e;have h2:(ZU r).n=r.acs.length:=rfl;omega
  have hx:r.acs[i]?=some r.acs[i]:=bD hlt
  have tk:r.acs.take (i+1)=r.acs.take i++[r.acs[i]]:=bL hlt;obtain⟨b,o,ea,hr⟩:=(S.le V.le0).get Zg (by decide) hx
  have h2:(ZU r).n=r.acs.length:=rfl;refine⟨b,o,⟨ea,by omega,by omega⟩,_,_,_,_,by rw [bF];exact hr,Qdw (k:=(r.acs[i]).1) (s:=(r.acs[i]).2) ⟨_,_,rfl,?_⟩⟩
  intro b23 hb23 h24;have hl:((r.acs.take i).map Yk).length=i:=by rw [bQ,bZ];omega
  refine Vec.app QhA (fun v=>rfl) QpL V (by rw [hl];omega) (by rw [hl];omega) (x:=Yk r.acs[i]) hb23 fun a' c' h' V'=>⟨_,_,_,rfl,_,iW,⟨i+1,a',c',?_,by omega,?_⟩,by simp [Qo];omega⟩
  ·rw [tk,cJ];rfl
  ·rw [tk,cJ];exact V'
 ·have hge:i=r.acs.length:=by have:=bB e;have h2:(ZU r).n=r.acs.length:=rfl;omega
  rw [hge,dG] at V ⊢;exact hJ a c hh V
end Go.Proofs.YthicpjafcpfjoaaGreatDoor
namespace Go.Proofs.YthicpjafcpfjoaaGreatDoor
open Go Go.Vc
theorem Qkm {α:Type}{enc:α->List Value}{sz:Nat}(he:∀ x,(enc x).length=sz){l:List α}{i c:Nat}{x:α}(hx:l[i]?=some x)(hc:c<sz):(l.flatMap enc)[i*sz+c]?=(enc x)[c]?:=by
 obtain⟨hi,rfl⟩:=bG.1 hx
 have h1:(l.flatMap enc)[i*sz+c]?=((l.flatMap enc).drop (i*sz))[c]?:=by rw [fP]
 rw [h1,Wo he,dS hi,dI,dO (by rw [he];exact hc)]
theorem QdQ {α:Type}[Inhabited α]{enc:α->List Value}{k:Nat}(he:∀ x,(enc x).length=k)(hk:0<k)(d:Array α):(Go.Sort.flatK enc k d).toList=d.toList.flatMap enc:=by
 apply fR;intro t;have hlen:(d.toList.flatMap enc).length=d.size*k:=by rw [Qi he];simp
 by_cases ht:t<d.size*k
 ·have hi:t / k<d.size:=Nat.div_lt_of_lt_mul (by rw [j9];exact ht)
  have hm:=mD t hk;have hx:d.toList[t / k]?=some d[t / k]!:=by
   rw [kD d (t / k) hi,bD (by simpa using hi)]
   simp
  have h2:=Qkm he hx hm;have e:t / k*k+t % k=t:=by rw [j9];exact Nat.div_add_mod t k
  rw [e] at h2;rw [h2];have h3:=Go.Sort.get_flatK enc k d t ht;have hs:t<(Go.Sort.flatK enc k d).size:=by simpa using ht
  rw [kD _ t hs] at h3;rw [jB,g9 hs,h3]
  have hl:t % k<(enc d[t / k]!).length:=by rw [he];exact hm
  rw [kD (enc d[t / k]!) (t % k) hl,bD hl]
 ·rw [gI (l:=d.toList.flatMap enc) (by omega),gI (by simp;omega)]
abbrev Uq:={ r:D.PRow // -2305843009213693952<=r.s/\r.s<=2305843009213693952 }
instance:Inhabited Uq:=⟨⟨default,by decide⟩⟩
def cfB (x y:Uq):Int:=D.PRow.cf x.1 y.1
theorem Qld (x y:Int):(D.cI x y<0↔x<y)/\(D.cI x y=0↔x=y):=by
 unfold D.cI;split
 ·constructor<;>constructor<;>intro h<;>omega
 ·split
  ·constructor<;>constructor<;>intro h<;>omega
  ·constructor<;>constructor<;>intro h<;>omega
theorem Qqj (a b:Int × Int):D.cV a b<0↔a.1<b.1\/(a.1=b.1/\a.2<b.2):=by
 have h1:=Qld a.1 b.1;have h2:=Qld a.2 b.2;unfold D.cV;split
 ·rename_i h;rw [h1.1];have:a.1≠b.1:=fun e=>h (h1.2.2 e)
  constructor
  ·intro q;exact .inl q
  ·intro q;rcases q with q|q
   ·exact q
   ·exact absurd q.1 this
 ·rename_i h;have e:a.1=b.1:=h1.2.1 (gA.1 h);rw [h2.1];constructor
  ·intro q;exact .inr ⟨e,q⟩
  ·intro q;rcases q with q|q
   ·omega
   ·exact q.2
def Uv (s:Int)(k:Int × Int)(s':Int)(k':Int × Int):Prop:=s<s'\/(s=s'/\(k.1<k'.1\/(k.1=k'.1/\k.2<k'.2)))
instance (s:Int) (k:Int × Int) (s':Int) (k':Int × Int):Decidable (Uv s k s' k'):=by unfold Uv;infer_instance
theorem Qp7 (x y:D.PRow):D.PRow.cf x y<0↔Uv x.s x.k y.s y.k:=by
 unfold D.PRow.cf Uv;split
 ·constructor
  ·intro h;left;omega
  ·intro h;rcases h with h|h<;>omega
 ·rename_i h;rw [Qqj];have e:x.s=y.s:=gA.1 h;constructor
  ·intro q;exact .inr ⟨e,q⟩
  ·intro q;rcases q with q|q
   ·omega
   ·exact q.2
theorem ltB (x y:Uq):ltOf cfB x y=decide (Uv x.1.s x.1.k y.1.s y.1.k):=by
 unfold ltOf cfB;exact fN.2 (Qp7 x.1 y.1)
theorem QqQ:Go.Sort.SWO (ltOf cfB) where
 irrefl x:=by rw [ltB];unfold Uv;simp
 trans x y z h1 h2:=by
  rw [ltB] at *
  unfold Uv at *
  have h1:=bC h1;have h2:=bC h2;exact cL (by omega)
 ntrans x y z h1 h2:=by
  rw [ltB] at *
  unfold Uv at *
  have h1:=bB h1;have h2:=bB h2;exact cO (by omega)
theorem QnD {cur F:Array Value}(hle:F.size<=cur.size)(i:Nat):(Go.Sort.putCells id 0 F cur)[i]?=if i<F.size then F[i]? else cur[i]?:=by
 unfold Go.Sort.putCells;rw [Array.getElem?_mapIdx]
 by_cases hi:i<F.size
 ·have hc:i<cur.size:=by omega
  rw [bJ hi,g9 hc,fD,bJ ⟨cE _,by omega⟩,pM,kD F i hi,g9 hi]
  rfl
 ·rw [bE hi];by_cases hc:i<cur.size
  ·rw [g9 hc,fD,bE (by omega)]
  ·rw [Array.getElem?_eq_none (by omega),Option.map_none]
theorem Ql3 {cur F:Array Value}:(Go.Sort.putCells id 0 F cur).size=cur.size:=by
 unfold Go.Sort.putCells;rw [Array.size_mapIdx]
theorem QaC {w:World}{g m:Nat}{cur:Array Value}{T:TypeId}{d:Array Uq}{os:Array Obj}(hg:w.heap[g]?=some (.cells cur T (0,0)))(b:Nat)(hb:b<w.heap.size):(sortWorldK (fun x:Uq=>x.1.enc) 5 w g 0 m d os).heap[b]?=if b=g then some (.cells (Go.Sort.putCells id 0 (Go.Sort.flatK (fun x:Uq=>x.1.enc) 5 d) cur) T (0,0)) else w.heap[b]?:=by
 unfold sortWorldK;rw [Go.Sort.heap_grow_old _ _ (by show b<(Go.Sort.putRow _ _ _ _ _).heap.size;rw [Go.Sort.size_putRow];exact hb)]
 show ((w.heap.modify g _):Array Obj)[b]?=_;rw [Array.getElem?_modify]
 by_cases e:b=g
 ·subst e;rw [bJ rfl,bJ rfl,hg];rfl
 ·rw [bE (fun q=>e q.symm),bE e]
theorem QfU {h:Hp}{a:OaT}{c:Nat}{R:List D.PRow}(hB:∀ r ∈ R,-2305843009213693952<=r.s/\r.s<=2305843009213693952)(hn:R.length<4611686018427387904)(O:QT h 150 5 a R.length c (R.flatMap D.PRow.enc)){K:RtT}
  (hK:∀(R':List D.PRow)(h':Hp),R'.Perm R->R'.Pairwise (fun x y=>¬ Uv y.s y.k x.s x.k)->QT h' 150 5 a R'.length c (R'.flatMap D.PRow.enc)->(∀ b o,h b=some o->a≠some ⟨b,0,none⟩->h' b=some o)->(∀ b,h b=none->h' b=none)->K (Qf []) h') :
  Qa Pg 78 [vsl a R.length c,Value.func (.func 79) #[] #[]] h K:=by
 intro w hs;obtain⟨hlen,h1⟩:=O;rcases h1 with ⟨ha,hn0,hc0⟩|⟨g,cur,ha,hg,hnc,hcm,hcs,htk⟩
 ·have hR:R=[]:=fU.1 hn0;subst hR ha;refine(AnyF.slices_SortFunc_none Tryz.sortPanes none c _ w).mono ?_
  rintro e w' ⟨rfl,rfl⟩;exact⟨_,h,rfl,hs,Fr.refl h _,hK [] h (qC _) List.Pairwise.nil ⟨hlen,.inl ⟨rfl,rfl,hc0⟩⟩ (fun b o ho _=>ho) (fun b hb=>hb)⟩
 ·subst ha;let Rb:List Uq:=R.pmap (fun r hr=>(⟨r,hr⟩:Uq)) hB
  have hRb:Rb.map (·.1)=R:=by
   show (R.pmap (fun r hr=>(⟨r,hr⟩:Uq)) hB).map (fun x=>x.1)=R
   rw [List.map_pmap];simp
  have hRl:Rb.length=R.length:=by rw [<-hRb,bQ]
  have hflat:∀ L:List Uq,L.flatMap (fun x=>x.1.enc)=(L.map (·.1)).flatMap D.PRow.enc:=fun L=>by rw [List.flatMap_map]
  clear_value Rb;have hwg:=hs g _ hg;have hgl:g<w.heap.size:=(bV.1 hwg).1
  have hk:∀ x:Uq,((fun x:Uq=>x.1.enc) x).length=5:=fun x=>rfl
  have hfl:(Go.Sort.flatK (fun x:Uq=>x.1.enc) 5 Rb.toArray).toList=R.flatMap D.PRow.enc:=by rw [QdQ hk (by decide),hflat,jY,hRb]
  have hfs:(Go.Sort.flatK (fun x:Uq=>x.1.enc) 5 Rb.toArray).size=R.length*5:=by rw [Go.Sort.size_flatK];simp [hRl]
  have hH:Go.Sort.HoldsK (fun x:Uq=>x.1.enc) 5 w g 0 Rb.toArray:=by
   intro j hj;have hj':j<R.length*5:=by rw [<-hfs];exact hj
   constructor
   ·unfold World.cell?;simp only [hwg,Option.isSome_none,jQ,kF,dW];have e1:cur[j]?=(cur.toList.take (R.length*5))[j]?:=by rw [pG hj',jB]
    rw [e1,htk,<-hfl,jB,g9 hj,kD _ j hj]
    rfl
   ·unfold World.frozen?;simp only [hwg];simp
  have eg:∀ args w,(callFunc 79 args).run Pg w=.ok (.enter 79 args) w:=Go.Proofs.enters_of Tryz.func79 (by kernel_rfl) rfl
  have hcon:=AnyQ.slices_SortFunc Tryz.sortPanes 5 (fun w=>by kernel_rfl) (fun w=>by kernel_rfl) (fun x:Uq=>x.1.enc) hk (fun x v hv=>by
   simp only [D.PRow.enc,bS,dB,fV] at hv;rcases hv with rfl|rfl|rfl|rfl|rfl<;>rfl) cfB QqQ 79 #[] g 0 c Rb.toArray w eg (fun m os dk _ x y=>by
    have:=D.closure_world (x:=x.1) (y:=y.1) (by have:=x.2;have:=y.2;omega) (sortWorldK (fun x:Uq=>x.1.enc) 5 w g 0 m dk os)
    exact this) hH hgl (by simp [hRl];exact hn)
  have esz:Rb.toArray.size=R.length:=by simp [hRl]
  rw [esz] at hcon;refine hcon.mono ?_
  rintro e w' ⟨rfl,d',m,os,hp,hso,rfl⟩;obtain⟨p1,p2,p3⟩:=hp;have p1:d'.size=R.length:=by rw [p1,esz]
  have hperm:(d'.toList.map (·.1)).Perm R:=by
   have q:=p3;rw [show d'.extract 0 R.length=d' by rw [<-p1];simp,show Rb.toArray.extract 0 R.length=Rb.toArray by rw [<-esz];simp] at q
   have q2:=q.map (·.1)
   rw [jY,hRb] at q2;exact q2
  have hsort:(d'.toList.map (·.1)).Pairwise (fun x y=>¬ Uv y.s y.k x.s x.k):=by
   rw [kI,fL];intro i j hi hj hij;have hj':j<R.length:=by rw [<-p1];simpa using hj
   have q:=hso i j (cE _) hij hj';rw [kD d' j (by omega),kD d' i (by omega),ltB] at q
   have q:=bB q;simpa using q
  have hfs':(Go.Sort.flatK (fun x:Uq=>x.1.enc) 5 d').size=R.length*5:=by rw [Go.Sort.size_flatK,p1]
  have hfl':(Go.Sort.flatK (fun x:Uq=>x.1.enc) 5 d').toList=(d'.toList.map (·.1)).flatMap D.PRow.enc:=by rw [QdQ hk (by decide),hflat]
  have hle:(Go.Sort.flatK (fun x:Uq=>x.1.enc) 5 d').size<=cur.size:=by rw [hfs',hcs];exact d9 5 hnc
  have hl':(d'.toList.map (·.1)).length=R.length:=by simp [p1]
  refine⟨_,h.set g (.cells (Go.Sort.putCells id 0 (Go.Sort.flatK (fun x:Uq=>x.1.enc) 5 d') cur) 150 (0,0)),rfl,?_,⟨rfl,rfl,rfl,?_,?_⟩,hK (d'.toList.map (·.1)) _ hperm hsort ?_ ?_ ?_⟩
  ·intro b o ho;unfold Hp.set at ho;split at ho
   ·rename_i e;rw [QaC hwg b (by omega),bJ e]
    exact ho
   ·rename_i e;have hb:=hs b o ho;rw [QaC hwg b (bV.1 hb).1,bE e]
    exact hb
  ·show w.heap.size<=(Go.Sort.grow (Go.Sort.putRow _ _ _ _ _) os).heap.size;rw [Go.Sort.size_grow,Go.Sort.size_putRow];exact Nat.le_add_right _ _
  ·intro b hb hnone;have e:b≠g:=by intro q;subst q;rw [hg] at hnone;cases hnone
   exact⟨by rw [QaC hwg b hb,bE e],by rw [qL _ _ e];exact hnone⟩
  ·rw [hl'];refine⟨by rw [Qi (enc:=D.PRow.enc) (sz:=5) (fun x=>rfl),hl'],.inr ⟨g,_,rfl,qK _ _ _,hnc,hcm,by rw [Ql3,hcs],?_⟩⟩
   rw [<-hfl'];apply fR;intro i;rw [gE]
   by_cases hi:i<R.length*5
   ·rw [bJ hi,jB,QnD hle,bJ (by rw [hfs'];exact hi),jB]
   ·rw [bE hi,gI (by rw [fE,hfs'];omega)]
  ·intro b o ho hne;have e:b≠g:=fun q=>hne (by rw [q])
   rw [qL _ _ e];exact ho
  ·intro b hb;have e:b≠g:=by intro q;subst q;rw [hg] at hb;cases hb
   rw [qL _ _ e];exact hb
theorem JW {at_ size slide:Int}{h:Hp}{R:RtT}(hs:1<=slide)(hsl2:slide<=1048576)(hz:0<=size)(hz2:size<=1048576)(ha:-1048576<=at_)(ha2:at_<=1048576)
  (hK:∀ a n c h',h.le h'->SlI h' a n (Zx at_ size slide)->(∀ g o,a=some ⟨g,o,none⟩->h g=none)->R (vsl a n c) h'):Qa Pg 71 [vi at_,vi size,vi slide] h R:=by
 refine Qb6 ?_
 have h1:at_.tdiv slide*slide+at_.tmod slide=at_:=Int.tdiv_mul_add_tmod at_ slide;have h2:at_.tmod slide<slide:=Int.tmod_lt_of_pos at_ (by omega)
 have h3:-slide<at_.tmod slide:=Int.lt_tmod_of_pos at_ (by omega)
 have h4:XN slide (at_.tdiv slide*slide)=true:=YQ.2 ⟨at_.tdiv slide,Int.mul_comm _ _⟩;have h5:-1048576<=at_.tdiv slide/\at_.tdiv slide<=1048576:=by have:=Int.natAbs_tdiv_le_natAbs at_ slide;omega
 refine⟨⟨by omega,by unfold InR;omega⟩,_,iW,?_⟩
 intro J5;have fin:∀ x:Int,XN slide x=true->x<=at_->at_<x+slide->J5 x:=by
  intro x hx1 hx2 hx3;have up:∀(y:Int)(k:Nat),XN slide y=true->y+k<y+slide->∀ n,upto (XN slide) y (k+n)=upto (XN slide) (y+k) n:=by
   intro y k hy hk n;exact MR _ k y n fun z z1 z2=>Uf hs hy z1 (by omega)
  refine⟨fun vs hh=>∃(a:OaT)(n c:Nat)(x:Int),vs=[vsl a n c,vi x]/\XN slide x=true/\x<=at_/\at_-size<x+slide/\(SlI hh a n (upto (XN slide) x (at_-x).toNat)/\∀ g o,a=some ⟨g,o,none⟩->h g=none)/\h.le hh/\-4194304<=x,
   fun vs hh=>(Qo vs 1-(at_-size)).toNat,⟨none,0,0,x,rfl,hx1,hx2,by omega,?_,qO h,by omega⟩,?_⟩
  ·have:=up x (at_-x).toNat hx1 (by omega) 0
   rw [f7] at this;rw [this];exact⟨⟨rfl,.inl rfl⟩,fun g o e=>by cases e⟩
  rintro vs hh ⟨a,n,c,y,rfl,hy1,hy2,hy3,⟨S,hnew⟩,hle,hy4⟩;refine⟨a,n,c,y,rfl,_,iW,fun e=>?_,fun e=>?_⟩
  ·have hlt:at_-size<y:=by simpa using e
   intro b hb h16;have hn:=S.1;have hn2:=Mn (XN slide) y (at_-y).toNat;refine q8 (n:=1) (m:=n) (c2:=c) QeT (qZ hle hb _ (n:=1) [vi y] rfl (by decide)) (S.2.le (qQ (qO hh) hb _)) (by rw [hn,bQ,fZ]) (Qi8 _) (by omega) (by omega) fun a' c' h' O' _ _=>⟨_,_,_,rfl,_,iW,⟨a',_,c',_,rfl,?_,by omega,by omega,?_,O'.le,by omega⟩,by simp [Qo];omega⟩
   ·rw [YQ] at hy1 ⊢;exact pB hy1 (kP _)
   ·have hm:XN slide (y-slide)=true:=by rw [YQ] at hy1 ⊢;exact pB hy1 (kP _)
    have e1:=up (y-slide) (slide-1).toNat hm (by omega) ((at_-y).toNat+1)
    have e2:(slide-1).toNat+((at_-y).toNat+1)=(at_-(y-slide)).toNat:=by omega
    have e3:y-slide+((slide-1).toNat:Int)=y-1:=by omega
    have e4:y-1+1=y:=by omega
    rw [e2,e3,MF,e4,hy1,bJ rfl] at e1;rw [e1];exact⟨O'.sli (l:=y :: upto (XN slide) y (at_-y).toNat),fun g o e=>O'.new g (by rw [e,QT.at0 O'.own g o e])⟩
  ·have hge:y<=at_-size:=by simpa using e
   refine hK a n c hh hle ?_ hnew
   have e1:=up y (at_-size-y).toNat hy1 (by omega) size.toNat
   have e2:(at_-size-y).toNat+size.toNat=(at_-y).toNat:=by omega
   have e3:y+((at_-size-y).toNat:Int)=at_-size:=by omega
   rw [e2,e3] at e1;rw [e1] at S;exact S
 refine⟨fun e=>?_,fun e=>?_⟩
 ·have hlt:at_<at_.tdiv slide*slide:=by simpa using e
  refine⟨_,iW,fin _ ?_ (by omega) (by omega)⟩
  rw [YQ] at h4 ⊢;exact pB h4 (kP _)
 ·have hge:at_.tdiv slide*slide<=at_:=by simpa using e
  exact fin _ h4 hge (by omega)
theorem Qj1 {p:Int->Bool}{lo:Int}:∀{n:Nat} {x:Int},x ∈ upto p lo n->lo<x/\x<=lo+n
 | 0,x,h=>by cases h
 | n+1,x,h=>by
  rw [upto] at h;rcases bU.1 h with h1|h1
  ·have:=Qj1 h1;omega
  ·split at h1
   ·rw [cD.1 h1];omega
   ·cases h1
theorem Qj8 {t size slide x:Int}(hz:0<=size)(h:x ∈ Zx t size slide):t-size<x/\x<=t:=by
 have:=Qj1 h;omega
theorem QkQ {t size slide:Int}:(Zx t size slide).length<=size.toNat:=Mn _ _ _
open Go.Txt
def prT (r:PR):PK × List AcS × Bool:=(r.k,r.acs,r.t)
def StA (ks:List Int)(A:List Ad)(R:List PR):Prop:=R.map prT=(YN A).map fun k=>(k,Yl ks (QD A k),false)
section
variable {ks:List Int}{A:List Ad}{R:List PR}
theorem StA.nil:StA ks [] []:=rfl
theorem StA.keys (H:StA ks A R):R.map (·.k)=YN A:=by
 have:=congrArg (List.map Prod.fst) H;rw [fH,fH] at this;have e:(Prod.fst ∘ fun k:PK=>(k,Yl ks (QD A k),false))=id:=rfl
 rw [e,j8] at this;exact this
theorem StA.at (H:StA ks A R){i:Nat}{r:PR}(hr:R[i]?=some r):(YN A)[i]?=some r.k/\r.acs=Yl ks (QD A r.k)/\r.t=false:=by
 have h1:(YN A)[i]?=some r.k:=by rw [<-H.keys,cC,hr];rfl
 have h2:(R.map prT)[i]?=some (prT r):=by rw [cC,hr];rfl
 rw [H,cC,h1] at h2
 simp only [fD,bH,prT,fC,jL] at h2;exact⟨h1,h2.1.symm,h2.2.symm⟩
theorem StA.put (H:StA ks A R){i:Nat}{r:PR}(hr:R[i]?=some r)(v:List Vl):StA ks (A++[(r.k,v)]) (R.set i { r with acs:=Za r.acs v }):=by
 obtain⟨h1,h2,h3⟩:=H.at hr;have hm:r.k ∈ YN A:=cF h1;have hku:YN (A++[(r.k,v)])=YN A:=by rw [JA,bJ hm]
 unfold StA;rw [hku];apply fR;intro j;rw [cC,cC,gN]
 have hj:(R.map prT)[j]?=((YN A).map fun k=>(k,Yl ks (QD A k),false))[j]?:=by rw [H]
 rw [cC,cC] at hj
 obtain⟨hi,_⟩:=bG.1 hr
 by_cases e:i=j
 ·subst e;rw [bJ rfl,bJ hi,h1];simp only [fD,prT];rw [Xf,bJ rfl,Kr,h2,h3]
 ·rw [bE e,hj];cases hk:(YN A)[j]? with
  | none=>rfl
  | some k=>
   simp only [fD,bH];have hne:r.k≠k:=by
    intro q;obtain⟨hi1,q1⟩:=bG.1 h1
    obtain⟨hj1,q2⟩:=bG.1 hk
    have nd:=fL.1 (QcR A);rcases pC i j with h5|h5|h5
    ·exact nd i j hi1 hj1 h5 (by rw [q1,q2,q])
    ·exact e h5
    ·exact nd j i hj1 hi1 h5 (by rw [q1,q2,q])
   rw [Xf,bE hne,dH]
theorem StA.new (H:StA ks A R){k:PK}(hk:k ∉ YN A)(v:List Vl)(a:OaT)(c:Nat):StA ks (A++[(k,v)]) (R++[⟨k,a,c,Za (ZP ks) v,false⟩]):=by
 unfold StA at H ⊢;rw [JA,bE hk,cJ,cJ,H];congr 1
 ·apply fK;intro k' hk';have hne:k≠k':=fun e=>hk (e▸hk')
  rw [Xf,bE hne,dH]
 ·simp only [dD,kC,prT];rw [Xf,bJ rfl,QdP hk];rfl
end
section
variable {h0 h:Hp}{a:OaT}{c:Nat}{R:List PR}
theorem Xc.base {h1:Hp}(N:Xc h0 h a c R)(l:h1.le h0):Xc h1 h a c R:=by
 obtain⟨F,E,n1,n2⟩:=N.i;exact⟨Qg.trans l N.v,F,E,fun b hb=>qR l (n1 b hb),n2⟩
theorem Xc.rebase (N:Xc h0 h a c R){h1:Hp}(l1:h.le h1){g:OaT}(hg:∀ b o,g=some ⟨b,o,none⟩->h b=none):∃ hx:Hp,h0.le hx/\(∀{xs:List Value},Qe h1 g xs->Qe hx g xs)/\Xc hx h1 a c R:=by
 obtain⟨F,E,n1,n2⟩:=N.i;have al:=(ZV.fp Ki R).al E;have alo:=(Qaf.fp _ _ _ _ _ _).al N.v.ownF;have N1:=N.le l1;cases g with
 | none=>
  refine⟨h0,qO _,fun H=>?_,N1⟩
  rcases H with e|⟨b,o,e,_⟩
  ·exact .inl e
  ·cases e
 | some g=>
  have hgn:g.spot=none->h g.block=none:=fun hs=>hg g.block g.off (by obtain⟨x,y,z⟩:=g;simp only at hs;subst hs;rfl)
  by_cases hs:g.spot=none
  ·have hgn:=hgn hs;refine⟨fun b=>if b=g.block then h1 b else h0 b,fun b o ho=>?_,fun H=>?_,?_⟩
   ·have:b≠g.block:=fun e=>by subst e;rw [N.le0 _ _ ho] at hgn;cases hgn
    simp only [bE this];exact ho
   ·rcases H with e|⟨b,o,e,hr⟩
    ·exact .inl e
    ·refine .inr ⟨b,o,e,?_⟩
     have hb:b=g.block:=by simp only [bH] at e;rw [e]
     unfold Hp.row at hr ⊢;simp only [bJ hb];exact hr
   ·have hle:Hp.le (fun b=>if b=g.block then h1 b else h0 b) h1:=by
     intro b o ho;simp only at ho;split at ho
     ·exact ho
     ·exact N1.le0 b o ho
    have hnew:∀ b,h b≠none->h0 b=none->(fun b=>if b=g.block then h1 b else h0 b) b=none:=by
     intro b hb hb0;have:b≠g.block:=fun e=>by subst e;exact hb hgn
     simp only [bE this];exact hb0
    obtain⟨F1,E1,m1,m2⟩:=N1.i;refine⟨⟨hle,N1.v.own,fun b hb=>hnew b (alo b hb) (N.v.new b hb)⟩,F,(ZV.fp Ki R).keep E fun b _ o ho=>l1 b o ho,fun b hb=>hnew b (al b hb) (n1 b hb),n2⟩
  ·refine⟨h0,qO _,fun H=>?_,N1⟩
   rcases H with e|⟨b,o,e,_⟩
   ·exact .inl e
   ·simp only [bH] at e;rw [e] at hs;exact absurd rfl hs
theorem Qml {α β:Type}{f:α->β}{l:List β}{m:List α}(p:l.Perm (m.map f)):∃ m':List α,m'.Perm m/\m'.map f=l:=by
 have key:∀{l l':List β},l.Perm l'->∀ m:List α,m.map f=l'->∃ m':List α,m'.Perm m/\m'.map f=l:=by
  intro l l' q;induction q with
  | nil=>intro m e;exact⟨m,qC _,e⟩
  | cons x q ih=>
   intro m e;match m,e with
   | y :: m,e=>
    simp only [dD,g8] at e;obtain⟨m',p2,e2⟩:=ih m e.2;exact⟨y :: m',p2.cons y,by rw [dD,e2,e.1]⟩
  | swap x y q=>
   intro m e;match m,e with
   | g1 :: g2 :: gs,e=>
    simp only [dD,g8] at e;exact⟨g2 :: g1 :: gs,List.Perm.swap _ _ _,by simp [e]⟩
  | trans q1 q2 ih1 ih2=>
   intro m e;obtain⟨m1,p1,e1⟩:=ih2 m e;obtain⟨m2,p2,e2⟩:=ih1 m1 e1;exact⟨m2,p2.trans p1,e2⟩
 exact key p m rfl
theorem Xc.sort {A:List Ad}{ks:List Int}(N:Xc h0 h a c R)(H:StA ks A R)(hb:∀ r ∈ R,-2305843009213693952<=r.k.1/\r.k.1<=2305843009213693952)(hn:R.length<4611686018427387904){K:RtT}
  (hK:∀ R' h',Xc h0 h' a c R'->R'.length=R.length->R'.map (fun r=>(r.k,r.acs))=(Zi A).map (fun k=>(k,Yl ks (QD A k)))->K (Qf []) h') :
  Qa Pg 78 [vsl a R.length c,Value.func (.func 79) #[] #[]] h K:=by
 have hl:(R.map ZU).length=R.length:=bQ _;have key:=QfU (h:=h) (a:=a) (c:=c) (R:=R.map ZU) (K:=K) (fun r hr=>by
  obtain⟨x,hx,rfl⟩:=cZ.1 hr;exact hb x hx) (by rw [hl];exact hn) N.v.own (fun R' h' p hs O F _=>by
  obtain⟨R2,p2,e2⟩:=Qml p;have hl2:R2.length=R.length:=p2.length_eq;obtain⟨F0,E,n1,n2⟩:=N.i;have M:Mut (fun b=>a=some ⟨b,0,none⟩) h (fun b=>a=some ⟨b,0,none⟩) h':=⟨fun b o hb ho=>F b o ho hb,fun b hb=>.inl hb⟩
  obtain⟨l',_⟩:=M.old N.le0 N.v.new;refine hK R2 h' ⟨⟨l',by rw [<-e2] at O;exact O,N.v.new⟩,F0,(ZV.fp Ki _).keep (E.perm p2) (fun b hb o ho=>F b o ho (n2 b hb)),n1,n2⟩ hl2 ?_
  have hkeys:R2.map (·.k)=Zi A:=by
   refine Qme ?_ ?_
   ·have:=p2.map (·.k)
    rw [H.keys] at this;exact this
   ·rw [<-e2,kI] at hs;rw [kI];exact hs
  rw [<-hkeys,fH];apply fK;intro r hr;obtain⟨i,hi⟩:=gB (p2.mem_iff.1 hr)
  rw [(H.at hi).2.1];rfl)
 rw [hl] at key;exact key
end
def Nb {α:Type}(enc:α->List Value)(h:Hp)(a:OaT)(n:Nat)(L:List (List α)):Prop:=∃ R:List (JF α),R.map Prod.snd=L/\n=L.length/\Qe h a (R.map QcD)/\∀(j:Nat)(r:JF α),R[j]?=some r->Qe h r.1.1 (r.2.flatMap enc)/\r.2.length<=r.1.2
theorem Nb.r {α:Type}{enc:α->List Value}{h:Hp}{a:OaT}{n:Nat}{L:List (List α)}(T:Nb enc h a n L):Qp0 enc h a n L:=by
 obtain⟨R,e,hn,H,H2⟩:=T;exact⟨R,e,hn,H,fun j r hr=>(H2 j r hr).1⟩
theorem Nb.le {α:Type}{enc:α->List Value}{h h':Hp}{a:OaT}{n:Nat}{L:List (List α)}(T:Nb enc h a n L)(hl:h.le h'):Nb enc h' a n L:=by
 obtain⟨R,e,hn,H,H2⟩:=T;exact⟨R,e,hn,H.le hl,fun j r hr=>⟨(H2 j r hr).1.le hl,(H2 j r hr).2⟩⟩
theorem Nb.cell {α:Type}{enc:α->List Value}{h:Hp}{a:OaT}{n:Nat}{L:List (List α)}(D:Nb enc h a n L){j:Nat}{l:List α}(hl:L[j]?=some l):∃ b o a' c',a=some ⟨b,o,none⟩/\h.cell b (o+j*1)=some (vsl a' l.length c')/\SlP enc h a' l.length l/\l.length<=c':=by
 obtain⟨R,rfl,hn,H,H2⟩:=D;rw [cC,dF] at hl
 obtain⟨r,hr,rfl⟩:=hl;obtain⟨b,o,ea,hc⟩:=H.get1 (j:=j) (v:=QcD r) (by rw [cC,hr];rfl)
 exact⟨b,o,r.1.1,r.1.2,ea,hc,⟨rfl,(H2 j r hr).1⟩,(H2 j r hr).2⟩
end Go.Proofs.YthicpjafcpfjoaaGreatDoor
namespace Go.Proofs.YthicpjafcpfjoaaGreatDoor
open Go Go.Vc
theorem Kf {u0:Int}{u1:Int}{u2:Int}{u3:Int}{h:Hp}{R:RtT}(H:Qa Pg 136 [vi u0,vi u2] h fun v1 h2=>∃ x3,v1=vi x3/\Qa Pg 136 [vi u1,vi u3] h2 fun v4 h5=>∃ x6,v4=vi x6/\∀ b7,h5 b7=none->let h8:=Hp.set h5 b7 (Qb [vi x3,vi x6] 3);Qa Pg 135 [(vsl (some ⟨b7,0,none⟩) 2 2)] h8 fun v9 h10=>∃ x11,v9=vi x11/\R (vi x11) h10):Qa Pg 80 [vag [vi u0,vi u1],vag [vi u2,vi u3]] h R:=callC ⟨[],[],[(1,[0,1,2,3,5,6,7,8,4,9,10,11,12])]⟩ Tryz.func80 [.ag [.v (vi u0),.v (vi u1)],.ag [.v (vi u2),.v (vi u3)]] H
theorem Un {u0:OaT}{u1 u2:Nat}{h:Hp}{R:RtT}(H:∃(I2:LtT)(m3:LmT),I2 [vi 0] h/\∀ vs4 h5,I2 vs4 h5->∃ x6,vs4=[vi x6]/\((decide (x6<(u1:Int)))=true->∃ b9 o10,Ix u0 b9 o10 x6 u1/\∃ x11,Hp.cell h5 b9 (o10+x6.toNat*1)=some (vi x11)/\((decide (x11≠0))=true->R (vi x11) h5)/\((decide (x11≠0))=false->∃ x13,IsW x13 (x6+1)/\I2 [vi x13] h5/\m3 [vi x13] h5<m3 vs4 h5))/\((decide (x6<(u1:Int)))=false->R (vi 0) h5)):Qa Pg 135 [vsl u0 u1 u2] h R:=callC ⟨[],[(3,([8],[.one (.int .i64)],[]))],[]⟩ Tryz.func135 [.one (.v (vsl u0 u1 u2))] H
theorem Wa {u0:Int}{u1:Int}{h:Hp}{R:RtT}(H:Qa Pg 196 [vi u0] h fun v1 h2=>∃ p3,v1=vb p3/\Qa Pg 196 [vi u1] h2 fun v4 h5=>∃ p6,v4=vb p6/\(p3=true->(p6=true->R (vi 0) h5)/\(p6=false->R (vi (-1)) h5))/\(p3=false->(p6=true->R (vi 1) h5)/\(p6=false->((decide (u0<u1))=true->R (vi (-1)) h5)/\((decide (u0<u1))=false->((decide (u0>u1))=true->R (vi 1) h5)/\((decide (u0>u1))=false->R (vi 0) h5))))):Qa Pg 136 [vi u0,vi u1] h R:=callO Tryz.func136 [.one (.v (vi u0)),.one (.v (vi u1))] H
theorem WU {u0:Int}{h:Hp}{R:RtT}(H:R (vb (decide (u0≠u0))) h):Qa Pg 196 [vi u0] h R:=callO Tryz.func196 [.one (.v (vi u0))] H
theorem Jo {x y:Int}{h:Hp}{R:RtT}(hK:R (vi (QaL x y)) h):Qa Pg 136 [vi x,vi y] h R:=by
 have nan:∀{z:Int} {K:RtT},K (vb false) h->Qa Pg 196 [vi z] h K:=by
  intro z K hk;refine WU ?_
  simpa using hk
 refine Wa ?_
 unfold QaL at hK;refine nan ⟨_,rfl,nan ⟨_,rfl,fun e=>by (cases e),fun _=>⟨fun e=>by (cases e),fun _=>⟨fun e=>?_,fun e=>⟨fun e2=>?_,fun e2=>?_⟩⟩⟩⟩⟩
 ·rw [bJ (bC e)] at hK;exact hK
 ·rw [bE (bB e),bJ (bC e2)] at hK;exact hK
 ·rw [bE (bB e),bE (bB e2)] at hK;exact hK
theorem QeB {x y:Int}{a:OaT}{c:Nat}{h:Hp}{R:RtT}(S:SlI h a 2 [x,y])(hK:R (vi (if x≠0 then x else y)) h):Qa Pg 135 [vsl a 2 c] h R:=by
 refine Un ?_
 refine⟨fun vs hh=>hh=h/\∃ i:Nat,vs=[vi i]/\i<=2/\(0<i->x=0)/\(1<i->y=0),fun vs hh=>2-(Qo vs 0).toNat,⟨rfl,0,rfl,by decide,by simp,by simp⟩,?_⟩
 rintro vs hh ⟨rfl,i,rfl,hi,h1,h2⟩;refine⟨i,rfl,fun e=>?_,fun e=>?_⟩
 ·have hlt:i<2:=by have:=bC e;omega
  obtain⟨b,o,ea,hc⟩:=S.get hlt;refine⟨b,o,⟨ea,by omega,by omega⟩,_,hc,fun e=>?_,fun e=>⟨_,iW,⟨rfl,i+1,rfl,by omega,?_,?_⟩,by simp [Qo];omega⟩⟩
  ·match i,hlt with
   | 0,_=>
    have hx:x≠0:=bC e;rw [bJ hx] at hK;exact hK
   | 1,_=>
    have hx:=h1 (by decide)
    rw [bE (by simp [hx])] at hK;exact hK
  ·intro _;match i,hlt with
   | 0,_=>have:=bB e;simpa using this
   | 1,_=>exact h1 (by decide)
  ·intro hi1;match i,hlt with
   | 0,_=>omega
   | 1,_=>have:=bB e;simpa using this
 ·have hge:i=2:=by have:=bB e;omega
  subst hge;have hx:=h1 (by decide)
  have hy:=h2 (by decide)
  rw [bE (by simp [hx]),hy] at hK
  exact hK
theorem Qb3 {a b:Int × Int}{h:Hp}{R:RtT}(hK:∀ h',h.le h'->R (vi (QmC a b)) h'):Qa Pg 80 [vag (Qu a),vag (Qu b)] h R:=by
 refine Kf ?_
 refine Jo ⟨_,rfl,Jo ⟨_,rfl,?_⟩⟩
 intro b7 hb7 h8;refine QeB (x:=QaL a.1 b.1) (y:=QaL a.2 b.2) ⟨rfl,qW _ _ [vi (QaL a.1 b.1),vi (QaL a.2 b.2)] _⟩ ⟨_,rfl,hK _ (qQ (qO h) hb7 _)⟩
end Go.Proofs.YthicpjafcpfjoaaGreatDoor
namespace Go.Vc
open Go
section
variable {P:Program}{h:Hp}
theorem Qf8 (w:World)(dT sT ty elem:TypeId)(k g o dLen dCap:Nat)(a:Addr)(sLen sCap:Nat)(cur:Array Value)(t:TypeId)(cs:List Value)
  (hu:P.underlying dT=some (.slice elem)) (hs:(P.info? elem).map (·.size)=some k)
  (hg:w.heap[g]?=some (.cells cur t (0,0))) (hn:cs.length=Nat.min sLen dLen*k)
  (hsrc:∀ j v,cs[j]?=some v->w.cell? (a.add j)=some v) (hfit:o+cs.length<=cur.size) (h1:∀ v ∈ cs,v.oneCell'=true) :
  (Builtin.copy_ #[dT,sT] ty #[.slice (some ⟨g,o,none⟩) dLen dCap,.slice (some a) sLen sCap]).run P w =
   .ok (goInt (Nat.min sLen dLen)) (w.setRow g (cur.toList.take o++cs++cur.toList.drop (o+cs.length)).toArray):=by
 have hl:=run_firstCells_some (P:=P) w k (Nat.min sLen dLen) a sLen sCap cs hn hsrc;have hst:=run_storeCells_at P g o t cs 0 cur w hg (by simpa using hfit) h1
 cases hq:P.info? elem with
 | none=>simp [hq] at hs
 | some i=>
  have hi:i.size=k:=by simpa [hq] using hs
  simp [Builtin.copy_,run_underlying hu,Builtin.lenOf,sizeOf,typeInfo,hq,hi,hl,hst]
theorem Qmf {dT sT ty e:TypeId}(hu:P.underlying dT=some (.slice e)){k:Nat}(hi:(P.info? e).map (·.size)=some k){g o dLen dCap:Nat}{a2:OaT}{sLen c2:Nat}{L ys:List Value}{t:TypeId}(hg:h g=some (Qb L t))(H:Qe h a2 ys)(hl:ys.length=Nat.min sLen dLen*k)(hfit:o+ys.length<=L.length)
  (h1:∀ u ∈ ys,u.oneCell'=true) (hne:ys≠[]) {K:RtT} (hK:K (vi (Nat.min sLen dLen:Nat)) (h.set g (Qb (QP L o ys) t))):Qh P (Builtin.copy_ #[dT,sT] ty #[vsl (some ⟨g,o,none⟩) dLen dCap,vsl a2 sLen c2]) h K:=by
 intro w hs;rcases H with h4|⟨b2,o2,rfl,hr⟩
 ·exact absurd h4 hne
 ·have hrun:=Qf8 (P:=P) w dT sT ty e k g o dLen dCap ⟨b2,o2,none⟩ sLen c2 L.toArray t ys hu hi (hs g _ hg) hl (fun j v hj=>by rw [Yo];exact ZA (qT hr hj) hs) (by simpa using hfit) h1
  exact⟨_,_,_,hrun,JC hs hg,UO hg,hK⟩
theorem Qk0 {t ty e:TypeId}{k bytes:Nat}(T:ElT P t e k bytes){z:List Value}(hz:(Xg P e).map Qn=some z)(h1:∀ u ∈ z,u.oneCell'=true){g o n c:Nat}{L:List Value}(hn:0<n)(hg:h g=some (Qb L e))(hfit:o+n*k<=L.length){K:RtT}
  (hK:K (Qf []) (h.set g (Qb (QP L o ((List.replicate n z).flatten)) e))):Qh P (Builtin.clear_ #[t] ty #[vsl (some ⟨g,o,none⟩) n c]) h K:=by
 intro w hs;obtain⟨i,zv,hi,hiz,hsz,hby,hzs⟩:=T.el;have hzl:z=zv.cells.toList:=by
  unfold Xg at hz;rw [hi] at hz;simp only [gX,hiz,fD,bH] at hz;rw [<-hz,JZ]
 have hzl2:z.length=k:=by rw [hzl,fE];exact hzs
 have hfl:(Builtin.zeroCells zv.cells n).toList=(List.replicate n z).flatten:=by
  have e1:Builtin.zeroCells zv.cells n=((List.replicate n zv.cells.toList).flatten).toArray:=MG zv.cells n (by rw [hzs];exact T.pos)
  rw [e1,hzl]
 have hlen:((List.replicate n z).flatten).length=n*k:=by rw [jZ];simp [hzl2]
 have h1':∀ u ∈ (List.replicate n z).flatten,u.oneCell'=true:=by intro u hu;obtain⟨l,hl,hu⟩:=List.mem_flatten.1 hu;rw [fQ hl] at hu;exact h1 u hu
 have hst:=run_storeCells_at P g o e ((List.replicate n z).flatten) 0 L.toArray w (hs g _ hg) (by simp only [f7,gZ];rw [hlen];exact hfit) h1'
 have hrun:(Builtin.clear_ #[t] ty #[vsl (some ⟨g,o,none⟩) n c]).run P w=.ok (Qf []) (w.setRow g (QP L o ((List.replicate n z).flatten)).toArray):=by
  obtain⟨m,rfl⟩:∃ m,n=m+1:=⟨n-1,by omega⟩
  simp only [f7] at hst;simp [Builtin.clear_,run_underlying T.sl,zeroValue,typeInfo,hi,hiz,hfl,hst,QP]
 exact⟨_,_,_,hrun,JC hs hg,UO hg,hK⟩
theorem Qb8 {t tn ty e:TypeId}{k bytes:Nat}(T:ElT P t e k bytes)(htn:P.underlying tn=some (.int .i64)){z:List Value}(hz:(Xg P e).map Qn=some z){a:OaT}{n c m:Nat}{xs:List Value}(H:Qe h a xs)(hxs:xs.length=n*k)(hm:0<m)(hc:c<n+m)
  (hb:(n+m)*bytes<=140737488355328) (h63:n+m<=140737488355328) {K:RtT}
  (hK:∀ a' c' h',Qg h h' e k a' (n+m) c' (xs++(List.replicate m z).flatten)->K (vsl a' (n+m) c') h') :
  Qh P (Builtin.append_ #[t,tn] ty #[vsl a n c,vi (m:Int)]) h K:=by
 intro w hs;obtain⟨i,zv,hi,hiz,rfl,rfl,hzs⟩:=T.el;have hzl:z=zv.cells.toList:=by
  unfold Xg at hz;rw [hi] at hz;simp only [gX,hiz,fD,bH] at hz;rw [<-hz,JZ]
 have hzl2:z.length=i.size:=by rw [hzl,fE];exact hzs
 have hfl:∀ m,(Builtin.zeroCells zv.cells m).toList=(List.replicate m z).flatten:=fun m=>by
  have e1:Builtin.zeroCells zv.cells m=((List.replicate m zv.cells.toList).flatten).toArray:=MG zv.cells m (by rw [hzs];exact T.pos)
  rw [e1,hzl]
 have hlen:((List.replicate m z).flatten).length=m*i.size:=by rw [jZ];simp [hzl2]
 have hold:(Builtin.firstCells i.size n (.slice a n c)).run P w.drew=.ok xs.toArray w.drew:=by
  cases a with
  | none=>
   have:xs=[]:=by
    rcases H with h4|⟨b,o,e,_⟩
    ·exact h4
    ·cases e
   subst this;exact run_firstCells_none _ _ _ _ _
  | some ad=>
   have hsrc:=Qe.cells hs H;exact run_firstCells_some w.drew i.size n ad n c xs hxs (fun j v hj=>hsrc j v hj)
 have hbm:m*i.bytes<=(n+m)*i.bytes:=d9 _ (by omega)
 have hr:=Lib.run_append_grow_zeros (P:=P) w t tn ty e i zv .i64 .i64 T.sl htn hi hiz a n c xs hold m hm T.pos hc (by omega) (by omega) (growslice_fits hc hb)
 have hno:h w.heap.size=none:=Sub.none hs;refine⟨_,_,_,hr,Xi hs _,XT h w _,hK _ _ _ ⟨qQ (qO h) hno _,⟨?_,.inr ⟨w.heap.size,_,rfl,qK _ _ _,grownCap_ge w (n+m) c e,grownCap_le_maxLen w (n+m) c e (by simp only [maxLen];omega),?_,?_⟩⟩,fun g hg=>by cases hg;exact hno⟩⟩
 ·rw [bO,hlen,hxs,gH]
 ·have hge:=grownCap_ge w (n+m) c e;simp only [kY,gZ,size_zeroCells,hzs,hxs,<-gH];congr 1
  omega
 ·simp only [kS,hfl m];rw [jT (by rw [bO,hlen,hxs,gH])]
theorem Qh8 {f:FuncId}{fn:Func}{tS tR e:TypeId}(hf:P.funcs[f]?=some fn)(hname:(fn.name == "runtime.NumGoroutine")=false)(hb:fn.body.isNone=true)(hn:Extern.findNext fn=none)(he:Extern.find fn=some (Extern.SlicesOverlaps.overlaps #[tS,tS] #[tR]))
  (ht:P.underlying tS=some (.slice e)) (hi:(P.info? e).isSome=true) {b1 o1 b2 o2 la ca lb cb:Nat} (hne:b1≠b2) {L1 L2:List Value} {t1 t2:TypeId} (h1:h b1=some (Qb L1 t1)) (h2:h b2=some (Qb L2 t2)) (hL2:L2≠[]) {K:RtT} (hK:K (vb false) h) :
  Qbk P f [vsl (some ⟨b1,o1,none⟩) la ca,vsl (some ⟨b2,o2,none⟩) lb cb] h K:=by
 intro w hs;obtain⟨i,hi⟩:=fJ.1 hi;have w1:=hs b1 _ h1;have w2:=hs b2 _ h2;refine⟨vb false,w,h,?_,hs,Fr.refl h w,hK⟩
 rw [run_callFunc_extern hf hname hb hn he];have:=Lib.run_overlaps_apart (P:=P) w tS tR e ht i.size (fun w=>by simp [sizeOf,typeInfo,hi]) ⟨b1,o1,none⟩ ⟨b2,o2,none⟩ la ca lb cb hne t1 t2 L1.length L2.length (by simp [World.shape?,w1]) (by simp [World.shape?,w2]) (by simpa using hL2) (by simp [World.frozen?,w1]) (by simp [World.frozen?,w1])
 show ((Extern.SlicesOverlaps.overlaps #[tS,tS] #[tR] #[.slice (some ⟨b1,o1,none⟩) la ca,.slice (some ⟨b2,o2,none⟩) lb cb]).run P w).andThen _=_;rw [this];rfl
theorem QpZ {t e ty:TypeId}(ht:P.underlying t=some (.slice e)){a:OaT}{n c:Nat}:Rd P (Builtin.cap_ #[t] ty #[vsl a n c]) h (vi (c:Int)):=by
 intro w _;simp [Builtin.cap_,run_underlying ht,goInt]
theorem Qg.grow {h0:Hp}{e:TypeId}{sz n m c:Nat}{a:OaT}{xs:List Value}(O:Qg h0 h e sz a n c xs)(h1:n<=m)(h2:m<=c):∃ ys,ys.length=(m-n)*sz/\Qg h0 h e sz a m c (xs++ys):=by
 obtain⟨l,⟨hl,O'⟩,nw⟩:=O;rcases O' with ⟨ha,hn,hc⟩|⟨g,cur,ha,hg,h3,h4,h5,h6⟩
 ·have:m=n:=by omega
  subst this;exact⟨[],by simp,l,by rw [dH];exact⟨hl,.inl ⟨ha,hn,hc⟩⟩,nw⟩
 ·have hb:n*sz<=m*sz:=d9 _ h1;have hb2:m*sz<=c*sz:=d9 _ h2;have hcl:cur.toList.length=c*sz:=by rw [fE];exact h5
  refine⟨(cur.toList.take (m*sz)).drop (n*sz),by rw [d5,bZ,hcl,dU hb2,Nat.sub_mul],l,⟨?_,.inr ⟨g,cur,ha,hg,h2,h4,h5,?_⟩⟩,nw⟩
  ·rw [bO,hl,d5,bZ,hcl,dU hb2];omega
  ·have h7:(cur.toList.take (m*sz)).take (n*sz)=xs:=by rw [jP,dU hb];exact h6
   have h8:=dX (n*sz) (cur.toList.take (m*sz));rw [h7] at h8;exact h8.symm
theorem Qg.blk {h0:Hp}{e:TypeId}{sz n c:Nat}{a:OaT}{xs:List Value}(O:Qg h0 h e sz a n c xs)(hc:0<c)(hz:0<sz):∃ g L,a=some ⟨g,0,none⟩/\h g=some (Qb L e)/\L≠[]:=by
 obtain⟨l,⟨hl,O'⟩,nw⟩:=O;rcases O' with ⟨ha,hn,hc'⟩|⟨g,cur,ha,hg,h3,h4,h5,h6⟩
 ·omega
 ·refine⟨g,cur.toList,ha,by rw [hg],fun e2=>?_⟩
  have:=congrArg List.length e2;rw [fE,h5] at this;have:=Nat.mul_pos hc hz;simp at *
  omega
theorem Qg.copy {h0:Hp}{dT sT ty e:TypeId}(hu:P.underlying dT=some (.slice e)){sz:Nat}(hi:(P.info? e).map (·.size)=some sz){n c:Nat}{a:OaT}{xs:List Value}(O:Qg h0 h e sz a n c xs){g j dLen dCap:Nat}(ha:a=some ⟨g,0,none⟩){a2:OaT}{sLen c2:Nat}{ys:List Value}(H:Qe h a2 ys)
  (hl:ys.length=Nat.min sLen dLen*sz) (hfit:j+ys.length<=n*sz) (h1:∀ u ∈ ys,u.oneCell'=true) (hne:ys≠[]) {K:RtT}
  (hK:∀ h',Qg h0 h' e sz a n c (QP xs j ys)->(∀ b o,b≠g->h b=some o->h' b=some o)->K (vi (Nat.min sLen dLen:Nat)) h'):Qh P (Builtin.copy_ #[dT,sT] ty #[vsl (some ⟨g,j,none⟩) dLen dCap,vsl a2 sLen c2]) h K:=by
 obtain⟨l,⟨hl0,O'⟩,nw⟩:=O;rcases O' with ⟨ha',_⟩|⟨g',cur,ha',hg,h3,h4,h5,h6⟩
 ·rw [ha'] at ha;cases ha
 ·rw [ha'] at ha;cases ha;have hb:n*sz<=c*sz:=d9 _ h3;have hcl:cur.toList.length=c*sz:=by rw [fE];exact h5
  refine Qmf hu hi (L:=cur.toList) (t:=e) (by rw [hg]) H hl (by omega) h1 hne ?_
  refine hK _ ⟨fun b o ho=>?_,⟨?_,.inr ⟨g,_,ha',qK _ _ _,h3,h4,?_,?_⟩⟩,nw⟩ fun b o hne ho=>(qL h _ hne).trans ho
  ·have hne:b≠g:=fun q=>by subst q;rw [nw b ha'] at ho;cases ho
   exact(qL h _ hne).trans (l b o ho)
  ·rw [Yz _ _ _ (by omega)];exact hl0
  ·show (QP cur.toList j ys).length=_;rw [Yz _ _ _ (by omega)];exact hcl
  ·show (QP cur.toList j ys).take (n*sz)=_;rw [Qcs _ _ _ _ hfit (by rw [hcl];exact hb),h6]
theorem Qg.clear {h0:Hp}{t ty e:TypeId}{sz bytes:Nat}(T:ElT P t e sz bytes){z:List Value}(hz:(Xg P e).map Qn=some z)(h1:∀ u ∈ z,u.oneCell'=true)(hzl:z.length=sz){n c:Nat}{a:OaT}{xs:List Value}(O:Qg h0 h e sz a n c xs){g j k dCap:Nat}(ha:a=some ⟨g,0,none⟩)(hk:0<k)(hfit:j+k*sz<=n*sz){K:RtT}
  (hK:∀ h',Qg h0 h' e sz a n c (QP xs j ((List.replicate k z).flatten))->K (Qf []) h'):Qh P (Builtin.clear_ #[t] ty #[vsl (some ⟨g,j,none⟩) k dCap]) h K:=by
 have hlen:((List.replicate k z).flatten).length=k*sz:=by rw [jZ];simp [hzl]
 obtain⟨l,⟨hl0,O'⟩,nw⟩:=O;rcases O' with ⟨ha',_⟩|⟨g',cur,ha',hg,h3,h4,h5,h6⟩
 ·rw [ha'] at ha;cases ha
 ·rw [ha'] at ha;cases ha;have hb:n*sz<=c*sz:=d9 _ h3;have hcl:cur.toList.length=c*sz:=by rw [fE];exact h5
  refine Qk0 T hz h1 hk (L:=cur.toList) (by rw [hg]) (by omega) ?_
  refine hK _ ⟨fun b o ho=>?_,⟨?_,.inr ⟨g,_,ha',qK _ _ _,h3,h4,?_,?_⟩⟩,nw⟩
  ·have hne:b≠g:=fun q=>by subst q;rw [nw b ha'] at ho;cases ho
   exact(qL h _ hne).trans (l b o ho)
  ·rw [Yz _ _ _ (by omega)];exact hl0
  ·show (QP cur.toList j _).length=_;rw [Yz _ _ _ (by omega)];exact hcl
  ·show (QP cur.toList j _).take (n*sz)=_;rw [Qcs _ _ _ _ (by omega) (by rw [hcl];exact hb),h6]
end
end Go.Vc
namespace Go.Proofs.YthicpjafcpfjoaaGreatDoor
open Go Go.Vc
theorem Ng {u0:OaT}{u1 u2:Nat}{u3:Int}{u4:Int}{u5:Int}{h:Hp}{R:RtT}(H:∀ b1,h b1=none->let h2:=Hp.set h b1 (Qb [vi u3] 3);Qa Pg 250 [vsl u0 u1 u2,vag [vi u4,vi u5],(Value.func (.func 251) #[] #[vhp b1 0])] h2 fun v3 h4=>∃ x5 p6,v3=Qf [vi x5,vb p6]/\R (Qf [vi x5,vb p6]) h4):Qa Pg 215 [vag [vsl u0 u1 u2],vi u3,vag [vi u4,vi u5]] h R:=callC ⟨[4],[],[]⟩ Tryz.func215 [.ag [.v (vsl u0 u1 u2)],.one (.v (vi u3)),.ag [.v (vi u4),.v (vi u5)]] H
theorem V3 {u0:Int}{u1:Int}{u2:Int}{u3:OaT}{u4 u5:Nat}{u6:Bool}{u7:Int}{u8:Int}{f_0b f_0o:Nat}{h:Hp}{R:RtT}(H:∃ x1,Hp.cell h f_0b f_0o=some (vi x1)/\Qa Pg 136 [vi u0,vi x1] h fun v2 h3=>∃ x4,v2=vi x4/\Qa Pg 80 [vag [vi u1,vi u2],vag [vi u7,vi u8]] h3 fun v5 h6=>∃ x7,v5=vi x7/\∀ b8,h6 b8=none->let h9:=Hp.set h6 b8 (Qb [vi x4,vi x7] 3);Qa Pg 135 [(vsl (some ⟨b8,0,none⟩) 2 2)] h9 fun v10 h11=>∃ x12,v10=vi x12/\R (vi x12) h11):Qa Pg 251 [vag [vi u0,vi u1,vi u2,vsl u3 u4 u5,vb u6],vag [vi u7,vi u8],vhp f_0b f_0o] h R:=callC ⟨[],[],[(1,[0,1,2,4,5,6,3,7,8,9,10])]⟩ Tryz.func251 [.ag [.v (vi u0),.v (vi u1),.v (vi u2),.v (vsl u3 u4 u5),.v (vb u6)],.ag [.v (vi u7),.v (vi u8)],.one (.hp f_0b f_0o)] H
theorem Zy {u0:OaT}{u1 u2:Nat}{u3:Int}{u4:Int}{u5:Value}{h:Hp}{R:RtT}(H:∃(I2:LtT)(m3:LmT),I2 [vi 0,(vi (u1:Int))] h/\∀ vs4 h5,I2 vs4 h5->∃ x6 x7,vs4=[vi x6,vi x7]/\((decide (x6<x7))=true->∃ x10,IsW x10 (x6+x7)/\∃ x11,Rd Pg (binOp .shr 229 (vk .u64 (IntKind.wrap .u64 x10)) (vk .u64 1)) h5 (vk .u64 x11)/\∃ b12 o13,Ix u0 b12 o13 (IntKind.wrap .i64 x11) u1/\∃ x14 x15 x16 a17 n17 c17 p18,Hp.row h5 b12 (o13+(IntKind.wrap .i64 x11).toNat*5) 5=some [vi x14,vi x15,vi x16,vsl a17 n17 c17,vb p18]/\ZC Pg u5 [vag [vi x14,vi x15,vi x16,vsl a17 n17 c17,vb p18],vag [vi u3,vi u4]] h5 fun v19 h20=>∃ x21,v19=vi x21/\((decide (x21<0))=true->∃ x22,IsW x22 ((IntKind.wrap .i64 x11)+1)/\I2 [vi x22,vi x7] h20/\m3 [vi x22,vi x7] h20<m3 vs4 h5)/\((decide (x21<0))=false->I2 [vi x6,(vi (IntKind.wrap .i64 x11))] h20/\m3 [vi x6,(vi (IntKind.wrap .i64 x11))] h20<m3 vs4 h5))/\((decide (x6<x7))=false->∃ b23 o24,((decide (x6<(u1:Int)))=true->Ix u0 b23 o24 x6 u1)/\∃ x25 x26 x27 a28 n28 c28 p29,((decide (x6<(u1:Int)))=true->Hp.row h5 b23 (o24+x6.toNat*5) 5=some [vi x25,vi x26,vi x27,vsl a28 n28 c28,vb p29])/\∃(J30:ShT),((decide (x6<(u1:Int)))=true->ZC Pg u5 [vag [vi x25,vi x26,vi x27,vsl a28 n28 c28,vb p29],vag [vi u3,vi u4]] h5 fun v31 h32=>∃ x33,v31=vi x33/\J30 (.t (.one (.v (vi x33)))) h32)/\(¬((decide (x6<(u1:Int)))=true)->J30 (.t (.one (.v (vi 0)))) h5)/\∀ h34 x35,J30 (.t (.one (.v (vi x35)))) h34->R (Qf [vi x6,(vb (cond (decide (x6<(u1:Int))) (decide (x35=0)) false))]) h34)):Qa Pg 250 [vsl u0 u1 u2,vag [vi u3,vi u4],u5] h R:=callC ⟨[],[(3,([9,10],[.one (.int .i64),.one (.int .i64)],[]))],[(5,[0,1,2,3,4,5,6,7]),(8,[0,1,2,3,4,5,6,7,8,9,10,11,12,13,14,15])]⟩ Tryz.func250 [.one (.v (vsl u0 u1 u2)),.ag [.v (vi u3),.v (vi u4)],.one (.v u5)] H
theorem Xn {u0:OaT}{u1 u2:Nat}{h:Hp}{R:RtT}(H:∃ p1,RdG .eql 128 (.tmp 3) (.const (vsl none 0 0)) (vsl u0 u1 u2) (vsl none 0 0) h (vb p1)/\(p1=true->R (vsl none 0 0) h)/\(p1=false->∀ b3,h b3=none->let h4:=Hp.set h b3 (Qb [] 150);Qh Pg (Builtin.append_ #[128,128] 128 #[(vsl (some ⟨b3,0,none⟩) 0 0),vsl u0 u1 u2]) h4 fun v5 h6=>∃ a7 n7 c7,v5=vsl a7 n7 c7/\R (vsl a7 n7 c7) h6)):Qa Pg 171 [vsl u0 u1 u2] h R:=callO Tryz.func171 [.one (.v (vsl u0 u1 u2))] H
theorem Xm {u0:OaT}{u1 u2:Nat}{h:Hp}{R:RtT}(H:∃ p1,RdG .eql 148 (.tmp 3) (.const (vsl none 0 0)) (vsl u0 u1 u2) (vsl none 0 0) h (vb p1)/\(p1=true->R (vsl none 0 0) h)/\(p1=false->∀ b3,h b3=none->let h4:=Hp.set h b3 (Qb [] 155);Qh Pg (Builtin.append_ #[148,148] 148 #[(vsl (some ⟨b3,0,none⟩) 0 0),vsl u0 u1 u2]) h4 fun v5 h6=>∃ a7 n7 c7,v5=vsl a7 n7 c7/\R (vsl a7 n7 c7) h6)):Qa Pg 217 [vsl u0 u1 u2] h R:=callO Tryz.func217 [.one (.v (vsl u0 u1 u2))] H
theorem Xh {u0:OaT}{u1 u2:Nat}{u3:Int}{u4:OaT}{u5 u6:Nat}{h:Hp}{R:RtT}(H:∃ a1 n1 c1,Rd Pg (Instr.sliceAt 128 (vsl u0 u1 u2) (some (vi u3)) none none) h (vsl a1 n1 c1)/\((decide ((u5:Int)=0))=true->R (vsl u0 u1 u2) h)/\((decide ((u5:Int)=0))=false->((decide (u3=(u1:Int)))=true->Qh Pg (Builtin.append_ #[128,128] 128 #[vsl u0 u1 u2,vsl u4 u5 u6]) h fun v3 h4=>∃ a5 n5 c5,v3=vsl a5 n5 c5/\R (vsl a5 n5 c5) h4)/\((decide (u3=(u1:Int)))=false->∃ x7,IsW x7 ((u1:Int)+(u5:Int))/\∃ x8,Rd Pg (Builtin.cap_ #[128] 3 #[vsl u0 u1 u2]) h (vi x8)/\((decide (x7>x8))=true->∃ a9 n9 c9,Rd Pg (Instr.sliceAt 128 (vsl u0 u1 u2) none (some (vi u3)) none) h (vsl a9 n9 c9)/\∃ x10,IsW x10 ((u1:Int)+(u5:Int))/\∃ x11,IsW x11 (x10-u3)/\Qh Pg (Builtin.append_ #[128,3] 128 #[vsl a9 n9 c9,vi x11]) h fun v12 h13=>∃ a14 n14 c14,v12=vsl a14 n14 c14/\∃ a15 n15 c15,Rd Pg (Instr.sliceAt 128 (vsl a14 n14 c14) (some (vi u3)) none none) h13 (vsl a15 n15 c15)/\Qh Pg (Builtin.copy_ #[128,128] 3 #[vsl a15 n15 c15,vsl u4 u5 u6]) h13 fun v16 h17=>∃ x18,v16=vi x18/\∃ x19,IsW x19 (u3+(u5:Int))/\∃ a20 n20 c20,Rd Pg (Instr.sliceAt 128 (vsl a14 n14 c14) (some (vi x19)) none none) h17 (vsl a20 n20 c20)/\∃ a21 n21 c21,Rd Pg (Instr.sliceAt 128 (vsl u0 u1 u2) (some (vi u3)) none none) h17 (vsl a21 n21 c21)/\Qh Pg (Builtin.copy_ #[128,128] 3 #[vsl a20 n20 c20,vsl a21 n21 c21]) h17 fun v22 h23=>∃ x24,v22=vi x24/\R (vsl a14 n14 c14) h23)/\((decide (x7>x8))=false->∃ x26,IsW x26 ((u1:Int)+(u5:Int))/\∃ a27 n27 c27,Rd Pg (Instr.sliceAt 128 (vsl u0 u1 u2) none (some (vi x26)) none) h (vsl a27 n27 c27)/\∃ x28,IsW x28 (u3+(u5:Int))/\∃ a29 n29 c29,Rd Pg (Instr.sliceAt 128 (vsl a27 n27 c27) (some (vi x28)) none none) h (vsl a29 n29 c29)/\Qbk Pg 252 [vsl u4 u5 u6,vsl a29 n29 c29] h fun v30 h31=>∃ p32,v30=vb p32/\((!p32)=true->∃ x33,IsW x33 (u3+(u5:Int))/\∃ a34 n34 c34,Rd Pg (Instr.sliceAt 128 (vsl a27 n27 c27) (some (vi x33)) none none) h31 (vsl a34 n34 c34)/\∃ a35 n35 c35,Rd Pg (Instr.sliceAt 128 (vsl a27 n27 c27) (some (vi u3)) none none) h31 (vsl a35 n35 c35)/\Qh Pg (Builtin.copy_ #[128,128] 3 #[vsl a34 n34 c34,vsl a35 n35 c35]) h31 fun v36 h37=>∃ x38,v36=vi x38/\∃ a39 n39 c39,Rd Pg (Instr.sliceAt 128 (vsl a27 n27 c27) (some (vi u3)) none none) h37 (vsl a39 n39 c39)/\Qh Pg (Builtin.copy_ #[128,128] 3 #[vsl a39 n39 c39,vsl u4 u5 u6]) h37 fun v40 h41=>∃ x42,v40=vi x42/\R (vsl a27 n27 c27) h41)/\((!p32)=false->∃ a44 n44 c44,Rd Pg (Instr.sliceAt 128 (vsl a27 n27 c27) (some (vi (u1:Int))) none none) h31 (vsl a44 n44 c44)/\Qh Pg (Builtin.copy_ #[128,128] 3 #[vsl a44 n44 c44,vsl u4 u5 u6]) h31 fun v45 h46=>∃ x47,v45=vi x47/\∃ a48 n48 c48,Rd Pg (Instr.sliceAt 128 (vsl a27 n27 c27) (some (vi u3)) none none) h46 (vsl a48 n48 c48)/\Qa Pg 253 [vsl a48 n48 c48,(vi (u5:Int))] h46 fun v49 h50=>v49=Qf []/\R (vsl a27 n27 c27) h50))))):Qa Pg 216 [vsl u0 u1 u2,vi u3,vsl u4 u5 u6] h R:=callC ⟨[],[],[(11,[0,1,2,3,4,5,6,7,8]),(15,[0,1,2,3,4,5,6,7,8])]⟩ Tryz.func216 [.one (.v (vsl u0 u1 u2)),.one (.v (vi u3)),.one (.v (vsl u4 u5 u6))] H
theorem QaA {u0:OaT}{u1 u2:Nat}{u3:Int}{u4:Int}{u5:Int}{u6:OaT}{u7 u8:Nat}{u9:OaT}{u10 u11:Nat}{h:Hp}{R:RtT}(H:Qa Pg 215 [vag [vsl u0 u1 u2],vi u3,vag [vi u4,vi u5]] h fun v1 h2=>∃ x3 p4,v1=Qf [vi x3,vb p4]/\Qa Pg 171 [vsl u0 u1 u2] h2 fun v5 h6=>∃ a7 n7 c7,v5=vsl a7 n7 c7/\let J83:OaT->Nat->Nat->Int->Int->Int->OaT->Nat->Nat->Bool->Hp->Prop:=fun a315 n315 c315 x316 x317 x318 a319 n319 c319 p320 h321=>(∃ b322 o323,Ix a315 b322 o323 x3 n315/\∃ x324 x325 x326 a327 n327 c327 p328,Hp.row h321 b322 (o323+x3.toNat*5) 5=some [vi x324,vi x325,vi x326,vsl a327 n327 c327,vb p328]/\Qa Pg 217 [vsl a327 n327 c327] h321 fun v329 h330=>∃ a331 n331 c331,v329=vsl a331 n331 c331/\∃(I333:LtT)(m334:LmT),I333 [vi 0] h330/\∀ vs335 h336,I333 vs335 h336->∃ x337,vs335=[vi x337]/\((decide (x337<(u10:Int)))=true->∃ b340 o341,Ix u9 b340 o341 x337 u10/\∃ x342 x343,Hp.row h336 b340 (o341+x337.toNat*2) 2=some [vi x342,vi x343]/\∃ b344 o345,Ix a331 b344 o345 x337 n331/\∃ x346 x347 x348 x349,Hp.row h336 b344 (o345+x337.toNat*4) 4=some [vi x346,vi x347,vi x348,vi x349]/\Qa Pg 132 [vag [vi x346,vi x347,vi x348,vi x349],vag [vi x342,vi x343]] h336 fun v350 h351=>∃ x352 x353 x354 x355,v350=vag [vi x352,vi x353,vi x354,vi x355]/\∃ b356 o357,Ix a331 b356 o357 x337 n331/\Hp.store h351 b356 (o357+x337.toNat*4) [vi x352,vi x353,vi x354,vi x355] fun h358=>∃ x360,IsW x360 (x337+1)/\I333 [vi x360] h358/\m334 [vi x360] h358<m334 vs335 h336)/\((decide (x337<(u10:Int)))=false->∃ b361 o362,Ix a315 b361 o362 x3 n315/\Hp.store h336 b361 (o362+x3.toNat*5) [vi x324,vi x325,vi x326,vsl a331 n331 c331,vb p328] fun h363=>R (Qf [vag [vsl a315 n315 c315],vag [vi x316,vi x317,vi x318,vsl a319 n319 c319,vb p320],vb p4]) h363));(p4=true->∃ b8 o9,Ix a7 b8 o9 x3 n7/\∃ x10 x11 x12 a13 n13 c13 p14,Hp.row h6 b8 (o9+x3.toNat*5) 5=some [vi x10,vi x11,vi x12,vsl a13 n13 c13,vb p14]/\J83 a7 n7 c7 x10 x11 x12 a13 n13 c13 p14 h6)/\(p4=false->let J45:Int->Int->Int->OaT->Nat->Nat->Bool->Hp->Prop:=fun x71 x72 x73 a74 n74 c74 p75 h76=>(∀ b77,h76 b77=none->let h78:=Hp.set h76 b77 (Qb [vi x71,vi x72,vi x73,vsl a74 n74 c74,vb p75] 150);Qa Pg 216 [vsl a7 n7 c7,vi x3,(vsl (some ⟨b77,0,none⟩) 1 1)] h78 fun v79 h80=>∃ a81 n81 c81,v79=vsl a81 n81 c81/\J83 a81 n81 c81 0 0 0 none 0 0 false h80);∃(I17:LtT)(m18:LmT),I17 [vi 0,vi u3,vi u4,vi u5,vsl none 0 0,vb false] h6/\∀ vs19 h20,I17 vs19 h20->∃ x21 x22 x23 x24 a25 n25 c25 p26,vs19=[vi x21,vi x22,vi x23,vi x24,vsl a25 n25 c25,vb p26]/\((decide (x21<(u7:Int)))=true->∃ b29 o30,Ix u6 b29 o30 x21 u7/\∃ x31,Hp.cell h20 b29 (o30+x21.toNat*1)=some (vi x31)/\Qa Pg 76 [vi x31] h20 fun v32 h33=>∃ x34 x35 x36 x37,v32=vag [vi x34,vi x35,vi x36,vi x37]/\∀ b38,h33 b38=none->let h39:=Hp.set h33 b38 (Qb [vi x34,vi x35,vi x36,vi x37] 155);Qh Pg (Builtin.append_ #[148,148] 148 #[vsl a25 n25 c25,(vsl (some ⟨b38,0,none⟩) 1 1)]) h39 fun v40 h41=>∃ a42 n42 c42,v40=vsl a42 n42 c42/\∃ x44,IsW x44 (x21+1)/\I17 [vi x44,vi x22,vi x23,vi x24,vsl a42 n42 c42,vb p26] h41/\m18 [vi x44,vi x22,vi x23,vi x24,vsl a42 n42 c42,vb p26] h41<m18 vs19 h20)/\((decide (x21<(u7:Int)))=false->J45 x22 x23 x24 a25 n25 c25 p26 h20))):Qa Pg 167 [vag [vsl u0 u1 u2],vi u3,vag [vi u4,vi u5],vsl u6 u7 u8,vsl u9 u10 u11] h R:=callC ⟨[],[(7,([41],[.one (.int .i64)],[(4,[.int .i64,.int .i64,.int .i64,.slice,.bool])])),(15,([68],[.one (.int .i64)],[]))],[(9,[0,1,2,3,4,5,6,7]),(17,[0,1,2,3,4,5,6,7,8,9,10,11]),(20,[0,1,2,3,4,5,6])]⟩ Tryz.func167 [.ag [.v (vsl u0 u1 u2)],.one (.v (vi u3)),.ag [.v (vi u4),.v (vi u5)],.one (.v (vsl u6 u7 u8)),.one (.v (vsl u9 u10 u11))] H
theorem MX {u0:OaT}{u1 u2:Nat}{u3:Int}{u4:Int}{h:Hp}{R:RtT}(H:Qa Pg 171 [vsl u0 u1 u2] h fun v1 h2=>∃ a3 n3 c3,v1=vsl a3 n3 c3/\∃(I5:LtT)(m6:LmT),I5 [vsl none 0 0,vi 0] h2/\∀ vs7 h8,I5 vs7 h8->∃ a9 n9 c9 x10,vs7=[vsl a9 n9 c9,vi x10]/\((decide (x10<(n3:Int)))=true->let J38:OaT->Nat->Nat->Hp->Prop:=fun a41 n41 c41 h42=>(∃ x43,IsW x43 (x10+1)/\I5 [vsl a41 n41 c41,vi x43] h42/\m6 [vsl a41 n41 c41,vi x43] h42<m6 vs7 h8);∃ b13 o14,Ix a3 b13 o14 x10 n3/\∃ x15 x16 x17 a18 n18 c18 p19,Hp.row h8 b13 (o14+x10.toNat*5) 5=some [vi x15,vi x16,vi x17,vsl a18 n18 c18,vb p19]/\∃ x20,((!p19)=true->IsW x20 (x15+u3))/\((cond (!p19) (decide (x20<=u4)) false)=true->∃ b21 o22,Ix a3 b21 o22 x10 n3/\Hp.store h8 b21 ((o22+x10.toNat*5)+4) [vb true] fun h23=>∃ b24 o25,Ix a3 b24 o25 x10 n3/\∃ x26 x27 x28 a29 n29 c29 p30,Hp.row h23 b24 (o25+x10.toNat*5) 5=some [vi x26,vi x27,vi x28,vsl a29 n29 c29,vb p30]/\∀ b31,h23 b31=none->let h32:=Hp.set h23 b31 (Qb [vi x26,vi x27,vi x28,vsl a29 n29 c29,vb p30] 150);Qh Pg (Builtin.append_ #[128,128] 128 #[vsl a9 n9 c9,(vsl (some ⟨b31,0,none⟩) 1 1)]) h32 fun v33 h34=>∃ a35 n35 c35,v33=vsl a35 n35 c35/\J38 a35 n35 c35 h34)/\((cond (!p19) (decide (x20<=u4)) false)=false->J38 a9 n9 c9 h8))/\((decide (x10<(n3:Int)))=false->R (Qf [vag [vsl a3 n3 c3],vsl a9 n9 c9]) h8)):Qa Pg 113 [vag [vsl u0 u1 u2],vi u3,vi u4] h R:=callC ⟨[],[(4,([9,17],[.one (.slice),.one (.int .i64)],[]))],[]⟩ Tryz.func113 [.ag [.v (vsl u0 u1 u2)],.one (.v (vi u3)),.one (.v (vi u4))] H
theorem Nf {u0:OaT}{u1 u2:Nat}{u3:Int}{u4:Int}{h:Hp}{R:RtT}(H:∀ b1,h b1=none->let h2:=Hp.set h b1 (Qb [vi u3] 3);∀ b3,h2 b3=none->let h4:=Hp.set h2 b3 (Qb [vi u4] 3);Qa Pg 171 [vsl u0 u1 u2] h4 fun v5 h6=>∃ a7 n7 c7,v5=vsl a7 n7 c7/\Qa Pg 172 [vsl a7 n7 c7,(Value.func (.func 173) #[] #[vhp b1 0,vhp b3 0])] h6 fun v8 h9=>∃ a10 n10 c10,v8=vsl a10 n10 c10/\R (vag [vsl a10 n10 c10]) h9):Qa Pg 114 [vag [vsl u0 u1 u2],vi u3,vi u4] h R:=callC ⟨[4,5],[],[]⟩ Tryz.func114 [.ag [.v (vsl u0 u1 u2)],.one (.v (vi u3)),.one (.v (vi u4))] H
theorem VT {u0:Int}{u1:Int}{u2:Int}{u3:OaT}{u4 u5:Nat}{u6:Bool}{f_0b f_0o:Nat}{f_1b f_1o:Nat}{h:Hp}{R:RtT}(H:∃ x1,Hp.cell h f_0b f_0o=some (vi x1)/\∃ x2,IsW x2 (u0+x1)/\∃ x3,Hp.cell h f_1b f_1o=some (vi x3)/\R (vb (decide (x2<=x3))) h):Qa Pg 173 [vag [vi u0,vi u1,vi u2,vsl u3 u4 u5,vb u6],vhp f_0b f_0o,vhp f_1b f_1o] h R:=callO Tryz.func173 [.ag [.v (vi u0),.v (vi u1),.v (vi u2),.v (vsl u3 u4 u5),.v (vb u6)],.one (.hp f_0b f_0o),.one (.hp f_1b f_1o)] H
theorem YI {u0:OaT}{u1 u2:Nat}{u3:Value}{h:Hp}{R:RtT}(H:Qa Pg 74 [vsl u0 u1 u2,u3] h fun v1 h2=>∃ x3,v1=vi x3/\((decide (x3=(-1)))=true->R (vsl u0 u1 u2) h2)/\((decide (x3=(-1)))=false->∃ x5,IsW x5 (x3+1)/\∃(I7:LtT)(m8:LmT),I7 [vi x3,vi x5] h2/\∀ vs9 h10,I7 vs9 h10->∃ x11 x12,vs9=[vi x11,vi x12]/\((decide (x12<(u1:Int)))=true->let J31:Int->Hp->Prop:=fun x34 h35=>(∃ x36,IsW x36 (x12+1)/\I7 [vi x34,vi x36] h35/\m8 [vi x34,vi x36] h35<m8 vs9 h10);∃ b15 o16,Ix u0 b15 o16 x12 u1/\∃ x17 x18 x19 a20 n20 c20 p21,Hp.row h10 b15 (o16+x12.toNat*5) 5=some [vi x17,vi x18,vi x19,vsl a20 n20 c20,vb p21]/\ZC Pg u3 [vag [vi x17,vi x18,vi x19,vsl a20 n20 c20,vb p21]] h10 fun v22 h23=>∃ p24,v22=vb p24/\((!p24)=true->∃ b25 o26,Ix u0 b25 o26 x11 u1/\Hp.store h23 b25 (o26+x11.toNat*5) [vi x17,vi x18,vi x19,vsl a20 n20 c20,vb p21] fun h27=>∃ x28,IsW x28 (x11+1)/\J31 x28 h27)/\((!p24)=false->J31 x11 h23))/\((decide (x12<(u1:Int)))=false->∃ a37 n37 c37,Rd Pg (Instr.sliceAt 128 (vsl u0 u1 u2) (some (vi x11)) none none) h10 (vsl a37 n37 c37)/\Qh Pg (Builtin.clear_ #[128] 0 #[vsl a37 n37 c37]) h10 fun v38 h39=>v38=Qf []/\∃ a40 n40 c40,Rd Pg (Instr.sliceAt 128 (vsl u0 u1 u2) none (some (vi x11)) none) h39 (vsl a40 n40 c40)/\R (vsl a40 n40 c40) h39))):Qa Pg 172 [vsl u0 u1 u2,u3] h R:=callC ⟨[],[(5,([5,6],[.one (.int .i64),.one (.int .i64)],[]))],[]⟩ Tryz.func172 [.one (.v (vsl u0 u1 u2)),.one (.v u3)] H
def Ql (r:PR):List Value:=(ZU r).enc
theorem Qr (r:PR):(Ql r).length=5:=rfl
theorem Jf (r:PR):∀ u ∈ Ql r,u.oneCell'=true:=QjK _
theorem Qhi (R:List PR):∀ u ∈ R.flatMap Ql,u.oneCell'=true:=by
 intro u hu;obtain⟨r,_,hr⟩:=fI.1 hu;exact Jf r u hr
structure Tb (h:Hp)(a:OaT)(R:List PR):Prop where
 s:SlP Ql h a R.length R
 i:∀ r ∈ R,Qe h r.a (r.acs.flatMap Yp)
theorem Tb.le {h h':Hp}{a:OaT}{R:List PR}(T:Tb h a R)(l:h.le h'):Tb h' a R:=⟨T.s.le l,fun r hr=>(T.i r hr).le l⟩
section
variable {h:Hp}{K':RtT}{a:OaT}{R:List PR}{c:Nat}
theorem Ur (S:SlP Ql h a R.length R)(hn:R.length<=1000000)(hK:∀ a' c' h',Qg h h' 150 5 a' R.length c' (R.flatMap Ql)->K' (vsl a' R.length c') h'):Qa Pg 171 [vsl a R.length c] h K':=by
 refine Xn ?_
 refine⟨_,Jj (e:=150) (by kernel_rfl),fun e=>?_,fun e=>?_⟩
 ·have h0:R.flatMap Ql=[]:=by
   rcases S.2 with h1|⟨b,o,ha,_⟩
   ·exact h1
   ·rw [ha] at e;cases e
  have hn0:R=[]:=by have:=congrArg List.length h0;rw [Qi Qr] at this;exact dR (by simp at this;omega)
  subst hn0;exact hK none 0 h (qY (qO h) _ _)
 ·intro b3 hb3 h4;have O0:Qg h h4 150 5 (some ⟨b3,0,none⟩) 0 0 []:=qZ (qO h) hb3 _ [] rfl (by simp [maxLen])
  refine q8 Qal O0 (S.le (qQ (qO h) hb3 _)).2 (Qi Qr R) (Qhi R) (by omega) (by omega) fun a' c' h' O' _ _=>⟨_,_,_,rfl,?_⟩
  rw [dW,dE] at *
  exact hK a' c' h' O'
theorem Qie {l:List AcS}(S:Qe h a (l.flatMap Yp))(hn:l.length<=1000000)(hK:∀ a' c' h',Qam h h' a' c' l->K' (vsl a' l.length c') h'):Qa Pg 217 [vsl a l.length c] h K':=by
 refine Xm ?_
 refine⟨_,Jj (e:=155) (by kernel_rfl),fun e=>?_,fun e=>?_⟩
 ·have h0:l.flatMap Yp=[]:=by
   rcases S with h1|⟨b,o,ha,_⟩
   ·exact h1
   ·rw [ha] at e;cases e
  have hn0:l=[]:=by have:=congrArg List.length h0;rw [Qi Zg] at this;exact dR (by simp at this;omega)
  subst hn0;exact hK none 0 h (qY (qO h) _ _)
 ·intro b3 hb3 h4;have O0:Qg h h4 155 4 (some ⟨b3,0,none⟩) 0 0 []:=qZ (qO h) hb3 _ [] rfl (by simp [maxLen])
  have h1:∀ u ∈ l.flatMap Yp,u.oneCell'=true:=by intro u hu;obtain⟨r,_,hr⟩:=fI.1 hu;exact Qhv r u hr
  refine q8 QlP O0 (S.le (qQ (qO h) hb3 _)) (Qi Zg l) h1 (by omega) (by omega) fun a' c' h' O' _ _=>⟨_,_,_,rfl,?_⟩
  rw [dW,dE] at *
  exact hK a' c' h' O'
theorem NO {fv:Value}{p:PR->Bool}(S:SlP Ql h a R.length R)(hn:R.length<=1000000)(hf:∀ r ∈ R,∀ K2:RtT,K2 (vb (p r)) h->ZC Pg fv [vag (Ql r)] h K2)
  (hy:∀(i:Nat)(r:PR),R[i]?=some r->p r=true->(∀ x ∈ R.take i,p x=false)->K' (vi i) h) (hno:(∀ r ∈ R,p r=false)->K' (vi (-1)) h):Qa Pg 74 [vsl a R.length c,fv] h K':=by
 refine Zv ?_
 refine⟨fun vs hh=>hh=h/\∃ i:Nat,vs=[vi i]/\i<=R.length/\∀ r ∈ R.take i,p r=false,fun vs hh=>R.length-(Qo vs 0).toNat,⟨rfl,0,rfl,cE _,by simp⟩,?_⟩
 rintro vs hh ⟨rfl,i,rfl,hi,hz⟩;refine⟨i,rfl,fun e=>?_,fun e=>?_⟩
 ·have hlt:i<R.length:=by have:=bC e;omega
  have hx:R[i]?=some R[i]:=bD hlt
  have tk:R.take (i+1)=R.take i++[R[i]]:=bL hlt;obtain⟨b,o,ea,hr⟩:=S.get Qr (by decide) hx
  refine⟨b,o,⟨ea,by omega,by omega⟩,_,_,_,_,_,_,_,by rw [bF];exact hr,hf _ (cM hlt) _ ⟨_,rfl,fun e2=>hy i _ hx e2 hz,fun e2=>?_⟩⟩
  refine⟨_,iW,⟨rfl,i+1,rfl,by omega,fun r hr=>?_⟩,by simp [Qo];omega⟩
  rw [tk] at hr;rcases bU.1 hr with h3|h3
  ·exact hz r h3
  ·rw [cD.1 h3];exact e2
 ·have hge:i=R.length:=by have:=bB e;omega
  refine hno ?_
  rw [hge,dG] at hz;exact hz
theorem Qfw {h0:Hp}{x:PR}{i b:Nat}(O:Qg h0 h 150 5 a R.length c (R.flatMap Ql))(hn:R.length<=1000000)(hi:i<=R.length)(hb:h b=some (Qb (Ql x) 150))(hab:a≠some ⟨b,0,none⟩)
  (hK:∀ a' c' h',Qg h0 h' 150 5 a' (R.length+1) c' ((R.take i++x :: R.drop i).flatMap Ql)->K' (vsl a' (R.length+1) c') h'):Qa Pg 216 [vsl a R.length c,vi i,vsl (some ⟨b,0,none⟩) 1 1] h K':=by
 refine Xh ?_
 have hT:Pg.underlying 128=some (.slice 150):=by kernel_rfl
 have hI:(Pg.info? 150).isSome=true:=by kernel_rfl
 have hS:(Pg.info? 150).map (·.size)=some 5:=by kernel_rfl
 have hsz:szT Pg 150=5:=by kernel_rfl
 have hcap:=O.own.cap;have hHv:Qe h (some ⟨b,0,none⟩) (Ql x):=.inr ⟨b,0,rfl,QO hb (by simp)⟩
 have hA:((R.take i).flatMap Ql).length=i*5:=by rw [Qi Qr,bZ,dU hi]
 have hD:((R.drop i).flatMap Ql).length=(R.length-i)*5:=by rw [Qi Qr,d5]
 have hAD:R.flatMap Ql=(R.take i).flatMap Ql++(R.drop i).flatMap Ql:=by rw [<-cP,dX]
 have hres:(R.take i++x :: R.drop i).flatMap Ql=(R.take i).flatMap Ql++(Ql x++(R.drop i).flatMap Ql):=by rw [cP,dI]
 rw [hres] at hK;have S:SlP Ql h a R.length R:=⟨rfl,O.row⟩;have rdl:=fun(n c:Nat)(a:OaT)(x:Nat)(hh:Hp)(h1:x<=n)=>YD (P:=Pg) (h:=hh) (t:=128) (e:=150) hT hI (a:=a) (n:=n) (c:=c) (x:=(x:Int)) (by omega) (by omega)
 have rdh:=fun(n c:Nat)(a:OaT)(x:Nat)(hh:Hp)(h1:x<=c)=>X6 (P:=Pg) (h:=hh) (t:=128) (e:=150) hT hI (a:=a) (n:=n) (c:=c) (x:=(x:Int)) (by omega) (by omega)
 simp only [bF,hsz] at rdl rdh;have cutG:∀(g x c:Nat),c≠x->VZ (some ⟨g,0,none⟩) x c 5=some ⟨g,x*5,none⟩:=by
  intro g x c hne;unfold VZ;rw [bE hne];simp only [fD,Addr.add];split
  ·rename_i h0;simp [h0]
  ·simp
 refine⟨_,_,_,rdl R.length c a i h hi,fun e=>absurd (bC e) (by decide),fun _=>⟨fun e=>?_,fun e=>?_⟩⟩
 ·have hie:i=R.length:=by have:=bC e;omega
  refine q8 Qal O (m:=1) hHv rfl (Jf x) (by omega) (by omega) fun a' c' h' O' _ _=>⟨_,_,_,rfl,hK a' c' h' ?_⟩
  subst hie;rw [dG,kL];simpa using O'
 ·have hlt:i<R.length:=by have:=bB e;omega
  have hDne:(R.drop i).flatMap Ql≠[]:=by intro e2;rw [e2] at hD;simp at hD;omega
  refine⟨_,iW,_,QpZ hT,fun e2=>?_,fun e2=>?_⟩
  ·have hgt:c<R.length+1:=by have:=bC e2;omega
   refine⟨_,_,_,rdh R.length c a i h (by omega),_,iW,_,iW,?_⟩
   have e3:((R.length:Int)+((1:Nat):Int)-(i:Int))=((R.length+1-i:Nat):Int):=by omega
   rw [e3];have hz:(Xg Pg 150).map Qn=some [vi 0,vi 0,vi 0,vsl none 0 0,vb false]:=by kernel_rfl
   refine Qb8 Qal (by kernel_rfl) hz (n:=i) (S.take Qr hi).2 hA (m:=R.length+1-i) (by omega) (by omega) (by omega) (by omega) fun a14 c14 h13 O13=>⟨_,_,_,rfl,?_⟩
   have hnn:i+(R.length+1-i)=R.length+1:=by omega
   rw [hnn] at O13 ⊢;have hc14:=O13.own.cap;obtain⟨g,L14,rfl,hg14,_⟩:=O13.blk (by omega) (by decide)
   have hZ:((List.replicate (R.length+1-i) [vi 0,vi 0,vi 0,vsl none 0 0,vb false]).flatten).length=(R.length+1-i)*5:=by rw [jZ];simp
   generalize hZe:(List.replicate (R.length+1-i) [vi 0,vi 0,vi 0,vsl none 0 0,vb false]).flatten=Z at O13 hZ;have hga:h g=none:=O13.new g rfl;refine⟨_,_,_,rdl (R.length+1) c14 _ i h13 (by omega),?_⟩
   rw [cutG g i c14 (by omega)]
   refine Qg.copy hT hS O13 rfl (hHv.le O13.le) (by rw [Qr,show Nat.min 1 (R.length+1-i)=1 from dU (by omega)]) (by rw [Qr];omega) (Jf x) (by simp [Ql,D.PRow.enc]) fun h17 O17 k17=>⟨_,rfl,_,iW,?_⟩
   have e4:((i:Int)+((1:Nat):Int))=((i+1:Nat):Int):=by omega
   rw [e4];refine⟨_,_,_,rdl (R.length+1) c14 _ (i+1) h17 (by omega),_,_,_,rdl R.length c a i h17 hi,?_⟩
   rw [cutG g (i+1) c14 (by omega)]
   have l17:h.le h17:=O17.le;refine Qg.copy hT hS O17 rfl (((S.drop Qr hi hcap).le l17).2) (by rw [hD];congr 1;simp only [Nat.min_def];split<;>omega) (by rw [hD];omega) (Qhi _) hDne fun h23 O23 _=>⟨_,rfl,?_⟩
   refine hK _ _ h23 ?_
   have s1:QP ((R.take i).flatMap Ql++Z) (i*5) (Ql x)=(R.take i).flatMap Ql++(Ql x++Z.drop 5):=by have:=XX ((R.take i).flatMap Ql) Z 0 (Ql x);rw [f7,hA] at this;rw [this];simp [QP,Qr]
   have s2:QP ((R.take i).flatMap Ql++(Ql x++Z.drop 5)) ((i+1)*5) ((R.drop i).flatMap Ql)=(R.take i).flatMap Ql++(Ql x++(R.drop i).flatMap Ql):=by
    have h1:=XX ((R.take i).flatMap Ql) (Ql x++Z.drop 5) 5 ((R.drop i).flatMap Ql);have h2:=XX (Ql x) (Z.drop 5) 0 ((R.drop i).flatMap Ql);rw [f7,Qr] at h2;rw [hA,show i*5+5=(i+1)*5 by omega] at h1
    rw [h1,h2];congr 2
    unfold QP;have h3:(Z.drop 5).drop (0+((R.drop i).flatMap Ql).length)=[]:=gL (by rw [d5,hZ,hD];omega)
    rw [jG,dE,h3,dH]
   rw [s1,s2] at O23;exact O23.trans O.le
  ·have hle:R.length+1<=c:=by have:=bB e2;omega
   obtain⟨Y,hY,O1⟩:=Qg.grow O (m:=R.length+1) (by omega) hle
   obtain⟨g,L0,ha,hg,hL0⟩:=O.blk (by omega) (by decide)
   subst ha;have e3:((R.length:Int)+((1:Nat):Int))=((R.length+1:Nat):Int):=by omega
   have e4:((i:Int)+((1:Nat):Int))=((i+1:Nat):Int):=by omega
   have hbg:b≠g:=fun e=>hab (by rw [e])
   refine⟨_,iW,?_⟩
   rw [e3];refine⟨_,_,_,rdh R.length c _ (R.length+1) h hle,_,iW,?_⟩
   rw [e4];refine⟨_,_,_,rdl (R.length+1) c _ (i+1) h (by omega),?_⟩
   rw [cutG g (i+1) c (by omega)]
   refine Qh8 (tR:=4) Tryz.func252 (by kernel_rfl) (by kernel_rfl) (by kernel_rfl) (by kernel_rfl) hT hI hbg hb hg hL0 ⟨_,rfl,fun _=>?_,fun e=>absurd e (by decide)⟩
   refine⟨_,iW,?_⟩
   refine⟨_,_,_,rdl (R.length+1) c _ (i+1) h (by omega),_,_,_,rdl (R.length+1) c _ i h (by omega),?_⟩
   rw [cutG g (i+1) c (by omega),cutG g i c (by omega)]
   have hsrc:=(S.drop Qr hi hcap).2;rw [cutG g i c (by omega)] at hsrc
   refine Qg.copy hT hS O1 rfl hsrc (by rw [hD];congr 1;simp only [Nat.min_def];split<;>omega) (by rw [hD];omega) (Qhi _) hDne fun h37 O37 k37=>⟨_,rfl,?_⟩
   refine⟨_,_,_,rdl (R.length+1) c _ i h37 (by omega),?_⟩
   rw [cutG g i c (by omega)]
   have hHv37:Qe h37 (some ⟨b,0,none⟩) (Ql x):=.inr ⟨b,0,rfl,QO (k37 b _ hbg hb) (by simp)⟩
   refine Qg.copy hT hS O37 rfl hHv37 (by rw [Qr,show Nat.min 1 (R.length+1-i)=1 from dU (by omega)]) (by rw [Qr];omega) (Jf x) (by simp [Ql,D.PRow.enc]) fun h41 O41 _=>⟨_,rfl,?_⟩
   refine hK _ _ h41 ?_
   have hY5:Y.length=5:=by rw [hY];omega
   have s1:QP (R.flatMap Ql++Y) ((i+1)*5) ((R.drop i).flatMap Ql)=(R.take i).flatMap Ql++(((R.drop i).flatMap Ql++Y).take 5++(R.drop i).flatMap Ql):=by
    have h1:=XX ((R.take i).flatMap Ql) ((R.drop i).flatMap Ql++Y) 5 ((R.drop i).flatMap Ql);rw [hA,show i*5+5=(i+1)*5 by omega,<-bX,<-hAD] at h1
    rw [h1];congr 1
    unfold QP;have h3:((R.drop i).flatMap Ql++Y).drop (5+((R.drop i).flatMap Ql).length)=[]:=gL (by rw [bO,hY5];omega)
    rw [h3,dH]
   have s2:QP ((R.take i).flatMap Ql++(((R.drop i).flatMap Ql++Y).take 5++(R.drop i).flatMap Ql)) (i*5) (Ql x)=(R.take i).flatMap Ql++(Ql x++(R.drop i).flatMap Ql):=by
    have h1:=XX ((R.take i).flatMap Ql) (((R.drop i).flatMap Ql++Y).take 5++(R.drop i).flatMap Ql) 0 (Ql x);rw [f7,hA] at h1;rw [h1];congr 1
    unfold QP;have h5:(((R.drop i).flatMap Ql++Y).take 5).length=5:=by rw [bZ,bO,hY5];omega
    rw [jG,dE,dW,Qr,pR h5]
   rw [s1,s2] at O41;exact O41
end
theorem QbM {h:Hp}{b i:Nat}{xs:List Value}{t:TypeId}{v:Value}(hv:xs[i]?=some v):Hp.cell (h.set b (Qb xs t)) b i=some v:=by
 unfold Hp.cell;rw [qK];simpa using hv
def QjW (a k:PK):Int:=if QaL a.1 k.1≠0 then QaL a.1 k.1 else QmC a.2 k.2
theorem Qk8 (a k:PK):QjW a k<0↔Qt a k:=by
 unfold QjW Qt QmC QaL;repeat' split
 all_goals omega
theorem QoU (a k:PK):QjW a k=0↔a=k:=by
 obtain⟨a1,a2,a3⟩:=a;obtain⟨k1,k2,k3⟩:=k;rw [fC,fC];unfold QjW QmC QaL;simp only;repeat' split
 all_goals omega
section
variable {h:Hp}{K':RtT}{a:OaT}{R:List PR}{c:Nat}
theorem Qog {r:PR}{k:PK}{b:Nat}(h1:h.cell b 0=some (vi k.1))(hK:∀ h',h.le h'->K' (vi (QjW r.k k)) h'):Qa Pg 251 [vag (Ql r),vag (Qu k.2),vhp b 0] h K':=by
 refine V3 ?_
 refine⟨_,h1,Jo ⟨_,rfl,Qb3 fun h6 l6=>⟨_,rfl,?_⟩⟩⟩
 intro b8 hb8 h9;refine QeB (x:=QaL r.k.1 k.1) (y:=QmC r.k.2 k.2) ⟨rfl,qW _ _ [vi (QaL r.k.1 k.1),vi (QmC r.k.2 k.2)] _⟩ ⟨_,rfl,?_⟩
 exact hK _ (qP l6 (qQ (qO h6) hb8 _))
theorem QdN {k:PK}{b:Nat}(S:SlP Ql h a R.length R)(hn:R.length<=1000000)(hs:(R.map (·.k)).Pairwise Qt)(h1:h.cell b 0=some (vi k.1))
  (hK:∀(i:Nat)(is:Bool)(h':Hp),h.le h'->i<=R.length->(∀ x ∈ R.take i,Qt x.k k)->(∀ x,R[i]?=some x->¬ Qt x.k k)->(is=true↔∃ x,R[i]?=some x/\x.k=k)->K' (Qf [vi i,vb is]) h') :
  Qa Pg 250 [vsl a R.length c,vag (Qu k.2),Value.func (.func 251) #[] #[vhp b 0]] h K':=by
 refine Zy ?_
 have inv:∀(r:PR)(hh:Hp)(K2:RtT),h.le hh->(∀ h',hh.le h'->K2 (vi (QjW r.k k)) h')->ZC Pg (Value.func (.func 251) #[] #[vhp b 0]) [vag (Ql r),vag (Qu k.2)] hh K2:=by intro r hh K2 l hk;exact⟨251,#[],#[vhp b 0],rfl,⟨_,Tryz.func251,by kernel_rfl,rfl⟩,Qog (qS l h1) hk⟩
 have mono:∀{i j:Nat} {x y:PR},i<j->R[i]?=some x->R[j]?=some y->Qt x.k y.k:=by
  intro i j x y hij hx hy;obtain⟨hi,ex⟩:=bG.1 hx
  obtain⟨hj,ey⟩:=bG.1 hy
  have:=fL.1 hs i j (by simpa using hi) (by simpa using hj) hij
  simpa [ex,ey] using this
 refine⟨fun vs hh=>∃ i j:Nat,vs=[vi i,vi j]/\i<=j/\j<=R.length/\h.le hh/\(∀ m x,m<i->R[m]?=some x->Qt x.k k)/\(∀ m x,j<=m->R[m]?=some x->¬ Qt x.k k),fun vs hh=>(Qo vs 1-Qo vs 0).toNat,⟨0,R.length,rfl,cE _,cB _,qO h,fun m x hm _=>absurd hm (mJ _),fun m x hm hx=>absurd (bG.1 hx).1 (by omega)⟩,?_⟩
 rintro vs hh ⟨i,j,rfl,hij,hj,lh,hlo,hhi⟩;refine⟨i,j,rfl,fun e=>?_,fun e=>?_⟩
 ·have hlt:i<j:=by have:=bC e;omega
  have hw:IntKind.wrap .u64 ((i:Int)+(j:Int))=((i+j:Nat):Int):=by rw [IntKind.wrap_u64];omega
  refine⟨(i:Int)+(j:Int),iW,((i+j:Nat):Int) / 2 ^ 1,?_,?_⟩
  ·rw [hw];exact QoG (j:=1) (by decide) (by omega)
  have hm:IntKind.wrap .i64 (((i+j:Nat):Int) / 2 ^ 1)=(((i+j) / 2:Nat):Int):=by rw [IntKind.wrap_i64];omega
  rw [hm];have hm1:i<=(i+j) / 2:=by omega
  have hm2:(i+j) / 2<j:=by omega
  generalize (i+j) / 2=m at hm1 hm2;have hx:R[m]?=some (R[m]'(by omega)):=bD (by omega)
  obtain⟨b2,o2,ea,hr⟩:=(S.le lh).get Qr (by decide) hx
  generalize R[m]'(by omega)=r at hx hr
  refine⟨b2,o2,⟨ea,by omega,by omega⟩,_,_,_,_,_,_,_,by rw [bF];exact hr,inv r hh _ lh fun h20 l20=>⟨_,rfl,fun e2=>?_,fun e2=>?_⟩⟩
  ·have hah:=(Qk8 r.k k).1 (bC e2);refine⟨_,iW,⟨m+1,j,by simp,by omega,hj,qP lh l20,fun m' x hm' hx'=>?_,hhi⟩,by simp [Qo];omega⟩
   rcases kM m' m with h5|h5
   ·exact Xo (mono h5 hx' hx) hah
   ·have:m'=m:=by omega
    subst this;rw [hx] at hx';cases hx';exact hah
  ·have hna:¬ Qt r.k k:=fun q=>bB e2 ((Qk8 r.k k).2 q)
   refine⟨⟨i,m,rfl,hm1,by omega,qP lh l20,hlo,fun m' x hm' hx'=>?_⟩,by simp [Qo];omega⟩
   rcases Nat.eq_or_lt_of_le hm' with h5|h5
   ·subst h5;rw [hx] at hx';cases hx';exact hna
   ·intro q;exact hna (Xo (mono h5 hx hx') q)
 ·have hge:i=j:=by have:=bB e;omega
  subst hge;have hlo':∀ x ∈ R.take i,Qt x.k k:=by
   intro x hx;obtain⟨m,hm⟩:=gB hx
   have hml:m<i:=by
    have:=(bG.1 hm).1
    rw [bZ] at this;omega
   rw [gE,bJ hml] at hm
   exact hlo m x hml hm
  by_cases hlt:i<R.length
  ·have hd:decide (((i:Nat):Int)<((R.length:Nat):Int))=true:=cL (by omega)
   have hx:R[i]?=some R[i]:=bD hlt
   obtain⟨b2,o2,ea,hr⟩:=(S.le lh).get Qr (by decide) hx
   generalize R[i]=r at hx hr;refine⟨b2,o2,fun _=>⟨ea,by omega,by omega⟩,_,_,_,_,_,_,_,fun _=>by rw [bF];exact hr,?_⟩
   refine⟨fun x hh'=>hh.le hh'/\x=.t (.one (.v (vi (QjW r.k k)))),fun _=>inv r hh _ lh fun h' l'=>⟨_,rfl,l',rfl⟩,fun q=>absurd hd q,?_⟩
   rintro h34 x35 ⟨l34,e35⟩;cases e35;rw [hd];refine hK i _ h34 (qP lh l34) hj hlo' (fun x hx'=>hhi i x (cB _) hx') ?_
   show decide (QjW r.k k=0)=true↔_;rw [decide_eq_true_iff,QoU];constructor
   ·intro q;exact⟨r,hx,q⟩
   ·rintro⟨x,hx',q⟩;rw [hx] at hx';cases hx';exact q
  ·have hd:decide (((i:Nat):Int)<((R.length:Nat):Int))=false:=cO (by omega)
   refine⟨0,0,fun q=>(by rw [hd] at q;cases q),0,0,0,none,0,0,false,fun q=>(by rw [hd] at q;cases q),?_⟩
   refine⟨fun x hh'=>hh'=hh,fun q=>(by rw [hd] at q;cases q),fun _=>rfl,?_⟩
   rintro h34 x35 rfl;rw [hd];refine hK i _ h34 lh hj hlo' (fun x hx'=>hhi i x (cB _) hx') ?_
   constructor
   ·intro q;cases q
   ·rintro⟨x,hx',q⟩;exact absurd (bG.1 hx').1 hlt
theorem Qf5 {k:PK}(S:SlP Ql h a R.length R)(hn:R.length<=1000000)(hs:(R.map (·.k)).Pairwise Qt)
  (hK:∀(i:Nat)(is:Bool)(h':Hp),h.le h'->i<=R.length->(∀ x ∈ R.take i,Qt x.k k)->(∀ x,R[i]?=some x->¬ Qt x.k k)->(is=true↔∃ x,R[i]?=some x/\x.k=k)->K' (Qf [vi i,vb is]) h') :
  Qa Pg 215 [vag [vsl a R.length c],vi k.1,vag (Qu k.2)] h K':=by
 refine Ng ?_
 intro b1 hb1 h2;have l2:h.le h2:=qQ (qO h) hb1 _;refine QdN (S.le l2) hn hs (QbM rfl) fun i is h' l' q1 q2 q3 q4=>⟨_,_,rfl,hK i is h' (qP l2 l') q1 q2 q3 q4⟩
theorem Qfp {h0:Hp}{fv:Value}{p:PR->Bool}(O:Qg h0 h 150 5 a R.length c (R.flatMap Ql))(hn:R.length<=1000000)(hf:∀(hh:Hp)(r:PR),h0.le hh->∀ K2:RtT,r ∈ R->K2 (vb (p r)) hh->ZC Pg fv [vag (Ql r)] hh K2)
  (hK:∀ h',h0.le h'->SlP Ql h' a (R.filter fun r=>!p r).length (R.filter fun r=>!p r)->K' (vsl a (R.filter fun r=>!p r).length c) h'):Qa Pg 172 [vsl a R.length c,fv] h K':=by
 refine YI ?_
 have S:SlP Ql h a R.length R:=⟨rfl,O.row⟩;have hT:Pg.underlying 128=some (.slice 150):=by kernel_rfl
 have hI:(Pg.info? 150).isSome=true:=by kernel_rfl
 have hsz:szT Pg 150=5:=by kernel_rfl
 have hcap:=O.own.cap;refine NO (p:=p) S hn (fun r hr K2 hk=>hf h r O.le K2 hr hk) (fun i0 r0 hr0 hp0 hz=>⟨_,rfl,fun e=>absurd (bC e) (by omega),fun _=>?_⟩) (fun hno=>⟨_,rfl,fun _=>?_,fun e=>absurd rfl (bB e)⟩)
 ·have hi0:=(bG.1 hr0).1
  have tk0:R.take (i0+1)=R.take i0++[r0]:=by rw [bL hi0,(bG.1 hr0).2]
  have f0:(R.take (i0+1)).filter (fun r=>!p r)=R.take i0:=by rw [tk0,gV,fO,hp0];simp only [pH,jQ,kF,mM,dH];rw [List.filter_eq_self];intro x hx;rw [hz x hx];rfl
  refine⟨_,iW,?_⟩
  refine⟨fun vs hh=>∃(j:Nat)(Q:List PR),vs=[vi ((R.take j).filter fun r=>!p r).length,vi j]/\i0<j/\j<=R.length/\Q.length=R.length/\Qg h0 hh 150 5 a R.length c (Q.flatMap Ql)/\Q.take ((R.take j).filter fun r=>!p r).length=(R.take j).filter (fun r=>!p r)/\Q.drop j=R.drop j,fun vs hh=>R.length-(Qo vs 1).toNat,⟨i0+1,R,?_,by omega,hi0,rfl,O,?_,rfl⟩,?_⟩
  ·rw [f0,bZ,dU (by omega)];simp
  ·rw [f0,bZ,dU (by omega)]
  rintro vs hh ⟨j,Q,rfl,hij,hj,hQ,OQ,hQ1,hQ2⟩;have hle:((R.take j).filter fun r=>!p r).length<j:=by
   have h1:R.take j=R.take (i0+1)++(R.take j).drop (i0+1):=by
    have:=(dX (i0+1) (R.take j)).symm;rw [jP,dU (by omega)] at this
    exact this
   rw [h1,gV,f0,bO,bZ];have:=jC (fun r=>!p r) ((R.take j).drop (i0+1))
   rw [d5,bZ] at this;omega
  have SQ:SlP Ql hh a R.length Q:=⟨hQ.symm,OQ.row⟩;refine⟨_,_,rfl,fun e=>?_,fun e=>?_⟩
  ·have hlt:j<R.length:=by have:=bC e;omega
   have hx:R[j]?=some R[j]:=bD hlt
   have hxQ:Q[j]?=some R[j]:=by
    have:=congrArg (fun l=>l[0]?) hQ2
    simpa [fP,hx] using this
   have tk:R.take (j+1)=R.take j++[R[j]]:=bL hlt;have hmem:=cM hlt;obtain⟨b,o,ea,hr⟩:=SQ.get Qr (by decide) hxQ
   generalize R[j]=r at *
   have tkf:(R.take (j+1)).filter (fun r=>!p r)=(R.take j).filter (fun r=>!p r)++if p r then [] else [r]:=by rw [tk,gV,fO,mM];cases p r<;>rfl
   generalize hkept:(R.take j).filter (fun r=>!p r)=kept at *
   intro J31;have hJ:∀(Q2:List PR)(h2:Hp),Q2.length=R.length->Qg h0 h2 150 5 a R.length c (Q2.flatMap Ql)->Q2.take ((R.take (j+1)).filter fun r=>!p r).length=(R.take (j+1)).filter (fun r=>!p r)->Q2.drop (j+1)=R.drop (j+1)->J31 (((R.take (j+1)).filter fun r=>!p r).length:Nat) h2:=by
    intro Q2 h2 q1 q2 q3 q4;exact⟨_,iW,⟨j+1,Q2,by simp,by omega,by omega,q1,q2,q3,q4⟩,by simp [Qo];omega⟩
   clear_value J31;have hd1:Q.drop (j+1)=R.drop (j+1):=by
    have:=congrArg (List.drop 1) hQ2;rw [gY,gY] at this;exact this
   refine⟨b,o,⟨ea,by omega,by omega⟩,_,_,_,_,_,_,_,by rw [bF];exact hr,hf hh r OQ.le _ hmem ⟨_,rfl,fun e2=>?_,fun e2=>?_⟩⟩
   ·have hp:p r=false:=by simpa using e2
    rw [hp] at tkf;simp only [jQ,kF] at tkf;have hki:kept.length<Q.length:=by omega
    have hkx:Q[kept.length]?=some Q[kept.length]:=bD hki
    obtain⟨b2,o2,ea2,H2⟩:=Vec.putF (α:=PR) (enc:=Ql) (sz:=5) (T:=150) (h0:=h0) (h:=hh) (a:=a) (c:=c) (l:=Q) Qr (by unfold Vec;rw [hQ];exact OQ) hkx (x':=r) (k:=0) (vs:=Ql r) (by simp [Ql,D.PRow.enc]) (by simp [Qr]) (by simp [QP,Qr,gG])
    refine⟨b2,o2,⟨ea2,by omega,by omega⟩,?_⟩
    rw [bF];refine H2 _ fun h27 V27 _=>⟨_,iW,?_⟩
    have e5:((kept.length:Int)+1)=((((R.take (j+1)).filter fun r=>!p r).length:Nat):Int):=by rw [tkf];simp
    rw [e5];unfold Vec at V27;rw [dL,hQ] at V27;refine hJ _ h27 (by rw [dL];exact hQ) V27 ?_ ?_
    ·rw [tkf,bO,dV,bL (by rw [dL];exact hki),kH,mP (cB _),hQ1]
    ·rw [List.drop_set_of_lt (by omega),hd1]
   ·have hp:p r=true:=by simpa using e2
    rw [hp] at tkf;simp only [qI,dH] at tkf;have:=hJ Q hh hQ OQ (by rw [tkf];exact hQ1) hd1
    rw [tkf] at this;exact this
  ·have hge:j=R.length:=by have:=bB e;omega
   subst hge;rw [dG] at hQ1 hle ⊢;generalize hkept:R.filter (fun r=>!p r)=kept at *
   have rdl:=YD (P:=Pg) (h:=hh) (t:=128) (e:=150) hT hI (a:=a) (n:=R.length) (c:=c) (x:=(kept.length:Int)) (by omega) (by omega)
   rw [bF,hsz] at rdl;refine⟨_,_,_,rdl,?_⟩
   obtain⟨g,L,rfl,hg,_⟩:=OQ.blk (by omega) (by decide)
   have hcut:VZ (some ⟨g,0,none⟩) kept.length c 5=some ⟨g,kept.length*5,none⟩:=by
    unfold VZ;rw [bE (by omega)]
    simp only [fD,Addr.add];split
    ·rename_i h0';simp [h0']
    ·simp
   rw [hcut];have hz:(Xg Pg 150).map Qn=some [vi 0,vi 0,vi 0,vsl none 0 0,vb false]:=by kernel_rfl
   refine Qg.clear Qal hz (by intro u hu;simp at hu;rcases hu with rfl|rfl|rfl|rfl|rfl<;>rfl) rfl OQ rfl (by omega) (by omega) fun h39 O39=>⟨rfl,?_⟩
   have rdh:=X6 (P:=Pg) (h:=h39) (t:=128) (e:=150) hT hI (a:=some ⟨g,0,none⟩) (n:=R.length) (c:=c) (x:=(kept.length:Int)) (by omega) (by omega)
   rw [bF] at rdh;refine⟨_,_,_,rdh,hK h39 O39.le ⟨rfl,?_⟩⟩
   have:=O39.own.cut (m:=kept.length) (by omega)
   have e6:(QP (Q.flatMap Ql) (kept.length*5) ((List.replicate (R.length-kept.length) [vi 0,vi 0,vi 0,vsl none 0 0,vb false]).flatten)).take (kept.length*5)=kept.flatMap Ql:=by
    have hl1:((Q.flatMap Ql).take (kept.length*5)).length=kept.length*5:=by rw [bZ,Qi Qr];omega
    unfold QP;rw [bX,gP (by rw [hl1];exact cB _),cY (by rw [hl1];exact cB _)]
    have h7:(Q.take kept.length).flatMap Ql=(Q.flatMap Ql).take (kept.length*5):=by
     have h8:Q.flatMap Ql=(Q.take kept.length).flatMap Ql++(Q.drop kept.length).flatMap Ql:=by rw [<-cP,dX]
     rw [h8,jT (by rw [Qi Qr,bZ];omega)]
    rw [<-h7,hQ1]
   rw [e6] at this;exact this.row
 ·have e:R.filter (fun r=>!p r)=R:=by rw [List.filter_eq_self];intro x hx;rw [hno x hx];rfl
  rw [e] at hK;exact hK h O.le S
theorem QfZ {size upto:Int}(T:Tb h a R)(hn:R.length<=1000000)(hb:∀ r ∈ R,InR (r.k.1+size))
  (hK:∀ a' c' h',h.le h'->Tb h' a' (R.filter fun r=>!decide (r.k.1+size<=upto))->K' (vag [vsl a' (R.filter fun r=>!decide (r.k.1+size<=upto)).length c']) h'):Qa Pg 114 [vag [vsl a R.length c],vi size,vi upto] h K':=by
 refine Nf ?_
 intro b1 hb1 h2 b3 hb3 h4;have l2:h.le h2:=qQ (qO h) hb1 _;have l4:h2.le h4:=qQ (qO h2) hb3 _;have c1:h4.cell b1 0=some (vi size):=qS l4 (QbM rfl);have c3:h4.cell b3 0=some (vi upto):=QbM rfl;clear_value h4;clear_value h2;have l04:=qP l2 l4;refine Ur (T.le l04).s hn fun a' c' h6 O6=>⟨_,_,_,rfl,?_⟩
 refine Qfp (p:=fun r=>decide (r.k.1+size<=upto)) O6 hn (fun hh r lh K2 hr hk=>?_) fun h9 l9 S9=>⟨_,_,_,rfl,hK _ _ h9 (qP l04 l9) ⟨S9,fun r hr=>(T.i r (d8.1 hr).1).le (qP l04 l9)⟩⟩
 refine⟨173,#[],#[vhp b1 0,vhp b3 0],rfl,⟨_,Tryz.func173,by kernel_rfl,rfl⟩,?_⟩
 refine VT ?_
 exact⟨_,qS lh c1,_,isW (hb r hr),_,qS lh c3,hk⟩
end
def Qi5 (size upto:Int)(r:PR):Bool:=decide (r.k.1+size<=upto)
def ZG (size upto:Int)(r:PR):PR:={ r with t:=r.t||Qi5 size upto r }
def Yu (size upto:Int)(r:PR):Bool:=!r.t&&Qi5 size upto r
def Zf (r:PR):PR:={ r with t:=true }
section
variable {h:Hp}{K':RtT}{a:OaT}{R:List PR}{c:Nat}
theorem Qg.apart {h0 h h':Hp}{e:TypeId}{sz n c:Nat}{a:OaT}{xs:List Value}(O:Qg h0 h e sz a n c xs)(l:h0.le h')(hk:∀ b o,a=some ⟨b,0,none⟩->h b=some o->h' b=some o):Qg h0 h' e sz a n c xs:=
 ⟨l,O.own.keep fun g o hg ho=>hk g o hg ho,O.new⟩
theorem Qg.self {h0 h:Hp}{e:TypeId}{sz n c:Nat}{a:OaT}{xs:List Value}(O:Qg h0 h e sz a n c xs):∃ hB:Hp,h0.le hB/\Qg hB h e sz a n c xs/\∀ b o,a≠some ⟨b,0,none⟩->h b=some o->hB b=some o:=by
 have e1:∀ b,a=some ⟨b,0,none⟩->(fun b=>if a=some ⟨b,0,none⟩ then none else h b:Hp) b=none:=fun b hb=>bJ hb
 have e2:∀ b,¬ a=some ⟨b,0,none⟩->(fun b=>if a=some ⟨b,0,none⟩ then none else h b:Hp) b=h b:=fun b hb=>bE hb
 generalize (fun b=>if a=some ⟨b,0,none⟩ then none else h b:Hp)=hB at e1 e2
 refine⟨hB,fun b o ho=>?_,⟨fun b o ho=>?_,O.own,e1⟩,fun b o hn ho=>(e2 b hn).trans ho⟩
 ·have:¬ a=some ⟨b,0,none⟩:=fun q=>by rw [O.new b q] at ho;cases ho
  exact(e2 b this).trans (O.le b o ho)
 ·by_cases hq:a=some ⟨b,0,none⟩
  ·rw [e1 b hq] at ho;cases ho
  ·rw [e2 b hq] at ho;exact ho
theorem Qe.over {h h':Hp}{a:OaT}{xs:List Value}(H:Qe h a xs)(hk:∀ b o ob,a=some ⟨b,o,none⟩->h b=some ob->h' b=some ob):Qe h' a xs:=by
 rcases H with q|⟨b,o,q,hrw⟩
 ·exact .inl q
 ·refine .inr ⟨b,o,q,?_⟩
  unfold Hp.row at hrw ⊢;cases hq:h b with
  | none=>rw [hq] at hrw;cases hrw
  | some ob=>rw [hk b o ob q hq];rw [hq] at hrw;exact hrw
theorem QfR {size upto:Int}(T:Tb h a R)(hn:R.length<=1000000)(hb:∀ r ∈ R,InR (r.k.1+size))
  (hK:∀ a' c' a2 c2 h',h.le h'->Tb h' a' (R.map (ZG size upto))->Tb h' a2 ((R.filter (Yu size upto)).map Zf)->K' (Qf [vag [vsl a' R.length c'],vsl a2 ((R.filter (Yu size upto)).map Zf).length c2]) h'):Qa Pg 113 [vag [vsl a R.length c],vi size,vi upto] h K':=by
 refine MX ?_
 refine Ur T.s hn fun a3 c3 h2 O2=>⟨_,_,_,rfl,?_⟩
 refine⟨fun vs hh=>∃(i:Nat)(a9:OaT)(c9:Nat),vs=[vsl a9 (((R.take i).filter (Yu size upto)).map Zf).length c9,vi i]/\i<=R.length/\Qg h hh 150 5 a3 R.length c3 (((R.take i).map (ZG size upto)++R.drop i).flatMap Ql)/\Qg h hh 150 5 a9 (((R.take i).filter (Yu size upto)).map Zf).length c9 ((((R.take i).filter (Yu size upto)).map Zf).flatMap Ql)/\∀ g,a9=some ⟨g,0,none⟩->a3≠some ⟨g,0,none⟩,fun vs hh=>R.length-(Qo vs 1).toNat,⟨0,none,0,rfl,cE _,by simpa using O2,qY O2.le _ _,fun g hg=>by cases hg⟩,?_⟩
 rintro vs hh ⟨i,a9,c9,rfl,hi,OA,OB,hap⟩;refine⟨a9,_,c9,_,rfl,fun e=>?_,fun e=>?_⟩
 ·have hlt:i<R.length:=by have:=bC e;omega
  have hx:R[i]?=some R[i]:=bD hlt
  have tk:R.take (i+1)=R.take i++[R[i]]:=bL hlt;have dr:R.drop i=R[i] :: R.drop (i+1):=dS hlt;have hbr:=hb _ (cM hlt);generalize R[i]=r at *
  have htl:((R.take i).map (ZG size upto)).length=i:=by rw [bQ,bZ];omega
  have hll:((R.take i).map (ZG size upto)++R.drop i).length=R.length:=by rw [bO,htl,d5];omega
  have hxi:((R.take i).map (ZG size upto)++R.drop i)[i]?=some r:=by rw [dP (by omega),htl,fT,dr];rfl
  have hnl:(((R.take i).filter (Yu size upto)).map Zf).length<=i:=by rw [bQ];have:=jC (Yu size upto) (R.take i);rw [bZ] at this;omega
  have V:Vec Ql 5 150 h hh a3 c3 ((R.take i).map (ZG size upto)++R.drop i):=by unfold Vec;rw [hll];exact OA
  obtain⟨b,o,ea,hr⟩:=(V.slp Qr (by decide)).get Qr (by decide) hxi
  intro J38;have hJ:∀(a9:OaT)(c9:Nat)(h2:Hp),Qg h h2 150 5 a3 R.length c3 (((R.take (i+1)).map (ZG size upto)++R.drop (i+1)).flatMap Ql)->Qg h h2 150 5 a9 (((R.take (i+1)).filter (Yu size upto)).map Zf).length c9 ((((R.take (i+1)).filter (Yu size upto)).map Zf).flatMap Ql)->(∀ g,a9=some ⟨g,0,none⟩->a3≠some ⟨g,0,none⟩)->J38 a9 (((R.take (i+1)).filter (Yu size upto)).map Zf).length c9 h2:=by
   intro a9 c9 h2 q1 q2 q3;exact⟨_,iW,⟨i+1,a9,c9,by simp,by omega,q1,q2,q3⟩,by simp [Qo];omega⟩
  clear_value J38;have ecnd:(bif (!r.t) then(decide ((r.k.1+size:Int)<=upto)) else false)=Yu size upto r:=by unfold Yu Qi5;cases r.t<;>rfl
  refine⟨b,o,⟨ea,by omega,by omega⟩,_,_,_,_,_,_,r.t,by rw [bF];exact hr,_,fun _=>isW hbr,?_⟩
  show ((bif (!r.t) then(decide ((r.k.1+size:Int)<=upto)) else false)=true->_)/\((bif (!r.t) then(decide ((r.k.1+size:Int)<=upto)) else false)=false->_);rw [ecnd];have tkf:((R.take (i+1)).filter (Yu size upto)).map Zf=((R.take i).filter (Yu size upto)).map Zf++if Yu size upto r=true then [Zf r] else []:=by
   rw [tk,gV,cJ,fO,mM];split<;>rfl
  have tkm:(R.take (i+1)).map (ZG size upto)=(R.take i).map (ZG size upto)++[ZG size upto r]:=by rw [tk,cJ];rfl
  refine⟨fun e2=>?_,fun e2=>?_⟩
  ·rw [bJ e2] at tkf;have etell:ZG size upto r=Zf r:=by
    unfold Yu at e2;unfold ZG Zf;cases ht:r.t<;>simp_all
   obtain⟨b2,o2,ea2,H2⟩:=V.putF Qr hxi (x':=Zf r) (k:=4) (vs:=[vb true]) (by simp) (by simp) (by simp [QP,Ql,ZU,D.PRow.enc,Zf])
   have hset:((R.take i).map (ZG size upto)++R.drop i).set i (Zf r)=(R.take (i+1)).map (ZG size upto)++R.drop (i+1):=by rw [gJ _ _ (by omega),htl,fT,dr,dJ,tkm,etell,bX];rfl
   refine⟨b2,o2,⟨ea2,by omega,by omega⟩,?_⟩
   rw [bF];refine H2 _ fun h23 V23 B23=>?_
   rw [hset] at V23;have hll2:((R.take (i+1)).map (ZG size upto)++R.drop (i+1)).length=R.length:=by rw [<-hset,dL,hll]
   have hxi2:((R.take (i+1)).map (ZG size upto)++R.drop (i+1))[i]?=some (Zf r):=by rw [<-hset,fG (by rw [hll];exact hlt)]
   obtain⟨b3,o3,ea3,hr3⟩:=(V23.slp Qr (by decide)).get Qr (by decide) hxi2
   have OB23:Qg h h23 150 5 a9 (((R.take i).filter (Yu size upto)).map Zf).length c9 ((((R.take i).filter (Yu size upto)).map Zf).flatMap Ql):=Qg.apart OB V23.le0 fun g o hg ho=>B23.keep g o ho (hap g hg)
   refine⟨b3,o3,⟨ea3,by omega,by omega⟩,_,_,_,_,_,_,_,hr3,?_⟩
   intro b31 hb31 h32;have V32:=V23.keep0 (qQ (qO h23) hb31 (Qb (Ql (Zf r)) 150));refine q8 Qal (Qg.set hb31 _ OB23) (qW _ _ (Ql (Zf r)) _) (m:=1) rfl (Jf _) (by omega) (by omega) fun a35 c35 h34 O34 k1 k2=>⟨_,_,_,rfl,?_⟩
   have hal:∀ g,a3=some ⟨g,0,none⟩->∃ ob,h23.set b31 (Qb (Ql (Zf r)) 150) g=some ob:=by
    intro g hg;have:=(Qaf.fp _ _ _ _ _ _).al V32.ownF g hg;cases hq:h23.set b31 (Qb (Ql (Zf r)) 150) g with
    | none=>exact absurd hq this
    | some ob=>exact⟨ob,rfl⟩
   have:=hJ a35 c35 h34 ?_ ?_ ?_
   ·rw [tkf,bO] at this;exact this
   ·have V34:Vec Ql 5 150 h h34 a3 c3 ((R.take (i+1)).map (ZG size upto)++R.drop (i+1)):=Qg.apart V32 O34.le fun g o hg ho=>k1 g o ho fun q=>hap g q hg
    unfold Vec at V34;rw [hll2] at V34;exact V34
   ·rw [tkf,bO,cP,dN];exact O34
   ·intro g hg hg3;rcases k2 g hg with q|q
    ·exact hap g (q.trans hg) hg3
    ·obtain⟨ob,hob⟩:=hal g hg3;rw [hob] at q;cases q
  ·rw [bE (by rw [e2];decide),dH] at tkf
   have etell:ZG size upto r=r:=by unfold Yu at e2;unfold ZG;obtain⟨k,ra,rc,acs,t⟩:=r;cases t<;>simp_all
   have:=hJ a9 c9 hh ?_ ?_ hap
   ·rw [tkf] at this;exact this
   ·rw [tkm,etell,bX];rw [dr] at OA;exact OA
   ·rw [tkf];exact OB
 ·have hge:i=R.length:=by have:=bB e;omega
  subst hge;rw [dG,kL,dH] at OA;rw [dG] at OB ⊢;refine hK a3 c3 a9 c9 hh OA.le ⟨⟨rfl,by exact OA.row⟩,fun r hr=>?_⟩ ⟨⟨rfl,OB.row⟩,fun r hr=>?_⟩
  ·obtain⟨r0,h0,rfl⟩:=cZ.1 hr;exact(T.i r0 h0).le OA.le
  ·obtain⟨r0,h0,rfl⟩:=cZ.1 hr;exact(T.i r0 (d8.1 h0).1).le OA.le
theorem QhP {k:PK}{ka va:OaT}{kn kc vn vc:Nat}{ks:List Int}{v:List Vl}(T:Tb h a R)(hn:R.length<=900000)(hs:(R.map (·.k)).Pairwise Qt)(SK:SlI h ka kn ks)(SV:SlP Qu h va vn v)(hv:v.length=ks.length)(hks:ks.length<=1000)
  (hkd:∀ r ∈ R,r.acs.length=ks.length) (hbd:∀ r ∈ R,∀ x ∈ r.acs,AcB x) (hvs:∀ u ∈ v,Xd u)
  (hIn:∀(i:Nat)(r:PR)(a':OaT)(c':Nat)(a2:OaT)(c2:Nat)(h':Hp),R[i]?=some r->r.k=k->h.le h'->Tb h' a' (R.set i ⟨r.k,a2,c2,Za r.acs v,r.t⟩)->K' (Qf [vag [vsl a' R.length c'],vag (Ql r),vb true]) h')
  (hNew:∀(i:Nat)(a':OaT)(c':Nat)(a2:OaT)(c2:Nat)(h':Hp),i<=R.length->(∀ x ∈ R.take i,Qt x.k k)->(∀ x,R[i]?=some x->¬ Qt x.k k)->(∀ x ∈ R,x.k≠k)->h.le h'->Tb h' a' (R.take i++⟨k,a2,c2,Za (ZP ks) v,false⟩ :: R.drop i)->K' (Qf [vag [vsl a' (R.length+1) c'],vag [vi 0,vi 0,vi 0,vsl none 0 0,vb false],vb false]) h') :
  Qa Pg 167 [vag [vsl a R.length c],vi k.1,vag (Qu k.2),vsl ka kn kc,vsl va vn vc] h K':=by
 refine QaA ?_
 refine Qf5 T.s (by omega) hs fun i is h2 l2 hi hah hna his=>⟨_,_,rfl,?_⟩
 refine Ur (T.le l2).s (by omega) fun a7 c7 h6 O6=>⟨_,_,_,rfl,?_⟩
 have l6:=qP l2 O6.le;have hvn:=SV.1;have hkn:=SK.1;intro J83;have hJ:∀(a315:OaT)(c315:Nat)(Q:List PR)(x316 x317 x318:Int)(a319:OaT)(n319 c319:Nat)(p320:Bool) (h321:Hp) (r:PR),Qg h2 h321 150 5 a315 Q.length c315 (Q.flatMap Ql)->Q.length<=1000000->Q[i]?=some r->r.acs.length=ks.length->(∀ x ∈ r.acs,AcB x)->Qe h321 r.a (r.acs.flatMap Yp) ->
   (∀(a2:OaT)(c2:Nat)(h':Hp),Qg h2 h' 150 5 a315 Q.length c315 ((Q.set i ⟨r.k,a2,c2,Za r.acs v,r.t⟩).flatMap Ql)->(∀ g xs,(∀ b o,g=some ⟨b,o,none⟩->a315≠some ⟨b,0,none⟩)->Qe h321 g xs->Qe h' g xs)->Qe h' a2 ((Za r.acs v).flatMap Yp)->K' (Qf [vag [vsl a315 Q.length c315],vag [vi x316,vi x317,vi x318,vsl a319 n319 c319,vb p320],vb is]) h')->J83 a315 Q.length c315 x316 x317 x318 a319 n319 c319 p320 h321:=by
  intro a315 c315 Q x316 x317 x318 a319 n319 c319 p320 h321 r OQ hQn hr hrl hrb hri hfin;have hiQ:=(bG.1 hr).1
  have VQ:Vec Ql 5 150 h2 h321 a315 c315 Q:=OQ;obtain⟨b,o,ea,hrow⟩:=(VQ.slp Qr (by decide)).get Qr (by decide) hr
  refine⟨b,o,⟨ea,by omega,by omega⟩,_,_,_,r.a,r.acs.length,r.c,r.t,by rw [bF];exact hrow,?_⟩
  refine Qie hri (by omega) fun a331 c331 h330 V330=>⟨_,_,_,rfl,?_⟩
  have l330:=V330.le0;have hacl:=QaO (acs:=r.acs) (r:=v) (by omega)
  refine⟨fun vs hh=>∃ m:Nat,vs=[vi m]/\m<=v.length/\Qam h321 hh a331 c331 ((Za r.acs v).take m++r.acs.drop m),fun vs hh=>v.length-(Qo vs 0).toNat,⟨0,rfl,cE _,by simpa using V330⟩,?_⟩
  rintro vs hh ⟨m,rfl,hm,V5⟩;have hlen5:((Za r.acs v).take m++r.acs.drop m).length=r.acs.length:=by rw [bO,bZ,d5];omega
  refine⟨m,rfl,fun e=>?_,fun e=>?_⟩
  ·have hlt:m<v.length:=by have:=bC e;omega
   have hltA:m<r.acs.length:=by omega
   have lh:h.le hh:=qP l2 (qP OQ.le V5.le0);have hxv:v[m]?=some v[m]:=bD hlt
   obtain⟨b2,o2,ea2,hr2⟩:=(SV.le lh).get YO (by decide) hxv
   have hxi:((Za r.acs v).take m++r.acs.drop m)[m]?=some r.acs[m]:=by rw [dP (by rw [bZ];omega),bZ,dU (by omega),fT,fP,f7,bD hltA]
   obtain⟨b3,o3,ea3,hr3⟩:=(V5.slp Zg (by decide)).get Zg (by decide) hxi
   have hni:(Za r.acs v)[m]'(by omega)=(r.acs[m].1,Zt r.acs[m].1 r.acs[m].2 v[m]):=by unfold Za;rw [jW]
   have hset:((Za r.acs v).take m++r.acs.drop m).set m (r.acs[m].1,Zt r.acs[m].1 r.acs[m].2 v[m])=(Za r.acs v).take (m+1)++r.acs.drop (m+1):=by
    rw [<-hni,gJ _ _ (by rw [bZ];omega),bZ,dU (by omega),fT,dS hltA,dJ,bL (by omega:m<(Za r.acs v).length),bX]
    rfl
   have hb1:=hrb _ (cM hltA);have hb2:=hvs _ (cM hlt);unfold AcB at hb1;unfold Xd at hb2;have hA0:Qam h321 hh a331 c331 ((Za r.acs v).take m++r.acs.drop m):=V5;obtain⟨b4,o4,ea4,H4⟩:=V5.putF Zg hxi (x':=(r.acs[m].1,Zt r.acs[m].1 r.acs[m].2 v[m])) (k:=0) (vs:=Yp (r.acs[m].1,Zt r.acs[m].1 r.acs[m].2 v[m])) (by simp [Yp,QfD]) (by simp [Zg]) (by simp [QP,Zg,gG])
   refine⟨b2,o2,⟨ea2,by omega,by omega⟩,_,_,by rw [bF];exact hr2,b3,o3,⟨ea3,by omega,by omega⟩,_,_,_,_,by rw [bF];exact hr3,?_⟩
   refine NF (k:=r.acs[m].1) (s:=r.acs[m].2) (v:=v[m]) (by unfold InR;omega) (by unfold InR;omega) ⟨_,_,_,_,rfl,b4,o4,⟨ea4,by omega,by omega⟩,?_⟩
   rw [bF];refine H4 _ fun h358 V358 _=>⟨_,iW,⟨m+1,by simp,by omega,?_⟩,by simp [Qo];omega⟩
   rw [hset] at V358;exact V358
  ·have hge:m=v.length:=by have:=bB e;omega
   subst hge;rw [cY (by omega),gG (by omega),dH] at V5
   have VQ5:=VQ.keep0 V5.le0;obtain⟨b2,o2,ea2,H2⟩:=VQ5.putF Qr hr (x':=⟨r.k,a331,c331,Za r.acs v,r.t⟩) (k:=0) (vs:=Ql ⟨r.k,a331,c331,Za r.acs v,r.t⟩) (by simp [Ql,D.PRow.enc]) (by simp [Qr]) (by simp [QP,Qr,gG])
   refine⟨b2,o2,⟨ea2,by omega,by omega⟩,?_⟩
   rw [bF];have est:Ql ⟨r.k,a331,c331,Za r.acs v,r.t⟩=[vi r.k.1,vi r.k.2.1,vi r.k.2.2,vsl a331 r.acs.length c331,vb r.t]:=by unfold Ql ZU;simp [D.PRow.enc,hacl]
   rw [est,f7] at H2;refine H2 _ fun h363 V363 B363=>?_
   unfold Vec at V363;rw [dL] at V363;have keep:∀ g xs,(∀ b o,g=some ⟨b,o,none⟩->a315≠some ⟨b,0,none⟩)->Qe hh g xs->Qe h363 g xs:=by
    intro g xs hg H;rcases H with q|⟨b,o,q,hrw⟩
    ·exact .inl q
    ·refine .inr ⟨b,o,q,?_⟩
     unfold Hp.row at hrw ⊢;cases hq:hh b with
     | none=>rw [hq] at hrw;cases hrw
     | some ob=>rw [B363.keep b ob hq (hg b o q)];rw [hq] at hrw;exact hrw
   refine hfin a331 c331 h363 V363 (fun g xs hg H=>keep g xs hg (H.le V5.le0)) (keep _ _ (fun b o hb he=>?_) (Qg.row V5))
   have hb0:o=0:=QT.at0 (Qg.own V5) b o hb;subst hb0;have:=V5.new b hb;have hal:=(Qaf.fp _ _ _ _ _ _).al VQ.ownF b he;exact hal this
 clear_value J83;have hiold:∀{hx:Hp} {r:PR},r ∈ R->h6.le hx->∀(a315:OaT)(h2':h2.le hx),Qe hx r.a (r.acs.flatMap Yp):=fun hr l _ _=>(T.i _ hr).le (qP l6 l)
 have kept:∀{hx h':Hp} {a315:OaT} {g:OaT} {xs:List Value},h2.le h'->Qe h2 g xs->Qe h' g xs:=fun l H=>H.le l
 refine⟨fun e=>?_,fun e=>?_⟩
 ·obtain⟨r,hr,hrk⟩:=his.1 e;have hmem:=cF hr;have VQ:Vec Ql 5 150 h2 h6 a7 c7 R:=O6;obtain⟨b,o,ea,hrow⟩:=(VQ.slp Qr (by decide)).get Qr (by decide) hr
  have hil:=(bG.1 hr).1
  refine⟨b,o,⟨ea,by omega,by omega⟩,_,_,_,_,_,_,_,by rw [bF];exact hrow,?_⟩
  refine hJ a7 c7 R _ _ _ _ _ _ _ h6 r O6 (by omega) hr (hkd r hmem) (hbd r hmem) ((T.i r hmem).le l6) fun a2 c2 h' O' _ H2=>?_
  rw [e];refine hIn i r a7 c7 a2 c2 h' hr hrk (qP l2 O'.le) ⟨⟨by rw [dL],by exact O'.row⟩,fun r' hr'=>?_⟩
  rcases gD hr' with q|q
  ·exact(T.i r' q).le (qP l2 O'.le)
  ·rw [q];exact H2
 ·have hne:∀ x ∈ R,x.k≠k:=by
   intro x hx ek;obtain⟨m,hm⟩:=gB hx
   rcases pC m i with h5|h5|h5
   ·have:x ∈ R.take i:=by
     have:(R.take i)[m]?=some x:=by rw [gE,bJ h5];exact hm
     exact cF this
    have:=hah x this;rw [ek] at this;exact Z5 _ this
   ·subst h5;have:=his.2 ⟨x,hm,ek⟩;rw [e] at this;cases this
   ·have hil:i<R.length:=by have:=(bG.1 hm).1;omega
    have hy:R[i]?=some R[i]:=bD hil
    have h1:=hna _ hy;have:=fL.1 hs i m (by simpa using hil) (by simpa using (bG.1 hm).1) h5
    simp only [jF] at this;rw [(bG.1 hm).2,ek] at this
    exact h1 this
  intro J45;have hJ45:∀(a74:OaT)(c74:Nat)(h76:Hp),Qam h6 h76 a74 c74 (ZP ks)->J45 k.1 k.2.1 k.2.2 a74 (ZP ks).length c74 false h76:=by
   intro a74 c74 h76 VA b77 hb77 h78;have l78:h76.le h78:=qQ (qO h76) hb77 _;have k77:h78 b77=some (Qb (Ql ⟨k,a74,c74,ZP ks,false⟩) 150):=qK _ _ _;clear_value h78;have O78:=(Qg.mono VA.le0 O6).mono l78;obtain⟨hB,lB,OB,kB⟩:=Qg.self O78;have hrowB:Qe hB a74 ((ZP ks).flatMap Yp):=Qe.over ((Qg.row VA).le l78) fun b o ob hb ho=>kB b ob (fun q=>by
    have hb0:o=0:=QT.at0 (Qg.own VA) b o hb;subst hb0;have h1:=VA.new b hb;exact(Qaf.fp _ _ _ _ _ _).al (Vec.ownF (show Vec Ql 5 150 h2 h6 a7 c7 R from O6)) b q h1) ho
   refine Qfw (x:=⟨k,a74,c74,ZP ks,false⟩) OB (by omega) hi k77 (fun q=>?_) fun a81 c81 h80 O80=>⟨_,_,_,rfl,?_⟩
   ·have hal:=(Qaf.fp _ _ _ _ _ _).al (Vec.ownF (show Vec Ql 5 150 h2 h6 a7 c7 R from O6)) b77 q
    exact hal (qR VA.le0 hb77)
   have hQl:(R.take i++(⟨k,a74,c74,ZP ks,false⟩:PR) :: R.drop i).length=R.length+1:=by rw [bO,cH,bZ,d5];omega
   have htl:(R.take i).length=i:=by rw [bZ];omega
   have hQi:(R.take i++(⟨k,a74,c74,ZP ks,false⟩:PR) :: R.drop i)[i]?=some ⟨k,a74,c74,ZP ks,false⟩:=by rw [dP (by omega),htl,fT];rfl
   have ha0:(ZP ks).length=ks.length:=by unfold ZP;rw [bQ]
   have hrow:Qe h80 a74 ((ZP ks).flatMap Yp):=hrowB.le O80.le;have O80:=O80.trans lB;have:=hJ a81 c81 (R.take i++(⟨k,a74,c74,ZP ks,false⟩:PR) :: R.drop i) 0 0 0 none 0 0 false h80 ⟨k,a74,c74,ZP ks,false⟩ (by rw [hQl];exact O80) (by omega) hQi ha0 ?_ hrow fun a2 c2 h' O' _ H2=>?_
   ·rw [hQl] at this;exact this
   ·intro x hx;unfold ZP at hx;obtain⟨k0,_,rfl⟩:=cZ.1 hx;unfold AcB;simp only;omega
   ·rw [e];have hset:(R.take i++(⟨k,a74,c74,ZP ks,false⟩:PR) :: R.drop i).set i ⟨k,a2,c2,Za (ZP ks) v,false⟩=R.take i++⟨k,a2,c2,Za (ZP ks) v,false⟩ :: R.drop i:=by
     rw [gJ _ _ (by omega),htl,fT,dJ]
    rw [hset,hQl] at O';rw [hQl];have hQl2:(R.take i++(⟨k,a2,c2,Za (ZP ks) v,false⟩:PR) :: R.drop i).length=R.length+1:=by rw [bO,cH,bZ,d5];omega
    refine hNew i a81 c81 a2 c2 h' hi hah hna hne (qP l2 O'.le) ⟨⟨rfl,O'.row⟩,fun r' hr'=>?_⟩
    rcases bU.1 hr' with q|q
    ·exact(T.i r' (gC q)).le (qP l2 O'.le)
    ·rcases bS.1 q with rfl|q
     ·exact H2
     ·exact(T.i r' (List.mem_of_mem_drop q)).le (qP l2 O'.le)
  clear_value J45;refine⟨fun vs hh=>∃(m:Nat)(aa:OaT)(ca:Nat),vs=[vi m,vi k.1,vi k.2.1,vi k.2.2,vsl aa (ZP (ks.take m)).length ca,vb false]/\m<=ks.length/\Qam h6 hh aa ca (ZP (ks.take m)),fun vs hh=>ks.length-(Qo vs 0).toNat,⟨0,none,0,rfl,cE _,qY (qO _) _ _⟩,?_⟩
  rintro vs hh ⟨m,aa,ca,rfl,hm,V⟩;refine⟨_,_,_,_,aa,_,ca,false,rfl,fun e5=>?_,fun e5=>?_⟩
  ·have hltm:m<ks.length:=by have:=bC e5;omega
   have tkm:ks.take (m+1)=ks.take m++[ks[m]]:=bL hltm;have hal:(ZP (ks.take m)).length=m:=by unfold ZP;rw [bQ,bZ];omega
   obtain⟨b,o,ea,hc⟩:=(SK.le (qP l6 V.le0)).get (i:=m) (by omega)
   have hgd:ks.getD m 0=ks[m]:=by rw [bI,bD hltm];rfl
   rw [hgd] at hc;generalize ks[m]=km at *
   refine⟨b,o,⟨ea,by omega,by omega⟩,_,by rw [bF];exact hc,NJ ⟨_,_,_,_,rfl,?_⟩⟩
   intro b38 hb38 h39;refine Vec.app QlP Zg Qhv V (by rw [hal];omega) (by rw [hal];omega) (x:=(km,(0,0,0))) hb38 fun a' c' h' V'=>⟨_,_,_,rfl,_,iW,⟨m+1,a',c',?_,by omega,?_⟩,by simp [Qo];omega⟩
   ·rw [tkm];unfold ZP;rw [cJ];rfl
   ·rw [tkm];unfold ZP at V' ⊢;rw [cJ];exact V'
  ·have hge:m=ks.length:=by have:=bB e5;omega
   rw [hge,dG] at V ⊢;exact hJ45 aa ca hh V
end
end Go.Proofs.YthicpjafcpfjoaaGreatDoor
