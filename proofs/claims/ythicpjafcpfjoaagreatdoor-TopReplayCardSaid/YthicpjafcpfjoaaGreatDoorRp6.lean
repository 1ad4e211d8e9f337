/-
  The statement that the last part names, proved; and all that it stands on that is not in the parts ahead. Conditions: those stated at each.
-/
import Derived.SizedLaws
import Derived.Handed
import Derived.Test.YthicpjafcpfjoaaGreatDoorRows
import Derived.Test.YthicpjafcpfjoaaGreatDoorCards
import Derived.Test.YthicpjafcpfjoaaGreatDoorTie
import Derived.WalkKit
import Derived.ProofKit
import Derived.OpenShut
import Derived.LaidMore
import Derived.Stop.Joined
import Derived.Stop.LaidErr
import Derived.SevenTiedAt
import Derived.Lay
import Derived.Test.YthicpjafcpfjoaaGreatDoorRp5
set_option linter.unusedVariables false
set_option maxRecDepth 100000
namespace Go.Proofs.YthicpjafcpfjoaaGreatDoor
open Go Go.Vc Go.Txt
def Ut (l:List Nd):Prop:=∀ n ∈ l,0<=n.v.2
def PP (P:Ps):Prop:=∀ s,Ut (P s).1
theorem QaV {n:Nd}(h:0<=n.v.2):Ut [n]:=fun m hm=>by rw [cD.1 hm];exact h
theorem Qm5 {op:Int}{x y:List Nd}(hx:Ut x)(hy:Ut y):Ut (Ye op x y):=by
 intro n hn;unfold Ye at hn;rcases bU.1 hn with h|h
 ·rcases bU.1 h with h|h
  ·exact hx n h
  ·obtain⟨m,hm,rfl⟩:=cZ.1 h;exact hy m hm
 ·rw [cD.1 h];exact gQ _
theorem Zz {op:Int}{x y:List Nd}{s:RS}(hx:Ut x)(hy:Ut y):Ut (ZI op x y s).1:=by
 unfold ZI;split
 ·exact QaV (by decide)
 ·exact Qm5 hx hy
theorem Kl:Ut []:=fun n h=>by cases h
theorem Qkl (s:RS)(m:Int):0<=(s.number m).1:=by
 unfold RS.number;split
 ·exact gQ _
 ·split
  ·exact gQ _
  ·rename_i h;simp only;omega
theorem Qh6 {P:Ps}(h:PP P):PP (KF P):=by
 intro s;unfold KF;exact h _
theorem QoX {o:Ps}(h:PP o):PP (Qet o):=by
 intro s;unfold Qet;simp only;split
 ·exact Qh6 h _
 ·split
  ·refine QaV ?_
   simp only;unfold Qil;split
   ·decide
   ·simp only;split<;>decide
  ·split
   ·exact QaV (Qkl _ _)
   ·exact QaV (gQ _)
theorem Qn0 {u a:Ps}(hu:PP u)(ha:PP a):PP (Qau u a):=by
 intro s;unfold Qau;split
 ·exact ha s
 ·exact Zz (Qh6 hu _) Kl
theorem Qp8 {u a:Ps}(hu:PP u)(ha:PP a):PP (Qkd u a):=by
 intro s;unfold Qkd;split
 ·exact ha s
 ·exact Zz (Qh6 hu _) Kl
theorem QlA {P:Ps}(h:PP P){ops:List (Wd × Int)}:∀(k:Nat)(x:List Nd)(s:RS),Ut x->Ut (Qg6 P ops k x s).1
 | 0,x,s,hx=>hx
 | k+1,x,s,hx=>by
  rw [Qg6];split
  ·exact hx
  ·simp only;split
   ·exact hx
   ·exact QlA h k _ _ (Zz hx (h _))
theorem QgZ {P:Ps}(h:PP P){ops:List (Wd × Int)}:PP (UY P ops):=fun s=>QlA h _ _ _ (h s)
theorem Qqh {P:Ps}(h:PP P):PP (Qkn P):=by
 intro s;unfold Qkn;simp only;split
 ·exact Zz (h _) (h _)
 ·split
  ·exact Zz (h _) (h _)
  ·split
   ·exact Zz (Zz (h _) (h _)) Kl
   ·split
    ·exact Zz (Zz (h _) (h _)) Kl
    ·split
     ·exact Zz (h _) (h _)
     ·split
      ·exact Zz (Zz (h _) (h _)) Kl
      ·split
       ·split
        ·exact Zz (Zz (h _) Kl) Kl
        ·exact Zz (h _) Kl
       ·exact h _
theorem QqS {t:Mi}(ho:PP t.o)(hn:PP t.n)(hu:PP t.u):PP (orS t)/\PP (Qhz t)/\PP (unS t):=by
 have h1:PP (unS t):=Qn0 hu (QoX ho);have h3:PP (Qnj t):=QgZ (QgZ h1);have h5:PP (Qhz t):=Qp8 hn (Qqh h3);exact⟨QgZ (QgZ h5),h5,h1⟩
theorem QkV:PP noP:=fun s=>QaV (by decide)
theorem Qqp (n:Nat):PP (W6 n).o/\PP (W6 n).n/\PP (W6 n).u:=by
 induction n with
 | zero=>exact⟨QkV,QkV,QkV⟩
 | succ n ih=>
  rw [Qcv];exact QqS ih.1 ih.2.1 ih.2.2
structure Qqx (q:Qy):Prop where
 g:∀ a ∈ q.aggs,Ut a.2
 w:Ut q.wh
 b:Ut q.by_
theorem QoR {c:Prop}[Decidable c]{x y:Ag × RS}(hx:Ut x.1.2)(hy:Ut y.1.2):Ut (if c then x else y).1.2:=by
 split
 ·exact hx
 ·exact hy
theorem QnP {o:Ps}(h:PP o)(s:RS):Ut (UR o s).1.2:=by
 unfold UR;exact QoR Kl (h _)
theorem Qlc {o:Ps}(h:PP o):∀(k:Nat)(l:List Ag)(s:RS),(∀ a ∈ l,Ut a.2)->∀ a ∈ (UT o k l s).1,Ut a.2
 | 0,l,s,hl=>hl
 | k+1,l,s,hl=>by
  rw [UT];split
  ·exact hl
  ·refine Qlc h k _ _ fun a ha=>?_
   rcases bU.1 ha with h1|h1
   ·exact hl a h1
   ·rw [cD.1 h1];exact QnP h _
theorem Qnr {P:Ps}(h:PP P){w:Wd}{s:RS}:Ut (Nm w P s).1:=by
 unfold Nm;split
 ·exact Kl
 ·exact h _
theorem QlR (ws:List Wd):Qqx (Qc3 ws).1:=by
 have ho:=(Qqp (ws.length+1)).1;rw [Qjd];generalize (W6 (ws.length+1)).o=o at ho ⊢;refine⟨Qlc ho _ _ _ fun a ha=>?_,Qnr ho,Qnr (fun s=>ho _)⟩
 rw [cD.1 ha];exact QnP ho _
theorem Qem {s:LuT}(h:(YV s).2=0):QOk (YV s).1/\Qqx (YV s).1:=by
 unfold YV at h ⊢;split at h
 ·rename_i h1;exact absurd h h1
 ·rename_i h1;rw [bE h1];unfold Qkj at h ⊢;split at h
  ·rename_i h2;exact absurd h h2
  ·rename_i h2;rw [bE h2];split at h
   ·rename_i h3;exact absurd h h3
   ·rename_i h3;rw [bE h3];exact⟨Qp5 (gA.1 h3),QlR _⟩
def tkN (q:Qy):List Wd:=[MI,Lib.itoa q.size,Qcm,Lib.itoa q.slide,Qck,Lib.itoa q.delay,Qgv,Lib.itoa q.late]
end Go.Proofs.YthicpjafcpfjoaaGreatDoor
namespace Go.Proofs.YthicpjafcpfjoaaGreatDoor
open Go Go.Vc
theorem QhB {u0:ByteArray}{h:Hp}{R:RtT}(H:((decide ((((ByteArray.size u0:Nat):Int):Int)>400))=true->R (Qf [vag [vsl none 0 0,vsl none 0 0,vsl none 0 0,vi 0,vi 0,vi 0,vi 0],vb false]) h)/\((decide ((((ByteArray.size u0:Nat):Int):Int)>400))=false->Qa Pg 39 [vs u0] h fun v2 h3=>∃ a4 n4 c4 a5 n5 c5 a6 n6 c6 x7 x8 x9 x10 e11,v2=Qf [vag [vsl a4 n4 c4,vsl a5 n5 c5,vsl a6 n6 c6,vi x7,vi x8,vi x9,vi x10],ifv e11]/\R (Qf [vag [vsl a4 n4 c4,vsl a5 n5 c5,vsl a6 n6 c6,vi x7,vi x8,vi x9,vi x10],(vb (Option.isNone e11))]) h3)):Qa Pg 30 [vs u0] h R:=callC ⟨[],[],[(4,[0,1,2,3,4])]⟩ Tryz.func30 [.one (.v (vs u0))] H
theorem QfK {u0:OtT}{h:Hp}{R:RtT}(H:((Option.isNone u0)=true->R (vi 0) h)/\((Option.isNone u0)=false->∃ x2 p3,Rd Pg (Instr.typeAssert (ifv u0) 59 119 true) h (Qf [vi x2,vb p3])/\((!p3)=true->R (vi (-1)) h)/\((!p3)=false->R (vi x2) h))):Qa Pg 33 [ifv u0] h R:=callO Tryz.func33 [.one (.ifc u0)] H
open Go.Txt
theorem XG {f:Int}{h:Hp}{R:RtT}(hK:R (vi f) h):Qa Pg 33 [ifv (QA f)] h R:=by
 refine QfK ?_
 by_cases h0:f=0
 ·have e:QA f=none:=by simp [QA,h0]
  rw [e];refine⟨fun _=>?_,fun e=>by simp at e⟩
  rw [h0] at hK;exact hK
 ·have e:QA f=some (119,vi f):=by simp [QA,h0]
  rw [e];refine⟨fun e=>by simp at e,fun _=>⟨f,true,fun w _=>Qji _ w,fun e=>(by cases e),fun _=>hK⟩⟩
theorem Qis {s:Wd}{h:Hp}(T:QfA h){R:RtT}(bad:∀ a1 n1 c1 a2 n2 c2 a3 n3 c3 x4 x5 x6 x7 h',h.le h'->R (Qf [vag [vsl a1 n1 c1,vsl a2 n2 c2,vsl a3 n3 c3,vi x4,vi x5,vi x6,vi x7],vb false]) h')
  (hK:(YV s).2=0->QOk (YV s).1->∀ a1 n1 c1 a2 n2 c2 a3 n3 c3 h',h.le h'->QAt h' (YV s).1 a1 n1 a2 n2 a3 n3->R (Qf [qV a1 n1 c1 a2 n2 c2 a3 n3 c3 (YV s).1,vb true]) h'):Qa Pg 30 [vs (bs s)] h R:=by
 refine QhB ?_
 refine⟨fun e=>bad _ _ _ _ _ _ _ _ _ _ _ _ _ h (qO _),fun _=>?_⟩
 refine GF T fun a1 n1 c1 a2 n2 c2 a3 n3 c3 h' l' Q=>⟨_,_,_,_,_,_,_,_,_,_,_,_,_,_,rfl,?_⟩
 rw [YR];by_cases hf:(YV s).2=0
 ·rw [cL hf];exact hK hf (Qem hf).1 a1 n1 c1 a2 n2 c2 a3 n3 c3 h' l' Q
 ·rw [cO hf];exact bad _ _ _ _ _ _ _ _ _ _ _ _ _ h' l'
end Go.Proofs.YthicpjafcpfjoaaGreatDoor
namespace Go.Proofs.YthicpjafcpfjoaaGreatDoor
open Go Go.Vc
theorem Qox (ks:List Int)(st:En):WO ks st≠[]:=by
 intro e;have h1:=Qiw ks st;rw [e] at h1;have h0:(Yx ([]:Wds)).length=1:=by decide
 rw [h1] at h0;unfold XL hdW at h0;simp at h0
structure Txt (q:Qy)(n:Nat)(t:LuT)(st:En):Prop where
 z:EnZ q n st
 r:∀ x ∈ st.rd,x<=40
 t:(t=[]/\st=Ja n)\/(t≠[]/\t=WO (Qd q) st)
theorem Txt.new (q:Qy)(n:Nat):Txt q n [] (Ja n):=⟨EnZ.new q n,fun x hx=>by unfold Ja at hx;rw [fQ hx];decide,.inl ⟨rfl,rfl⟩⟩
theorem Txt.saved {q:Qy}{n:Nat}{st:En}(Z:EnZ q n st)(h:∀ x ∈ st.rd,x<=40):Txt q n (WO (Qd q) st) st:=⟨Z,h,.inr ⟨Qox _ _,rfl⟩⟩
theorem YE.fal {h0 h:Hp}{F:NpT}{g:Nat}{s:DK}{n e:Nat}{t:LuT}(S:YE h0 h F g s n e t)(t':LuT):Qn1 h0 h F g s n e t t':=⟨S.le,S.nw,S.p,S.D,fun k=>.inl (S.G.restart k).kept⟩
theorem YE.w0 {h0 h:Hp}{F:NpT}{g:Nat}{s:DK}{n e:Nat}{t:LuT}(S:YE h0 h F g s n e t):s.wait.length<=900000:=by rw [S.G.wait];exact cE _
section
variable {h:Hp}{R:RtT}
theorem Vs {q:Qy}{s:QS}{B p pX:Hp}{Ls:List Hp}{gs gd f0 f1 f2 e n:Nat}{k:Int}{t0 t1 t2:TypeId}{L:List (List EvL)}{F F0S:NpT}{sd:DK}{t t':LuT}{st st':En}(P:Par B h (p :: pX :: Ls))(V:Qn1 B p F gd sd 160 e t t')(hw:sd.wait.length<=900000)(hk:0<=k/\k<=18446744073709551615)
  (k0:pX f0=some (Qb [vhp gd 0] t0)) (k1:pX f1=some (Qb (s.l q) t1)) (k2:pX f2=some (Qb [vhp gs 0] t2)) (Q:s.At B q) (Qk:QOk q) (Sr:KZ gs L B F0S) (T:Uk B) (E:MD B) (M:Qdh B) (h1:1<=n) (h3:n<=3) (hL:L.length=n) (T1:Txt q n t st) (T2:Txt q n t' st')
  (hK:∀ gt ge h' p' F' sd' e' u su,((e'=e/\u=t/\su=st)\/(e'=e+1/\u=t'/\su=st'))->Txt q n u su->Par B h' (p' :: pX :: Ls)->XF q B p' s gs gd gt ge (fun p=>YE B p F' gd sd' 160 e' u) su su.rows->sd'.fuse=-1->R (Qf [vhp gt 0,vb true]) h'):Qa Pg 66 [vk .u64 k,vhp f0 0,vhp f1 0,vhp f2 0] h R:=by
 refine QbN ?_
 have x0:=(P.last (i:=1) rfl) _ _ k0;refine⟨_,Qc x0 rfl,?_⟩
 refine P.call (i:=0) rfl (Qdl V.p V.D.wf (by omega) hk fun p2 F2 D2 M2=>?_)
 obtain⟨q1,q2⟩:=M2.old V.le V.nw;refine⟨q1,fun h3' P3=>⟨rfl,?_⟩⟩
 have lX:=P3.last (i:=1) rfl;have y1:=lX _ _ k1;refine⟨_,_,_,_,_,_,_,_,_,_,_,_,_,QO y1 (bP rfl),_,Qc (lX _ _ k2) rfl,_,Qc (lX _ _ k0) rfl,?_⟩
 have key:∃ e' u su,((e'=e/\u=t/\su=st)\/(e'=e+1/\u=t'/\su=st'))/\Txt q n u su/\Qe3 (Y9 sd k) 160 e' u:=by
  rcases Qje V.S k with g|g
  ·exact⟨_,_,_,.inl ⟨rfl,rfl,rfl⟩,T1,g⟩
  ·exact⟨_,_,_,.inr ⟨rfl,rfl,rfl⟩,T2,g⟩
 obtain⟨e',u,su,hc,TX,G⟩:=key;have V2:YE B p2 F2 gd (Y9 sd k) 160 e' u:=⟨q1,q2,D2,V.D.restart k,G,rfl⟩;subst hL;refine P3.call (i:=0) rfl (Mm V2 Q Qk Sr T E M h1 h3 TX.z TX.r TX.t fun gt ge p' X=>⟨X.le0,fun h14 P14=>⟨some ⟨gt,0,none⟩,none,rfl,_,fun _=>Qfr (e:=123) (by kernel_rfl),?_⟩⟩)
 exact hK gt ge h14 p' F2 (Y9 sd k) e' u su hc TX P14 X rfl
theorem QbV {k:Int}{f0 f1 f2:Nat}(H:Qa Pg 66 [vk .u64 k,vhp f0 0,vhp f1 0,vhp f2 0] h R):ZC Pg (Value.func (.func 66) #[] #[vhp f0 0,vhp f1 0,vhp f2 0]) [vk .u64 k] h R:=
 ⟨66,#[],#[vhp f0 0,vhp f1 0,vhp f2 0],rfl,⟨_,Tryz.func66,by kernel_rfl,rfl⟩,H⟩
theorem Qj2 {q:Qy}{s:QS}{B p pX:Hp}{Ls:List Hp}{gs gd gt ge f0 e:Nat}{x:Int}{t0:TypeId}{F:NpT}{sd:DK}{t:LuT}{st:En}{sv:List Rw}(P:Par B h (p :: pX :: Ls))(X:XF q B p s gs gd gt ge (fun p=>YE B p F gd sd 160 e t) st sv)
  (k0:pX f0=some (Qb [vhp gd 0] t0)) (hK:∀ h' p' F' sd',Par B h' (p' :: pX :: Ls)->XF q B p' s gs gd gt ge (fun p=>YE B p F' gd sd' 160 e t) st sv->R (Qf []) h'):ZC Pg (Value.func (.func 68) #[] #[vhp f0 0]) [vi x] h R:=by
 refine⟨68,#[],#[vhp f0 0],rfl,⟨_,Tryz.func68,by kernel_rfl,rfl⟩,?_⟩
 refine Qcc ?_
 have x0:=(P.last (i:=1) rfl) _ _ k0;refine⟨_,Qc x0 rfl,_,Qek,_,QoK,?_⟩
 obtain⟨pT,pE,pD,PI,S,XE,V⟩:=X;refine P.call (i:=0) rfl (PI.call (i:=2) rfl (QiB V.p fun h5 F5 D5 M5=>?_))
 have O5:=M5.old V.le V.nw;refine⟨O5.1,fun p5 P5=>⟨P5.z,fun h5' P5'=>⟨rfl,?_⟩⟩⟩
 refine hK h5' p5 F5 _ P5' ⟨pT,pE,h5,P5,S,XE,O5.1,O5.2,D5,V.D.up (f:=max (min (max x (-1)) 500) (-1)) (b:=sd.down) (by omega),⟨V.G.now,V.G.kept,V.G.wait⟩,V.d⟩
end
section
variable {h:Hp}{R':RtT}
theorem Qju {ps:List (List EvL)}{pa:OaT}{pn pc:Nat}{ta:OaT}{tn tc:Nat}(TP:Nb Xk h pa pn ps)
  (hK:∀ p h',h.le h'->(p=true->1<=ps.length/\ps.length<=3/\tn<=200/\∀ x ∈ ps,x.length<=40/\∀ e ∈ x,K5 e=0)->R' (vb p) h'):Qa Pg 31 [vsl pa pn pc,vsl ta tn tc] h R':=by
 refine Qkg ?_
 have hpn:pn=ps.length:=TP.r.choose_spec.2.1;refine⟨fun x hh=>h.le hh/\∃ p:Bool,x=.t (.one (.v (vb p)))/\(p=true->ps.length<=3/\∀ x ∈ ps,x.length<=40/\∀ e ∈ x,K5 e=0),fun _=>QfH TP fun p h' l hp=>⟨_,rfl,l,p,rfl,hp⟩,fun _=>⟨qO h,false,rfl,fun q=>by cases q⟩,?_⟩
 rintro h5 p6 ⟨l5,p,e,hp⟩;cases e;refine hK _ h5 l5 fun q=>?_
 cases h1:decide ((((pn:Nat):Int):Int)>0) with
 | false=>rw [h1] at q;cases q
 | true=>
  cases h2:p6 with
  | false=>rw [h1,h2] at q;cases q
  | true=>
   rw [h1,h2] at q;have:=bC h1;have q3:=bC (show decide ((((tn:Nat):Int):Int)<=200)=true from q)
   obtain⟨k1,k2⟩:=hp h2;exact⟨by omega,k1,by omega,k2⟩
end
def Js (ps:List (List EvL)):List (Int × EvL):=(ps.zipIdx.map fun x=>x.1.map fun e=>((x.2:Int),e)).flatten
theorem QkX (L:List (List EvL))(a b:List (Int × EvL)):YU L (a++b)=YU (YU L a) b:=by
 unfold YU;rw [fM]
theorem QoO {L:List (List EvL)}{i:Nat}(hi:i<L.length){e:EvL}(he:K5 e=0)(hl:(L.getD i []).length≠40):(Up L i e).1=L.set i (L.getD i []++[e]):=by
 unfold Up;rw [bE (by omega),bE (by rw [he];decide),bF,bE hl]
theorem Qc8 {i:Nat}:∀(l:List EvL) {L:List (List EvL)},i<L.length->(∀ e ∈ l,K5 e=0)->(L.getD i []).length+l.length<=40->YU L (l.map fun e=>((i:Int),e))=L.set i (L.getD i []++l)
 | [],L,hi,_,_=>by
  rw [dH,bI,bD hi]
  show L=L.set i L[i];rw [List.set_getElem_self]
 | e :: l,L,hi,hE,hl=>by
  rw [cH] at hl;have h1:YU L ((e :: l).map fun e=>((i:Int),e))=YU (Up L i e).1 (l.map fun e=>((i:Int),e)):=rfl
  rw [h1,QoO hi (hE e (bY ..)) (by omega)]
  have hi2:i<(L.set i (L.getD i []++[e])).length:=by rw [dL];exact hi
  have hg:(L.set i (L.getD i []++[e])).getD i []=L.getD i []++[e]:=by rw [bI,fG hi];rfl
  rw [Qc8 l hi2 (fun x hx=>hE x (bT _ hx)) (by rw [hg,bO,dV];omega),hg,List.set_set,bX]
  rfl
theorem QiJ {ps:List (List EvL)}(hE:∀ x ∈ ps,x.length<=40/\∀ e ∈ x,K5 e=0):∀(a b:List (List EvL)),ps=a++b->YU (List.replicate ps.length []) (Js a)=a++List.replicate b.length []:=by
 intro a;induction a using Y0 with
 | h0=>
  intro b e;rw [dE] at e;rw [e];rfl
 | h1 a x ih=>
  intro b e;have e2:ps=a++(x :: b):=by rw [e,bX];rfl
  have hx:=hE x (by rw [e2];simp)
  have hf:Js (a++[x])=Js a++x.map fun e=>((a.length:Int),e):=by unfold Js;rw [List.zipIdx_append,cJ,List.flatten_append];simp
  rw [hf,QkX,ih _ e2];have hlen:a.length<(a++List.replicate (x :: b).length ([]:List EvL)).length:=by rw [bO,dQ,cH];omega
  have hg:(a++List.replicate (x :: b).length ([]:List EvL)).getD a.length []=[]:=by
   rw [bI,dP (cB _),fT]
   rfl
  rw [Qc8 x hlen hx.2 (by rw [hg];simpa using hx.1),hg,dE,gJ _ _ (cB _),fT,cH,fS,dJ,bX]
  rfl
theorem Qkr {ps:List (List EvL)}(hE:∀ x ∈ ps,x.length<=40/\∀ e ∈ x,K5 e=0):YU (List.replicate ps.length []) (Js ps)=ps:=by
 have:=QiJ hE ps [] (by simp)
 rw [this];simp
theorem QqD:ElT Pg 22 90 8 64:=.of (by kernel_rfl) (by kernel_rfl) (by decide)
theorem Qnp (y:Int × EvL):∀ u ∈ Qj9 y,u.oneCell'=true:=by
 intro u hu;simp only [Qj9,Xk,Qu,bS,bU,dB,fV,dA,dE] at hu;rcases hu with rfl|rfl|rfl|rfl|rfl|rfl|rfl|rfl<;>rfl
set_option maxHeartbeats 400000 in
theorem Qd2 {q:Qy}{s:QS}{ps:List (List EvL)}{pa:OaT}{pc:Nat}{h:Hp}{R:RtT}(Q:s.At h q)(Qk:QOk q)(T:Uk h)(E:MD h)(M:Qdh h)(TP:Nb Xk h pa ps.length ps)(h1:1<=ps.length)(h3:ps.length<=3)(hE:∀ x ∈ ps,x.length<=40/\∀ e ∈ x,K5 e=0)
  (hK:∀ B h' p pX gs gd gt ge f0 f1 f2 F F0S sd t0 t1 t2,h.le B->KZ gs ps B F0S->Par B h' [p,pX]->XF q B p s gs gd gt ge (fun p=>YE B p F gd sd 160 2 []) (Ja ps.length) []->pX f0=some (Qb [vhp gd 0] t0)->pX f1=some (Qb (s.l q) t1)->pX f2=some (Qb [vhp gs 0] t2) ->
   R (Qf [vhp gs 0,vhp gt 0,Value.func (.func 66) #[] #[vhp f0 0,vhp f1 0,vhp f2 0],Value.func (.func 68) #[] #[vhp f0 0],vb true]) h'):Qa Pg 32 [vag (s.l q),vsl pa ps.length pc] h R:=by
 refine Qei ?_
 intro b1 hb1 h2;have l2:h.le h2:=qQ (qO h) hb1 _;have kb1:h2 b1=some (Qb (s.l q) 30):=qK _ _ _;clear_value h2;have ecut:∀ i,i<ps.length->Js (ps.take (i+1))=Js (ps.take i)++(ps.getD i []).map fun e=>((i:Int),e):=by
  intro i hi;rw [bL hi];unfold Js;rw [List.zipIdx_append,cJ,List.flatten_append,bZ,dU (by omega),bI,bD hi]
  simp
 have flen:∀ i,i<=ps.length->(Js (ps.take i)).length<=40*i:=by
  intro i;induction i with
  | zero=>intro _;simp [Js]
  | succ i ih=>
   intro hi;rw [ecut i (by omega),bO,bQ]
   have:=ih (by omega)
   have h4:(ps.getD i []).length<=40:=by
    rw [bI,bD (by omega)]
    exact(hE _ (cM _)).1
   omega
 refine⟨fun vs hh=>∃(i:Nat)(a:OaT)(c:Nat),vs=[vsl a (Js (ps.take i)).length c,vi i]/\i<=ps.length/\Vec Qj9 8 90 h2 hh a c (Js (ps.take i)),fun vs hh=>ps.length-(Qo vs 1).toNat,⟨0,none,0,rfl,cE _,by rw [jG];exact qY (qO h2) _ _⟩,?_⟩
 rintro vs hh ⟨i,a,c,rfl,hi,V⟩;refine⟨_,_,_,_,rfl,fun e=>?_,fun e=>?_⟩
 ·have hlt:i<ps.length:=by have:=bC e;omega
  have hil:=flen i hi;have hp40:(ps.getD i []).length<=40:=by
   rw [bI,bD hlt]
   exact(hE _ (cM _)).1
  refine⟨fun vs2 hh2=>∃(m:Nat)(a:OaT)(c:Nat),vs2=[vsl a (Js (ps.take i)++((ps.getD i []).take m).map fun e=>((i:Int),e)).length c,vi m]/\m<=(ps.getD i []).length/\Vec Qj9 8 90 h2 hh2 a c (Js (ps.take i)++((ps.getD i []).take m).map fun e=>((i:Int),e)),fun vs2 hh2=>(ps.getD i []).length-(Qo vs2 1).toNat,⟨0,a,c,by simp,cE _,by simpa using V⟩,?_⟩
  rintro vs2 hh2 ⟨m,a2,c2,rfl,hm,V2⟩;obtain⟨b,o,a',c',eb,hc,S,hcap⟩:=(TP.le (qP l2 V2.le0)).cell (Qim hlt);refine⟨_,_,_,_,rfl,b,o,⟨eb,by omega,by omega⟩,_,_,_,by rw [bF];exact hc,fun e2=>?_,fun e2=>?_⟩
  ·have hlt2:m<(ps.getD i []).length:=by have:=bC e2;omega
   have hx:(ps.getD i [])[m]?=some ((ps.getD i [])[m]):=bD hlt2
   have tk:(ps.getD i []).take (m+1)=(ps.getD i []).take m++[(ps.getD i [])[m]]:=bL hlt2;obtain⟨b2,o2,eb2,hr2⟩:=S.get (sz:=7) (fun _=>rfl) (by decide) hx
   generalize (ps.getD i [])[m]=ev at *
   have hl2:(Js (ps.take i)++((ps.getD i []).take m).map fun e=>((i:Int),e)).length<=200:=by rw [bO,bQ,bZ];omega
   refine⟨b,o,⟨eb,by omega,by omega⟩,_,_,_,by rw [bF];exact hc,b2,o2,⟨eb2,by omega,by omega⟩,_,_,_,_,_,_,_,by rw [bF];exact hr2,?_⟩
   intro b36 hb36 h37;refine Vec.app QqD Qeu Qnp V2 (by omega) (by omega) (x:=((i:Int),ev)) hb36 fun a' c' h' V'=>⟨_,_,_,rfl,_,iW,⟨m+1,a',c',?_,by omega,?_⟩,by
    show (ps.getD i []).length-((m:Int)+1).toNat<(ps.getD i []).length-(m:Int).toNat;omega⟩
   ·rw [tk,cJ,<-bX];rfl
   ·rw [tk,cJ,<-bX];exact V'
  ·have hge:m=(ps.getD i []).length:=by have:=bB e2;omega
   rw [hge,dG,<-ecut i hlt] at V2 ⊢;exact⟨_,iW,⟨i+1,a2,c2,by simp,by omega,V2⟩,by simp [Qo];omega⟩
 ·have hge:i=ps.length:=by have:=bB e;omega
  rw [hge,dG] at V ⊢;have hfl:=flen ps.length (cB _);rw [dG] at hfl;have l07:=qP l2 V.le0;refine⟨_,_,_,_,_,_,_,_,_,_,_,_,_,QO (V.le0 _ _ kb1) (bP rfl),?_⟩
  refine Qde (s:=s) (Q.le l07) Qk (T.le l07) (E.le l07) (M.le l07) (V.slp Qeu (by decide)) (by omega) h1 h3 fun B h52 gs gd gt ge F F0S sd lB Sr X hf=>⟨some ⟨gs,0,none⟩,some ⟨gd,0,none⟩,some ⟨gt,0,none⟩,true,rfl,?_⟩
  rw [Qkr hE] at Sr;intro b57 hb57 h58 b59 hb59 h60;have hne:b59≠b57:=fun q=>by
   have:h58 b57=some _:=qK _ _ _;rw [<-q,hb59] at this;cases this
  have c57:h60 b57=some (Qb [vp none] 33):=(qL _ _ (fun q=>hne q.symm)).trans (qK _ _ _)
  have c59:h60 b59=some (Qb [vp none] 34):=qK _ _ _;have l60:h52.le h60:=qQ (qQ (qO h52) hb57 _) hb59 _;have n57:h52 b57=none:=hb57;have n59:h52 b59=none:=qR (qQ (qO h52) hb57 (Qb [vp none] 33)) hb59;clear_value h60;refine Zu c57 (cB _) ?_
  refine Zu ((qL _ _ hne).trans c59) (cB _) ?_
  refine⟨fun e=>(by cases e),fun _=>?_⟩
  show ∃ q64,Hp.cell ((h60.set b57 (Qb [vhp gs 0] 33)).set b59 (Qb [vhp gd 0] 34)) b57 0=some (vp q64)/\R _ ((h60.set b57 (Qb [vhp gs 0] 33)).set b59 (Qb [vhp gd 0] 34))
  have k57:((h60.set b57 (Qb [vhp gs 0] 33)).set b59 (Qb [vhp gd 0] 34)) b57=some (Qb [vhp gs 0] 33):=(qL _ _ (fun q=>hne q.symm)).trans (qK _ _ _)
  have k59:((h60.set b57 (Qb [vhp gs 0] 33)).set b59 (Qb [vhp gd 0] 34)) b59=some (Qb [vhp gd 0] 34):=qK _ _ _;have l62:h52.le ((h60.set b57 (Qb [vhp gs 0] 33)).set b59 (Qb [vhp gd 0] 34)):=fun b o ho=>by
   rw [qL _ _ (fun q=>by rw [q,n59] at ho;cases ho),qL _ _ (fun q=>by rw [q,n57] at ho;cases ho)]
   exact l60 b o ho
  generalize ((h60.set b57 (Qb [vhp gs 0] 33)).set b59 (Qb [vhp gd 0] 34))=h62 at k57 k59 l62 ⊢;obtain⟨pX,lpX,P62,kp,_⟩:=(Par.one X.le0).fresh.adopt (i:=0) rfl l62;have kB:=lB _ _ (V.le0 _ _ kb1);refine⟨_,Qc k57 rfl,?_⟩
  exact hK B h62 h52 pX gs gd gt ge b59 b1 b57 F F0S sd _ _ _ (qP l07 lB) Sr P62.swap X (kp _ _ k59 n59) (lpX _ _ kB) (kp _ _ k57 n57)
open Go.Txt
theorem Ql2 {L L':List (PK × List Vl)}{w:Rw}(hn:(L.map (·.1)).Nodup)(h:Jw L w=some L'):(L'.map (·.1)).Nodup/\L'.length<=L.length+1:=by
 unfold Jw at h;split at h
 ·split at h
  ·simp only [bH] at h;subst h;exact⟨hn.sublist (List.erase_sublist.map _),jU List.erase_sublist.length_le⟩
  ·cases h
 ·split at h
  ·cases h
  ·rename_i hno;simp only [bH] at h;subst h;rw [cJ,jV];refine⟨⟨hn,by simp,fun a ha b hb e=>?_⟩,by simp⟩
   simp only [dD,kC,cD] at hb;obtain⟨x,hx,ex⟩:=cZ.1 ha;exact hno ⟨x,hx,by rw [ex,e,hb]⟩
theorem QbY:∀{rows:List Rw} {L L':List (PK × List Vl)},(L.map (·.1)).Nodup->rows.foldlM Jw L=some L'->(L'.map (·.1)).Nodup/\L'.length<=L.length+rows.length
 | [],L,L',hn,h=>by
  simp only [List.foldlM_nil] at h;cases h;exact⟨hn,cB _⟩
 | w :: rows,L,L',hn,h=>by
  rw [kO] at h;cases e:Jw L w with
  | none=>rw [e] at h;cases h
  | some L1=>
   rw [e] at h;obtain⟨k1,k2⟩:=Ql2 hn e;obtain⟨k3,k4⟩:=QbY k1 h;exact⟨k3,by rw [cH];omega⟩
theorem QjF {α:Type}[BEq α][LawfulBEq α]{a:α}:∀{l:List α} {m:Nat},l.Nodup->l[m]?=some a->l.erase a=l.take m++l.drop (m+1)
 | [],m,_,h=>by simp at h
 | x :: l,0,_,h=>by
  simp at h;subst h;simp
 | x :: l,m+1,hd,h=>by
  obtain⟨d1,d2⟩:=f8.1 hd;rw [pI] at h
  have hne:x≠a:=fun e=>d1 (by rw [e];exact cF h)
  rw [List.erase_cons_tail (by simpa using hne),QjF d2 h]
  rfl
theorem Qkf {α β:Type}(R:List (Xt α β))(m:Nat):Qv (R.take m++R.drop (m+1))=(Qv R).take m++(Qv R).drop (m+1):=by
 unfold Qv;rw [cJ,jN,pF]
section
variable {h:Hp}{R':RtT}
theorem Qlt {R:List (Xt Vl PK)}:∀ u ∈ R.flatMap (QV Wm),u.oneCell'=true:=by
 intro u hu;obtain⟨r,_,hr⟩:=fI.1 hu;simp only [QV,Wm,bS,dB,fV] at hr;rcases hr with rfl|rfl|rfl|rfl<;>rfl
theorem QlK (R:List (Xt Vl PK)):(R.flatMap (QV Wm)).length=R.length*4:=Qi (enc:=QV Wm) (sz:=4) (fun _=>rfl) R
set_option maxHeartbeats 1000000 in
theorem QdI {rows:List Rw}{L:List (PK × List Vl)}{a:OaT}{c:Nat}(hn:M6 rows=some L)(G:Ke Qu Zj h a (rows.map YF).length (rows.map YF))(hl:rows.length<=4000000)(hv:∀ w ∈ rows,w.2.2.length<=1000)
  (hK:∀ a' c' h',h.le h'->Ke Qu Wm h' a' L.length L->R' (Qf [vsl a' L.length c',vb true]) h'):Qa Pg 35 [vsl a (rows.map YF).length c] h R':=by
 refine Qj3 ?_
 have hrl:(rows.map YF).length=rows.length:=bQ _;refine⟨fun vs hh=>∃(i:Nat)(a':OaT)(c':Nat)(R:List (Xt Vl PK)),vs=[vsl a' R.length c',vi i]/\i<=rows.length/\M6 (rows.take i)=some (Qv R)/\Qg h hh 93 4 a' R.length c' (R.flatMap (QV Wm))/\∀ r ∈ R,Qe h r.2.1.1 (r.2.2.flatMap Qu),fun vs hh=>rows.length-(Qo vs 1).toNat,⟨0,none,0,[],rfl,cE _,rfl,qY (qO h) _ _,fun r hr=>by cases hr⟩,?_⟩
 rintro vs hh ⟨i,a',c',R,rfl,hi,eR,O,HR⟩;have hR:=QbY (by simp) eR
 have hRl:R.length=(Qv R).length:=by simp [Qv]
 have hR2:R.length<=4000000:=by have:=hR.2;rw [bZ] at this;simp at this;omega
 refine⟨a',_,c',i,rfl,fun e=>?_,fun e=>?_⟩
 ·have hlt:i<rows.length:=by have:=bC e;omega
  have hx0:rows[i]?=some rows[i]:=bD hlt
  have tk:rows.take (i+1)=rows.take i++[rows[i]]:=bL hlt;have hvl:=hv _ (cM hlt);have hpre:(M6 (rows.take (i+1))).isSome=true:=by
   have:M6 rows=(M6 (rows.take (i+1))).bind fun L=>(rows.drop (i+1)).foldlM Jw L:=by rw [<-Mw,dX]
   rw [hn] at this;cases h9:M6 (rows.take (i+1)) with
   | none=>rw [h9] at this;cases this
   | some _=>rfl
  generalize rows[i]=w at *
  obtain⟨gw,k,l⟩:=w;have hvl:l.length<=1000:=hvl;rw [tk,Mw,eR] at hpre;have hst:∃ L',Jw (Qv R) (gw,k,l)=some L':=by
   cases h9:Jw (Qv R) (gw,k,l) with
   | some L'=>exact⟨L',rfl⟩
   | none=>
    have:([(gw,k,l)]:List Rw).foldlM Jw (Qv R)=none:=by rw [kO,h9];rfl
    simp only [gX,this] at hpre;cases hpre
  obtain⟨L',hL'⟩:=hst;have tkN:M6 (rows.take (i+1))=some L':=by
   rw [tk,Mw,eR];show ([(gw,k,l)]:List Rw).foldlM Jw (Qv R)=_;rw [kO,hL'];rfl
  have hxg:(rows.map YF)[i]?=some ((gw,k),l):=by rw [cC,hx0];rfl
  obtain⟨b,o,av,cv,ea,hrow,SV⟩:=G.row MO (by decide) hxg
  have hb:a=some ⟨b,o,none⟩/\(0:Int)<=(i:Int)/\(i:Int)<(((rows.map YF).length:Nat):Int):=⟨ea,by omega,by omega⟩
  intro J73;have hJ:∀(a2:OaT)(c2:Nat)(R2:List (Xt Vl PK)) h2,Qv R2=L'->Qg h h2 93 4 a2 R2.length c2 (R2.flatMap (QV Wm))->(∀ r ∈ R2,Qe h r.2.1.1 (r.2.2.flatMap Qu))->J73 a2 R2.length c2 h2:=by
   intro a2 c2 R2 h2 q1 q2 q3;exact⟨_,iW,⟨i+1,a2,c2,R2,rfl,by omega,by rw [tkN,q1],q2,q3⟩,by simp [Qo];omega⟩
  clear_value J73;have hr4:hh.row b (o+i*5+1) 4=some (Wm k (vsl av l.length cv)):=qU (Hp.row_le O.le hrow) (i:=1) (k:=4) (by decide)
  refine⟨b,o,hb,_,_,_,_,_,_,by rw [bF];exact hr4,?_⟩
  have S:SlP (QV Wm) hh a' R.length R:=⟨rfl,O.row⟩;refine⟨fun vs h2=>h2=hh/\∃(at_:Int)(j:Nat),vs=[vi at_,vi j]/\j<=R.length/\((at_=-1/\∀ x ∈ (Qv R).take j,x.1≠k)\/∃ m:Nat,at_=m/\m<j/\∃ v,(Qv R)[m]?=some (k,v)),fun vs hh=>R.length-(Qo vs 1).toNat,⟨rfl,-1,0,rfl,cE _,.inl ⟨rfl,by simp⟩⟩,?_⟩
  rintro vs h2 ⟨rfl,at_,j,rfl,hj,hat⟩;refine⟨at_,_,rfl,fun e1=>?_,fun e1=>?_⟩
  ·have hltj:j<R.length:=by have:=bC e1;omega
   have hxj:R[j]?=some R[j]:=bD hltj
   have hgj:(Qv R)[j]?=some (R[j].1,R[j].2.2):=by unfold Qv;rw [cC,hxj];rfl
   have tkj:(Qv R).take (j+1)=(Qv R).take j++[(R[j].1,R[j].2.2)]:=by
    obtain⟨q1,q2⟩:=bG.1 hgj
    rw [bL q1,q2]
   generalize R[j]=r at *
   obtain⟨b2,o2,ea2,hr2⟩:=S.get (sz:=4) (fun _=>rfl) (by decide) hxj
   intro J35;have hJ35:∀ at':Int,((at'=-1/\∀ x ∈ (Qv R).take (j+1),x.1≠k)\/∃ m:Nat,at'=m/\m<j+1/\∃ v,(Qv R)[m]?=some (k,v))->J35 at':=by
    intro at' q;exact⟨_,iW,⟨rfl,at',j+1,rfl,by omega,q⟩,by simp [Qo];omega⟩
   clear_value J35;have hb2:a'=some ⟨b2,o2,none⟩/\(0:Int)<=(j:Int)/\(j:Int)<((R.length:Nat):Int):=⟨ea2,by omega,by omega⟩
   refine⟨b2,o2,hb2,r.1.1,by rw [bF];exact qT hr2 (i:=0) rfl,b2,o2,fun _=>hb2,_,_,fun _=>by rw [bF];exact qU hr2 (i:=1) (k:=2) (by decide),decide (r.1.2=k.2),fun _=>Xz,?_⟩
   have hk:(bif (decide ((r.1.1:Int)=k.1)) then decide (r.1.2=k.2) else false)=decide (r.1=k):=by
    by_cases q1:r.1.1=k.1
    ·rw [cL q1];show decide (r.1.2=k.2)=_;refine fN.2 ⟨fun q2=>Prod.ext q1 q2,fun q2=>by rw [q2]⟩
    ·rw [cO q1,cO (show ¬ r.1=k from fun q2=>q1 (by rw [q2]))];rfl
   rw [hk];refine⟨fun e2=>hJ35 _ (.inr ⟨j,rfl,by omega,r.2.2,by rw [hgj,bC e2]⟩),fun e2=>hJ35 _ ?_⟩
   rcases hat with ⟨q1,q2⟩|⟨m,q1,q2,q3⟩
   ·refine .inl ⟨q1,fun x hx=>?_⟩
    rw [tkj] at hx;rcases bU.1 hx with q|q
    ·exact q2 x q
    ·rw [cD.1 q];exact bB e2
   ·exact .inr ⟨m,q1,by omega,q3⟩
  ·have hge:j=R.length:=by have:=bB e1;omega
   rw [hge] at hat;refine⟨b,o,hb,gw,by rw [bF];exact qT (Hp.row_le O.le hrow) (i:=0) rfl,fun e2=>?_,fun e2=>?_⟩
   ·have hg:gw=false:=by simpa using e2
    subst hg;unfold Jw at hL';rw [bE (by simp)] at hL'
    split at hL'
    ·cases hL'
    rename_i hno;simp only [bH] at hL';have hm1:at_=-1:=by
     rcases hat with ⟨q1,_⟩|⟨m,q1,q2,v,q3⟩
     ·exact q1
     ·exact absurd ⟨(k,v),cF q3,rfl⟩ hno
    subst hm1;refine⟨fun e3=>(by cases e3),fun _=>?_⟩
    intro b43 hb43;refine q8 Qix (Qg.set hb43 _ O) (qW _ _ (Wm k (vsl av l.length cv)) _) (m:=1) rfl ?_ (by omega) (by omega) fun a2 c2 h2' O2 _ _=>⟨_,_,_,rfl,?_⟩
    ·intro u hu;simp only [Wm,bS,dB,fV] at hu;rcases hu with rfl|rfl|rfl|rfl<;>rfl
    ·have:=hJ a2 c2 (R++[(k,(av,cv),l)]) h2' (by rw [NT,<-hL']) (by rw [cP,bO,dN];exact O2) (by
      intro r' hr2;rcases bU.1 hr2 with h1|h1
      ·exact HR r' h1
      ·rw [cD.1 h1];exact SV.2)
     rw [bO] at this;exact this
   ·have hg:gw=true:=by simpa using e2
    subst hg;unfold Jw at hL';rw [bJ rfl] at hL';by_cases hin:(k,l) ∈ Qv R
    rotate_left
    ·rw [bE hin] at hL';cases hL'
    rw [bJ hin] at hL';simp only [bH] at hL';obtain⟨m0,hm0⟩:=gB hin
    have hml:m0<R.length:=by have:=(bG.1 hm0).1;rw [hRl];exact this
    have hm1:at_=(m0:Int):=by
     rcases hat with ⟨q1,q2⟩|⟨m,q1,q2,v,q3⟩
     ·rw [hRl,dG] at q2;exact absurd rfl (q2 _ hin)
     ·rw [q1];have z1:((Qv R).map (·.1))[m]?=some k:=by rw [cC,q3];rfl
      have z2:((Qv R).map (·.1))[m0]?=some k:=by rw [cC,hm0];rfl
      have:=(List.getElem?_inj (by rw [bQ,<-hRl];omega) hR.1).1 (z1.trans z2.symm)
      rw [this]
    subst hm1;have hRm:∃ r,R[m0]?=some r/\r.1=k/\r.2.2=l:=by
     unfold Qv at hm0;rw [cC,dF] at hm0
     obtain⟨r,q1,q2⟩:=hm0;simp only [fC] at q2;exact⟨r,q1,q2.1,q2.2⟩
    obtain⟨r,hrm,rfl,rfl⟩:=hRm;obtain⟨b5,o5,ea5,hr5⟩:=S.get (sz:=4) (fun _=>rfl) (by decide) hrm
    have hcO:=O.own.cap;have hd0:decide ((m0:Int)<0)=false:=cO (by omega)
    rw [hd0];refine⟨b5,o5,fun _=>⟨ea5,by omega,by omega⟩,_,_,_,_,_,_,fun _=>by rw [bF];exact hr5,fun x h3=>h3=h2/\x=.t (.one (.v (vb true))),fun _=>?_,fun q=>absurd rfl q,?_⟩
    ·exact QfV (k:=r.1) (l:=r.2.2) ⟨rfl,(HR r (cF hrm)).le O.le⟩ (SV.le O.le) (by omega) ⟨_,rfl,rfl,rfl⟩
    rintro h60 p61 ⟨rfl,e⟩;cases e;refine⟨fun q=>(by cases q),fun _=>?_⟩
    have hw:R.length-(m0+1)+m0+1=R.length:=by omega
    have R1:=X6 (P:=Pg) (h:=h60) (t:=80) (e:=93) (by kernel_rfl) (by kernel_rfl) (a:=a') (n:=R.length) (c:=c') (x:=(m0:Int)) (by omega) (by omega)
    rw [bF] at R1;have R2:∀ hx:Hp,Rd Pg (Instr.sliceAt 80 (vsl a' R.length c') (some (vi ((m0+1:Nat):Int))) none none) hx (vsl (VZ a' (m0+1) c' 4) (R.length-(m0+1)) (c'-(m0+1))):=fun hx=>by
     have:=YD (P:=Pg) (h:=hx) (t:=80) (e:=93) (by kernel_rfl) (by kernel_rfl) (a:=a') (n:=R.length) (c:=c') (x:=((m0+1:Nat):Int)) (by omega) (by omega)
     rw [bF] at this;exact this
    have ec:((m0:Nat):Int)+1=((m0+1:Nat):Int):=by omega
    refine⟨_,_,_,R1,_,iW,?_⟩
    rw [ec];refine⟨_,_,_,R2 _,?_⟩
    have ST:=S.take (sz:=4) (fun _=>rfl) (i:=m0) (by omega)
    have SD:=S.drop (sz:=4) (fun _=>rfl) (i:=m0+1) (c:=c') (by omega) hcO
    refine q8 Qix (qY O.le 93 4) ST.2 (m:=m0) (by rw [QlK,bZ];omega) Qlt (by omega) (by omega) fun a6 c6 h67 O6 k6 _=>⟨_,_,_,rfl,R2 _,?_⟩
    have l67:h60.le h67:=fun b o hb=>k6 b o hb (by simp)
    refine q8 Qix O6 (SD.2.le l67) (m:=R.length-(m0+1)) (by rw [QlK,d5]) Qlt (by omega) (by omega) fun a7 c7 h70 O7 _ _=>⟨_,_,_,rfl,?_⟩
    have hnd:(Qv R).Nodup:=List.Pairwise.of_map (fun x:PK × List Vl=>x.1) (fun a b h e=>h (by rw [e])) hR.1
    have hlen:(R.take m0++R.drop (m0+1)).length=0+m0+(R.length-(m0+1)):=by rw [bO,bZ,d5];omega
    have:=hJ a7 c7 (R.take m0++R.drop (m0+1)) h70 (by rw [Qkf,<-hL',QjF hnd hm0]) (by rw [hlen,cP];exact O7) (by
     intro r' hr2;rcases bU.1 hr2 with h1|h1
     ·exact HR r' (gC h1)
     ·exact HR r' (List.mem_of_mem_drop h1))
    rw [hlen] at this;exact this
 ·have hge:i=rows.length:=by have:=bB e;omega
  rw [hge,dG,hn] at eR;simp only [bH] at eR;have:=hK a' c' hh O.le ⟨R,eR.symm,rfl,O.row,fun r hr=>(HR r hr).le O.le⟩
  rw [eR,<-hRl] at this;exact this
theorem QeP {k k':PK}{l m:List Vl}{a b:OaT}{c d:Nat}(S:SlP Qu h a l.length l)(S2:SlP Qu h b m.length m)(hn:l.length<=1000000)(hK:R' (vb (decide ((k,l)=(k',m)))) h):Qa Pg 63 [vag (Wm k (vsl a l.length c)),vag (Wm k' (vsl b m.length d))] h R':=by
 refine NC ?_
 refine Qcw S S2 hn ⟨_,rfl,decide (k.2=k'.2),fun _=>Xz,?_⟩
 have e:(bif (bif (decide (k.1=k'.1)) then decide (k.2=k'.2) else false) then decide (l=m) else false)=decide ((k,l)=(k',m)):=by
  by_cases h1:k.1=k'.1
  ·by_cases h2:k.2=k'.2
   ·rw [cL h1,cL h2];show decide (l=m)=_;refine fN.2 ⟨fun h3=>by rw [h3,show k=k' from Prod.ext h1 h2],fun h3=>by simp only [fC] at h3;exact h3.2⟩
   ·rw [cL h1,cO h2,cO (show ¬(k,l)=(k',m) from fun h3=>h2 (by simp only [fC] at h3;rw [h3.1]))];rfl
  ·rw [cO h1,cO (show ¬(k,l)=(k',m) from fun h3=>h1 (by simp only [fC] at h3;rw [h3.1]))];rfl
 rw [<-e] at hK;exact hK
theorem Qhp {A B:List (PK × List Vl)}{a b:OaT}{c d:Nat}(GA:Ke Qu Wm h a A.length A)(GB:Ke Qu Wm h b B.length B)(p:A.Perm B)(hn:A.length<=4000000)(hv:∀ x ∈ A,x.2.length<=1000)(hK:R' (vb true) h) :
  Qa Pg 37 [vsl a A.length c,vsl b B.length d] h R':=by
 refine QhH ?_
 have hl:=p.length_eq;refine⟨fun e=>absurd (bC e) (by omega),fun _=>?_⟩
 refine⟨fun vs hh=>hh=h/\∃ i:Nat,vs=[vi i]/\i<=A.length,fun vs hh=>A.length-(Qo vs 0).toNat,⟨rfl,0,rfl,cE _⟩,?_⟩
 rintro vs hh ⟨rfl,i,rfl,hi⟩;refine⟨i,rfl,fun e=>?_,fun _=>hK⟩
 have hlt:i<A.length:=by have:=bC e;omega
 have hx:A[i]?=some A[i]:=bD hlt
 have hm:=hv _ (cM hlt);have hin:A[i] ∈ B:=p.mem_iff.1 (cM hlt);generalize A[i]=x at *
 obtain⟨k,l⟩:=x;have hm:l.length<=1000:=hm;obtain⟨b1,o1,a1,c1,e1,r1,S1⟩:=GA.row Qe2 (by decide) hx
 refine⟨fun vs h2=>h2=hh/\∃(j:Nat)(q:Bool),vs=[vb q,vi j]/\j<=B.length/\((k,l) ∈ B.take j->q=true),fun vs hh=>B.length-(Qo vs 1).toNat,⟨rfl,0,false,rfl,cE _,by simp⟩,?_⟩
 rintro vs h2 ⟨rfl,j,q,rfl,hj,hq⟩;refine⟨q,_,rfl,fun e2=>?_,fun e2=>?_⟩
 ·have hltj:j<B.length:=by have:=bC e2;omega
  have hxj:B[j]?=some B[j]:=bD hltj
  have tkj:B.take (j+1)=B.take j++[B[j]]:=bL hltj;generalize B[j]=y at *
  obtain⟨k',l'⟩:=y;obtain⟨b2,o2,a2,c2,e2',r2,S2⟩:=GB.row Qe2 (by decide) hxj
  refine⟨b1,o1,⟨e1,by omega,by omega⟩,_,_,_,_,_,_,by rw [bF];exact r1,b2,o2,⟨e2',by omega,by omega⟩,_,_,_,_,_,_,by rw [bF];exact r2,?_⟩
  refine QeP (k:=k) (k':=k') S1 S2 (by omega) ⟨_,rfl,_,iW,⟨rfl,j+1,_,rfl,by omega,fun hm2=>?_⟩,by simp [Qo];omega⟩
  rw [tkj] at hm2;rcases bU.1 hm2 with q1|q1
  ·rw [hq q1];rfl
  ·rw [cL (cD.1 q1)];cases q<;>rfl
 ·have hge:j=B.length:=by have:=bB e2;omega
  rw [hge,dG] at hq;have:=hq hin;subst this;exact⟨fun q1=>(by cases q1),fun _=>⟨_,iW,⟨rfl,i+1,rfl,by omega⟩,by simp [Qo];omega⟩⟩
end
open Go.RowKit
def tWk:Wd:=[115,101,108,101,99,116,32,99,111,117,110,116,40,42,41,32,102,114,111,109,32,101,118,101,110,116,115,32,119,105,110,100,111,119,32,49,48]
def evW (t:Int):EvL:=(t,(0,0),(0,0),(0,0))
theorem Qnw:(YV tWk).2=0/\(Xv (YV tWk).1 0 (evW 12) (Xv (YV tWk).1 0 (evW 3) (Ja 1))).rows=[(false,(0,(0,0)),[(1,1)])]:=by decide +kernel
theorem QhR {h:Hp}(T:QfA h){R:RtT}(hK:∀ h',h.le h'->R (vb true) h'):Qa Pg 29 [] h R:=by
 refine Qhr ?_
 obtain⟨e0,e1⟩:=Qnw;have Qk:=(Qem e0).1;refine GF (l:=tWk) T fun a1 n1 c1 a2 n2 c2 a3 n3 c3 h2 l2 Q=>⟨_,_,_,_,_,_,_,_,_,_,_,_,_,_,rfl,?_⟩
 rw [QR,cL e0];refine⟨fun e=>(by cases e),fun _=>?_⟩
 generalize (YV tWk).1=q at *
 refine NH Q Qk (fun e=>absurd ⟨by decide,by decide⟩ e) fun _ _ g h13 l13 X=>⟨some ⟨g,0,none⟩,none,rfl,_,fun _=>MQ (e:=132) (by kernel_rfl),fun e=>(by cases e),fun _=>?_⟩
 have hB:=Qlm q 1;have E1:Yb (evW 3):=Qbf (by decide)
 have E2:Yb (evW 12):=Qbf (by decide)
 have hB1:=Qoq Qk hB (p:=0) (by decide) E1
 refine Jq (p:=0) (e:=evW 3) X Qk E1 hB (by decide) (by decide) (by decide) fun h19 l19 X1=>⟨rfl,?_⟩
 refine Jq (p:=0) (e:=evW 12) X1 Qk E2 hB1 (by decide) (by decide) (by decide) fun h21 l21 X2=>⟨rfl,?_⟩
 obtain⟨a1,n1,c1,a2,n2,c2,a3,n3,c3,qf,ak,nk,ck,ar,cr,ac,cc,tb,tc,aw,cw,RP,k1,s1,s2,g1,_⟩:=X2.seen;rw [show (Ja (1:Int).toNat)=Ja 1 from rfl] at *
 rw [e1] at k1 g1;obtain⟨b,o,a',c',ea,hr,hS⟩:=g1.row MO (by decide) (j:=0) (x:=(false,(0,(0,0)))) (l:=[(1,1)]) rfl
 obtain⟨b2,o2,ea2,hr2⟩:=hS.get (sz:=2) (fun _=>rfl) (by decide) (i:=0) (x:=(1,1)) rfl
 refine⟨g,0,rfl,_,_,_,Qc k1 rfl,g,0,fun _=>rfl,_,_,_,fun _=>Qc k1 rfl,b,o,fun _=>⟨ea,by decide,by decide⟩,a',_,c',fun _=>qT hr (i:=4) rfl,b2,o2,fun _=>⟨ea2,by decide,by decide⟩,1,fun _=>qT hr2 (i:=1) rfl,?_⟩
 exact hK h21 (qP l2 l21)
theorem Qhx.net_ok {q:Qy}{ps:List (List EvL)}{cs:List Nat}{h0 h:Hp}{g N:Nat}{st:En}{parts:Nat}(X:W9 q h0 h g st)(B:QOk q)(RS:Qhx q ps cs st)(HB:EnB q parts N st)(hN:N<=300000):∃(a:OaT)(c:Nat)(L:List (PK × List Vl)),
  h.cell g (0+12)=some (vsl a (st.rows.map YF).length c)/\M6 st.rows=some L/\L.Perm ((WV q (Nh ps cs)).filter fun x=>Jv q (Zm q.delay ((Nh ps cs).map ZX)) x.1)/\L.length<=900000/\(∀ x ∈ L,x.2.length<=1000) /\
  ∀{R':RtT} {h2:Hp},h.le h2->(∀ a' c' h',h2.le h'->Ke Qu Wm h' a' L.length L->R' (Qf [vsl a' L.length c',vb true]) h')->Qa Pg 35 [vsl a (st.rows.map YF).length c] h2 R':=by
 obtain⟨a1,n1,c1,a2,n2,c2,a3,n3,c3,qf,ak,nk,ck,ar,cr,ac,cc,tb,tc,aw,cw,RP,k1,s1,s2,g1,_⟩:=X.seen;obtain⟨L,hL,hp⟩:=RS.en.net B;have hwl:=HB.wl;have hwo:=HB.wo;have hn4:=B.n2;have hlen:=(QbY (by simp) hL).2
 simp only [fB] at hlen;refine⟨aw,cw,L,Qc k1 rfl,hL,hp,by omega,fun x hx=>?_,fun l hK=>QdI hL (g1.le l) (by omega) (fun w hw=>by have:=hwo w hw;omega) hK⟩
 have hx2:=(d8.1 (hp.mem_iff.1 hx)).1;have h3:x.2.length=q.aggs.length:=by
  unfold WV QhC at hx2;obtain⟨k,_,rfl⟩:=cZ.1 hx2;unfold YW;rw [bQ,<-Qw];have:=congrArg List.length (YG (ks:=Qd q) (rs:=QD (KG q (Nh ps cs)) k) fun r hr=>by rw [Qfm Qi9 k r hr,Qw])
  rw [bQ] at this;exact this
 omega
theorem Qnb {α:Type}{enc:α->List Value}{h:Hp}{a:OaT}{n:Nat}{R:List (JF α)}(S:SlP (fun r=>[QcD r]) h a n R)(hr:∀ r ∈ R,Qe h r.1.1 (r.2.flatMap enc)/\r.2.length<=r.1.2):Nb enc h a n (R.map Prod.snd):=by
 have e:(R.flatMap fun r=>[QcD r])=R.map QcD:=by
  clear S hr;induction R with
  | nil=>rfl
  | cons r R ih=>rw [dI,ih];rfl
 refine⟨R,rfl,by rw [S.1];simp,?_,fun j r hj=>hr r (cF hj)⟩
 have:=S.2;rw [e] at this;exact this
end Go.Proofs.YthicpjafcpfjoaaGreatDoor
namespace Go.Proofs.YthicpjafcpfjoaaGreatDoor
open Go Go.Vc
theorem QbX {u0:OaT}{u1 u2:Nat}{u3:Int}{h:Hp}{R:RtT}(H:((decide ((u1:Int)>u3))=true->R (vb false) h)/\((decide ((u1:Int)>u3))=false->∃(I3:LtT)(m4:LmT),I3 [vi 0] h/\∀ vs5 h6,I3 vs5 h6->∃ x7,vs5=[vi x7]/\((decide (x7<(u1:Int)))=true->∃ b10 o11,Ix u0 b10 o11 x7 u1/\∃ s12,Hp.cell h6 b10 ((o11+x7.toNat*4)+2)=some (vs s12)/\((decide ((((ByteArray.size s12:Nat):Int):Int)>3000))=true->R (vb false) h6)/\((decide ((((ByteArray.size s12:Nat):Int):Int)>3000))=false->∃ x14,IsW x14 (x7+1)/\I3 [vi x14] h6/\m4 [vi x14] h6<m4 vs5 h6))/\((decide (x7<(u1:Int)))=false->R (vb true) h6))):Qa Pg 8 [vsl u0 u1 u2,vi u3] h R:=callC ⟨[],[(4,([5],[.one (.int .i64)],[]))],[]⟩ Tryz.func8 [.one (.v (vsl u0 u1 u2)),.one (.v (vi u3))] H
abbrev Ql5:=LuT × Int × LuT × Int
def QeE (y:Ql5):List Value:=[vs (bs y.1),vi y.2.1,vs (bs y.2.2.1),vk .u64 y.2.2.2]
theorem Qap (y:Ql5):(QeE y).length=4:=rfl
def QqP (y:Ql5):Prop:=InR y.2.1/\0<=y.2.2.2/\y.2.2.2<=18446744073709551615
def Ug (l:List Ql5)(most:Int):Bool:=decide ((l.length:Int)<=most/\∀ y ∈ l,y.2.2.1.length<=3000)
theorem Qb1 {a:OaT}{n c:Nat}{l:List Ql5}{h:Hp}(S:SlP QeE h a n l){most:Int}(hm:most<=1000000){R:RtT}(hK:R (vb (Ug l most)) h):Qa Pg 8 [vsl a n c,vi most] h R:=by
 refine QbX ?_
 have hn:=S.1;refine⟨fun e=>?_,fun e=>?_⟩
 ·have e2:(n:Int)>most:=bC e;have:Ug l most=false:=by unfold Ug;rw [f9];rintro⟨q,_⟩;omega
  rw [this] at hK;exact hK
 have e2:¬(n:Int)>most:=bB e;refine⟨fun vs hh=>hh=h/\∃ i:Nat,vs=[vi i]/\i<=n/\∀ y ∈ l.take i,y.2.2.1.length<=3000,fun vs hh=>n-(Qo vs 0).toNat,⟨rfl,0,rfl,cE _,by simp⟩,?_⟩
 rintro vs hh ⟨rfl,i,rfl,hi,ht⟩;refine⟨i,rfl,fun e=>?_,fun e=>?_⟩
 ·have hlt:i<n:=by have:=bC e;omega
  have hlt2:i<l.length:=by omega
  have hx:l[i]?=some l[i]:=bD hlt2
  obtain⟨b,o,ha,hc⟩:=S.cell (j:=2) (v:=vs (bs l[i].2.2.1)) Qap (by decide) hx rfl
  refine⟨b,o,⟨ha,by omega,by omega⟩,_,hc,fun e3=>?_,fun e3=>?_⟩
  ·rw [Yh] at e3;have e4:((l[i].2.2.1.length:Nat):Int)>3000:=bC e3;have:Ug l most=false:=by
    unfold Ug;rw [f9];rintro⟨_,q⟩;have:=q l[i] (cM hlt2);omega
   rw [this] at hK;exact hK
  ·rw [Yh] at e3;have e4:¬((l[i].2.2.1.length:Nat):Int)>3000:=bB e3;have tk:l.take (i+1)=l.take i++[l[i]]:=bL hlt2;refine⟨_,iW,⟨rfl,i+1,rfl,by omega,?_⟩,by simp [Qo];omega⟩
   intro y hy;rw [tk] at hy;rcases bU.1 hy with h1|h1
   ·exact ht y h1
   ·simp at h1;subst h1;omega
 ·have hge:i=n:=by have:=bB e;omega
  subst hge;rw [cY (by omega)] at ht
  have:Ug l most=true:=by unfold Ug;exact cL ⟨by omega,ht⟩
  rw [this] at hK;exact hK
open Go.Txt
structure Now (q:Qy)(ps:List (List EvL))(st:En):Prop where
 z:EnZ q ps.length st
 s:Qhx q ps st.rd st
theorem Now.new (q:Qy)(ps:List (List EvL)):Now q ps (Ja ps.length):=⟨EnZ.new q ps.length,Qhx.new q ps⟩
theorem Now.r {q:Qy}{ps:List (List EvL)}{st:En}(N:Now q ps st)(h:∀ x ∈ ps,x.length<=40):∀ x ∈ st.rd,x<=40:=by
 intro x hx;obtain⟨i,hi,rfl⟩:=kJ.1 hx;have hl:=N.s.cl;have hb:=N.s.cb i (by omega)
 have h2:=h _ (Jl (l:=ps) (i:=i) (d:=[]) (by omega))
 rw [bI,bD hi] at hb
 exact dK hb h2
theorem Now.step {q:Qy}{ps:List (List EvL)}{st:En}(N:Now q ps st)(B:QOk q)(hE:∀ x ∈ ps,∀ e ∈ x,Yb e){p:Nat}(hp:p<ps.length)(hlt:st.rd.getD p 0<(ps.getD p []).length) :
  Now q ps (Xv q p ((ps.getD p []).getD (st.rd.getD p 0) (0,(0,0),(0,0),(0,0))) st)/\st.rows <+: (Xv q p ((ps.getD p []).getD (st.rd.getD p 0) (0,(0,0),(0,0),(0,0))) st).rows:=by
 have he:(ps.getD p [])[st.rd.getD p 0]?=some ((ps.getD p []).getD (st.rd.getD p 0) (0,(0,0),(0,0),(0,0))):=Qm2 hlt;have hev:Yb ((ps.getD p []).getD (st.rd.getD p 0) (0,(0,0),(0,0),(0,0))):=hE _ (Jl hp) _ (Jl hlt);generalize (ps.getD p []).getD (st.rd.getD p 0) (0,(0,0),(0,0),(0,0))=ev at he hev;obtain⟨S,more,hm,_⟩:=N.s.step B hp he;refine⟨⟨N.z.step B hp hev,?_⟩,?_⟩
 ·have:=S.rd;rw [this];exact S
 ·rw [hm];exact List.prefix_append _ _
theorem QpD {q:Qy}{n:Nat}{st:En}(Z:EnZ q n st)(h3:n<=3)(h40:∀ x ∈ st.rd,x<=40)(B:QOk q):st.rows.length<=1000000/\(st.rows.map YF).length<=1000000/\(∀ x ∈ st.rows.map YF,x.2.length<=1000)/\(∀ x ∈ st.rows.map YF,x.2.length<=1000000):=by
 obtain⟨h1,h2⟩:=Qg1 Z h3 h40 B;refine⟨by rw [bQ] at h1;exact h1,h1,h2,fun x hx=>dK (h2 x hx) (by decide)⟩
theorem Qn2 {ps:List (List EvL)}{cs:List Nat}(hl:cs.length=ps.length)(h:∀ p,p<ps.length->cs.getD p 0=(ps.getD p []).length):Nh ps cs=ps:=by
 unfold Nh;apply fR;intro i;rw [jD]
 by_cases hi:i<ps.length
 ·have h2:=h i hi;rw [bI,bI,bD (by omega:i<cs.length),bD hi] at h2
  rw [bD (by omega:i<cs.length),bD hi]
  simp only [Option.getD_some] at h2;show some ((ps[i]).take (cs[i]'(by omega)))=some ps[i]
  rw [h2,dG]
 ·rw [gI (by omega:ps.length<=i)]
theorem QiY {l:List Nat}{p p' x:Nat}(hp:p<l.length):(l.set p x).getD p' 0=if p=p' then x else l.getD p' 0:=by
 by_cases e:p=p'
 ·subst e;rw [bJ rfl,bI,fG hp]
  rfl
 ·rw [bE e,bI,gK e,<-bI]
set_option maxHeartbeats 4000000 in
theorem Qcl {s:Wd}{ps:List (List EvL)}{pa:OaT}{pn pc:Nat}{acts:List Ql5}{aa:OaT}{an ac:Nat}{fuse:Int}{h:Hp}(TP:Nb Xk h pa pn ps)(SA:SlP QeE h aa an acts)(hga:∀ y ∈ acts,QqP y)(T:QfA h)(TM:Qdh h):Qa Pg 5 [vs (bs s),vsl pa pn pc,vsl aa an ac,vi fuse] h fun v h'=>v=vb true/\h.le h':=by
 refine Qco ?_
 have hpn:pn=ps.length:=TP.r.choose_spec.2.1;subst hpn;obtain rfl:=SA.1;refine QhR T fun h2 l2=>⟨_,rfl,fun e=>(by cases e),fun _=>?_⟩
 refine Qis (T.le l2) (fun a1 n1 c1 a2 n2 c2 a3 n3 c3 x4 x5 x6 x7 h' l'=>⟨_,_,_,_,_,_,_,_,_,_,_,_,_,_,rfl,?_⟩) ?_
 ·exact⟨fun x hh=>h.le hh,fun e=>(by cases e),fun _=>qP l2 l',fun h19 p20 l19=>⟨fun x hh=>h.le hh,fun e=>(by cases e),fun _=>l19,fun h25 p26 l25=>⟨fun _=>⟨rfl,l25⟩,fun e=>(by cases e)⟩⟩⟩
 intro hf Bq a9 n9 c9 a10 n10 c10 a11 n11 c11 h6 l6 Q;have l06:=qP l2 l6;refine⟨_,_,_,_,_,_,_,_,_,_,_,_,_,_,rfl,?_⟩
 refine⟨fun x hh=>h6.le hh/\∃ p:Bool,x=.t (.one (.v (vb p)))/\(p=true->1<=ps.length/\ps.length<=3/\0<=200/\∀ x ∈ ps,x.length<=40/\∀ e ∈ x,K5 e=0),fun _=>Qju (TP.le l06) fun p h' l' hp=>⟨_,rfl,l',p,rfl,hp⟩,fun e=>absurd rfl e,?_⟩
 rintro h19 p20 ⟨l19,p,e,hp⟩;cases e;refine⟨fun x hh=>h19.le hh/\(p20=true->x=.t (.one (.v (vb (Ug acts 150))))),fun _=>Qb1 (SA.le (qP l06 l19)) (by decide) ⟨_,rfl,qO _,fun _=>rfl⟩,fun e=>⟨qO _,fun q=>absurd (by rw [q];rfl) e⟩,?_⟩
 rintro h25 p26 ⟨l25,e26⟩;have l025:=qP l06 (qP l19 l25);refine⟨fun _=>⟨rfl,l025⟩,fun e=>?_⟩
 obtain⟨e1,e2⟩:=YP e;have hpt:p20=true:=by simpa using e1
 have hli:acts.length<=150:=by
  have:=e26 hpt;cases this;have e3:Ug acts 150=true:=by simpa using e2
  unfold Ug at e3;have:=(bC e3).1;omega
 obtain⟨h1,h3,_,hE⟩:=hp hpt;have h40:∀ x ∈ ps,x.length<=40:=fun x hx=>(hE x hx).1
 have hEv:∀ x ∈ ps,∀ e ∈ x,Yb e:=fun x hx e he=>Qbf ((hE x hx).2 e he)
 clear e e1 e2 e26 hp hpt;generalize (YV s).1=q at *
 have Q25:=Q.le (qP l19 l25);have T25:=T.le l025;have M25:=TM.le l025;refine Qd2 (s:=⟨a9,n9,c9,a10,n10,c10,a11,n11,c11⟩) Q25 Bq T25.p T25.e M25 (TP.le l025) h1 h3 hE fun B h29 p pX gs gd gt ge f0 f1 f2 F F0S sd t0 t1 t2 lB Sr P X k0 k1 k2=>⟨some ⟨gs,0,none⟩,some ⟨gt,0,none⟩,_,_,true,rfl,fun e=>(by cases e),fun _=>?_⟩
 have QB:QS.At ⟨a9,n9,c9,a10,n10,c10,a11,n11,c11⟩ B q:=Q25.le lB;have TB:=T25.le lB;have MB:=M25.le lB;have l0B:=qP l025 lB;have SAB:=SA.le l0B;have TPB:=TP.le l0B;clear T T25 M25 TM Q25 Q SA TP hf l06 l2 l6 l19 l25 l025 lB;refine Qj2 P X k0 fun h37 p1 F1 sd1 P1 X1=>⟨rfl,?_⟩
 clear P X;have N0:=Now.new q ps;have T0:=Txt.new q ps.length;intro J89;have hJ89:∀(h':Hp)(gt ge e:Nat)(st su:En)(t:LuT)(F:NpT)(sd:DK)(p:Hp),e<=200->Par B h' [p,pX]->XF q B p ⟨a9,n9,c9,a10,n10,c10,a11,n11,c11⟩ gs gd gt ge (fun p=>YE B p F gd sd 160 e t) st su.rows->Txt q ps.length t su->Now q ps su->J89 h':=by
  clear P1 X1;clear h37 p1 F1 sd1 gt ge h29 p F sd;intro h90 gt ge e st su t F sd p he P X TX Nu;obtain⟨pT,pE,pD,PI,S',XE,V⟩:=X;have Vp:=(V.grow (PI.last (i:=2) rfl)).fal t;have h0k:(0:Int)<=0/\(0:Int)<=18446744073709551615:=by decide
  refine QbV (Vs P Vp V.w0 h0k k0 k1 k2 QB Bq Sr TB.p TB.e MB h1 h3 rfl TX TX fun gt' ge' h92 p2 F2 sd2 e2 u2' su2 hc TX2 P92 X2 hfu=>⟨some ⟨gt',0,none⟩,true,rfl,fun e=>(by cases e),fun _=>?_⟩)
  have hsu:su2=su/\e2<=e+1:=by
   rcases hc with ⟨g1,_,g2⟩|⟨g1,_,g2⟩
   ·exact⟨g2,by omega⟩
   ·exact⟨g2,by omega⟩
  obtain⟨rfl,he2⟩:=hsu;clear hc S' XE V Vp PI P TX;clear pT pE pD p F sd gt ge st t;refine⟨fun vs hh=>∃(p:Nat)(st:En)(p':Hp),vs=[vi p]/\p<=ps.length/\Par B hh [p',pX]/\XF q B p' ⟨a9,n9,c9,a10,n10,c10,a11,n11,c11⟩ gs gd gt' ge' (fun p=>YE B p F2 gd sd2 160 e2 u2') st su2.rows/\Now q ps st/\∀ i,i<p->st.rd.getD i 0=(ps.getD i []).length,fun vs hh=>ps.length-(Qo vs 0).toNat,⟨0,su2,p2,rfl,cE _,P92,X2,Nu,fun i hi=>absurd hi (mJ _)⟩,?_⟩
  clear P92 X2;clear h92 p2;rintro vs hh ⟨p,st,p',rfl,hp,P,X,Ns,hall⟩;refine⟨_,rfl,fun e0=>?_,fun e0=>?_⟩
  ·have hlt:p<ps.length:=by have:=bC e0;omega
   have hpl:(ps.getD p []).length<=40:=h40 _ (Jl hlt);refine⟨fun vs2 hh2=>∃(k:Nat)(st:En)(p':Hp),vs2=[vi k]/\k<=40/\Par B hh2 [p',pX]/\XF q B p' ⟨a9,n9,c9,a10,n10,c10,a11,n11,c11⟩ gs gd gt' ge' (fun p=>YE B p F2 gd sd2 160 e2 u2') st su2.rows/\Now q ps st/\(∀ i,i<p->st.rd.getD i 0=(ps.getD i []).length)/\(k<=st.rd.getD p 0\/st.rd.getD p 0=(ps.getD p []).length),fun vs2 hh2=>40-(Qo vs2 0).toNat,⟨0,st,p',rfl,cE _,P,X,Ns,hall,.inl (cE _)⟩,?_⟩
   clear P X Ns hall;clear st p';rintro vs2 hh2 ⟨k,st,p',rfl,hk,P,X,Ns,hall,hk2⟩;have hcb:=Ns.s.cb p hlt;refine⟨_,rfl,fun e1=>?_,fun e1=>?_⟩
   ·have hltk:k<40:=by have:=bC e1;omega
    refine Qa.mono (R:=fun v h63=>∃(f:Int)(st':En)(p':Hp),v=ifv (QA f)/\Par B h63 [p',pX]/\XF q B p' ⟨a9,n9,c9,a10,n10,c10,a11,n11,c11⟩ gs gd gt' ge' (fun p=>YE B p F2 gd sd2 160 e2 u2') st' su2.rows/\Now q ps st'/\(∀ i,i<p->st'.rd.getD i 0=(ps.getD i []).length)/\(k+1<=st'.rd.getD p 0\/st'.rd.getD p 0=(ps.getD p []).length))
     (P.call (i:=0) rfl (GO (p:=(p:Int)) X Bq Sr rfl h3 Ns.z (Ns.r h40) hEv (fun hno=>absurd ⟨by omega,by omega⟩ hno) (fun _ _ hend=>⟨X.le0,fun h63 P63=>⟨_,st,p',rfl,P63,X,Ns,hall,.inr (by rw [bF] at hend;omega)⟩⟩) fun p2 _ _ hl X'=>⟨X'.le0,fun h63 P63=>?_⟩)) ?_
    ·rw [bF] at hl X';obtain⟨N',hm⟩:=Ns.step Bq hEv hlt hl;have hrl:p<st.rd.length:=by rw [Ns.s.cl];exact hlt
     refine⟨0,_,p2,rfl,P63,X',N',fun i hi=>?_,.inl ?_⟩
     ·rw [Qe0,QiY hrl,bE (by omega)]
      exact hall i hi
     ·rw [Qe0,QiY hrl,bJ rfl];omega
    rintro v h63 ⟨f,st',p2,rfl,P63,X',N',hall',hk'⟩;exact⟨_,rfl,_,iW,⟨k+1,st',p2,rfl,hltk,P63,X',N',hall',hk'⟩,by simp [Qo];omega⟩
   ·have hge:k=40:=by have:=bB e1;omega
    have hfull:st.rd.getD p 0=(ps.getD p []).length:=by omega
    refine⟨_,iW,⟨p+1,st,p',rfl,hlt,P,X,Ns,fun i hi=>?_⟩,by simp [Qo];omega⟩
    by_cases q':i=p
    ·rw [q'];exact hfull
    ·exact hall i (by omega)
  have hge:p=ps.length:=by have:=bB e0;omega
  rw [hge] at hall;have hpre:Nh ps st.rd=ps:=Qn2 Ns.s.cl hall;have hpE:∀ p ∈ ps,∀ e ∈ p,Yb e:=hEv
  have hpl:∀ p ∈ ps,p.length<=100:=fun p hp=>by have:=h40 p hp;omega
  have r40:=Ns.r h40;obtain⟨w1,w2,w3,w4⟩:=QpD Ns.z h3 r40 Bq;have hsum:st.rd.sum<=120:=by have:=Qak st.rd r40;rw [Ns.z.b.rl] at this;omega
  refine Qa.mono (R:=fun v h74=>B.le h74/\(v=ifv (QA 6)\/(v=ifv (QA 0)/\∃(p':Hp)(F':NpT)(sd':DK),Par B h74 [p',pX]/\XF q B p' ⟨a9,n9,c9,a10,n10,c10,a11,n11,c11⟩ gs gd gt' ge' (fun p=>YE B p F' gd sd' 160 (e2+1) (WO (Qd q) st)) st st.rows)))
   (P.call (i:=0) rfl (Gr X Bq TB.p h1 h3 Ns.z r40 (by omega) (fun _ p' F' X'=>⟨X'.le0,fun h74 P74=>⟨P74.z,.inl rfl⟩⟩) (fun p' F' sd' X' _=>⟨X'.le0,fun h74 P74=>⟨P74.z,.inr ⟨rfl,p',F',sd',P74,X'⟩⟩⟩) fun p' F' sd' V' hw hf=>absurd hfu hf)) ?_
  rintro v h119 ⟨l119,rfl|⟨rfl,p3,F3,sd3,P3,X3⟩⟩
  ·exact⟨_,rfl,XG ⟨6,rfl,fun _=>⟨rfl,qP l0B l119⟩,fun e=>absurd (bB e) (by decide)⟩⟩
  refine⟨_,rfl,XG ⟨0,rfl,fun e=>absurd (bC e) (by decide),fun _=>?_⟩⟩
  have X4:=X3.le (P3.last (i:=0) rfl);clear X3 P X hall;obtain⟨_,_,_,_,X5⟩:=X4.see;obtain⟨_,_,L,_,hL,hp',hlL,hvL,_⟩:=Ns.s.net_ok X5 Bq Ns.z.b (by omega)
  rw [hpre] at hp';refine QeU X4 P3 w2 w3 fun aw cw h126 hN pW l126 P126 lN hcap G=>⟨_,_,_,rfl,?_⟩
  have G126:=G.le (qP lN (P126.last (i:=0) rfl));have hrl:(st.rows.map YF).length=st.rows.length:=bQ _;rw [<-hrl] at G126 ⊢;refine QdI hL G126 (by omega) (fun w hw=>w3 _ (cZ.2 ⟨w,hw,rfl⟩)) fun a130 c130 h129 l129 GL=>⟨_,_,_,_,rfl,?_⟩
  have lB129:=qP l119 (qP l126 l129);have QB':QAt B q a9 n9 a10 n10 a11 n11:=QB;refine Qdq (QB'.le lB129) Bq (TPB.le lB129) (by omega) hpl hpE fun a19 c19 h18 l18 G19=>⟨_,_,_,_,rfl,?_⟩
  have l19:=qP l126 (qP l129 l18);have lB18:=qP lB129 l18;have X18:=X4.le l19;have hfin:∀ h',h18.le h'->h.le h':=fun h' l'=>qP l0B (qP lB18 l')
  have hfar:ps.map ZX=st.far:=by have:=Ns.s.en.far;rw [hpre] at this;exact this.symm
  have hlate:st.late=Ky q ps:=by have:=Ns.s.en.late;rw [hpre] at this;exact this
  rw [hfar] at hp';have hd:=Bq.d;refine Qd3 X18 (by have:=Ns.z.b.fl;omega) Ns.z.b.fb hd ⟨_,_,rfl,fun e1=>?_,fun e1=>?_⟩
  ·have hU:(Zm q.delay st.far).2=false:=by simpa using e1
   have hnil:L=[]:=by
    have:(WV q ps).filter (fun x=>Jv q (Zm q.delay st.far) x.1)=[]:=by rw [List.filter_eq_nil_iff];intro x _ hx;unfold Jv at hx;rw [hU] at hx;cases hx
    rw [this] at hp';exact List.Perm.eq_nil hp'
   refine⟨fun x hh=>hh=h18/\x=.t (.one (.v (vi (st.late:Nat)))),fun _=>Mo X18 ⟨_,rfl,rfl,rfl⟩,fun e=>?_,?_⟩
   ·exfalso;rw [hnil] at e;exact e rfl
   rintro h144 x145 ⟨rfl,q1⟩;cases q1;refine⟨?_,hfin _ (qO _)⟩
   rw [hnil,hlate];simp [QA]
  ·have hU:(Zm q.delay st.far).2=true:=by simpa using e1
   have hdue:(WV q ps).filter (fun x=>Jv q (Zm q.delay st.far) x.1)=Ua q.size (Zm q.delay st.far).1 (WV q ps):=by
    unfold Ua;refine mA fun x _=>?_
    unfold Jv;rw [hU,jM]
   rw [hdue] at hp';obtain⟨hm1,hm2⟩:=Ql9 Bq (by omega) hpl hpE
   have hlq:(decide (((Ky q ps:Nat):Int)=((st.late:Nat):Int)))=true:=by rw [hlate];exact cL rfl
   refine⟨fun x hh=>hh=h18/\x=.t (.one (.v (vi (st.late:Nat)))),fun _=>Mo X18 ⟨_,rfl,rfl,rfl⟩,fun e=>absurd rfl e,?_⟩
   rintro h151 x152 ⟨rfl,q1⟩;cases q1;rw [hlq];refine⟨fun x hh=>h151.le hh/\∃(a':OaT)(c':Nat),x=.t (.one (.v (vsl a' (Ua q.size (Zm q.delay st.far).1 (WV q ps)).length c')))/\Ke Qu Wm hh a' (Ua q.size (Zm q.delay st.far).1 (WV q ps)).length (Ua q.size (Zm q.delay st.far).1 (WV q ps)),fun _=>?_,fun e=>absurd rfl e,?_⟩
   ·refine QjY G19 (by omega) (fun x hx=>?_) fun a34 c34 h33 l33 G34=>⟨_,_,_,rfl,l33,_,_,rfl,G34⟩
    have hk:-1000<=x.1.1/\x.1.1<=9999:=by unfold WV QhC at hx;obtain⟨k,hk,rfl⟩:=cZ.1 hx;obtain⟨d,hd,e⟩:=(MP _ _).1 hk;have:=(QdB Bq hpE d hd).s;rw [e] at this;exact this
    have:=Bq.s;unfold InR;omega
   rintro h157 a158 n158 c158 ⟨l157,a'',c'',q2,G158⟩;cases q2;refine⟨fun x hh=>hh=h157/\x=.t (.one (.v (vb true))),fun _=>Qhp (GL.le (qP l18 l157)) G158 hp' (by omega) hvL ⟨_,rfl,rfl,rfl⟩,fun e=>absurd rfl e,?_⟩
   rintro h163 p164 ⟨rfl,q3⟩;cases q3;refine⟨fun x hh=>hh=h163/\x=.t (.one (.v (vi ((st.rows.length:Int)-st.rows.length)))),fun _=>Qbt (X18.le l157) w1 w1 ⟨_,rfl,rfl,rfl⟩,fun e=>absurd rfl e,?_⟩
   rintro h169 x170 ⟨rfl,q4⟩;cases q4;refine⟨?_,hfin _ l157⟩
   simp [QA]
 clear_value J89;have N0:=Now.new q ps;have T0:=Txt.new q ps.length;refine⟨fun vs hh=>∃(i gt ge e:Nat)(st su:En)(t:LuT)(F:NpT)(sd:DK)(p:Hp),vs=[vhp gt 0,vi i]/\i<=acts.length/\e<=2+i/\Par B hh [p,pX]/\XF q B p ⟨a9,n9,c9,a10,n10,c10,a11,n11,c11⟩ gs gd gt ge (fun p=>YE B p F gd sd 160 e t) st su.rows/\Txt q ps.length t su/\Now q ps su/\Now q ps st,fun vs hh=>acts.length-(Qo vs 1).toNat,
  ⟨0,gt,ge,2,Ja ps.length,Ja ps.length,[],F1,sd1,p1,rfl,cE _,cB _,P1,X1,T0,N0,N0⟩,?_⟩
 clear P1 X1 N0 T0;clear h37 p1 F1 sd1 gt ge F sd h29 p;rintro vs hh ⟨i,gt,ge,e,st,su,t,F,sd,p,rfl,hi,he,P,X,TX,Nu,Ns⟩;refine⟨some ⟨gt,0,none⟩,_,rfl,fun e0=>?_,fun _=>hJ89 hh gt ge e st su t F sd p (by omega) P X TX Nu⟩
 have hlt:i<acts.length:=by have:=bC e0;omega
 have hxa:acts[i]?=some acts[i]:=bD hlt
 have hgy:=hga _ (cM hlt);generalize acts[i]=y at hxa hgy;have r40s:=Ns.r h40;obtain⟨ba,oa,ea,hra⟩:=(SAB.le P.z).get Qap (by decide) hxa
 have hba:aa=some ⟨ba,oa,none⟩/\(0:Int)<=i/\(i:Int)<((acts.length:Nat):Int):=⟨ea,by omega,by omega⟩
 have ca0:=qT hra (i:=0) (x:=vs (bs y.1)) rfl;have ca1:=qT hra (i:=1) (x:=vi y.2.1) rfl;intro J83;have hJ:∀(h':Hp)(gt' ge' e':Nat)(st' su':En)(t':LuT)(F':NpT)(sd':DK)(p':Hp),e'<=e+1->Par B h' [p',pX]->XF q B p' ⟨a9,n9,c9,a10,n10,c10,a11,n11,c11⟩ gs gd gt' ge' (fun p=>YE B p F' gd sd' 160 e' t') st' su'.rows->Txt q ps.length t' su'->Now q ps su'->Now q ps st'->J83 (some ⟨gt',0,none⟩) h':=by intro h' gt' ge' e' st' su' t' F' sd' p' he' P' X' TX' Nu' Ns';exact⟨_,iW,⟨i+1,gt',ge',e',st',su',t',F',sd',p',rfl,hlt,by omega,P',X',TX',Nu',Ns'⟩,by simp [Qo];omega⟩
 clear_value J83;refine⟨ba,oa,hba,_,by rw [bF];exact ca0,?_⟩
 have hstep:(⟨#[115,116,101,112]⟩:ByteArray)=bs [115,116,101,112]:=rfl;have hsave:(⟨#[115,97,118,101]⟩:ByteArray)=bs [115,97,118,101]:=rfl;rw [hstep,hsave];refine⟨_,QZ,fun _=>?_,fun _=>?_⟩
 ·obtain⟨q1,q2⟩:=Qqv h1 y.2.1;refine⟨ba,oa,hba,_,by rw [bF];exact ca1,_,QkP,by omega,?_⟩
  rw [q1];generalize pt ps.length y.2.1=pp at q2;refine Qa.mono (R:=fun v h63=>∃(f:Int)(st':En)(p':Hp),v=ifv (QA f)/\Par B h63 [p',pX]/\XF q B p' ⟨a9,n9,c9,a10,n10,c10,a11,n11,c11⟩ gs gd gt ge (fun p=>YE B p F gd sd 160 e t) st' su.rows/\Now q ps st')
   (P.call (i:=0) rfl (GO (p:=(pp:Int)) X Bq Sr rfl h3 Ns.z r40s hEv (fun hno=>absurd ⟨by omega,by omega⟩ hno) (fun _ _ _=>⟨X.le0,fun h63 P63=>⟨_,st,p,rfl,P63,X,Ns⟩⟩) fun p' _ _ hl X'=>⟨X'.le0,fun h63 P63=>?_⟩)) ?_
  ·rw [bF] at hl X';obtain⟨N',_⟩:=Ns.step Bq hEv q2 hl;exact⟨0,_,p',rfl,P63,X',N'⟩
  rintro v h63 ⟨f,st',p',rfl,P63,X',N'⟩;exact⟨_,rfl,hJ h63 gt ge e st' su t F sd p' (by omega) P63 X' TX Nu N'⟩
 refine⟨_,QZ,fun _=>?_,fun _=>?_⟩
 ·refine Qa.mono (R:=fun v h74=>(v=ifv (QA 6)/\∃(p':Hp)(F':NpT),Par B h74 [p',pX]/\XF q B p' ⟨a9,n9,c9,a10,n10,c10,a11,n11,c11⟩ gs gd gt ge (fun p=>YE B p F' gd sd 160 e t) st su.rows) \/
    (v=ifv (QA 0)/\∃(p':Hp)(F':NpT)(sd':DK),Par B h74 [p',pX]/\XF q B p' ⟨a9,n9,c9,a10,n10,c10,a11,n11,c11⟩ gs gd gt ge (fun p=>YE B p F' gd sd' 160 (e+1) (WO (Qd q) st)) st st.rows) \/
    (v=ifv (QA 7)/\∃(p':Hp)(F':NpT)(sd':DK),Par B h74 [p',pX]/\Qn1 B p' F' gd sd' 160 e t (WO (Qd q) st)/\sd'.wait.length<=900000))
   (P.call (i:=0) rfl (Gr X Bq TB.p h1 h3 Ns.z r40s (by omega) (fun _ p' F' X'=>⟨X'.le0,fun h74 P74=>.inl ⟨rfl,p',F',P74,X'⟩⟩) (fun p' F' sd' X' _=>⟨X'.le0,fun h74 P74=>.inr (.inl ⟨rfl,p',F',sd',P74,X'⟩)⟩) fun p' F' sd' V' hw _=>⟨V'.le,fun h74 P74=>.inr (.inr ⟨rfl,p',F',sd',P74,V',hw⟩)⟩)) ?_
  rintro v h74 (⟨rfl,p',F',P74,X'⟩|⟨rfl,p',F',sd',P74,X'⟩|⟨rfl,p',F',sd',P74,V',hw⟩)
  ·exact⟨_,rfl,XG ⟨6,rfl,fun e=>absurd (bC e) (by decide),fun _=>hJ h74 gt ge e st su t F' sd p' (by omega) P74 X' TX Nu Ns⟩⟩
  ·exact⟨_,rfl,XG ⟨0,rfl,fun e=>absurd (bC e) (by decide),fun _=>hJ h74 gt ge (e+1) st st _ F' sd' p' (by omega) P74 X' (Txt.saved Ns.z r40s) Ns Ns⟩⟩
  ·refine⟨_,rfl,XG ⟨7,rfl,fun _=>?_,fun e=>absurd e (by decide)⟩⟩
   have ca3:h74.cell ba (oa+i*4+3)=some (vk .u64 y.2.2.2):=by
    obtain⟨b',o',ea',hr'⟩:=(SAB.le P74.z).get Qap (by decide) hxa
    rw [ea] at ea';cases ea';exact qT hr' (i:=3) rfl
   refine⟨ba,oa,hba,_,by rw [bF];exact ca3,?_⟩
   refine QbV (Vs P74 V' hw hgy.2 k0 k1 k2 QB Bq Sr TB.p TB.e MB h1 h3 rfl TX (Txt.saved Ns.z r40s) fun gt' ge' h83 p2 F2 sd2 e2 u2' su2 hc TX2 P83 X2 hfu=>⟨some ⟨gt',0,none⟩,true,rfl,fun e=>(by cases e),fun _=>?_⟩)
   have hsu:(su2=su\/su2=st)/\e2<=e+1:=by
    rcases hc with ⟨g1,_,g2⟩|⟨g1,_,g2⟩
    ·exact⟨.inl g2,by omega⟩
    ·exact⟨.inr g2,by omega⟩
   obtain⟨hsu,he2⟩:=hsu;have N2:Now q ps su2:=by rcases hsu with rfl|rfl<;>assumption
   exact hJ h83 gt' ge' e2 su2 su2 u2' F2 sd2 p2 he2 P83 X2 TX2 N2 N2
 ·have ca3:=qT hra (i:=3) (x:=vk .u64 y.2.2.2) rfl;refine⟨ba,oa,hba,_,by rw [bF];exact ca3,?_⟩
  obtain⟨pT,pE,pD,PI,S',XE,V⟩:=X;have Vp:=(V.grow (PI.last (i:=2) rfl)).fal t;refine QbV (Vs P Vp V.w0 hgy.2 k0 k1 k2 QB Bq Sr TB.p TB.e MB h1 h3 rfl TX TX fun gt' ge' h83 p2 F2 sd2 e2 u2' su2 hc TX2 P83 X2 hfu=>⟨some ⟨gt',0,none⟩,true,rfl,fun e=>(by cases e),fun _=>?_⟩)
  have hsu:su2=su/\e2<=e+1:=by
   rcases hc with ⟨g1,_,g2⟩|⟨g1,_,g2⟩
   ·exact⟨g2,by omega⟩
   ·exact⟨g2,by omega⟩
  obtain⟨rfl,he2⟩:=hsu;exact hJ h83 gt' ge' e2 su2 su2 u2' F2 sd2 p2 he2 P83 X2 TX2 Nu Nu
end Go.Proofs.YthicpjafcpfjoaaGreatDoor
namespace Go.Vc
open Go Go.RowKit
theorem Qpc {W:World}{b o:Nat}{v:Value}(h:W.cell? ⟨b,o,none⟩=some v):Hp.cell (G9 W) b o=some v:=by
 unfold World.cell? at h;unfold Hp.cell G9;cases hb:W.heap[b]? with
 | none=>rw [hb] at h;cases h
 | some ob=>rw [hb] at h;cases ob<;>simp_all
section
variable {H:Type}{enc:TypeId × Value->H}
theorem Qmc {a:Assume}{C:Checked}{os:Os}{f:FuncId}{fn:Func}{s:ChangeSpec}{conds:List PathCond}{apart fresh handsOn again:Bool}{X:World->Array Value->Prop}
  (hX:∀(w w':World)(args:Array Value),w.heap=w'.heap->X w args->X w' args)
  (own:ownKnob C.prog.godebug=none) (started:os.Started) (noInit:C.prog.inits.idxOf? f=none) (hfn:C.prog.funcs[f]?=some fn)
  (witness:∃(w:World)(tape:Tape)(i:Input),w.os=os/\(w.forCall tape i).Shaped C.prog/\i.vars=[]/\Input.okWide C.prog (w.forCall tape i) .any w.heap.size f i /\
   ((s.pre enc C.prog fn conds apart (w.forCall tape i).memory i.args/\X (w.forCall tape i).memory i.args)/\sizedMet enc C.prog fn (OpenSpec.ofChange s) apart (w.forCall tape i).memory i.args)/\a.holds C.prog (lone (Frame.enter C.prog f i.args .normal) [] (w.forCall tape i)))
  (contract:∀(W:World)(base:Nat)(args:Array Value)(ds gs:List (DataW H))(before:List MemPlace),
   (∀(j:Nat) t v,fn.params[j]?=some t->args[j]?=some v->Value.okWide C.prog W .any base t v) ->
   DataW.Whole enc C.prog fn.params.toList s.vars apart W args.toList ds gs before ->
   conds.all (PathCond.test C.prog ⟨fn.params.toList,ds,s.plain.varTypes C.prog,gs⟩)=true->X W args->W.ShapedOpen C.prog ->
   Calls C.prog f args W fun e W'=>∃ v,e=.returned v/\s.post enc C.prog fn apart fresh handsOn again W args v W') :
  ReturnsInHanded a C os f .any (fun w args=>(s.pre enc C.prog fn conds apart w args/\X w args)/\sizedMet enc C.prog fn (OpenSpec.ofChange s) apart w args) (s.post enc C.prog fn apart fresh handsOn again):=by
 refine returnsInHanded_of_calls own started noInit witness ?_
 intro w tape i _ hsh _ hok hpre _;obtain⟨_,_,_,fn2,hfn2,_,_,_,_,hval⟩:=hok;have e:fn2=fn:=cU (hfn2.symm.trans hfn);subst e;obtain⟨⟨⟨ds,gs,before,hw,hc⟩,hx⟩,_⟩:=hpre;have hw2:=DataW.Whole.of_heap (w':=w.forCall tape i) (by rfl) hw
 refine(contract (w.forCall tape i) w.heap.size i.args ds gs before hval hw2 hc (hX _ _ _ (by rfl) hx) hsh).mono fun e W' ⟨v,he,hp⟩=>?_
 subst he;exact ChangeSpec.post_blind hp
end
end Go.Vc
namespace Go.Proofs.YthicpjafcpfjoaaGreatDoor.topReplay
open Go.ChangeShapes Go.WideShapes Go.ChangeAt Go.RowKit Go.Vc
theorem own:ownKnob Tryz.prog.godebug=none:=by kernel_rfl
theorem open0 {H:Type}{enc:TypeId × Value->H}{W:World}{cs:List Value}(L:QcO Tryz.prog enc W (fun _=>True) (JS Tryz.prog 4 56) cs):∃(x0:Int)(x1:Int)(x2:Int)(x3:Int)(x4:Int)(x5:Int)(x6:Int),cs=Xk (x0,(x1,x2),(x3,x4),(x5,x6))/\InR x0/\InR x1/\InR x2/\InR x3/\InR x4/\InR x5/\InR x6:=by
 have e:JS Tryz.prog 4 56=[3,3,3,3,3,3,3]:=by kernel_rfl
 rw [e] at L;match cs,L with
 | [v0,v1,v2,v3,v4,v5,v6],L=>
  obtain⟨x0,h0,g0⟩:=WK Tryz.underlying3 (L.1);cases h0;obtain⟨x1,h1,g1⟩:=WK Tryz.underlying3 (L.2.1);cases h1;obtain⟨x2,h2,g2⟩:=WK Tryz.underlying3 (L.2.2.1);cases h2;obtain⟨x3,h3,g3⟩:=WK Tryz.underlying3 (L.2.2.2.1);cases h3;obtain⟨x4,h4,g4⟩:=WK Tryz.underlying3 (L.2.2.2.2.1);cases h4;obtain⟨x5,h5,g5⟩:=WK Tryz.underlying3 (L.2.2.2.2.2.1);cases h5;obtain⟨x6,h6,g6⟩:=WK Tryz.underlying3 (L.2.2.2.2.2.2.1);cases h6;exact⟨x0,x1,x2,x3,x4,x5,x6,rfl,g0,g1,g2,g3,g4,g5,g6⟩
theorem open1 {H:Type}{enc:TypeId × Value->H}{W:World}{cs:List Value}(L:QcO Tryz.prog enc W (fun _=>True) (JS Tryz.prog 4 45) cs):∃(x0:ByteArray)(x1:Int)(x2:ByteArray)(x3:Int),cs=QeE (x0.data.toList,x1,x2.data.toList,x3)/\x0.size<=maxLen/\InR x1/\x2.size<=maxLen/\0<=x3/\x3<=18446744073709551615:=by
 have e:JS Tryz.prog 4 45=[9,3,9,43]:=by kernel_rfl
 rw [e] at L;match cs,L with
 | [v0,v1,v2,v3],L=>
  obtain⟨x0,h0,_,g0⟩:=MA Gv Tryz.underlying9 (L.1);cases h0;obtain⟨x1,h1,g1⟩:=WK Tryz.underlying3 (L.2.1);cases h1;obtain⟨x2,h2,_,g2⟩:=MA Gv Tryz.underlying9 (L.2.2.1);cases h2;obtain⟨x3,h3,g3⟩:=QiC Tryz.underlying43 (L.2.2.2.1);have g3:=Qqg g3;cases h3;exact⟨x0,x1,x2,x3,rfl,g0,g1,g2,g3⟩
abbrev lay:=Rows.topReplayRow.laid
theorem tabs {W:World}(hL:laidMetH Tryz.prog lay W):Uk (G9 W):=by
 rw [MakeChecks.laidMetH_plain _ _ _ (by kernel_rfl)] at hL
 have h3:laidMet Tryz.prog (("internal/strconv.uint64pow10",Lib.tabData .u64 Lib.pow10Tab) :: lay.drop 3) W:=hL.tail.tail;have hT:=Lib.tabIs_of_head (g:=3) (n:=20) (by kernel_rfl) (t:=349) (by kernel_rfl) (e:=43) (by kernel_rfl) (by kernel_rfl) (by kernel_rfl) (by kernel_rfl) h3
 intro w hs;exact Qpp hT hs
theorem star: "*"++ "errors.errorString"= "*errors.errorString":=by decide
theorem rowE (u:TypeId)(h:Tryz.prog.typeName? 3 u=some "*errors.errorString"):u=351:=
 typeName_ptr_named (nm:= "errors.errorString") (by rw [star];kernel_rfl) (by kernel_rfl) (by decide) u (by rw [star];exact h)
theorem errs {W:World}(hL:laidMetH Tryz.prog lay W):MD (G9 W):=by
 rw [MakeChecks.laidMetH_plain _ _ _ (by kernel_rfl)] at hL
 have h4:laidMet Tryz.prog (("strconv.ErrRange",_) :: ("strconv.ErrSyntax",_) :: lay.drop 6) W:=hL.tail.tail.tail.tail;obtain⟨a0,s0,hv0,_⟩:=laid_sentinel (g:=2) (ti:=59) h4 (by kernel_rfl) (by kernel_rfl) Tryz.underlying59 rowE Tryz.underlying351 Tryz.underlying353 rfl rfl Tryz.underlying9 (by kernel_rfl) (by kernel_rfl)
 obtain⟨a1,s1,hv1,_⟩:=laid_sentinel (g:=1) (ti:=59) h4.tail (by kernel_rfl) (by kernel_rfl) Tryz.underlying59 rowE Tryz.underlying351 Tryz.underlying353 rfl rfl Tryz.underlying9 (by kernel_rfl) (by kernel_rfl)
 exact⟨⟨_,_,fun w hs=>Qfa hv1 hs⟩,⟨_,_,fun w hs=>Qfa hv0 hs⟩⟩
theorem names {W:World}(hL:laidMetH Tryz.prog lay W):QfA (G9 W):=by
 have T:=tabs hL;have E:=errs hL;rw [MakeChecks.laidMetH_plain _ _ _ (by kernel_rfl)] at hL
 have h6:laidMet Tryz.prog (("penstock/query.fields",_) :: ("penstock/query.aggs",_) :: lay.drop 8) W:=hL.tail.tail.tail.tail.tail.tail;exact⟨T,E,QeQ (texts:=YA) (g:=9) (t:=162) (e:=9) h6 (by kernel_rfl) (by kernel_rfl) (by kernel_rfl) (by kernel_rfl) (by kernel_rfl) (by decide),QeQ (texts:=Qly) (g:=0) (t:=162) (e:=9) h6.tail (by kernel_rfl) (by kernel_rfl) (by kernel_rfl) (by kernel_rfl) (by kernel_rfl) (by decide)⟩
theorem lens {W:World}(hsh:W.ShapedOpen Tryz.prog):Qdh (G9 W):=by
 obtain⟨m,hm⟩:=Tryz.laysM146.s1_3 W hsh;exact⟨m,Qpc hm⟩
theorem door_met (os:Os)(args:Array Value):laidMetH Tryz.prog lay ((World.laidAll Tryz.prog os lay).forCall (fun _ _=>0) ⟨#[],args,[]⟩).memory:=by
 rw [MakeChecks.laidMetH_plain _ _ _ (by kernel_rfl)]
 exact laidMet_laidAll _ (by kernel_rfl) (by kernel_rfl)
set_option maxRecDepth 100000 in
theorem lifted (os:Os)(started:os.Started)(H:Type)(enc:TypeId × Value->H) :
  ReturnsInHanded {} Tryz.checked os 5 .any (fun w args=>(Rows.topReplaySpec.pre enc Tryz.prog Tryz.f5 Rows.topReplayRow.domain false w args/\laidMetH Tryz.prog lay w)/\sizedMet enc Tryz.prog Tryz.f5 (OpenSpec.ofChange Rows.topReplaySpec) false w args) (Rows.topReplaySpec.post enc Tryz.prog Tryz.f5 false true false false):=by
 refine Qmc (C:=Tryz.checked) (X:=fun w _=>laidMetH Tryz.prog lay w) (fun _ _ _ hh h=>h.of_heap hh) own started (by kernel_rfl) Tryz.func5
  (ChangeSpec.witness_shaped (enc:=enc) (C:=Tryz.checked) (os:=os) (X:=fun w _=>laidMetH Tryz.prog lay w) false (World.laidAll Tryz.prog os lay) #[.string ⟨#[]⟩,.slice none 0 0,.slice none 0 0,.int .i64 0] 8 (World.laidAll_os _ _ _) (World.shaped_of_ZipB (by kernel_rfl) (by kernel_rfl)) (by kernel_rfl) (by kernel_rfl) (by kernel_rfl) (door_met os _)) ?_
 intro W base args ds gs before hval0 hW hcnd hL hsh;have T:=tabs hL;have TM:=lens hsh;have E:=errs hL;have TQ:=names hL;have hval:∀(j:Nat) t v,Tryz.f5.params[j]?=some t->args[j]?=some v->Value.okWide Tryz.prog W .any base t v:=hval0
 have hW':=hW;obtain⟨p,q,hA0,hV,rfl,hfz,hnd⟩:=hW;have hA:DataW.TrodAll enc Tryz.prog W 0 (fun _=>true) true Tryz.f5.params.toList args.toList ds p:=hA0
 rw [Tryz.params5] at hA hval;obtain⟨v0,vs0,d0,ds0,p0,q0,hargs,rfl,rfl,h0,r0⟩:=trodAll_cons hA;obtain⟨v1,vs1,d1,ds1,p1,q1,rfl,rfl,rfl,h1,r1⟩:=trodAll_cons r0;obtain⟨v2,vs2,d2,ds2,p2,q2,rfl,rfl,rfl,h2,r2⟩:=trodAll_cons r1;obtain⟨v3,vs3,d3,ds3,p3,q3,rfl,rfl,rfl,h3,r3⟩:=trodAll_cons r2;obtain⟨rfl,rfl,rfl⟩:=trodAll_nil r3;obtain rfl:args=#[v0,v1,v2,v3]:=by cases args;simp_all
 obtain⟨rfl,rfl⟩:=trodVars_none hV;obtain⟨s0,rfl⟩:=okWide_string Tryz.underlying9 (hval 0 9 v0 rfl rfl);obtain⟨b0,e0,_,z0⟩:=MA Gv Tryz.underlying9 (QbK (Sm:=fun _=>True) h0 trivial)
 cases e0;obtain⟨w1,w2,w3,rfl⟩:=okWide_slice (e:=51) (by kernel_rfl) (hval 1 38 v1 rfl rfl)
 obtain⟨p1,n1,c1,R1,e1,S1,hc1,hm1,_,g1⟩:=N4 (enc:=fun r=>[QcD r]) (sz:=1) (good:=fun r:JF _=>Qe (G9 W) r.1.1 (r.2.flatMap Xk)/\r.2.length<=r.1.2/\r.1.2<=maxLen/\∀ y ∈ r.2,True) Gv (e:=51) (by kernel_rfl) (by kernel_rfl) (by decide) (fun _=>rfl)
  (fun cs L=>by
   obtain⟨a,n,c,l,e,S,hc,hm,_,hg⟩:=N4 (enc:=Xk) (sz:=7) (good:=fun y=>True) Gv (e:=56) (by kernel_rfl) (by kernel_rfl) (by decide) (fun _=>rfl) (fun cs L=>by
    have hf:=Qcf Gv 4 (by kernel_rfl) L
    obtain⟨x0,x1,x2,x3,x4,x5,x6,hy,hg⟩:=open0 hf;exact⟨(x0,(x1,x2),(x3,x4),(x5,x6)),hy,trivial⟩) L
   cases e;obtain rfl:=S.1;exact⟨((a,c),l),rfl,S.2,hc,hm,hg⟩) (QbK (Sm:=fun _=>True) h1 trivial)
 cases e1;obtain⟨w1,w2,w3,rfl⟩:=okWide_slice (e:=45) (by kernel_rfl) (hval 2 23 v2 rfl rfl)
 obtain⟨p2,n2,c2,l2,e2,S2,hc2,hm2,_,g2⟩:=N4 (enc:=QeE) (sz:=4) (good:=fun y=>(bs y.1).size<=maxLen/\InR y.2.1/\(bs y.2.2.1).size<=maxLen/\0<=y.2.2.2/\y.2.2.2<=18446744073709551615) Gv (e:=45) (by kernel_rfl) (by kernel_rfl) (by decide) (fun _=>rfl)
  (fun cs L=>by
   have hf:=Qcf Gv 4 (by kernel_rfl) L
   obtain⟨x0,x1,x2,x3,hy,hg⟩:=open1 hf;exact⟨(x0.data.toList,x1,x2.data.toList,x3),hy,hg⟩) (QbK (Sm:=fun _=>True) h2 trivial)
 cases e2;obtain⟨a3,rfl⟩:=okWide_int Tryz.underlying3 (hval 3 3 v3 rfl rfl);obtain⟨b3,e3,ga3⟩:=WK Tryz.underlying3 (QbK (Sm:=fun _=>True) h3 trivial)
 cases e3;refine(Qmn (Qcl (s:=s0.data.toList) (Qnb S1 (fun r hr=>⟨(g1 r hr).1,(g1 r hr).2.1⟩)) S2 (fun y hy=>⟨(g2 y hy).2.1,(g2 y hy).2.2.2⟩) TQ TM)).mono fun e W' ⟨he,hg⟩=>?_
 subst he;exact⟨_,rfl,Qnk big hW' hg (by kernel_rfl) (tb:=4) (by kernel_rfl) (by kernel_rfl) rfl⟩
set_option maxHeartbeats 2000000 in
theorem closed:joinedFacts Tryz.prog 5 Tryz.f5 Rows.topReplaySpec Rows.topReplayRow=true:=by
 simp only [joinedFacts,Bool.and_eq_true];repeat' apply And.intro
 all_goals as_aux_lemma=>kernel_rfl
theorem inst:Tryz.f5.isInstance Tryz.prog Rows.topReplayRow.origin Rows.topReplayRow.targs:=of_decide_eq_true (by kernel_rfl)
theorem wrap:Tryz.f5.isWrapper Tryz.prog Rows.topReplayRow.wrapper Rows.topReplayRow.mainSum:=by unfold Func.isWrapper;first|(rw [if_pos (by decide +kernel)];kernel_rfl)|(rw [if_neg (by decide +kernel)];exact⟨rfl,rfl⟩)
theorem over:Rows.topReplayRow.holds Tryz.pinned (OpenSpec.ofChange Rows.topReplaySpec):=
 OpenClaim.holds_of_wide 5 Tryz.f5 rfl rfl rfl rfl rfl rfl rfl ⟨rfl,rfl,rfl,rfl,rfl⟩ rfl rfl rfl rfl rfl (by kernel_rfl) Tryz.func5 closed
  inst wrap (fun os started H enc _=>lifted os started H enc)
theorem proved:Rows.TopReplayCardSaid:=
 Claim7.holds_tied_plain_at .later [] _ true _ true
  over (fun _ h=>by cases h) (by kernel_rfl) (fun _ h=>by cases h) topReplay_row_tie rfl ⟨rfl,rfl⟩ (by kernel_rfl) rfl
  (fun f fn hf hfn=>by
   obtain rfl:f=5:=Option.some.inj ((show Tryz.prog.funcNamed "penstock/penstocktop.TopReplay"=some 5 by kernel_rfl).symm.trans hf) |>.symm
   obtain rfl:fn=Tryz.f5:=(Option.some.inj (Tryz.func5.symm.trans hfn)).symm;exact⟨by kernel_rfl,fun j t ht=>by
    rw [Tryz.params5] at ht;have hm:t ∈ [9,38,23,3]:=by simpa using Array.mem_of_getElem? ht
    have hall:([9,38,23,3].all fun u=>!Tryz.prog.wantsStandIn u)=true:=by kernel_rfl
    exact(show Tryz.prog.wantsStandIn t=false by simpa using List.all_eq_true.1 hall t hm)⟩)
  (by kernel_rfl)
end Go.Proofs.YthicpjafcpfjoaaGreatDoor.topReplay
