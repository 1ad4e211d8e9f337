/-
  Laws and contracts on which the statement's proof stands, part 4. Conditions: those stated at each.
-/
import Derived.RangeFuncNested
import Derived.RangeFuncBound
import Derived.RangeFuncCalls
import Derived.RangeFuncLeaves
import Derived.Shelf.Abstract
import Derived.Shelf.RegionOpen
import Derived.WalkKit
import Derived.OwnWalkIn
import Derived.TacticsInMore
import Derived.LoopNIn
import Derived.LoopIn
import Derived.Test.YthicpjafcpfjoaaGreatDoorRp3
set_option linter.unusedVariables false
set_option maxRecDepth 100000
namespace Go.Vc
open Go
structure Ow where
 e:TypeId
 sz:Nat
 a:OaT
 n:Nat
 c:Nat
 xs:List Value
def Ow.own (s:Ow)(h:Hp):Prop:=QT h s.e s.sz s.a s.n s.c s.xs
def Ow.at (s:Ow)(b:Nat):Prop:=s.a=some ⟨b,0,none⟩
def Y6 (g:Nat)(t:TypeId)(cs:List Value):Ow:=⟨t,cs.length,some ⟨g,0,none⟩,1,1,cs⟩
structure Zw (hi h:Hp)(L:List Ow):Prop where
 le:hi.le h
 own:∀ s ∈ L,s.own h
 new:∀ s ∈ L,∀ b,s.at b->hi b=none
 dj:L.Pairwise fun s t=>∀ b,s.at b->¬ t.at b
theorem Ow.al {s:Ow}{h:Hp}(O:s.own h){b:Nat}(hb:s.at b):h b≠none:=by
 rcases O.2 with ⟨h1,_⟩|⟨g,cur,h1,h2,_⟩
 ·unfold Ow.at at hb;rw [h1] at hb;cases hb
 ·unfold Ow.at at hb;rw [h1] at hb;cases hb;rw [h2];simp
theorem Ow.keep {s:Ow}{h h':Hp}(O:s.own h)(hk:∀ b,s.at b->∀ o,h b=some o->h' b=some o):s.own h':=QT.keep O fun g o hg ho=>hk g hg o ho
section
variable {hi h:Hp}{L:List Ow}
theorem Zw.nil (l:hi.le h):Zw hi h []:=⟨l,fun s hs=>(by cases hs),fun s hs=>(by cases hs),List.Pairwise.nil⟩
theorem Zw.grow {h':Hp}(O:Zw hi h L)(l:h.le h'):Zw hi h' L:=⟨qP O.le l,fun s hs=>Ow.keep (O.own s hs) fun b _ o ho=>l b o ho,O.new,O.dj⟩
theorem Zw.ownV (O:Zw hi h L){s:Ow}(hs:s ∈ L):Qg hi h s.e s.sz s.a s.n s.c s.xs:=⟨O.le,O.own s hs,fun b hb=>O.new s hs b hb⟩
theorem Zw.apart (O:Zw hi h L){i j:Nat}{s t:Ow}(hs:L[i]?=some s)(ht:L[j]?=some t)(hne:i≠j){b:Nat}(hb:s.at b):¬ t.at b:=by
 obtain⟨hi',es⟩:=bG.1 hs
 obtain⟨hj',et⟩:=bG.1 ht
 have:=fL.1 O.dj;rcases Nat.lt_or_gt_of_ne hne with q|q
 ·have:=this i j hi' hj' q b;rw [es,et] at this;exact this hb
 ·have:=this j i hj' hi' q b;rw [es,et] at this;exact fun q2=>this q2 hb
theorem Zw.upd {h':Hp}(O:Zw hi h L){j:Nat}{s s':Ow}(hs:L[j]?=some s)(hk:∀ b o,h b=some o->¬ s.at b->h' b=some o)(O':s'.own h')(hn:∀ b,s'.at b->s.at b\/h b=none):Zw hi h' (L.set j s'):=by
 have hsm:=cF hs;have hj:=(bG.1 hs).1
 have key:∀{k:Nat} {t:Ow},(L.set j s')[k]?=some t->(k=j/\t=s')\/(k≠j/\L[k]?=some t):=by
  intro k t h1;by_cases hkj:k=j
  ·subst hkj;rw [fG hj] at h1
   exact .inl ⟨rfl,(cU h1).symm⟩
  ·rw [gK (fun e=>hkj e.symm)] at h1
   exact .inr ⟨hkj,h1⟩
 have out:∀{k:Nat} {t:Ow},k≠j->L[k]?=some t->∀ b,t.at b->¬ s'.at b:=by
  intro k t hkj ht b hb hb';rcases hn b hb' with q|q
  ·exact O.apart ht hs hkj hb q
  ·exact Ow.al (O.own t (cF ht)) hb q
 refine⟨fun b o ho=>hk b o (O.le b o ho) fun q=>(by rw [O.new s hsm b q] at ho;cases ho),fun t ht=>?_,fun t ht b hb=>?_,?_⟩
 ·obtain⟨k,hk'⟩:=gB ht
  rcases key hk' with ⟨_,rfl⟩|⟨hkj,h1⟩
  ·exact O'
  ·exact Ow.keep (O.own t (cF h1)) fun b hb o ho=>hk b o ho (O.apart h1 hs hkj hb)
 ·obtain⟨k,hk'⟩:=gB ht
  rcases key hk' with ⟨_,rfl⟩|⟨hkj,h1⟩
  ·rcases hn b hb with q|q
   ·exact O.new s hsm b q
   ·exact qR O.le q
  ·exact O.new t (cF h1) b hb
 ·rw [fL];intro i k hi' hk' hik b hb hb';have e1:=bD hi'
  have e2:=bD hk'
  rcases key e1 with ⟨q1,q2⟩|⟨q1,q2⟩
  ·rcases key e2 with ⟨q3,q4⟩|⟨q3,q4⟩
   ·omega
   ·rw [q2] at hb;exact out q3 q4 b hb' hb
  ·rcases key e2 with ⟨q3,q4⟩|⟨q3,q4⟩
   ·rw [q4] at hb';exact out q1 q2 b hb hb'
   ·exact O.apart q2 q4 (by omega) hb hb'
theorem Zw.push {h':Hp}(O:Zw hi h L)(l:h.le h'){s:Ow}(O':s.own h')(hn:∀ b,s.at b->h b=none):Zw hi h' (L++[s]):=by
 have O2:=O.grow l;refine⟨O2.le,fun t ht=>?_,fun t ht b hb=>?_,mE.2 ⟨O.dj,by simp,fun x hx y hy b hb hb'=>?_⟩⟩
 ·rcases bU.1 ht with q|q
  ·exact O2.own t q
  ·rw [cD.1 q];exact O'
 ·rcases bU.1 ht with q|q
  ·exact O.new t q b hb
  ·rw [cD.1 q] at hb;exact qR O.le (hn b hb)
 ·rw [cD.1 hy] at hb';exact Ow.al (O.own x hx) hb (hn b hb')
theorem Zw.rebase {L':List Ow}(O:Zw hi h L)(hs:L'.Sublist L):∃ hj:Hp,hi.le hj/\Zw hj h L'/\∀ b o,h b=some o->(∀ s ∈ L',¬ s.at b)->hj b=some o:=by
 have e1:∀ b,(∃ s ∈ L',s.at b)->(open Classical in (fun b=>if ∃ s ∈ L',s.at b then none else h b:Hp)) b=none:=fun b hb=>bJ hb
 have e2:∀ b,¬(∃ s ∈ L',s.at b)->(open Classical in (fun b=>if ∃ s ∈ L',s.at b then none else h b:Hp)) b=h b:=fun b hb=>bE hb
 generalize (open Classical in (fun b=>if ∃ s ∈ L',s.at b then none else h b:Hp))=hj at e1 e2
 have lj:Hp.le hj h:=fun b o ho=>by
  by_cases q:∃ s ∈ L',s.at b
  ·rw [e1 b q] at ho;cases ho
  ·rw [e2 b q] at ho;exact ho
 refine⟨hj,fun b o ho=>?_,⟨lj,fun s h1=>O.own s (hs.mem h1),fun s h1 b hb=>e1 b ⟨s,h1,hb⟩,O.dj.sublist hs⟩,fun b o ho hn=>(e2 b (fun⟨s,q1,q2⟩=>hn s q1 q2)).trans ho⟩
 refine(e2 b ?_).trans (O.le b o ho)
 rintro⟨s,q1,q2⟩;rw [O.new s (hs.mem q1) b q2] at ho;cases ho
theorem Zw.blk (O:Zw hi h L){g:Nat}{t:TypeId}{cs:List Value}(hs:Y6 g t cs ∈ L):h g=some (Qb cs t):=by
 obtain⟨h1,h2⟩:=O.own _ hs;rcases h2 with ⟨q,_⟩|⟨b,cur,q1,q2,q3,q4,q5,q6⟩
 ·cases q
 ·simp only [Y6,bH,Addr.mk.injEq,mH] at q1 q5 q6;subst q1;have:cur.toList=cs:=by
   rw [<-q6,j7,cY (by rw [fE];omega)]
  rw [q2,<-this];simp [Y6]
theorem QiT {g:Nat}{t:TypeId}{cs:List Value}(hg:h g=some (Qb cs t)):(Y6 g t cs).own h:=
 ⟨by simp [Y6],.inr ⟨g,cs.toArray,rfl,hg,cB _,by simp [Y6,maxLen],by simp [Y6],by simp [Y6]⟩⟩
theorem Zw.store (O:Zw hi h L){j:Nat}{s:Ow}(hs:L[j]?=some s){i:Nat}{vs:List Value}(hv:0<vs.length)(hfit:i+vs.length<=s.n*s.sz){b:Nat}(hb:s.at b){K:HpT}
  (hK:∀ h',Zw hi h' (L.set j { s with xs:=QP s.xs i vs })->(∀ b' o,b'≠b->h b'=some o->h' b'=some o)->K h'):h.store b (0+i) vs K:=by
 refine Qg.store (O.ownV (cF hs)) hv hfit hb fun ob O'=>?_
 have kp:∀ b' o,b'≠b->h b'=some o->(h.set b ob) b'=some o:=fun b' o hne ho=>(qL h _ hne).trans ho
 exact hK _ (O.upd hs (fun b' o ho hn=>kp b' o (fun q=>hn (by rw [q];exact hb)) ho) O'.own fun b' hb'=>.inl hb') kp
theorem Zw.put (O:Zw hi h L){j g:Nat}{t:TypeId}{cs:List Value}(hs:L[j]?=some (Y6 g t cs)){i:Nat}{v:Value}(hi':i<cs.length){K:HpT}
  (hK:∀ h',Zw hi h' (L.set j (Y6 g t (cs.set i v)))->(∀ b' o,b'≠g->h b'=some o->h' b'=some o)->K h'):h.store g (0+i) [v] K:=by
 refine O.store hs (by simp) (by simp [Y6];omega) rfl fun h' O' kp=>hK h' ?_ kp
 have e:({ Y6 g t cs with xs:=QP (Y6 g t cs).xs i [v] }:Ow)=Y6 g t (cs.set i v):=by unfold Y6;simp only [dL];rw [Jy _ _ _ hi']
 rw [e] at O';exact O'
variable {P:Program}
theorem Zw.app (O:Zw hi h L){j:Nat}{s:Ow}(hs:L[j]?=some s){tS ty:TypeId}{bytes:Nat}(T:ElT P tS s.e s.sz bytes){b m:Nat}{news:List Value}{tn:TypeId}(hb:h b=none)(hl:news.length=m*s.sz)(h1:∀ u ∈ news,u.oneCell'=true)
  (hn:(s.n+m)*bytes<=140737488355328) (hn2:s.n+m<=140737488355328) {K:RtT}
  (hK:∀ a' c' h',Zw hi h' (L.set j { s with a:=a',n:=s.n+m,c:=c',xs:=s.xs++news })->(∀ b' o,h b'=some o->¬ s.at b'->h' b'=some o)->K (vsl a' (s.n+m) c') h') :
  Qh P (Builtin.append_ #[tS,tS] ty #[vsl s.a s.n s.c,vsl (some ⟨b,0,none⟩) m m]) (h.set b (Qb news tn)) K:=by
 have l:h.le (h.set b (Qb news tn)):=qQ (qO h) hb _;have O1:=O.grow l;refine q8 T (O1.ownV (cF hs)) (qW _ _ news _) hl h1 hn hn2 fun a' c' h' O' k1 k2=>hK a' c' h' (O1.upd hs (fun b' o ho hn=>k1 b' o ho hn) O'.own fun b' hb'=>?_) fun b' o ho hn=>k1 b' o (l b' o ho) hn
 rcases k2 b' hb' with q|q
 ·exact .inl (show s.a=_ from q.trans hb')
 ·exact .inr q
theorem Qa.frame {f:FuncId}{args:List Value}{hA h:Hp}{K:RtT}(l:hA.le h)(H:Qa P f args hA K):Qa P f args h fun v h2=>∃ h1,h1.le h2/\(∀ b o,h b=some o->hA b=none->h2 b=some o/\h1 b=none)/\K v h1:=by
 intro w hs;refine(H w fun b o ho=>hs b o (l b o ho)).mono ?_
 rintro e w' ⟨v,h1,rfl,s1,F,k⟩;have out:∀ b o,h b=some o->hA b=none->w'.heap[b]?=some o/\h1 b=none:=by
  intro b o ho hn;have hb:=(bV.1 (hs b o ho)).1
  obtain⟨q1,q2⟩:=F.keep b hb hn;exact⟨q1.trans (hs b o ho),q2⟩
 have e1:∀ b,(h b≠none/\hA b=none)->(fun b=>if h b≠none/\hA b=none then h b else h1 b:Hp) b=h b:=fun b hb=>bJ hb
 have e2:∀ b,¬(h b≠none/\hA b=none)->(fun b=>if h b≠none/\hA b=none then h b else h1 b:Hp) b=h1 b:=fun b hb=>bE hb
 generalize (fun b=>if h b≠none/\hA b=none then h b else h1 b:Hp)=h2 at e1 e2
 refine⟨v,h2,rfl,fun b o ho=>?_,⟨F.os,F.tape,F.output,F.size,fun b hb hn=>?_⟩,h1,fun b o ho=>?_,fun b o ho hn=>?_,k⟩
 ·by_cases q:h b≠none/\hA b=none
  ·rw [e1 b q] at ho;exact(out b o ho q.2).1
  ·rw [e2 b q] at ho;exact s1 b o ho
 ·have hna:hA b=none:=qR l hn;obtain⟨q1,q2⟩:=F.keep b hb hna;exact⟨q1,(e2 b (fun q=>q.1 hn)).trans q2⟩
 ·refine(e2 b fun q=>?_).trans ho
  cases hq:h b with
  | none=>exact q.1 hq
  | some o2=>
   have:=(out b o2 hq q.2).2;rw [this] at ho;cases ho
 ·exact⟨(e1 b ⟨by rw [ho];simp,hn⟩).trans ho,(out b o ho hn).2⟩
theorem Zw.frame (O:Zw hi h L){f:FuncId}{args:List Value}{R':RtT}(H:Qa P f args hi fun v hk=>∀ h2,hk.le h2->Zw hk h2 L->R' v h2):Qa P f args h R':=by
 intro w hs;refine(Qa.frame O.le H w hs).mono ?_
 rintro e w' ⟨v,h2,rfl,s2,F,h1,l1,kp,k⟩;refine⟨v,h2,rfl,s2,F,k h2 l1 ⟨l1,fun s hs'=>Ow.keep (O.own s hs') fun b hb o ho=>(kp b o ho (O.new s hs' b hb)).1,fun s hs' b hb=>?_,O.dj⟩⟩
 cases hq:h b with
 | none=>exact absurd hq (Ow.al (O.own s hs') hb)
 | some o=>exact(kp b o hq (O.new s hs' b hb)).2
end
end Go.Vc
namespace Go.Proofs.YthicpjafcpfjoaaGreatDoor
open Go Go.Vc
def GEq (k:Int)(s s':Int × Int × Int):Prop:=s.1=s'.1/\s.2.1=s'.2.1/\((k=4\/k=5)->s.2.2=s'.2.2)
theorem GEq.refl (k:Int)(s:Int × Int × Int):GEq k s s:=⟨rfl,rfl,fun _=>rfl⟩
theorem GEq.trans {k:Int}{a b c:Int × Int × Int}(h:GEq k a b)(h2:GEq k b c):GEq k a c:=⟨h.1.trans h2.1,h.2.1.trans h2.2.1,fun q=>(h.2.2 q).trans (h2.2.2 q)⟩
theorem GEq.step {k:Int}{s s':Int × Int × Int}(h:GEq k s s')(v:Int × Int):GEq k (Zt k s v) (Zt k s' v):=by
 obtain⟨h1,h2,h3⟩:=h;unfold Zt;split
 ·exact⟨h1,h2,h3⟩
 ·refine⟨by simp only;omega,by simp only;omega,fun q=>?_⟩
  simp only;rw [h1,h3 q]
theorem Qns {k:Int}{s:Int × Int × Int}(h:0<=s.1)(v:Int × Int):0<=(Zt k s v).1:=by
 unfold Zt;split
 ·exact h
 ·simp only;omega
theorem Qj5 {k:Int}{s:Int × Int × Int}(h:0<=s.1)(u v:Int × Int):GEq k (Zt k (Zt k s u) v) (Zt k (Zt k s v) u):=by
 unfold Zt;by_cases hu:k≠1/\u.1=0
 ·by_cases hv:k≠1/\v.1=0
  ·simp only [bJ hu,bJ hv];exact .refl _ _
  ·simp only [bJ hu,bE hv];exact .refl _ _
 ·by_cases hv:k≠1/\v.1=0
  ·simp only [bE hu,bJ hv];exact .refl _ _
  ·simp only [bE hu,bE hv];refine⟨rfl,by simp only;omega,fun q=>?_⟩
   simp only;rcases q with rfl|rfl
   ·repeat' split
    all_goals omega
   ·repeat' split
    all_goals omega
theorem Qj6 {k:Int}{l l':List Vl}(p:l.Perm l'):∀{s s':Int × Int × Int},0<=s.1->GEq k s s'->GEq k (l.foldl (Zt k) s) (l'.foldl (Zt k) s'):=by
 induction p with
 | nil=>intro s s' _ h;exact h
 | cons x _ ih=>intro s s' h0 h;exact ih (Qns h0 x) (h.step x)
 | swap x y l=>
  intro s s' h0 h;have e:=(Qj5 (k:=k) h0 y x).trans ((h.step x).step y);rw [fW,fW,fW,fW];generalize Zt k (Zt k s y) x=a at e ⊢;generalize Zt k (Zt k s' x) y=b at e ⊢;clear h h0;induction l generalizing a b with
  | nil=>exact e
  | cons z l ih=>exact ih _ _ (e.step z)
 | trans _ _ ih1 ih2=>
  intro s s' h0 h;exact(ih1 h0 h).trans (ih2 (by rw [<-h.1];exact h0) (.refl _ _))
theorem Qpm {k:Int}(h1:1<=k)(h5:k<=5){s s':Int × Int × Int}(h:GEq k s s'):Qhc k s=Qhc k s':=by
 obtain⟨e1,e2,e3⟩:=h;unfold Qhc;rw [e1,e2];split
 ·rfl
 ·split
  ·rfl
  ·split
   ·rfl
   ·rw [e3 (by omega)]
theorem QgA (ks:List Int){rs:List (List Vl)}(h:∀ r ∈ rs,r.length=ks.length)(i:Nat):(Yl ks rs)[i]?=(ks[i]?).map fun k=>(k,(rs.filterMap fun r=>r[i]?).foldl (Zt k) (0,0,0)):=by
 induction rs using Y0 with
 | h0=>show (ZP ks)[i]?=_;unfold ZP;rw [cC];rfl
 | h1 rs r ih=>
  have h2:=ih fun x hx=>h x (fF _ hx)
  have hr:=h r (by simp)
  rw [Kr];unfold Za;rw [jD,h2]
  cases hk:ks[i]? with
  | none=>rfl
  | some k=>
   have hi:=(bG.1 hk).1
   have hv:r[i]?=some r[i]:=bD (by omega)
   rw [hv];simp only [fD,List.filterMap_append,List.filterMap_cons,hv,List.filterMap_nil,fM,fW,List.foldl_nil]
theorem Qmh {ks:List Int}(hk:∀ k ∈ ks,1<=k/\k<=5){rs rs':List (List Vl)}(p:rs.Perm rs')(h:∀ r ∈ rs,r.length=ks.length):YW ks rs=YW ks rs':=by
 unfold YW;refine fR fun i=>?_
 rw [cC,cC,QgA ks h,QgA ks fun r hr=>h r (p.mem_iff.2 hr)]
 cases hki:ks[i]? with
 | none=>rfl
 | some k=>
  obtain⟨h1,h5⟩:=hk k (cF hki);simp only [fD];congr 1
  exact Qpm h1 h5 (Qj6 (p.filterMap _) (by decide) (.refl _ _))
theorem Vw {l l':List PK}(h:l.Pairwise Qt)(h':l'.Pairwise Qt)(e:∀ k,k ∈ l↔k ∈ l'):l=l':=by
 have p:=(mT (Xj h) (Xj h')).2 e;exact p.eq_of_pairwise (fun a b _ _ h1 h2=>absurd (Xo h1 h2) (Z5 a)) h h'
theorem Qja {A A':List Ad}(p:A.Perm A')(k:PK):(QD A k).Perm (QD A' k):=(p.filter _).map _
theorem Qfm {n:Nat}{A:List Ad}(h:∀ a ∈ A,a.2.length=n)(k:PK):∀ r ∈ QD A k,r.length=n:=by
 intro r hr;unfold QD at hr;obtain⟨a,ha,rfl⟩:=cZ.1 hr;exact h a (d8.1 ha).1
theorem Qkv {A A':List Ad}(p:A.Perm A'):Zi A=Zi A':=Vw (YH A) (YH A') fun k=>by
 rw [MP,MP];constructor
 ·rintro⟨a,ha,e⟩;exact⟨a,p.mem_iff.1 ha,e⟩
 ·rintro⟨a,ha,e⟩;exact⟨a,p.mem_iff.2 ha,e⟩
theorem Qou {q:Qy}(B:∀ a ∈ q.aggs,1<=a.1/\a.1<=5):∀ k ∈ Qd q,1<=k/\k<=5:=by
 intro k hk;unfold Qd at hk;obtain⟨a,ha,rfl⟩:=cZ.1 hk;exact B a ha
theorem Ql4 {q:Qy}(B:∀ a ∈ q.aggs,1<=a.1/\a.1<=5){A A':List Ad}(p:A.Perm A')(h:∀ a ∈ A,a.2.length=q.aggs.length):QhC q A=QhC q A':=by
 unfold QhC;rw [Qkv p];refine fK fun k hk=>?_
 rw [Qmh (Qou B) (Qja p k) (fun r hr=>by rw [Qfm h k r hr];unfold Qd;rw [bQ])]
theorem Qof {q:Qy}{far:Int}{e:EvL}:∀ a ∈ V9 q far e,a.2.length=q.aggs.length:=by
 intro a ha;unfold V9 at ha;split at ha
 ·exact QjX a ha
 ·cases ha
theorem Qi4 {q:Qy}:∀{l:List EvL} {far:Int},∀ a ∈ Ux q far l,a.2.length=q.aggs.length
 | [],far,a,ha=>by cases ha
 | e :: l,far,a,ha=>by
  rw [Ux] at ha;rcases bU.1 ha with h|h
  ·exact Qof a h
  ·exact Qi4 a h
theorem Qi9 {q:Qy}{ps:List (List EvL)}:∀ a ∈ KG q ps,a.2.length=q.aggs.length:=by
 intro a ha;unfold KG at ha;obtain⟨p,_,h⟩:=fI.1 ha;exact Qi4 a h
def QqW (q:Qy)(far:Int)(k:PK):Bool:=decide (k.1+(q.size+q.late)<=far-q.delay)
open Go.Txt
structure Qag (q:Qy)(x:Ad):Prop where
 l:x.2.length=q.aggs.length
 v:∀ v ∈ x.2,Xd v
 s:-1000<=x.1.1/\x.1.1<=9999
theorem QlI {q:Qy}(B:QOk q){far:Int}{e:EvL}(E:Yb e){ss:List Int}(hs:∀ s ∈ ss,-1000<=s/\s<=9999):∀ x ∈ JN q far e ss,Qag q x:=by
 intro x hx;refine⟨QjX x hx,?_,?_⟩
 ·unfold JN at hx;obtain⟨s,h1,rfl⟩:=cZ.1 hx;exact J0 B E
 ·unfold JN at hx;obtain⟨s,h1,rfl⟩:=cZ.1 hx;exact hs s ((d8.1 h1).1)
theorem Jg {q:Qy}(B:QOk q){e:EvL}(E:Yb e):∀ s ∈ Zx e.1 q.size q.slide,-1000<=s/\s<=9999:=by
 intro s hs;have h1:=B.s;have h2:=E.t;have:=Qj8 (by omega) hs
 omega
theorem QoT {q:Qy}(B:QOk q){far:Int}{e:EvL}(E:Yb e):∀ x ∈ V9 q far e,Qag q x:=by
 intro x hx;unfold V9 at hx;split at hx
 ·exact QlI B E (Jg B E) x hx
 ·cases hx
theorem Qg8 {q:Qy}(B:QOk q):∀(l:List EvL)(far:Int),(∀ e ∈ l,Yb e)->∀ x ∈ Ux q far l,Qag q x
 | [],far,_,x,hx=>by cases hx
 | e :: l,far,hl,x,hx=>by
  rw [Ux] at hx;rcases bU.1 hx with h|h
  ·exact QoT B (hl e (bY ..)) x h
  ·exact Qg8 B l _ (fun y hy=>hl y (bT _ hy)) x h
theorem QdB {q:Qy}(B:QOk q){ps:List (List EvL)}(hp:∀ p ∈ ps,∀ e ∈ p,Yb e):∀ x ∈ KG q ps,Qag q x:=by
 intro x hx;unfold KG at hx;obtain⟨p,h1,h2⟩:=fI.1 hx;exact Qg8 B p (-1) (hp p h1) x h2
theorem QgM {q:Qy}{far:Int}{e:EvL}{ss:List Int}:(JN q far e ss).length<=ss.length:=by
 unfold JN;rw [bQ];exact jC _ _
theorem Qfl {q:Qy}{far:Int}{ss:List Int}:VG q far ss<=ss.length:=jC _ _
theorem JQ {q:Qy}(B:QOk q){e:EvL}:(Zx e.1 q.size q.slide).length<=1000:=by
 have h1:=B.s;have:=QkQ (t:=e.1) (size:=q.size) (slide:=q.slide);omega
theorem QbT {q:Qy}(B:QOk q):∀(l:List EvL)(far:Int),(Ux q far l).length<=1000*l.length/\K0 q far l<=1000*l.length
 | [],far=>⟨cB _,cB _⟩
 | e :: l,far=>by
  obtain⟨h1,h2⟩:=QbT B l (max far e.1);rw [Ux,K0,bO,cH];have h3:=JQ B (e:=e);have h4:(V9 q far e).length<=1000:=by
   unfold V9;split
   ·exact dK QgM h3
   ·exact cE _
  have h5:UK q far e<=1000:=by
   unfold UK;split
   ·exact dK Qfl h3
   ·exact cE _
  omega
theorem Qce {q:Qy}(B:QOk q)(ps:List (List EvL))(hp:∀ p ∈ ps,p.length<=100):(KG q ps).length<=100000*ps.length/\Ky q ps<=100000*ps.length:=by
 induction ps using Y0 with
 | h0=>exact⟨cB _,cB _⟩
 | h1 ps p ih=>
  obtain⟨h1,h2⟩:=ih fun x hx=>hp x (fF _ hx)
  obtain⟨h3,h4⟩:=QbT B p (-1);have h5:=hp p (by simp)
  rw [QgD,QdY,bO,bO,dV];omega
theorem Qad (A:List Ad):(YN A).length<=A.length:=by
 induction A using Y0 with
 | h0=>exact cB _
 | h1 A a ih=>
  rw [JA,bO,dV];split
  ·omega
  ·rw [bO,dV];omega
theorem Qw (q:Qy):(Qd q).length=q.aggs.length:=by unfold Qd;rw [bQ]
theorem YG {ks:List Int}{rs:List (List Vl)}(hl:∀ r ∈ rs,r.length=ks.length):(Yl ks rs).map (·.1)=ks:=by
 rw [QiG ks hl,List.map_zipWith];have hc:=Qex (n:=ks.length) hl;generalize KV ks.length rs=cs at hc;clear hl;induction ks generalizing cs with
 | nil=>rfl
 | cons k ks ih=>
  match cs,hc with
  | c :: cs,hc=>
   rw [kX,ih cs (by simpa using hc)]
   rfl
theorem QcA {q:Qy}{A:List Ad}(hA:∀ x ∈ A,Qag q x)(k:PK):(∀ r ∈ QD A k,r.length=(Qd q).length)/\(∀ r ∈ QD A k,∀ v ∈ r,Xd v)/\(QD A k).length<=A.length:=by
 have key:∀ r ∈ QD A k,∃ x ∈ A,x.2=r:=by intro r hr;unfold QD at hr;obtain⟨x,h1,h2⟩:=cZ.1 hr;exact⟨x,(d8.1 h1).1,h2⟩
 refine⟨fun r hr=>?_,fun r hr=>?_,?_⟩
 ·obtain⟨x,h1,rfl⟩:=key r hr;rw [Qw];exact(hA x h1).l
 ·obtain⟨x,h1,rfl⟩:=key r hr;exact(hA x h1).v
 ·unfold QD;rw [bQ];exact jC _ _
theorem StA.facts {q:Qy}{A:List Ad}{R:List PR}(H:StA (Qd q) A R)(hA:∀ x ∈ A,Qag q x)(hn:A.length<=1000000){i:Nat}{r:PR}(hr:R[i]?=some r):r.acs.map (·.1)=Qd q/\(∀ a ∈ r.acs,AcB a)/\-1000<=r.k.1/\r.k.1<=9999/\r.t=false:=by
 obtain⟨h1,h2,h3⟩:=H.at hr;obtain⟨r1,r2,r3⟩:=QcA hA r.k;rw [h2];obtain⟨x,hx,e⟩:=(Qb0 A r.k).1 (cF h1);have hs:=(hA x hx).s;rw [e] at hs;exact⟨YG r1,Qa5 r1 r2 (by omega),hs.1,hs.2,h3⟩
theorem StA.len {ks:List Int}{A:List Ad}{R:List PR}(H:StA ks A R):R.length=(YN A).length:=by
 have:=congrArg List.length H.keys;rw [bQ] at this;exact this
theorem QkW (q:Qy):(ZP (Qd q)).map (·.1)=Qd q/\∀ a ∈ ZP (Qd q),AcB a:=by
 constructor
 ·unfold ZP;rw [fH];exact j8 _
 ·intro a ha;unfold ZP at ha;obtain⟨k,_,rfl⟩:=cZ.1 ha;unfold AcB;simp
end Go.Proofs.YthicpjafcpfjoaaGreatDoor
namespace Go.Proofs.YthicpjafcpfjoaaGreatDoor
open Go Go.Vc
theorem Qin {u0:Int}{h:Hp}{R:RtT}(H:((cond (decide (u0<1)) true (decide (u0>3)))=true->R (Qf [vag [vsl none 0 0],(ifv (some (119,vi 1)))]) h)/\((cond (decide (u0<1)) true (decide (u0>3)))=false->let J18:OaT->Nat->Nat->Hp->Prop:=fun a20 n20 c20 h21=>R (Qf [vag [vsl a20 n20 c20],ifv none]) h21;∃(I3:LtT)(m4:LmT),I3 [vi 0,vsl none 0 0] h/\∀ vs5 h6,I3 vs5 h6->∃ x7 a8 n8 c8,vs5=[vi x7,vsl a8 n8 c8]/\((decide (x7<u0))=true->∀ b11,h6 b11=none->let h12:=Hp.set h6 b11 (Qb [(vi (-1))] 3);Qh Pg (Builtin.append_ #[46,46] 46 #[vsl a8 n8 c8,(vsl (some ⟨b11,0,none⟩) 1 1)]) h12 fun v13 h14=>∃ a15 n15 c15,v13=vsl a15 n15 c15/\∃ x17,IsW x17 (x7+1)/\I3 [vi x17,vsl a15 n15 c15] h14/\m4 [vi x17,vsl a15 n15 c15] h14<m4 vs5 h6)/\((decide (x7<u0))=false->J18 a8 n8 c8 h6))):Qa Pg 124 [vi u0] h R:=callC ⟨[],[(5,([15],[.one (.int .i64)],[(1,[.slice])]))],[]⟩ Tryz.func124 [.one (.v (vi u0))] H
theorem Qaq {u0:OaT}{u1 u2:Nat}{u3:Int}{u4:Int}{h:Hp}{R:RtT}(H:Qh Pg (Builtin.append_ #[46,46] 46 #[vsl none 0 0,vsl u0 u1 u2]) h fun v1 h2=>∃ a3 n3 c3,v1=vsl a3 n3 c3/\∃ b4 o5,Ix a3 b4 o5 u3 n3/\∃ x6,Hp.cell h2 b4 (o5+u3.toNat*1)=some (vi x6)/\∃ x7,Rd Pg (Builtin.max_ #[3,3] 3 #[vi x6,vi u4]) h2 (vi x7)/\∃ b8 o9,Ix a3 b8 o9 u3 n3/\Hp.store h2 b8 (o9+u3.toNat*1) [vi x7] fun h10=>R (vag [vsl a3 n3 c3]) h10):Qa Pg 112 [vag [vsl u0 u1 u2],vi u3,vi u4] h R:=callO Tryz.func112 [.ag [.v (vsl u0 u1 u2)],.one (.v (vi u3)),.one (.v (vi u4))] H
theorem Qan {u0:OaT}{u1 u2:Nat}{u3:Int}{h:Hp}{R:RtT}(H:∃(I2:LtT)(m3:LmT),I2 [vi 0,vi 0] h/\∀ vs4 h5,I2 vs4 h5->∃ x6 x7,vs4=[vi x6,vi x7]/\((decide (x7<(u1:Int)))=true->let J17:Int->Hp->Prop:=fun x20 h21=>(∃ x22,IsW x22 (x7+1)/\I2 [vi x20,vi x22] h21/\m3 [vi x20,vi x22] h21<m3 vs4 h5);Qa Pg 108 [vag [vsl u0 u1 u2],vi x7,vi u3] h5 fun v10 h11=>∃ x12 p13,v10=Qf [vi x12,vb p13]/\((!p13)=true->R (Qf [vi 0,vb false]) h11)/\((!p13)=false->((cond (decide (x7=0)) true (decide (x12<x6)))=true->J17 x12 h11)/\((cond (decide (x7=0)) true (decide (x12<x6)))=false->J17 x6 h11)))/\((decide (x7<(u1:Int)))=false->R (Qf [vi x6,vb true]) h5)):Qa Pg 62 [vag [vsl u0 u1 u2],vi u3] h R:=callC ⟨[],[(3,([6,13],[.one (.int .i64),.one (.int .i64)],[]))],[]⟩ Tryz.func62 [.ag [.v (vsl u0 u1 u2)],.one (.v (vi u3))] H
theorem Nj {u0:OaT}{u1 u2:Nat}{u3:Int}{u4:Int}{h:Hp}{R:RtT}(H:∃ b1 o2,Ix u0 b1 o2 u3 u1/\∃ x3,Hp.cell h b1 (o2+u3.toNat*1)=some (vi x3)/\((decide (x3<0))=true->R (Qf [vi 0,vb false]) h)/\((decide (x3<0))=false->∃ x5,IsW x5 (x3-u4)/\R (Qf [vi x5,vb true]) h)):Qa Pg 108 [vag [vsl u0 u1 u2],vi u3,vi u4] h R:=callO Tryz.func108 [.ag [.v (vsl u0 u1 u2)],.one (.v (vi u3)),.one (.v (vi u4))] H
def see (l:List Int)(p:Nat)(t:Int):List Int:=l.set p (max (l.getD p 0) t)
theorem QaI (l:List Int)(p:Nat)(t:Int):(see l p t).length=l.length:=by simp [see]
theorem Qka (l:List Int)(p:Nat)(t:Int)(hl:∀ x ∈ l,-1<=x/\x<=9999)(ht:0<=t/\t<=9999)(hp:p<l.length):∀ x ∈ see l p t,-1<=x/\x<=9999:=by
 intro x hx;unfold see at hx;rcases gD hx with h|h
 ·exact hl x h
 ·have:l.getD p 0 ∈ l:=by rw [bI,bD hp];exact cM hp
  have:=hl _ this;rw [h];rcases Int.le_total (l.getD p 0) t with h1|h1
  ·rw [Int.max_eq_right h1];omega
  ·rw [Int.max_eq_left h1];omega
def QdR:List Int->Int
 | []=>0
 | x :: l=>l.foldl min x
theorem Qgp (l:List Int)(x:Int)(h:l≠[]):QdR (l++[x])=min (QdR l) x:=by
 match l,h with
 | y :: l,_=>simp [QdR,fM]
theorem Qpo {l:List Int}{x:Int}(h:x ∈ l):QdR l<=x:=by
 match l,h with
 | y :: l,h=>
  have key:∀(l:List Int)(y x:Int),(x=y\/x ∈ l)->l.foldl min y<=x:=by
   intro l;induction l with
   | nil=>intro y x h;simp at h;subst h;exact gQ _
   | cons z l ih=>
    intro y x h;simp only [fW];rcases h with rfl|h
    ·have:=ih (min x z) (min x z) (.inl rfl);have h2:=Int.min_le_left x z;omega
    ·rcases bS.1 h with rfl|h
     ·have:=ih (min y x) (min y x) (.inl rfl);have h2:=Int.min_le_right y x;omega
     ·exact ih _ _ (.inr h)
  exact key l y x (bS.1 h)
theorem QiI {l:List Int}(h:l≠[]):QdR l ∈ l:=by
 match l,h with
 | y :: l,_=>
  have key:∀(l:List Int)(y:Int),l.foldl min y=y\/l.foldl min y ∈ l:=by
   intro l;induction l with
   | nil=>intro y;exact .inl rfl
   | cons z l ih=>
    intro y;simp only [fW];rcases ih (min y z) with e|e
    ·rw [e];by_cases h:y<=z
     ·exact .inl (Int.min_eq_left h)
     ·exact .inr (by rw [Int.min_eq_right (by omega)];simp)
    ·exact .inr (bT _ e)
  exact bS.2 (key l y)
def Zm (d:Int)(l:List Int):Int × Bool:=if ∀ x ∈ l,0<=x then(if l=[] then 0 else QdR l-d,true) else(0,false)
theorem Qg0 {p:Int}{h:Hp}{R:RtT}(h1:¬(1<=p/\p<=3)->R (Qf [vag [vsl none 0 0],ifv (some (119,vi 1))]) h)
  (h2:1<=p->p<=3->∀ a n c h',Qg h h' 3 1 a n c ((List.replicate p.toNat (-1:Int)).map vi)->R (Qf [vag [vsl a n c],ifv none]) h') :
  Qa Pg 124 [vi p] h R:=by
 refine Qin ?_
 refine⟨fun e=>h1 (by simp [cQ] at e;omega),fun e=>?_⟩
 have hp:1<=p/\p<=3:=by simp [cQ] at e;omega
 intro J18;refine⟨fun vs hh=>∃(i:Nat)(a:OaT)(n c:Nat),vs=[vi i,vsl a n c]/\(i:Int)<=p/\Qg h hh 3 1 a n c ((List.replicate i (-1:Int)).map vi),fun vs hh=>p.toNat-(Qo vs 0).toNat,⟨0,_,_,_,rfl,by omega,qY (qO h) _ _⟩,?_⟩
 rintro vs hh ⟨i,a,n,c,rfl,hi,O⟩;refine⟨i,a,n,c,rfl,fun e=>?_,fun e=>?_⟩
 ·have hlt:(i:Int)<p:=by simpa using e
  intro b hb h12;have hn:=O.sli.1;simp at hn;refine q8 QeT (Qg.set hb _ O) (qW _ _ [vi (-1)] _) (m:=1) rfl (by simp [Value.oneCell']) (by omega) (by omega) fun a' c' h' O' _ _=>⟨_,_,_,rfl,_,iW,⟨i+1,a',_,c',rfl,by omega,?_⟩,by simp [Qo];omega⟩
  rw [jX,cJ];exact O'
 ·have:(i:Int)=p:=by simp at e;omega
  refine h2 hp.1 hp.2 a n c hh ?_
  rw [<-this];exact O
theorem Qhn {a:OaT}{n c:Nat}{l:List Int}{p t:Int}{h:Hp}{R:RtT}(S:SlI h a n l)(hn:n<=1000)(hp:0<=p)(hp':p<n)
  (hK:∀ a' c' h',Qg h h' 3 1 a' n c' ((see l p.toNat t).map vi)->R (vag [vsl a' n c']) h') :
  Qa Pg 112 [vag [vsl a n c],vi p,vi t] h R:=by
 refine Qaq ?_
 refine QlX QeT S.2 (by simp [S.1]) (Qi8 l) (by omega) (by omega) fun a' c' h' O=>⟨_,_,_,rfl,?_⟩
 obtain⟨b,o,ea,hc⟩:=O.sli.get (i:=p.toNat) (by omega)
 refine⟨b,o,⟨ea,hp,hp'⟩,_,hc,_,Qek,b,o,⟨ea,hp,hp'⟩,O.store_i (by omega) ea fun ob O'=>hK _ _ _ O'⟩
theorem Ny {a:OaT}{n c:Nat}{l:List Int}{p d:Int}{h:Hp}{R:RtT}(S:SlI h a n l)(hp:0<=p)(hp':p<n)(hr:InR (l.getD p.toNat 0-d))
  (hK:R (if l.getD p.toNat 0<0 then Qf [vi 0,vb false] else Qf [vi (l.getD p.toNat 0-d),vb true]) h) :
  Qa Pg 108 [vag [vsl a n c],vi p,vi d] h R:=by
 refine Nj ?_
 obtain⟨b,o,ea,hc⟩:=S.get (i:=p.toNat) (by omega)
 refine⟨b,o,⟨ea,hp,hp'⟩,_,hc,fun e=>?_,fun e=>?_⟩
 ·rw [bJ (by simpa using e)] at hK;exact hK
 ·rw [bE (by simpa using e)] at hK;exact⟨_,isW hr,hK⟩
theorem QaM {a:OaT}{n c:Nat}{l:List Int}{d:Int}{h:Hp}{R:RtT}(S:SlI h a n l)(hn:n<=1000)(hl:∀ x ∈ l,-1<=x/\x<=9999)(hd:0<=d/\d<=1000)
  (hK:R (Qf [vi (Zm d l).1,vb (Zm d l).2]) h) :
  Qa Pg 62 [vag [vsl a n c],vi d] h R:=by
 refine Qan ?_
 have hlen:=S.1;refine⟨fun vs hh=>hh=h/\∃(i:Nat)(m:Int),vs=[vi m,vi i]/\i<=n/\(∀ x ∈ l.take i,0<=x)/\m=(if l.take i=[] then 0 else QdR (l.take i)-d),fun vs hh=>n-(Qo vs 1).toNat,⟨rfl,0,0,rfl,by omega,by simp,by simp⟩,?_⟩
 rintro vs hh ⟨rfl,i,m,rfl,hi,hg,hm⟩;refine⟨m,i,rfl,fun e=>?_,fun e=>?_⟩
 ·have hlt:i<n:=by simpa using e
  intro J17;have hx:i<l.length:=by omega
  have hget:l.getD i 0=l[i]:=by rw [bI,bD hx];rfl
  have hb:=hl l[i] (cM hx);have tk:l.take (i+1)=l.take i++[l[i]]:=bL hx;refine Ny S (by omega) (by omega) (by rw [bF,hget];unfold InR;omega) ?_
  rw [bF,hget];by_cases hneg:l[i]<0
  ·rw [bJ hneg];refine⟨_,_,rfl,fun _=>?_,fun e=>by simp at e⟩
   have:¬ ∀ x ∈ l,0<=x:=fun hall=>by have:=hall _ (cM hx);omega
   unfold Zm at hK;rw [bE this] at hK;exact hK
  ·rw [bE hneg];have next:∀ m':Int,m'=QdR (l.take (i+1))-d->J17 m' hh:=by
    intro m' hm';refine⟨_,iW,⟨rfl,i+1,m',rfl,by omega,?_,?_⟩,by simp [Qo];omega⟩
    ·intro x hx';rw [tk] at hx';rcases bU.1 hx' with h1|h1
     ·exact hg x h1
     ·simp at h1;omega
    ·rw [bE (by rw [tk];exact List.append_ne_nil_of_right_ne_nil _ (by simp)),hm']
   refine⟨_,_,rfl,fun e=>by simp at e,fun _=>⟨fun e=>next _ ?_,fun e=>next _ ?_⟩⟩
   ·rw [tk];by_cases h0:l.take i=[]
    ·rw [h0];simp [QdR]
    ·rw [bE h0] at hm;rw [Qgp _ _ h0];have hi0:i≠0:=fun h=>h0 (by rw [h];rfl)
     simp [cQ,hi0] at e;rw [Int.min_def];split<;>omega
   ·rw [tk];by_cases h0:l.take i=[]
    ·have:i=0:=by have:=congrArg List.length h0;rw [bZ] at this;simp only [fB] at this;omega
     simp [this] at e
    ·rw [bE h0] at hm;rw [Qgp _ _ h0];simp [cQ] at e;rw [Int.min_def];split<;>omega
 ·have hge:i=n:=by simp at e;omega
  have ht:l.take i=l:=cY (by omega)
  rw [ht] at hg hm;unfold Zm at hK;rw [bJ hg,<-hm] at hK;exact hK
structure Pn where
 k:PK
 rs:List (List Vl)
 t:Bool
abbrev Rw:=Bool × PK × List Vl
structure En where
 rd:List Nat
 far:List Int
 pn:List Pn
 late:Nat
 rows:List Rw
def Ks (k:PK)(v:List Vl):List Pn->List Pn
 | []=>[⟨k,[v],false⟩]
 | p :: l=>if Qt p.k k then p :: Ks k v l else if p.k=k then⟨k,p.rs++[v],p.t⟩ :: l else⟨k,[v],false⟩ :: p :: l
def atP (k:PK)(l:List Pn):Option Pn:=l.find? fun p=>decide (p.k=k)
def Uz (ks:List Int)(k:PK)(v:List Vl):Option Pn->List Rw
 | some p=>if p.t=true/\YW ks p.rs≠YW ks (p.rs++[v]) then [(true,k,YW ks p.rs),(false,k,YW ks (p.rs++[v]))] else []
 | none=>[]
def KN (q:Qy)(far:Int)(e:EvL)(st:En)(s:Int):En:=
 if WP q far s then { st with late:=st.late+1 } else
 { st with pn:=Ks (s,Q3 q e) (Qp q e) st.pn,rows:=st.rows++Uz (Qd q) (s,Q3 q e) (Qp q e) (atP (s,Q3 q e) st.pn) }
def UX (size upto:Int)(p:Pn):Bool:=decide (p.k.1+size<=upto)
def XO (size upto:Int)(l:List Pn):List Pn:=l.map fun p=>⟨p.k,p.rs,p.t||UX size upto p⟩
def QbD (size upto:Int)(l:List Pn):List Pn:=l.filter fun p=>!p.t&&UX size upto p
def QaX (size upto:Int)(l:List Pn):List Pn:=l.filter fun p=>!UX size upto p
def QgJ (ks:List Int)(p:Pn):Rw:=(false,p.k,YW ks p.rs)
def Jc (q:Qy)(st:En):En:=
 if (Zm q.delay st.far).2 then { st with pn:=QaX q.size ((Zm q.delay st.far).1-q.late) (XO q.size (Zm q.delay st.far).1 st.pn),rows:=st.rows++(QbD q.size (Zm q.delay st.far).1 st.pn).map (QgJ (Qd q)) } else st
def Z7 (q:Qy)(far:Int)(e:EvL)(st:En):En:=if Qbn q e then(Zx e.1 q.size q.slide).foldl (KN q far e) st else st
def XR (p:Nat)(e:EvL)(st:En):En:={ st with rd:=st.rd.set p (st.rd.getD p 0+1),far:=see st.far p e.1 }
def Xv (q:Qy)(p:Nat)(e:EvL)(st:En):En:=Jc q (XR p e (Z7 q (st.far.getD p 0) e st))
def Ja (parts:Nat):En:=⟨List.replicate parts 0,List.replicate parts (-1),[],0,[]⟩
theorem QgB (k:PK)(v:List Vl):∀ l:List Pn,(Ks k v l).map (·.k)=Vj k (l.map (·.k))
 | []=>rfl
 | p :: l=>by
  rw [Ks,dD,Vj];split
  ·rw [dD,QgB k v l]
  ·split
   ·rename_i h;rw [dD,h]
   ·rfl
theorem QbF {k:PK}{v:List Vl}:∀{l:List Pn} {p:Pn},p ∈ Ks k v l->p ∈ l\/(p=⟨k,[v],false⟩/\True)\/∃ p0 ∈ l,p0.k=k/\p=⟨k,p0.rs++[v],p0.t⟩
 | [],p,h=>by rw [Ks] at h;exact .inr (.inl ⟨cD.1 h,trivial⟩)
 | x :: l,p,h=>by
  rw [Ks] at h;split at h
  ·rcases bS.1 h with rfl|h
   ·exact .inl (bY ..)
   ·rcases QbF h with h1|h1|⟨p0,h1,h2⟩
    ·exact .inl (bT _ h1)
    ·exact .inr (.inl h1)
    ·exact .inr (.inr ⟨p0,bT _ h1,h2⟩)
  ·split at h
   ·rename_i hk;rcases bS.1 h with rfl|h
    ·exact .inr (.inr ⟨x,bY ..,hk,rfl⟩)
    ·exact .inl (bT _ h)
   ·rcases bS.1 h with rfl|h
    ·exact .inr (.inl ⟨rfl,trivial⟩)
    ·exact .inl h
def KO (l:List Pn):Nat:=(l.filter fun p=>!p.t).length
theorem Qjm {k:PK}{v:List Vl}:∀ l:List Pn,(Ks k v l).length<=l.length+1/\KO (Ks k v l)<=KO l+1
 | []=>by simp [Ks,KO]
 | p :: l=>by
  obtain⟨h1,h2⟩:=Qjm (k:=k) (v:=v) l;unfold KO at *
  rw [Ks];split
  ·rw [cH,cH];refine⟨by omega,?_⟩
   rw [fO,fO];split
   ·rw [cH,cH];omega
   ·omega
  ·split
   ·rw [cH,cH];refine⟨by omega,?_⟩
    rw [fO,fO];split
    ·rename_i h3;simp
    ·rename_i h3;omega
   ·refine⟨by simp,?_⟩
    rw [fO];simp
theorem Qm1 {ks:List Int}{k:PK}{v:List Vl}{o:Option Pn}:(Uz ks k v o).length<=2:=by
 unfold Uz;split
 ·split<;>simp
 ·simp
structure EnB (q:Qy)(parts N:Nat)(st:En):Prop where
 rl:st.rd.length=parts
 rb:∀ x ∈ st.rd,x<=N
 fl:st.far.length=parts
 fb:∀ x ∈ st.far,-1<=x/\x<=9999
 ps:st.pn.Pairwise fun a b=>Qt a.k b.k
 pa:∀ p ∈ st.pn,p.rs.length<=N/\-1000<=p.k.1/\p.k.1<=9999/\∀ r ∈ p.rs,Qag q (p.k,r)
 pl:st.pn.length<=N
 ll:st.late<=N
 wl:st.rows.length+KO st.pn<=3*N
 wo:∀ w ∈ st.rows,w.2.2.length=q.aggs.length
theorem Wt {l:List Pn}:(l.Pairwise fun a b=>Qt a.k b.k)↔(l.map (·.k)).Pairwise Qt:=by rw [kI]
theorem Qcq {q:Qy}{k:PK}{rs:List (List Vl)}(h:∀ r ∈ rs,Qag q (k,r)):(YW (Qd q) rs).length=q.aggs.length:=by
 unfold YW;rw [bQ,<-Qw];have:=congrArg List.length (YG (ks:=Qd q) (rs:=rs) fun r hr=>by rw [(h r hr).l,Qw])
 rw [bQ] at this;exact this
theorem QlU {q:Qy}{k:PK}{v:List Vl}{o:Option Pn}(hv:Qag q (k,v))(ho:∀ p,o=some p->∀ r ∈ p.rs,Qag q (k,r)):∀ w ∈ Uz (Qd q) k v o,w.2.2.length=q.aggs.length:=by
 intro w hw;unfold Uz at hw;split at hw
 ·rename_i p;split at hw
  ·have h1:=ho p rfl;have h2:∀ r ∈ p.rs++[v],Qag q (k,r):=fun r hr=>by
    rcases bU.1 hr with h|h
    ·exact h1 r h
    ·rw [cD.1 h];exact hv
   simp only [bS,dB,fV] at hw;rcases hw with rfl|rfl
   ·exact Qcq h1
   ·exact Qcq h2
  ·cases hw
 ·cases hw
theorem Qne {k:PK}{l:List Pn}{p:Pn}(h:atP k l=some p):p ∈ l/\p.k=k:=by
 unfold atP at h;exact⟨mX h,by have:=List.find?_some h;exact bC this⟩
theorem Qo7 {l:List Pn}(hs:l.Pairwise fun a b=>Qt a.k b.k){p:Pn}(hp:p ∈ l):atP p.k l=some p:=by
 induction l with
 | nil=>cases hp
 | cons x l ih=>
  obtain⟨h1,h2⟩:=fA.1 hs;unfold atP;rw [List.find?_cons]
  rcases bS.1 hp with rfl|hp
  ·rw [cL rfl]
  ·have hne:¬ x.k=p.k:=fun e=>Z5 p.k (by have:=h1 p hp;rw [e] at this;exact this)
   rw [cO hne];exact ih h2 hp
theorem Qpl {q:Qy}(B:QOk q){parts N:Nat}{st:En}(H:EnB q parts N st){far:Int}{e:EvL}(E:Yb e){s:Int}(hs:-1000<=s/\s<=9999):EnB q parts (N+1) (KN q far e st s):=by
 have hv:Qag q ((s,Q3 q e),Qp q e):=⟨by simp [Qp],J0 B E,hs⟩
 unfold KN;split
 ·exact⟨H.rl,fun x hx=>jU (H.rb x hx),H.fl,H.fb,H.ps,fun p hp=>⟨jU (H.pa p hp).1,(H.pa p hp).2⟩,jU H.pl,by have:=H.ll;simp only;omega,by have:=H.wl;simp only;omega,H.wo⟩
 ·obtain⟨h1,h2⟩:=Qjm (k:=(s,Q3 q e)) (v:=Qp q e) st.pn;have h3:=Qm1 (ks:=Qd q) (k:=(s,Q3 q e)) (v:=Qp q e) (o:=atP (s,Q3 q e) st.pn);have hpl:=H.pl;have hwl:=H.wl;refine⟨H.rl,fun x hx=>jU (H.rb x hx),H.fl,H.fb,?_,?_,by simp only;omega,by have:=H.ll;simp only;omega,?_,?_⟩
  ·rw [Wt];simp only;rw [QgB];exact Y8 _ (Wt.1 H.ps)
  ·intro p hp;rcases QbF hp with h|⟨rfl,_⟩|⟨p0,h,hk,rfl⟩
   ·obtain⟨q1,q2⟩:=H.pa p h;exact⟨by omega,q2⟩
   ·refine⟨by simp,hs.1,hs.2,fun r hr=>?_⟩
    rw [cD.1 hr];exact hv
   ·obtain⟨q1,q2,q3,q4⟩:=H.pa p0 h;refine⟨by simp;omega,hs.1,hs.2,fun r hr=>?_⟩
    rcases bU.1 hr with h5|h5
    ·have:=q4 r h5;rw [hk] at this;exact this
    ·rw [cD.1 h5];exact hv
  ·simp only [bO];omega
  ·intro w hw;rcases bU.1 hw with h|h
   ·exact H.wo w h
   ·refine QlU hv (fun p hp r hr=>?_) w h
    obtain⟨h5,h6⟩:=Qne hp;have:=(H.pa p h5).2.2.2 r hr;rw [h6] at this;exact this
theorem Vi {q:Qy}(B:QOk q){parts:Nat}{far:Int}{e:EvL}(E:Yb e):∀(ss:List Int) {N:Nat} {st:En},EnB q parts N st->(∀ s ∈ ss,-1000<=s/\s<=9999)->EnB q parts (N+ss.length) (ss.foldl (KN q far e) st)
 | [],N,st,H,_=>H
 | s :: ss,N,st,H,hs=>by
  have:=Vi (far:=far) B E ss (Qpl B H E (far:=far) (hs s (bY ..))) fun x hx=>hs x (bT _ hx)
  rw [cH,fW,show N+(ss.length+1)=N+1+ss.length by omega]
  exact this
theorem EnB.mono {q:Qy}{parts N M:Nat}{st:En}(H:EnB q parts N st)(h:N<=M):EnB q parts M st:=
 ⟨H.rl,fun x hx=>dK (H.rb x hx) h,H.fl,H.fb,H.ps,fun p hp=>⟨dK (H.pa p hp).1 h,(H.pa p hp).2⟩,dK H.pl h,dK H.ll h,by have:=H.wl;omega,H.wo⟩
theorem Qfv {q:Qy}(B:QOk q){parts N:Nat}{st:En}(H:EnB q parts N st){far:Int}{e:EvL}(E:Yb e):EnB q parts (N+1000) (Z7 q far e st):=by
 unfold Z7;split
 ·exact(Vi B E _ H (Jg B E)).mono (by have:=JQ B (e:=e);omega)
 ·exact H.mono (by omega)
theorem Qgi {q:Qy}{far:Int}{e:EvL}{st:En}{s:Int}:(KN q far e st s).rd=st.rd/\(KN q far e st s).far=st.far:=by
 unfold KN;split<;>exact⟨rfl,rfl⟩
theorem QeH {q:Qy}{far:Int}{e:EvL}:∀(ss:List Int)(st:En),(ss.foldl (KN q far e) st).rd=st.rd/\(ss.foldl (KN q far e) st).far=st.far
 | [],st=>⟨rfl,rfl⟩
 | s :: ss,st=>by
  have:=QeH (q:=q) (far:=far) (e:=e) ss (KN q far e st s);rw [Qgi.1,Qgi.2] at this;exact this
theorem Vz {q:Qy}{far:Int}{e:EvL}{st:En}:(Z7 q far e st).rd=st.rd/\(Z7 q far e st).far=st.far:=by
 unfold Z7;split
 ·exact QeH _ _
 ·exact⟨rfl,rfl⟩
theorem QjT {q:Qy}{parts N:Nat}{st:En}(H:EnB q parts N st){p:Nat}(hp:p<parts){e:EvL}(E:Yb e):EnB q parts (N+1) (XR p e st):=by
 have H':=H.mono (Nat.le_succ N);refine⟨by simp only [XR,dL];exact H.rl,fun x hx=>?_,by simp only [XR,QaI];exact H.fl,Qka _ _ _ H.fb E.t (by rw [H.fl];exact hp),H'.ps,H'.pa,H'.pl,H'.ll,H'.wl,H'.wo⟩
 simp only [XR] at hx;rcases gD hx with h|h
 ·exact H'.rb x h
 ·have:st.rd.getD p 0 ∈ st.rd:=by rw [bI,bD (by rw [H.rl];exact hp)];exact cM _
  have:=H.rb _ this;omega
theorem QcM (size upto:Int):∀ l:List Pn,(QbD size upto l).length+KO (XO size upto l)<=KO l
 | []=>by simp [QbD,KO,XO]
 | p :: l=>by
  have ih:=QcM size upto l;unfold QbD KO XO at *
  rw [dD,fO,fO,fO];obtain⟨k,rs,t⟩:=p;simp only;cases t
  ·cases hd:UX size upto ⟨k,rs,false⟩<;>simp [hd]<;>omega
  ·cases hd:UX size upto ⟨k,rs,true⟩<;>simp [hd]<;>omega
theorem Qla {q:Qy}{parts N:Nat}{st:En}(H:EnB q parts N st):EnB q parts N (Jc q st):=by
 unfold Jc;split
 ·generalize (Zm q.delay st.far).1=u;have hk:(XO q.size u st.pn).map (·.k)=st.pn.map (·.k):=by unfold XO;rw [fH];rfl
  have hsub:(QaX q.size (u-q.late) (XO q.size u st.pn)).Sublist (XO q.size u st.pn):=List.filter_sublist;have hlen:(XO q.size u st.pn).length=st.pn.length:=by unfold XO;rw [bQ]
  have hu:=QcM q.size u st.pn;have hu2:KO (QaX q.size (u-q.late) (XO q.size u st.pn))<=KO (XO q.size u st.pn):=(hsub.filter _).length_le;have hpl:=H.pl;have hwl:=H.wl;refine⟨H.rl,H.rb,H.fl,H.fb,?_,?_,?_,H.ll,?_,?_⟩
  ·have:(XO q.size u st.pn).Pairwise fun a b=>Qt a.k b.k:=by rw [Wt,hk];exact Wt.1 H.ps
   exact this.sublist hsub
  ·intro p hp;have:=hsub.mem hp;unfold XO at this;obtain⟨p0,h0,rfl⟩:=cZ.1 this;exact H.pa p0 h0
  ·have:=hsub.length_le;simp only;omega
  ·simp only [bO,bQ];omega
  ·intro w hw;rcases bU.1 hw with h|h
   ·exact H.wo w h
   ·obtain⟨p,hp,rfl⟩:=cZ.1 h;exact Qcq (H.pa p (d8.1 hp).1).2.2.2
 ·exact H
theorem Qoq {q:Qy}(B:QOk q){parts N:Nat}{st:En}(H:EnB q parts N st){p:Nat}(hp:p<parts){e:EvL}(E:Yb e):EnB q parts (N+1001) (Xv q p e st):=
 Qla (QjT (Qfv B H E) hp E)
theorem Qlm (q:Qy)(parts:Nat):EnB q parts 0 (Ja parts):=by
 unfold Ja;exact⟨dQ ..,fun x hx=>by rw [fQ hx];exact cB _,dQ ..,fun x hx=>by rw [fQ hx];decide,List.Pairwise.nil,fun p hp=>(by cases hp),cB _,cB _,by simp [KO],fun w hw=>(by cases hw)⟩
theorem Qcu {u0:OaT}{u1 u2:Nat}{h:Hp}{R:RtT}(H:∃ b1 o2,((decide ((u1:Int)=1))=true->Ix u0 b1 o2 0 u1)/\∃ x3,((decide ((u1:Int)=1))=true->Hp.cell h b1 (o2+(0:Int).toNat*6)=some (vi x3))/\((cond (decide ((u1:Int)=1)) (decide (x3=1)) false)=true->∃ b4 o5,Ix u0 b4 o5 0 u1/\∃ x6 x7,Hp.row h b4 ((o5+(0:Int).toNat*6)+4) 2=some [vi x6,vi x7]/\R (Qf [vag [vi x6,vi x7],vb true]) h)/\((cond (decide ((u1:Int)=1)) (decide (x3=1)) false)=false->R (Qf [vag [vi 0,vi 0],vb false]) h)):Qa Pg 221 [vsl u0 u1 u2] h R:=callO Tryz.func221 [.one (.v (vsl u0 u1 u2))] H
theorem QkI {u0:Int}{u1:Int}{h:Hp}{R:RtT}(H:∀ b1,h b1=none->let h2:=Hp.set h b1 (Qb [vi 1,vi 0,vi 0,vi 0,vi u0,vi u1] 250);R (vsl (some ⟨b1,0,none⟩) 1 1) h2 ):Qa Pg 222 [vag [vi u0,vi u1]] h R:=callO Tryz.func222 [.ag [.v (vi u0),.v (vi u1)]] H
theorem QeW {u0:OaT}{u1 u2:Nat}{h:Hp}{R:RtT}(H:Qa Pg 204 [vsl u0 u1 u2] h fun v1 h2=>∃ x3 e4,v1=Qf [vi x3,ifv e4]/\R (vb (cond (Option.isNone e4) (decide (x3≠1)) false)) h2 ):Qa Pg 224 [vsl u0 u1 u2] h R:=callO Tryz.func224 [.one (.v (vsl u0 u1 u2))] H
theorem Qdu {u0:OaT}{u1 u2:Nat}{h:Hp}{R:RtT}(H:Qa Pg 204 [vsl u0 u1 u2] h fun v1 h2=>∃ x3 e4,v1=Qf [vi x3,ifv e4]/\R (vb (cond (Option.isNone e4) (decide (x3≠2)) false)) h2 ):Qa Pg 226 [vsl u0 u1 u2] h R:=callO Tryz.func226 [.one (.v (vsl u0 u1 u2))] H
theorem Qd0 {u0:Int}{u1:OaT}{u2 u3:Nat}{h:Hp}{R:RtT}(H:Qa Pg 221 [vsl u1 u2 u3] h fun v1 h2=>∃ x3 x4 p5,v1=Qf [vag [vi x3,vi x4],vb p5]/\(p5=true->Qa Pg 222 [vag [vi x3,vi x4]] h2 fun v6 h7=>∃ a8 n8 c8,v6=vsl a8 n8 c8/\Qa Pg 223 [vi u0,vsl a8 n8 c8,vsl none 0 0] h7 fun v9 h10=>∃ a11 n11 c11,v9=vsl a11 n11 c11/\Qa Pg 109 [vsl a11 n11 c11,vag [vi 0,vi 0,vi 0,vi 0,vi 0,vi 0,vi 0]] h10 fun v12 h13=>∃ x14 x15,v12=vag [vi x14,vi x15]/\Qa Pg 222 [vag [vi x14,vi x15]] h13 fun v16 h17=>∃ a18 n18 c18,v16=vsl a18 n18 c18/\R (vsl a18 n18 c18) h17)/\(p5=false->∃ x20,IsW x20 ((u2:Int)-1)/\∃ b21 o22,Ix u1 b21 o22 x20 u2/\∃ x23 x24 x25 x26 x27 x28,Hp.row h2 b21 (o22+x20.toNat*6) 6=some [vi x23,vi x24,vi x25,vi x26,vi x27,vi x28]/\∃(J29:ShT),((cond (decide (u0=4)) (decide (x23=4)) false)=true->Qa Pg 225 [vsl u1 u2 u3,vi x24] h2 fun v30 h31=>∃ a32 n32 c32,v30=vsl a32 n32 c32/\J29 (.t (.one (.v (vsl a32 n32 c32)))) h31)/\(¬((cond (decide (u0=4)) (decide (x23=4)) false)=true)->J29 (.t (.one (.v (vsl none 0 0)))) h2)/\∀ h33 a34 n34 c34,J29 (.t (.one (.v (vsl a34 n34 c34)))) h33->∃(J35:ShT),((cond (decide (u0=4)) (decide (x23=4)) false)=true->Qa Pg 224 [vsl a34 n34 c34] h33 fun v36 h37=>∃ p38,v36=vb p38/\J35 (.t (.one (.v (vb p38)))) h37)/\(¬((cond (decide (u0=4)) (decide (x23=4)) false)=true)->J35 (.t (.one (.v (vb false)))) h33)/\∀ h39 p40,J35 (.t (.one (.v (vb p40)))) h39->let J55:Bool->Hp->Prop:=fun p57 h58=>((p57=true->Qa Pg 225 [vsl u1 u2 u3,vi x24] h58 fun v59 h60=>∃ a61 n61 c61,v59=vsl a61 n61 c61/\R (vsl a61 n61 c61) h60)/\(p57=false->Qa Pg 223 [vi u0,vsl u1 u2 u3,vsl none 0 0] h58 fun v63 h64=>∃ a65 n65 c65,v63=vsl a65 n65 c65/\R (vsl a65 n65 c65) h64));((cond (cond (decide (u0=4)) (decide (x23=4)) false) p40 false)=true->J55 (cond (cond (decide (u0=4)) (decide (x23=4)) false) p40 false) h39)/\((cond (cond (decide (u0=4)) (decide (x23=4)) false) p40 false)=false->∃(J42:ShT),((cond (decide (u0=3)) (decide (x23=3)) false)=true->Qa Pg 225 [vsl u1 u2 u3,vi x24] h39 fun v43 h44=>∃ a45 n45 c45,v43=vsl a45 n45 c45/\J42 (.t (.one (.v (vsl a45 n45 c45)))) h44)/\(¬((cond (decide (u0=3)) (decide (x23=3)) false)=true)->J42 (.t (.one (.v (vsl none 0 0)))) h39)/\∀ h46 a47 n47 c47,J42 (.t (.one (.v (vsl a47 n47 c47)))) h46->∃(J48:ShT),((cond (decide (u0=3)) (decide (x23=3)) false)=true->Qa Pg 226 [vsl a47 n47 c47] h46 fun v49 h50=>∃ p51,v49=vb p51/\J48 (.t (.one (.v (vb p51)))) h50)/\(¬((cond (decide (u0=3)) (decide (x23=3)) false)=true)->J48 (.t (.one (.v (vb false)))) h46)/\∀ h52 p53,J48 (.t (.one (.v (vb p53)))) h52->J55 (cond (cond (decide (u0=3)) (decide (x23=3)) false) p53 false) h52))):Qa Pg 181 [vi u0,vsl u1 u2 u3] h R:=callO Tryz.func181 [.one (.v (vi u0)),.one (.v (vsl u1 u2 u3))] H
theorem QeC {u0:Int}{u1:OaT}{u2 u3:Nat}{u4:Int}{u5:Int}{u6:Bool}{h:Hp}{R:RtT}(H:∃(J1:ShT),((decide (u0=9))=true->Qa Pg 110 [vb true] h fun v2 h3=>∃ x4 x5,v2=vag [vi x4,vi x5]/\J1 (.t (.ag [.v (vi x4),.v (vi x5)])) h3)/\(¬((decide (u0=9))=true)->J1 (.t (.ag [.v (vi 0),.v (vi 0)])) h)/\∀ h6 x7 x8,J1 (.t (.ag [.v (vi x7),.v (vi x8)])) h6->∃ p9,((decide (u0=9))=true->RdG .eql 54 (.tmp 14) (.tmp 15) (vag [vi u4,vi u5]) (vag [vi x7,vi x8]) h6 (vb p9))/\∃(J10:ShT),(((cond (decide (u0=9)) p9 false)=false/\(decide (u0=10))=true)->Qa Pg 110 [vb false] h6 fun v11 h12=>∃ x13 x14,v11=vag [vi x13,vi x14]/\J10 (.t (.ag [.v (vi x13),.v (vi x14)])) h12)/\(¬((cond (decide (u0=9)) p9 false)=false/\(decide (u0=10))=true)->J10 (.t (.ag [.v (vi 0),.v (vi 0)])) h6)/\∀ h15 x16 x17,J10 (.t (.ag [.v (vi x16),.v (vi x17)])) h15->∃ p18,(((cond (decide (u0=9)) p9 false)=false/\(decide (u0=10))=true)->RdG .eql 54 (.tmp 22) (.tmp 23) (vag [vi u4,vi u5]) (vag [vi x16,vi x17]) h15 (vb p18))/\∃(J19:ShT),((cond (cond (decide (u0=9)) p9 false) true (cond (decide (u0=10)) p18 false))=true->Qa Pg 224 [vsl u1 u2 u3] h15 fun v20 h21=>∃ p22,v20=vb p22/\J19 (.t (.one (.v (vb p22)))) h21)/\(¬((cond (cond (decide (u0=9)) p9 false) true (cond (decide (u0=10)) p18 false))=true)->J19 (.t (.one (.v (vb false)))) h15)/\∀ h23 p24,J19 (.t (.one (.v (vb p24)))) h23->((cond (cond (cond (decide (u0=9)) p9 false) true (cond (decide (u0=10)) p18 false)) p24 false)=true->R (Qf [vsl u1 u2 u3,vb true]) h23)/\((cond (cond (cond (decide (u0=9)) p9 false) true (cond (decide (u0=10)) p18 false)) p24 false)=false->∃(J25:ShT),((decide (u0=9))=true->Qa Pg 110 [vb false] h23 fun v26 h27=>∃ x28 x29,v26=vag [vi x28,vi x29]/\J25 (.t (.ag [.v (vi x28),.v (vi x29)])) h27)/\(¬((decide (u0=9))=true)->J25 (.t (.ag [.v (vi 0),.v (vi 0)])) h23)/\∀ h30 x31 x32,J25 (.t (.ag [.v (vi x31),.v (vi x32)])) h30->∃ p33,((decide (u0=9))=true->RdG .eql 54 (.tmp 36) (.tmp 37) (vag [vi u4,vi u5]) (vag [vi x31,vi x32]) h30 (vb p33))/\let J45:Bool->Hp->Prop:=fun p47 h48=>((p47=true->Qa Pg 222 [vag [vi u4,vi u5]] h48 fun v49 h50=>∃ a51 n51 c51,v49=vsl a51 n51 c51/\R (Qf [vsl a51 n51 c51,vb true]) h50)/\(p47=false->∃(J52:ShT),((decide (u0=6))=true->Qa Pg 197 [vi 0] h48 fun v53 h54=>∃ x55 x56,v53=vag [vi x55,vi x56]/\J52 (.t (.ag [.v (vi x55),.v (vi x56)])) h54)/\(¬((decide (u0=6))=true)->J52 (.t (.ag [.v (vi 0),.v (vi 0)])) h48)/\∀ h57 x58 x59,J52 (.t (.ag [.v (vi x58),.v (vi x59)])) h57->∃ p60,((decide (u0=6))=true->RdG .eql 54 (.tmp 53) (.tmp 54) (vag [vi u4,vi u5]) (vag [vi x58,vi x59]) h57 (vb p60))/\∃(J61:ShT),(((cond (decide (u0=6)) p60 false)=false/\(decide (u0=8))=true)->Qa Pg 197 [vi 1] h57 fun v62 h63=>∃ x64 x65,v62=vag [vi x64,vi x65]/\J61 (.t (.ag [.v (vi x64),.v (vi x65)])) h63)/\(¬((cond (decide (u0=6)) p60 false)=false/\(decide (u0=8))=true)->J61 (.t (.ag [.v (vi 0),.v (vi 0)])) h57)/\∀ h66 x67 x68,J61 (.t (.ag [.v (vi x67),.v (vi x68)])) h66->∃ p69,(((cond (decide (u0=6)) p60 false)=false/\(decide (u0=8))=true)->RdG .eql 54 (.tmp 61) (.tmp 62) (vag [vi u4,vi u5]) (vag [vi x67,vi x68]) h66 (vb p69))/\∃(J70:ShT),(((cond (cond (decide (u0=6)) p60 false) true (cond (decide (u0=8)) p69 false))=false/\(cond (decide (u0=7)) u6 false)=true)->Qa Pg 197 [vi 0] h66 fun v71 h72=>∃ x73 x74,v71=vag [vi x73,vi x74]/\J70 (.t (.ag [.v (vi x73),.v (vi x74)])) h72)/\(¬((cond (cond (decide (u0=6)) p60 false) true (cond (decide (u0=8)) p69 false))=false/\(cond (decide (u0=7)) u6 false)=true)->J70 (.t (.ag [.v (vi 0),.v (vi 0)])) h66)/\∀ h75 x76 x77,J70 (.t (.ag [.v (vi x76),.v (vi x77)])) h75->∃ p78,(((cond (cond (decide (u0=6)) p60 false) true (cond (decide (u0=8)) p69 false))=false/\(cond (decide (u0=7)) u6 false)=true)->RdG .eql 54 (.tmp 73) (.tmp 74) (vag [vi u4,vi u5]) (vag [vi x76,vi x77]) h75 (vb p78))/\∃(J79:ShT),((cond (cond (cond (decide (u0=6)) p60 false) true (cond (decide (u0=8)) p69 false)) true (cond (cond (decide (u0=7)) u6 false) p78 false))=true->Qa Pg 226 [vsl u1 u2 u3] h75 fun v80 h81=>∃ p82,v80=vb p82/\J79 (.t (.one (.v (vb p82)))) h81)/\(¬((cond (cond (cond (decide (u0=6)) p60 false) true (cond (decide (u0=8)) p69 false)) true (cond (cond (decide (u0=7)) u6 false) p78 false))=true)->J79 (.t (.one (.v (vb false)))) h75)/\∀ h83 p84,J79 (.t (.one (.v (vb p84)))) h83->((cond (cond (cond (cond (decide (u0=6)) p60 false) true (cond (decide (u0=8)) p69 false)) true (cond (cond (decide (u0=7)) u6 false) p78 false)) p84 false)=true->R (Qf [vsl u1 u2 u3,vb true]) h83)/\((cond (cond (cond (cond (decide (u0=6)) p60 false) true (cond (decide (u0=8)) p69 false)) true (cond (cond (decide (u0=7)) u6 false) p78 false)) p84 false)=false->((cond (cond (decide (u0≠9)) (decide (u0≠10)) false) (decide (u4=0)) false)=true->Qa Pg 222 [vag [vi u4,vi u5]] h83 fun v85 h86=>∃ a87 n87 c87,v85=vsl a87 n87 c87/\R (Qf [vsl a87 n87 c87,vb true]) h86)/\((cond (cond (decide (u0≠9)) (decide (u0≠10)) false) (decide (u4=0)) false)=false->R (Qf [vsl none 0 0,vb false]) h83))));((cond (decide (u0=9)) p33 false)=true->J45 (cond (decide (u0=9)) p33 false) h30)/\((cond (decide (u0=9)) p33 false)=false->∃(J35:ShT),((decide (u0=10))=true->Qa Pg 110 [vb true] h30 fun v36 h37=>∃ x38 x39,v36=vag [vi x38,vi x39]/\J35 (.t (.ag [.v (vi x38),.v (vi x39)])) h37)/\(¬((decide (u0=10))=true)->J35 (.t (.ag [.v (vi 0),.v (vi 0)])) h30)/\∀ h40 x41 x42,J35 (.t (.ag [.v (vi x41),.v (vi x42)])) h40->∃ p43,((decide (u0=10))=true->RdG .eql 54 (.tmp 43) (.tmp 44) (vag [vi u4,vi u5]) (vag [vi x41,vi x42]) h40 (vb p43))/\J45 (cond (decide (u0=10)) p43 false) h40))):Qa Pg 227 [vi u0,vsl u1 u2 u3,vag [vi u4,vi u5],vb u6] h R:=callC ⟨[],[],[(1,[0,1,2,3,4,5,6,7,8,9,10,11,12,13,14,15,16,17,18,19,20]),(3,[0,1,2,3,4,5,6,7]),(4,[0,1,2,3,4,5,6,7]),(6,[0,1,2,3,4,5,6,7,8,9,10,11,12,13,14,15,16,17,18,19,20,21,22,23,24,25,26,27,28,29,30,31,32])]⟩ Tryz.func227 [.one (.v (vi u0)),.one (.v (vsl u1 u2 u3)),.ag [.v (vi u4),.v (vi u5)],.one (.v (vb u6))] H
theorem Qef {u0:Int}{u1:OaT}{u2 u3:Nat}{u4:OaT}{u5 u6:Nat}{h:Hp}{R:RtT}(H:Qa Pg 221 [vsl u1 u2 u3] h fun v1 h2=>∃ x3 x4 p5,v1=Qf [vag [vi x3,vi x4],vb p5]/\Qa Pg 221 [vsl u4 u5 u6] h2 fun v6 h7=>∃ x8 x9 p10,v6=Qf [vag [vi x8,vi x9],vb p10]/\((cond p5 p10 false)=true->Qa Pg 165 [vi u0,vag [vi x3,vi x4],vag [vi x8,vi x9]] h7 fun v11 h12=>∃ x13 x14,v11=vag [vi x13,vi x14]/\Qa Pg 222 [vag [vi x13,vi x14]] h12 fun v15 h16=>∃ a17 n17 c17,v15=vsl a17 n17 c17/\R (vsl a17 n17 c17) h16)/\((cond p5 p10 false)=false->let J25:HpT:=fun h26=>(let J33:HpT:=fun h34=>(Qa Pg 223 [vi u0,vsl u1 u2 u3,vsl u4 u5 u6] h34 fun v35 h36=>∃ a37 n37 c37,v35=vsl a37 n37 c37/\R (vsl a37 n37 c37) h36);(p10=true->Qa Pg 227 [vi u0,vsl u1 u2 u3,vag [vi x8,vi x9],vb true] h26 fun v27 h28=>∃ a29 n29 c29 p30,v27=Qf [vsl a29 n29 c29,vb p30]/\(p30=true->R (vsl a29 n29 c29) h28)/\(p30=false->J33 h28))/\(p10=false->J33 h26));(p5=true->Qa Pg 227 [vi u0,vsl u4 u5 u6,vag [vi x3,vi x4],vb false] h7 fun v19 h20=>∃ a21 n21 c21 p22,v19=Qf [vsl a21 n21 c21,vb p22]/\(p22=true->R (vsl a21 n21 c21) h20)/\(p22=false->J25 h20))/\(p5=false->J25 h7))):Qa Pg 182 [vi u0,vsl u1 u2 u3,vsl u4 u5 u6] h R:=callO Tryz.func182 [.one (.v (vi u0)),.one (.v (vsl u1 u2 u3)),.one (.v (vsl u4 u5 u6))] H
theorem Qg5 {u0:OaT}{u1 u2:Nat}{h:Hp}{R:RtT}(H:∃(I2:LtT)(m3:LmT),I2 [vsl none 0 0,vi 0] h/\∀ vs4 h5,I2 vs4 h5->∃ a6 n6 c6 x7,vs4=[vsl a6 n6 c6,vi x7]/\((decide (x7<(u1:Int)))=true->∃ b10 o11,Ix u0 b10 o11 x7 u1/\∃ x12 x13 x14 x15 x16 x17,Hp.row h5 b10 (o11+x7.toNat*6) 6=some [vi x12,vi x13,vi x14,vi x15,vi x16,vi x17]/\Qa Pg 180 [vi x12] h5 fun v18 h19=>∃ x20,v18=vi x20/\∃ x21,IsW x21 ((n6:Int)-x20)/\∃ a22 n22 c22,Rd Pg (Instr.sliceAt 265 (vsl a6 n6 c6) (some (vi x21)) none none) h19 (vsl a22 n22 c22)/\let J43:OaT->Nat->Nat->Hp->Prop:=fun a46 n46 c46 h47=>(∃ a48 n48 c48,Rd Pg (Instr.sliceAt 265 (vsl a6 n6 c6) none (some (vi x21)) (some (vi x21))) h47 (vsl a48 n48 c48)/\∀ b49,h47 b49=none->let h50:=Hp.set h47 b49 (Qb [vsl a46 n46 c46] 28);Qh Pg (Builtin.append_ #[265,265] 265 #[vsl a48 n48 c48,(vsl (some ⟨b49,0,none⟩) 1 1)]) h50 fun v51 h52=>∃ a53 n53 c53,v51=vsl a53 n53 c53/\∃ x55,IsW x55 (x7+1)/\I2 [vsl a53 n53 c53,vi x55] h52/\m3 [vsl a53 n53 c53,vi x55] h52<m3 vs4 h5);((decide ((n22:Int)=0))=true->∀ b23,h19 b23=none->let h24:=Hp.set h19 b23 (Qb [vi x12,vi x13,vi x14,vi x15,vi x16,vi x17] 250);J43 (some (⟨b23,0,none⟩:Addr)) 1 1 h24)/\((decide ((n22:Int)=0))=false->((decide ((n22:Int)=1))=true->∃ b26 o27,Ix a22 b26 o27 0 n22/\∃ a28 n28 c28,Hp.cell h19 b26 (o27+(0:Int).toNat*1)=some (vsl a28 n28 c28)/\Qa Pg 181 [vi x12,vsl a28 n28 c28] h19 fun v29 h30=>∃ a31 n31 c31,v29=vsl a31 n31 c31/\J43 a31 n31 c31 h30)/\((decide ((n22:Int)=1))=false->∃ b33 o34,Ix a22 b33 o34 0 n22/\∃ a35 n35 c35,Hp.cell h19 b33 (o34+(0:Int).toNat*1)=some (vsl a35 n35 c35)/\∃ b36 o37,Ix a22 b36 o37 1 n22/\∃ a38 n38 c38,Hp.cell h19 b36 (o37+(1:Int).toNat*1)=some (vsl a38 n38 c38)/\Qa Pg 182 [vi x12,vsl a35 n35 c35,vsl a38 n38 c38] h19 fun v39 h40=>∃ a41 n41 c41,v39=vsl a41 n41 c41/\J43 a41 n41 c41 h40)))/\((decide (x7<(u1:Int)))=false->∃ b56 o57,Ix a6 b56 o57 0 n6/\∃ a58 n58 c58,Hp.cell h5 b56 (o57+(0:Int).toNat*1)=some (vsl a58 n58 c58)/\R (vsl a58 n58 c58) h5)):Qa Pg 125 [vsl u0 u1 u2] h R:=callC ⟨[],[(3,([3,11],[.one (.slice),.one (.int .i64)],[]))],[(13,[0,1,2,3,4,5,6]),(9,[0,1,2,3,4,5,6,7,8,9])]⟩ Tryz.func125 [.one (.v (vsl u0 u1 u2))] H
theorem QdM {β:Type}{d:β}{F:Nd->β->β->β}(hF:Qos F)(hS:∀(k:Int) n a b,F (shN k n) a b=F n a b){op:Int}(ho:1<=arI op){l m:List Nd}(W:WfL l)(W':WfL m)(hl:0<l.length)(hm:2<=arI op->0<m.length) :
  ∃ y,fAt d F (Ye op l m) (l.length+m.length)=F ⟨op,(l.length:Int)-1,y,0,(0,0)⟩ (fAt d F l (l.length-1)) (if arI op=2 then fAt d F m (m.length-1) else fAt d F l (l.length-1)):=by
 have ha:=ar0 (op:=op) (by omega)
 have WJ:=WfL.join (op:=op) (by omega) W W' hl hm (by omega)
 have hj:(Ye op l m)[l.length+m.length]?=some ⟨op,(l.length:Int)-1,if 1<arI op then((l.length+m.length:Nat):Int)-1 else 0,0,(0,0)⟩:=by
  unfold Ye;rw [dP (by simp)]
  simp
 refine⟨if 1<arI op then((l.length+m.length:Nat):Int)-1 else 0,(YX hF hj (WJ _ _ hj)).trans ?_⟩
 refine hF _ _ _ _ _ (by simp only;omega) (fun _=>?_) fun h2=>?_
 ·simp only;rw [show ((l.length:Int)-1).toNat=l.length-1 by omega]
  unfold Ye;rw [bX];exact Qhm _ _ (by omega)
 ·simp only at h2 ⊢;have h2':arI op=2:=by rcases Zb (op:=op) (by omega) with q|q|q<;>omega
  rw [bJ (by omega:1<arI op),bJ h2']
  have:=hm h2;rw [show (((l.length+m.length:Nat):Int)-1).toNat=l.length+(m.length-1) by omega]
  exact Qoh hF hS W' l _ _ (by omega)
theorem Qay:WfL ([]:List Nd):=by intro i n hn;cases hn
theorem Rep.pos {P:EvL->Int × Int}{T:Option Int}{k:Nat}{z:List Nd}(R:Rep P T k z):0<z.length:=R.ok.pos
theorem Qgd {op:Int}{a b:Option Int}{t:Int}(h:tyG op a b=some t):∃ x y,a=some x/\b=some y:=by
 cases a with
 | none=>cases b<;>cases h
 | some x=>
  cases b with
  | none=>cases h
  | some y=>exact⟨x,y,rfl,rfl⟩
theorem Qjt {op x y x' y' t:Int}(h:tyG op (some x) (some y)=some t)(hx:x'=0\/x'=x)(hy:y'=0\/y'=y):tyG op (some x') (some y')=some t:=by
 unfold tyG at h ⊢;simp only at h ⊢;split at h
 ·rename_i h1;rw [bJ h1];exact h
 ·rename_i h1;rw [bE h1];split at h
  ·cases h
  ·rename_i h2;rw [bE (by omega)]
   exact h
theorem Rep.join2 {P Q:EvL->Int × Int}{T U:Option Int}{k j:Nat}{x y:List Nd}{op:Int}(ho:arI op=2)(A:Rep P T k x)(B:Rep Q U j y):Rep (fun e=>opV op (P e) (Q e)) (tyG op T U) (k+j+1) (Ye op x y):=by
 have ar:=ar0 (op:=op) (by omega)
 have hp:=A.pos;have hq:=B.pos;have hA:=A.len;have hB:=B.len;refine⟨Jk (Qkp ho A.ok B.ok),by rw [ZB];omega,fun e E=>?_,fun t ht=>?_⟩
 ·rw [QkK e ho A.ok.wf B.ok.wf hp hq,A.val e E,B.val e E];unfold opV;rw [bE (by omega),bE (by omega),bE (by omega)]
 ·obtain⟨tx,ty,rfl,rfl⟩:=Qgd ht;obtain⟨tx',e1,h1⟩:=A.ty tx rfl;obtain⟨ty',e2,h2⟩:=B.ty ty rfl;obtain⟨y',hy⟩:=QdM (d:=none) (F:=tyF) XU (fun _ _ _ _=>rfl) (op:=op) (by omega) A.ok.wf B.ok.wf hp (fun _=>hq)
  rw [ZB,show x.length+y.length+1-1=x.length+y.length by omega]
  refine⟨t,?_,.inr rfl⟩
  rw [tAt,hy,KQ (by simp only;omega) (by simp only;omega)]
  simp only;rw [bJ ho,bJ ho,show fAt none tyF x (x.length-1)=some tx' from e1,show fAt none tyF y (y.length-1)=some ty' from e2]
  exact Qjt ht h1 h2
theorem Rep.join1 {P:EvL->Int × Int}{T:Option Int}{k:Nat}{x:List Nd}{op:Int}(ho:arI op=1)(A:Rep P T k x):Rep (fun e=>opV op (P e) (P e)) (tyG op T T) (k+1) (Ye op x []):=by
 have ar:=ar0 (op:=op) (by omega)
 have hp:=A.pos;have hA:=A.len;refine⟨Jk (Qkt ho A.ok),by rw [ZB];simp;omega,fun e E=>?_,fun t ht=>?_⟩
 ·obtain⟨y',hy⟩:=QdM (d:=(0,0)) (F:=Wf e) (Xp e) (QjC e) (op:=op) (by omega) A.ok.wf Qay hp (fun h=>by omega)
  unfold ZM;rw [ZB,show x.length+([]:List Nd).length+1-1=x.length+([]:List Nd).length by omega,vAt,hy,Mf e (by simp only;omega) (by simp only;omega),bE (by omega)]
  have:=A.val e E;unfold ZM vAt at this;rw [this]
 ·obtain⟨tx,ty,rfl,h2⟩:=Qgd ht;obtain⟨tx',e1,h1⟩:=A.ty tx rfl;obtain⟨y',hy⟩:=QdM (d:=none) (F:=tyF) XU (fun _ _ _ _=>rfl) (op:=op) (by omega) A.ok.wf Qay hp (fun h=>by omega)
  rw [ZB,show x.length+([]:List Nd).length+1-1=x.length+([]:List Nd).length by omega]
  refine⟨t,?_,.inr rfl⟩
  rw [tAt,hy,KQ (by simp only;omega) (by simp only;omega)]
  simp only;rw [show fAt none tyF x (x.length-1)=some tx' from e1]
  simp only [ho,show ¬(1:Int)=2 by decide,kF]
  exact Qjt ht h1 h1
theorem QlZ {v:Int × Int}(h:Qq v)(h1:v.1≠1):VW (VW v)=v:=by
 obtain⟨a,b⟩:=v;have:(a=0/\b=0)\/(a=2/\b=0)\/(a=2/\b=1):=by
  unfold Qq at h;simp only at h h1;omega
 rcases this with ⟨rfl,rfl⟩|⟨rfl,rfl⟩|⟨rfl,rfl⟩<;>decide
theorem QeD {n:Int}(h:-1000000000<=n/\n<=1000000000):Kd (w64 n)=(1,n):=by
 rw [QpU (by unfold InR;omega)]
 unfold Kd;rw [bE (by omega)]
theorem QoI {v:Int × Int}(h:Qq v)(h1:v.1≠2):Qds (Qds v)=v:=by
 obtain⟨a,b⟩:=v;have:(a=0/\b=0)\/(a=1/\-1000000000<=b/\b<=1000000000):=by
  unfold Qq at h;simp only at h h1;omega
 rcases this with ⟨rfl,rfl⟩|⟨rfl,hb⟩
 ·decide
 ·have e1:Qds (1,b)=(1,-b):=by unfold Qds;rw [bJ rfl];exact QeD (by simp only;omega)
  rw [e1];unfold Qds;rw [bJ rfl];have:=QeD (n:=- -b) (by omega)
  simp only;rw [this];simp
theorem QqA {v:Int × Int}(h:Qq v)(h1:v.1≠1):v=(0,0)\/v=(2,0)\/v=(2,1):=by
 obtain⟨a,b⟩:=v;unfold Qq at h;simp only [fC] at *
 omega
theorem Qk9 {v:Int × Int}(h:Qq v)(h1:v.1≠1):doV 9 v (2,1)=v/\doV 9 (2,1) v=v:=by
 rcases QqA h h1 with rfl|rfl|rfl<;>decide
theorem QpQ {v:Int × Int}(h:Qq v)(h1:v.1≠1):doV 10 v (2,0)=v/\doV 10 (2,0) v=v:=by
 rcases QqA h h1 with rfl|rfl|rfl<;>decide
theorem Qoo (v:Int × Int):doV 9 v (2,0)=(2,0)/\doV 9 (2,0) v=(2,0):=by
 unfold doV Qdk;simp
theorem Qjr (a b:Int × Int):doV 10 a b=VW (Qdk (VW a) (VW b)):=by
 unfold doV;rw [bE (by decide),bJ rfl]
theorem Qod (v:Int × Int):doV 10 v (2,1)=(2,1)/\doV 10 (2,1) v=(2,1):=by
 rw [Qjr,Qjr];have e:VW (2,1)=(2,0):=by decide
 rw [e];unfold Qdk;constructor
 ·rw [bJ (.inr rfl)];decide
 ·rw [bJ (.inl rfl)];decide
theorem QlG {op:Int}(h9:op≠9)(h10:op≠10){a b:Int × Int}(h:a.1=0\/b.1=0):doV op a b=(0,0):=by
 unfold doV;rw [bE h9,bE h10,bE (by omega)]
theorem QbO {v:Int × Int}(h:Qq v)(h1:v.1≠2):v=(0,0)\/∃ n,v=(1,n)/\-1000000000<=n/\n<=1000000000:=by
 obtain⟨a,b⟩:=v;unfold Qq at h;simp only at h h1;rcases h with ⟨rfl,rfl⟩|⟨rfl,hb⟩|⟨h2,_⟩
 ·exact .inl rfl
 ·exact .inr ⟨b,rfl,hb⟩
 ·exact absurd h2 h1
theorem QpO {v:Int × Int}(h:Qq v)(h1:v.1≠2):doV 6 v (1,0)=v/\doV 6 (1,0) v=v:=by
 rcases QbO h h1 with rfl|⟨n,rfl,hn⟩
 ·decide
 ·unfold doV;simp only [show ¬(6:Int)=9 by decide,show ¬(6:Int)=10 by decide,kF,and_self,qI,Int.add_zero,Int.zero_add]
  exact QeD hn
theorem QpK {v:Int × Int}(h:Qq v)(h1:v.1≠2):doV 8 v (1,1)=v/\doV 8 (1,1) v=v:=by
 rcases QbO h h1 with rfl|⟨n,rfl,hn⟩
 ·decide
 ·unfold doV;simp only [show ¬(8:Int)=9 by decide,show ¬(8:Int)=10 by decide,show ¬(8:Int)=6 by decide,show ¬(8:Int)=7 by decide,kF,and_self,qI,Int.mul_one,Int.one_mul]
  exact QeD hn
theorem QqC {v:Int × Int}(h:Qq v)(h1:v.1≠2):doV 7 v (1,0)=v:=by
 rcases QbO h h1 with rfl|⟨n,rfl,hn⟩
 ·decide
 ·unfold doV;simp only [show ¬(7:Int)=9 by decide,show ¬(7:Int)=10 by decide,show ¬(7:Int)=6 by decide,kF,and_self,qI,Int.sub_zero]
  exact QeD hn
theorem Qm8 {x:List Nd}(O:OkE x){n:Nd}(hx:x[x.length-1]?=some n)(ha:arI n.op=1) :
  2<=x.length/\n.x=(x.length:Int)-2/\Blk x 0 (x.length-1)/\OkE (Z0 x 0 (x.length-1))/\(∀ e,ZM e x=opV n.op (ZM e (Z0 x 0 (x.length-1))) (ZM e (Z0 x 0 (x.length-1))))/\tAt x (x.length-1)=tyG n.op (tAt x (x.length-2)) (tAt x (x.length-2))/\tAt (Z0 x 0 (x.length-1)) ((Z0 x 0 (x.length-1)).length-1)=tAt x (x.length-2):=by
 have hp:=O.pos;have W:=O.wf _ _ hx;have ar:=ar0 W.a;have key:∀{e:Nat},Blk x 0 e->e=x.length->Blk x 0 (x.length-1)/\n.x=(x.length:Int)-2:=by
  intro e B he;cases B with
  | @leaf i m h h0=>
   rw [show x.length-1=0 by omega,h] at hx
   cases hx;omega
  | @one f i m B h h0 hxx=>
   obtain rfl:i=x.length-1:=by omega
   rw [h] at hx;cases hx;exact⟨B,by omega⟩
  | @two f g i m B B' h h0 hxx hyy=>
   obtain rfl:i=x.length-1:=by omega
   rw [h] at hx;cases hx;omega
 obtain⟨B,hnx⟩:=key O.b rfl;have hB:=B.lt;have ec:Z0 x 0 (x.length-1)=x.take (x.length-1):=by
  unfold Z0 seg;rw [qD,pM];exact QhV _
 have OC:=Jk (Qok O.n B);have lc:(Z0 x 0 (x.length-1)).length-1=x.length-2:=by rw [Mr B];omega
 have pre:∀{β:Type} (d:β) (F:Nd->β->β->β),fAt d F (Z0 x 0 (x.length-1)) (x.length-2)=fAt d F x (x.length-2):=by intro β d F;rw [ec];exact UH x (by omega) (by omega)
 refine⟨by omega,hnx,B,OC,fun e=>?_,?_,?_⟩
 ·have h1:vAt e x (x.length-1)=_:=YX (Xp e) hx W;unfold ZM;rw [h1,lc,Mf e (by omega) (by omega),vAt,pre,show n.x.toNat=x.length-2 by omega]
  have:∀ a b b',opV n.op a b=opV n.op a b':=by
   intro a b b';unfold opV;split
   ·rfl
   ·split
    ·rfl
    ·split
     ·rfl
     ·omega
  exact this _ _ _
 ·have h1:tAt x (x.length-1)=_:=YX XU hx W;rw [h1,KQ (by omega) (by omega),bE (by omega),show n.x.toNat=x.length-2 by omega]
 ·rw [lc];exact pre _ _
theorem Rep.twice {P:EvL->Int × Int}{T:Option Int}{k:Nat}{x:List Nd}{n:Nd}(A:Rep P T k x)(hx:x[x.length-1]?=some n)(h:(n.op=4/\(ZJ (Z0 x 0 (x.length-1))).1≠1)\/(n.op=3/\(ZJ (Z0 x 0 (x.length-1))).1≠2))(h0:(ZJ (Z0 x 0 (x.length-1))).2=0) :
  Rep (fun e=>opV n.op (P e) (P e)) (tyG n.op T T) (k+1) (Z0 x 0 (x.length-1)):=by
 have ha:arI n.op=1:=by rcases h with ⟨h,_⟩|⟨h,_⟩<;>rw [h]<;>decide
 obtain⟨hl,hnx,B,OC,hv,ht,hc⟩:=Qm8 A.ok hx ha;have hp:=OC.pos;have hty:∃ t,tAt (Z0 x 0 (x.length-1)) ((Z0 x 0 (x.length-1)).length-1)=some t/\(ZJ (Z0 x 0 (x.length-1))).1=t:=by
  unfold ZJ at h0 ⊢;cases hq:tAt (Z0 x 0 (x.length-1)) ((Z0 x 0 (x.length-1)).length-1) with
  | none=>rw [hq] at h0;cases h0
  | some t=>exact⟨t,rfl,rfl⟩
 obtain⟨t,e1,e2⟩:=hty;rw [e2] at h;have tr:=QdT OC (by omega) e1
 refine⟨OC,by rw [Mr B];have:=A.len;omega,fun e E=>?_,fun u hu=>⟨t,e1,?_⟩⟩
 ·have g:=Gs OC E (i:=(Z0 x 0 (x.length-1)).length-1) (by omega)
  have g2:=g.2 t e1;have n1:t≠1->(vAt e (Z0 x 0 (x.length-1)) ((Z0 x 0 (x.length-1)).length-1)).1≠1:=fun h q=>by rcases g2 with g2|g2<;>rw [g2] at q<;>omega
  have n2:t≠2->(vAt e (Z0 x 0 (x.length-1)) ((Z0 x 0 (x.length-1)).length-1)).1≠2:=fun h q=>by rcases g2 with g2|g2<;>rw [g2] at q<;>omega
  rw [<-A.val e E,hv e];show _=opV n.op _ _;rcases h with ⟨h,h1⟩|⟨h,h1⟩
  ·rw [h];exact(QlZ g.1 (n1 h1)).symm
  ·rw [h];exact(QoI g.1 (n2 h1)).symm
 ·have:=MM hu;unfold QfS Ju at this;rcases h with ⟨h,h1⟩|⟨h,h1⟩
  ·rw [h] at this;simp at this;omega
  ·rw [h] at this;simp at this;omega
structure QbG (P:EvL->Int × Int)(op:Int)(k:Nat)(z:List Nd):Prop where
 ok:OkE z
 len:z.length<=k
 val:∀ e,Yb e->ZM e z=P e
 ty:∃ t',tAt z (z.length-1)=some t'/\(t'=0\/t'=QfS op)
theorem QbG.rep {P:EvL->Int × Int}{op:Int}{k j:Nat}{z:List Nd}(A:QbG P op k z)(hj:k<=j)(T U:Option Int):Rep P (tyG op T U) j z:=
 ⟨A.ok,dK A.len hj,A.val,fun t ht=>by rw [MM ht];exact A.ty⟩
theorem QbG.cst {P:EvL->Int × Int}{op:Int}{k:Nat}{v:Int × Int}(h:Qq v)(hk:1<=k)(hP:∀ e,Yb e->v=P e)(hT:v.1=0\/v.1=QfS op):QbG P op k (cst v):=
 ⟨Qnz h,hk,hP,v.1,rfl,hT⟩
def QhW (right:Bool)(op:Int)(a v:Int × Int):Int × Int:=if right then doV op a v else doV op v a
theorem QgR {x:List Nd}(h:(ZJ x).2=0):tAt x (x.length-1)=some (ZJ x).1:=by
 unfold ZJ at h ⊢;cases hq:tAt x (x.length-1) with
 | none=>rw [hq] at h;cases h
 | some t=>rfl
theorem QkC {x:List Nd}(O:OkE x){op:Int}{v:Int × Int}{right:Bool}(h:(op=9/\v=(2,1))\/(op=10/\v=(2,0)))(h0:(ZJ x).2=0)(h1:(ZJ x).1≠1):QbG (fun e=>QhW right op (ZM e x) v) op x.length x:=by
 have hp:=O.pos;have e1:=QgR h0;have tr:=QdT O (by omega) e1
 refine⟨O,cB _,fun e E=>?_,_,e1,?_⟩
 ·have g:=Gs O E (i:=x.length-1) (by omega)
  have g2:=g.2 _ e1;have n1:(vAt e x (x.length-1)).1≠1:=fun q=>by rcases g2 with g2|g2<;>rw [g2] at q<;>omega
  unfold QhW;rcases h with ⟨rfl,rfl⟩|⟨rfl,rfl⟩
  ·cases right
   ·exact(Qk9 g.1 n1).2.symm
   ·exact(Qk9 g.1 n1).1.symm
  ·cases right
   ·exact(QpQ g.1 n1).2.symm
   ·exact(QpQ g.1 n1).1.symm
 ·have:QfS op=2:=by rcases h with ⟨rfl,_⟩|⟨rfl,_⟩<;>decide
  omega
theorem Ql7 {x:List Nd}{op:Int}{v:Int × Int}{right:Bool}(h:(op=9/\v=(2,0))\/(op=10/\v=(2,1))):QbG (fun e=>QhW right op (ZM e x) v) op 1 (cst v):=by
 refine QbG.cst (by rcases h with ⟨_,rfl⟩|⟨_,rfl⟩<;>(unfold Qq;simp)) (cB 1) (fun e E=>?_) (by rcases h with ⟨rfl,rfl⟩|⟨rfl,rfl⟩<;>decide)
 unfold QhW;rcases h with ⟨rfl,rfl⟩|⟨rfl,rfl⟩
 ·cases right
  ·exact(Qoo (ZM e x)).2.symm
  ·exact(Qoo (ZM e x)).1.symm
 ·cases right
  ·exact(Qod (ZM e x)).2.symm
  ·exact(Qod (ZM e x)).1.symm
theorem QjU {x:List Nd}(O:OkE x){op:Int}{v:Int × Int}{right:Bool}(h:(op=6/\v=(1,0))\/(op=8/\v=(1,1))\/(op=7/\right=true/\v=(1,0)))(h0:(ZJ x).2=0)(h1:(ZJ x).1≠2):QbG (fun e=>QhW right op (ZM e x) v) op x.length x:=by
 have hp:=O.pos;have e1:=QgR h0;have tr:=QdT O (by omega) e1
 refine⟨O,cB _,fun e E=>?_,_,e1,?_⟩
 ·have g:=Gs O E (i:=x.length-1) (by omega)
  have g2:=g.2 _ e1;have n1:(vAt e x (x.length-1)).1≠2:=fun q=>by rcases g2 with g2|g2<;>rw [g2] at q<;>omega
  unfold QhW;rcases h with ⟨rfl,rfl⟩|⟨rfl,rfl⟩|⟨rfl,rfl,rfl⟩
  ·cases right
   ·exact(QpO g.1 n1).2.symm
   ·exact(QpO g.1 n1).1.symm
  ·cases right
   ·exact(QpK g.1 n1).2.symm
   ·exact(QpK g.1 n1).1.symm
  ·exact(QqC g.1 n1).symm
 ·have:QfS op=1:=by rcases h with ⟨rfl,_⟩|⟨rfl,_⟩|⟨rfl,_⟩<;>decide
  omega
theorem Qng {x:List Nd}{op:Int}{v:Int × Int}(hv:Qq v){right:Bool}(h9:op≠9)(h10:op≠10)(h0:v.1=0):QbG (fun e=>QhW right op (ZM e x) v) op 1 (cst v):=by
 have ev:v=(0,0):=by
  obtain⟨a,b⟩:=v;unfold Qq at hv;simp only [fC] at *
  omega
 subst ev;refine QbG.cst UN (cB 1) (fun e E=>?_) (.inl rfl)
 unfold QhW;cases right
 ·exact(QlG h9 h10 (.inl rfl)).symm
 ·exact(QlG h9 h10 (.inr rfl)).symm
theorem Blk.uniq {l:List Nd}{f e:Nat}(B:Blk l f e):∀{f':Nat},Blk l f' e->f=f':=by
 induction B with
 | @leaf i n h h0=>
  intro f' B';cases B' with
  | leaf h' h0'=>rfl
  | one B1 h' h0' _=>rw [h] at h';cases h';omega
  | two B1 B2 h' h0' _ _=>rw [h] at h';cases h';omega
 | @one f i n B h h0 hx ih=>
  intro f' B';cases B' with
  | leaf h' h0'=>rw [h] at h';cases h';omega
  | one B1 h' h0' _=>exact ih B1
  | two B1 B2 h' h0' _ _=>rw [h] at h';cases h';omega
 | @two f g i n B B' h h0 hx hy ih1 ih2=>
  intro f' C;cases C with
  | leaf h' h0'=>rw [h] at h';cases h';omega
  | one B1 h' h0' _=>rw [h] at h';cases h';omega
  | @two _ g' _ n' B1 B2 h' h0' hx' hy'=>
   rw [h] at h';cases h';obtain rfl:g=g':=by omega
   exact ih1 B1
inductive U9 (l:List Nd):List (List Nd)->Nat->Prop where
 | nil:U9 l [] 0
 | push {s:List (List Nd)} {f e:Nat} {z:List Nd}:U9 l s f->Blk l f e->Rep (fun ev=>vAt ev l (e-1)) (tAt l (e-1)) (e-f) z->U9 l (z :: s) e
theorem U9.len {l:List Nd}{s:List (List Nd)}{e:Nat}(S:U9 l s e):s.length<=e:=by
 induction S with
 | nil=>exact cB _
 | push S B R ih=>have:=B.lt;simp;omega
theorem U9.all {l:List Nd}{s:List (List Nd)}{e:Nat}(S:U9 l s e):e<=l.length:=by
 cases S with
 | nil=>exact cE _
 | push S B R=>exact B.lt.2
theorem U9.step {l:List Nd}(O:OkE l){s:List (List Nd)}{i:Nat}{n:Nd}(S:U9 l s i)(hn:l[i]?=some n) :
  (arI n.op=0/\U9 l ([n] :: s) (i+1)) \/
  (arI n.op=1/\∃ z s' P T k,s=z :: s'/\k<=i/\Rep P T k z/\∀ y,Rep (fun e=>opV n.op (P e) (P e)) (tyG n.op T T) (k+1) y->U9 l (y :: s') (i+1)) \/
  (arI n.op=2/\∃ z z' s' P T k Q U j,s=z' :: z :: s'/\k+j<=i/\Rep P T k z/\Rep Q U j z'/\∀ y,Rep (fun e=>opV n.op (P e) (Q e)) (tyG n.op T U) (k+j+1) y->U9 l (y :: s') (i+1)):=by
 have hlt:=(bG.1 hn).1
 have W:=O.wf _ _ hn;have ar:=ar0 W.a;have h0:=O.n n (cF hn);obtain⟨g,_,B⟩:=O.b.sub i (cE _) hlt;have hv:∀ e,vAt e l i=_:=fun e=>YX (Xp e) hn W
 have ht:tAt l i=_:=YX XU hn W;have inv:∀{s:List (List Nd)} {j f:Nat},U9 l s j->Blk l f j->∃ z s',s=z :: s'/\U9 l s' f/\Rep (fun ev=>vAt ev l (j-1)) (tAt l (j-1)) (j-f) z:=by
  intro s j f S B;cases S with
  | nil=>have:=B.lt;omega
  | push S B' R=>
   obtain rfl:=B'.uniq B;exact⟨_,_,rfl,S,R⟩
 have hB:=B;cases B with
 | leaf h ha=>
  rw [hn] at h;cases h;refine .inl ⟨ha,.push S hB ?_⟩
  have O1:=Rep.leaf h0 ha;have W1:=O1.wf 0 n rfl;refine⟨O1,by simp,fun e E=>?_,fun t e=>⟨t,?_,.inr rfl⟩⟩
  ·show ZM e [n]=vAt e l (i+1-1);rw [jE,hv e];have:ZM e [n]=_:=YX (Xp e) (l:=[n]) (i:=0) rfl W1;rw [this];exact Xp e n _ _ _ _ W.a (fun h=>by omega) (fun h=>by omega)
  ·rw [jE,ht] at e;rw [<-e];have:tAt [n] 0=_:=YX XU (l:=[n]) (i:=0) rfl W1;show tAt [n] 0=_;rw [this];exact XU n _ _ _ _ W.a (fun h=>by omega) (fun h=>by omega)
 | @one f _ n' B1 h ha hx=>
  rw [hn] at h;cases h;have hlt1:=B1.lt;obtain⟨z,s',rfl,S',R⟩:=inv S B1;refine .inr (.inl ⟨ha,z,s',_,_,_,rfl,Nat.sub_le _ _,R,fun y Y=>.push S' hB ?_⟩)
  rw [show i+1-g=i-g+1 by omega,jE]
  have ex:n.x.toNat=i-1:=by omega
  have:tAt l i=tyG n.op (tAt l (i-1)) (tAt l (i-1)):=by rw [ht,KQ (by omega) (by omega),bE (by omega),ex]
  rw [this];refine⟨Y.ok,Y.len,fun e E=>?_,Y.ty⟩
  rw [Y.val e E,hv e,Mf e (by omega) (by omega),ex]
  have:∀ a b b',opV n.op a b=opV n.op a b':=by
   intro a b b';unfold opV;split
   ·rfl
   ·split
    ·rfl
    ·split
     ·rfl
     ·omega
  exact this _ _ _
 | @two f g' _ n' B1 B2 h ha hx hy=>
  rw [hn] at h;cases h;have hlt1:=B1.lt;have hlt2:=B2.lt;obtain⟨z',s1,rfl,S1,R'⟩:=inv S B2;obtain⟨z,s',rfl,S',R⟩:=inv S1 B1;refine .inr (.inr ⟨ha,z,z',s',_,_,_,_,_,_,rfl,?_,R,R',fun y Y=>.push S' hB ?_⟩)
  ·omega
  rw [show i+1-g=g'-g+(i-g')+1 by omega,jE]
  have ex:n.x.toNat=g'-1:=by omega
  have ey:n.y.toNat=i-1:=by omega
  have:tAt l i=tyG n.op (tAt l (g'-1)) (tAt l (i-1)):=by rw [ht,KQ (by omega) (by omega),bJ ha,ex,ey]
  rw [this];refine⟨Y.ok,Y.len,fun e E=>?_,Y.ty⟩
  rw [Y.val e E,hv e,Mf e (by omega) (by omega),ex,ey]
theorem U9.done {l:List Nd}(O:OkE l){s:List (List Nd)}(S:U9 l s l.length):∃ z,s=[z]/\Rep (fun ev=>ZM ev l) (tAt l (l.length-1)) l.length z:=by
 have hB:=O.b;have hp:=O.pos;have key:∀{e:Nat},U9 l s e->e=l.length->∃ z,s=[z]/\Rep (fun ev=>vAt ev l (e-1)) (tAt l (e-1)) e z:=by
  intro e S he;cases S with
  | nil=>omega
  | @push s f e z S' B R=>
   subst he;obtain rfl:=B.uniq hB;rw [pM] at R;have k2:∀{f:Nat},U9 l s f->f=0->s=[]:=by
    intro f S2 hf;cases S2 with
    | nil=>rfl
    | push _ B' _=>have:=B'.lt;omega
   rw [k2 S' rfl];exact⟨z,rfl,R⟩
 exact key S rfl
theorem QbG.mono {P:EvL->Int × Int}{op:Int}{k j:Nat}{z:List Nd}(A:QbG P op k z)(h:k<=j):QbG P op j z:=⟨A.ok,dK A.len h,A.val,A.ty⟩
theorem QnC {n:Nd}(h:ZH n=0)(h1:n.op=1):[n]=cst n.v:=by
 obtain⟨op,x,y,k,v⟩:=n;simp only at h1;subst h1;unfold ZH at h;split at h
 ·cases h
 ·split at h
  ·cases h
  ·rename_i h2;have e:arI 1=0:=by decide
   simp only [e] at h2;have hx:x=0:=by omega
   have hy:y=0:=by omega
   have hk:k=0:=by omega
   subst hx hy hk;rfl
theorem Rep.cst_val {P:EvL->Int × Int}{T:Option Int}{k:Nat}{v:Int × Int}(A:Rep P T k (Go.Proofs.YthicpjafcpfjoaaGreatDoor.cst v)):∀ e,Yb e->P e=v:=fun e E=>(A.val e E).symm
theorem Qg9 {op:Int}(h:6<=op)(a b:Int × Int):opV op a b=doV op a b:=by
 unfold opV;rw [bE (by omega),bE (by omega),bE (by omega)]
structure NS (h:Hp)(a:OaT)(n c:Nat)(l:List Nd):Prop where
 s:SlP Z6 h a n l
 c:n<=c
theorem NS.le {h h':Hp}{a:OaT}{n c:Nat}{l:List Nd}(S:NS h a n c l)(hl:h.le h'):NS h' a n c l:=⟨S.s.le hl,S.c⟩
theorem NS.of {h h':Hp}{a:OaT}{c:Nat}{l:List Nd}(V:NA h h' a c l):NS h' a l.length c l:=⟨V.slp Zk (by decide),V.own.cap⟩
section
variable {a:OaT}{m c:Nat}{l:List Nd}{h:Hp}
theorem Xq (S:SlP Z6 h a m l){R:RtT}(hY:∀ n,l=[n]->n.op=1->R (Qf [vag (Qu n.v),vb true]) h)(hN:R (Qf [vag (Qu (0,0)),vb false]) h):Qa Pg 221 [vsl a m c] h R:=by
 refine Qcu ?_
 obtain rfl:=S.1;by_cases h1:l.length=1
 ·obtain⟨n,rfl⟩:∃ n,l=[n]:=by
   match l,h1 with
   | [n],_=>exact⟨n,rfl⟩
  obtain⟨b,o,ha,hr⟩:=S.get Zk (by decide) (i:=0) rfl
  have A:a=some ⟨b,o,none⟩/\(0:Int)<=0/\(0:Int)<(([n]:List Nd).length:Nat):=⟨ha,by decide,by simp⟩
  refine⟨b,o,fun _=>A,n.op,fun _=>qT hr (i:=0) rfl,fun g=>?_,fun g=>hN⟩
  rw [KS] at g;have g:=bC g;refine⟨b,o,A,_,_,?_,hY n rfl g.2⟩
  exact qU hr (i:=4) (k:=2) (by decide)
 ·have e:decide (((l.length:Nat):Int)=1)=false:=cO (by omega)
  refine⟨0,0,fun g=>?_,0,fun g=>?_,fun g=>?_,fun _=>hN⟩
  ·rw [e] at g;cases g
  ·rw [e] at g;cases g
  ·rw [e] at g;cases g
theorem Jn {v:Int × Int}{R:RtT}(hK:∀ a' c' h',h.le h'->NS h' a' 1 c' (cst v)->R (vsl a' 1 c') h'):Qa Pg 222 [vag (Qu v)] h R:=by
 refine QkI ?_
 intro b1 hb1 h2;exact hK _ _ h2 (qQ (qO h) hb1 _) ⟨⟨rfl,qW _ _ ((cst v).flatMap Z6) _⟩,cB _⟩
theorem Qe8 {f:Int}(x:Int)(k:Int):(bif (QA f).isNone then decide (x≠k) else false)=decide (f=0/\x≠k):=by
 rw [YR,KS]
theorem GQ (S:SlP Z6 h a m l)(O:OkE l)(hm:l.length<=1000000){R:RtT}(hK:∀ h',h.le h'->R (vb (decide ((ZJ l).2=0/\(ZJ l).1≠1))) h'):Qa Pg 224 [vsl a m c] h R:=by
 refine QeW ?_
 refine Vm S O hm fun h' l'=>⟨_,_,rfl,?_⟩
 rw [Qe8];exact hK h' l'
theorem VE (S:SlP Z6 h a m l)(O:OkE l)(hm:l.length<=1000000){R:RtT}(hK:∀ h',h.le h'->R (vb (decide ((ZJ l).2=0/\(ZJ l).1≠2))) h'):Qa Pg 226 [vsl a m c] h R:=by
 refine Qdu ?_
 refine Vm S O hm fun h' l'=>⟨_,_,rfl,?_⟩
 rw [Qe8];exact hK h' l'
theorem QdL {op:Int}(ho:arI op=1)(S:NS h a m c l){P:EvL->Int × Int}{T:Option Int}{k:Nat}(A:Rep P T k l)(hk:k<=1000000){R:RtT}
  (hK:∀ a' n' c' h' z,h.le h'->NS h' a' n' c' z->Rep (fun e=>opV op (P e) (P e)) (tyG op T T) (k+1) z->R (vsl a' n' c') h'):Qa Pg 181 [vi op,vsl a m c] h R:=by
 refine Qd0 ?_
 have hm:=S.s.1;subst hm;have hl:=A.len;have hp:=A.pos;have ar:=ar0 (op:=op) (by omega)
 have WN:WfL ([]:List Nd):=Qay;have J:=A.join1 ho;have join:∀ h',h.le h'->Qa Pg 223 [vi op,vsl a l.length c,vsl none 0 0] h' fun v64 h64=>∃(a65:OaT)(n65 c65:Nat),v64=vsl a65 n65 c65/\R (vsl a65 n65 c65) h64:=fun h' l'=>
  Jb (S.s.le l') (⟨rfl,.inl rfl⟩:SlP Z6 h' none 0 []) WN (by omega) (by simp) fun a' c' h'' V=>⟨_,_,_,rfl,hK _ _ _ _ _ (qP l' V.le0) (NS.of V) J⟩
 refine Xq S.s (fun n hn h1=>⟨_,_,true,rfl,fun _=>?_,fun g=>by cases g⟩) ⟨_,_,false,rfl,fun g=>by (cases g),fun _=>?_⟩
 ·subst hn;have hn0:=A.ok.n n (cD.2 rfl);have hc:=QnC hn0 h1;rw [hc] at A J;refine Jn (v:=n.v) fun a8 c8 h7 l7 S8=>⟨_,_,_,rfl,?_⟩
  refine Jb S8.s (⟨rfl,.inl rfl⟩:SlP Z6 h7 none 0 []) WN (by simp) (by simp) fun a11 c11 h10 V=>⟨_,_,_,rfl,?_⟩
  have hjl:(Ye op (cst n.v) []).length=2:=ZB _ _ _;refine Vx (e:=ev0) (V.slp Zk (by decide)) J.ok.wf (by omega) (by omega) fun h13 l13=>⟨_,_,rfl,?_⟩
  have ev:ZM ev0 (Ye op (cst n.v) [])=opV op n.v n.v:=by rw [J.val ev0 QnZ,A.cst_val ev0 QnZ]
  rw [ev];refine Jn (v:=opV op n.v n.v) fun a18 c18 h17 l17 S18=>⟨_,_,_,rfl,hK _ _ _ _ _ (qP (qP (qP l7 V.le0) l13) l17) S18 ?_⟩
  have og:=Qew (op:=op) (by omega) n.v n.v
  refine Rep.cst og.1 (by omega) (fun e E=>?_) fun t ht=>?_
  ·rw [A.cst_val e E]
  ·rw [MM ht];exact og.2
 ·have hx:l[l.length-1]?=some (l[l.length-1]'(by omega)):=bD (by omega)
  obtain⟨b,o,ha,hr⟩:=S.s.get Zk (by decide) hx
  generalize l[l.length-1]'(by omega)=n at *
  refine⟨_,iW,b,o,⟨ha,by omega,by omega⟩,n.op,n.x,n.y,n.n,n.v.1,n.v.2,?_,?_⟩
  ·rw [show (((l.length:Nat):Int)-1).toNat=l.length-1 by omega]
   exact hr
  have cut:∀(h':Hp),h.le h'->arI n.op=1->∀(K:RtT),(∀ a' n' c' h'',h'.le h''->NS h'' a' n' c' (Z0 l 0 (l.length-1))->K (vsl a' n' c') h'')->Qa Pg 225 [vsl a l.length c,vi n.x] h' K:=by
   intro h' l' h1 K hK;obtain⟨hl2,hnx,B,OC,_⟩:=Qm8 A.ok hx h1;have e1:l.length-1=(l.length-2)+1:=by omega
   rw [e1] at B hK;exact Qjw (S.s.le l') S.c A.ok.wf (by omega) B (by omega) fun a' c' h'' V=>hK _ _ _ _ V.le0 (NS.of V)
  have lc:arI n.op=1->OkE (Z0 l 0 (l.length-1))/\(Z0 l 0 (l.length-1)).length<=1000000:=by intro h1;obtain⟨hl2,hnx,B,OC,_⟩:=Qm8 A.ok hx h1;exact⟨OC,by rw [Mr B];omega⟩
  refine⟨fun x h'=>h.le h'/\∃ a' n' c',x=.t (.one (.v (vsl a' n' c')))/\((op=4/\n.op=4)->NS h' a' n' c' (Z0 l 0 (l.length-1))),fun g=>?_,fun g=>?_,?_⟩
  ·rw [KS] at g;have g:=bC g;exact cut h (qO h) (by rw [g.2];decide) _ fun a' n' c' h'' l'' S'=>⟨_,_,_,rfl,l'',_,_,_,rfl,fun _=>S'⟩
  ·rw [KS] at g;exact⟨qO h,none,0,0,rfl,fun q=>absurd (cL q) g⟩
  rintro h33 a34 n34 c34 ⟨l33,a',n',c',e,S33⟩;cases e;refine⟨fun x h'=>h.le h'/\∃ p,x=.t (.one (.v (vb p)))/\((op=4/\n.op=4)->p=decide ((ZJ (Z0 l 0 (l.length-1))).2=0/\(ZJ (Z0 l 0 (l.length-1))).1≠1)),fun g=>?_,fun g=>?_,?_⟩
  ·rw [KS] at g;have g:=bC g;obtain⟨OC,hC⟩:=lc (by rw [g.2];decide)
   exact GQ (S33 g).s OC hC fun h' l'=>⟨_,rfl,qP l33 l',_,rfl,fun _=>rfl⟩
  ·rw [KS] at g;exact⟨l33,false,rfl,fun q=>absurd (cL q) g⟩
  rintro h39 p40 ⟨l39,p,e,hp40⟩;cases e;intro J55;have yes:∀ h',h.le h'->((op=4/\n.op=4/\(ZJ (Z0 l 0 (l.length-1))).2=0/\(ZJ (Z0 l 0 (l.length-1))).1≠1)\/(op=3/\n.op=3/\(ZJ (Z0 l 0 (l.length-1))).2=0/\(ZJ (Z0 l 0 (l.length-1))).1≠2))->J55 true h':=by
   intro h' l' hc;have eop:n.op=op:=by omega
   refine⟨fun _=>?_,fun g=>by cases g⟩
   refine cut h' l' (by rw [eop];exact ho) _ fun a' n' c' h'' l'' S'=>⟨_,_,_,rfl,hK _ _ _ _ _ (qP l' l'') S' ?_⟩
   have:=A.twice hx (by omega) (by omega)
   rw [eop] at this;exact this
  have no:∀ h',h.le h'->J55 false h':=fun h' l'=>⟨fun g=>by (cases g),fun _=>join h' l'⟩
  clear_value J55;rw [KS];by_cases hc:op=4/\n.op=4
  ·have hp:=hp40 hc;subst hp;have e1:decide (op=4/\n.op=4)=true:=cL hc;rw [e1];by_cases ht:(ZJ (Z0 l 0 (l.length-1))).2=0/\(ZJ (Z0 l 0 (l.length-1))).1≠1
   ·rw [cL ht];exact⟨fun _=>yes _ l39 (by omega),fun g=>by cases g⟩
   ·rw [cO ht];refine⟨fun g=>by (cases g),fun _=>?_⟩
    have n3:(bif decide (op=3) then decide (n.op=3) else false)=false:=by rw [KS];exact cO (by omega)
    rw [n3];refine⟨fun x h'=>h'=h39/\x=.t (.one (.v (vsl none 0 0))),fun g=>by (cases g),fun _=>⟨rfl,rfl⟩,?_⟩
    rintro h46 a47 n47 c47 ⟨rfl,e⟩;cases e;refine⟨fun x h'=>h'=h46/\x=.t (.one (.v (vb false))),fun g=>by (cases g),fun _=>⟨rfl,rfl⟩,?_⟩
    rintro h52 p53 ⟨rfl,e⟩;cases e;exact no _ l39
  ·have e1:decide (op=4/\n.op=4)=false:=cO hc;rw [e1];refine⟨fun g=>by (cases g),fun _=>?_⟩
   rw [KS];refine⟨fun x h'=>h.le h'/\∃ a' n' c',x=.t (.one (.v (vsl a' n' c')))/\((op=3/\n.op=3)->NS h' a' n' c' (Z0 l 0 (l.length-1))),fun g=>?_,fun g=>?_,?_⟩
   ·have g:=bC g;exact cut _ l39 (by rw [g.2];decide) _ fun a' n' c' h'' l'' S'=>⟨_,_,_,rfl,qP l39 l'',_,_,_,rfl,fun _=>S'⟩
   ·exact⟨l39,none,0,0,rfl,fun q=>absurd (cL q) g⟩
   rintro h46 a47 n47 c47 ⟨l46,a',n',c',e,S46⟩;cases e;refine⟨fun x h'=>h.le h'/\∃ p,x=.t (.one (.v (vb p)))/\((op=3/\n.op=3)->p=decide ((ZJ (Z0 l 0 (l.length-1))).2=0/\(ZJ (Z0 l 0 (l.length-1))).1≠2)),fun g=>?_,fun g=>?_,?_⟩
   ·have g:=bC g;obtain⟨OC,hC⟩:=lc (by rw [g.2];decide)
    exact VE (S46 g).s OC hC fun h' l'=>⟨_,rfl,qP l46 l',_,rfl,fun _=>rfl⟩
   ·exact⟨l46,false,rfl,fun q=>absurd (cL q) g⟩
   rintro h52 p53 ⟨l52,p,e,hp53⟩;cases e;by_cases hc3:op=3/\n.op=3
   ·have hp:=hp53 hc3;subst hp;rw [cL hc3];by_cases ht:(ZJ (Z0 l 0 (l.length-1))).2=0/\(ZJ (Z0 l 0 (l.length-1))).1≠2
    ·rw [cL ht];exact yes _ l52 (by omega)
    ·rw [cO ht];exact no _ l52
   ·rw [cO hc3];exact no _ l52
end
abbrev svV (v:Int × Int):SV:=.t (.ag [.v (vi v.1),.v (vi v.2)])
theorem gd {p:Prop}[Decidable p]{v b c:Int × Int}(h:p->b=c):(bif decide p then decide (v=b) else false)=decide (p/\v=c):=by
 by_cases hp:p
 ·rw [h hp];simp [hp]
 ·simp [hp]
theorem QqE:Kd 0=(1,0):=by decide
theorem QqT:Kd 1=(1,1):=by decide
section
variable {a:OaT}{m c:Nat}{l:List Nd}{h:Hp}
theorem Gz {op:Int}(S:NS h a m c l)(O:OkE l)(hm:l.length<=1000000){v:Int × Int}(hv:Qq v){right:Bool}{R:RtT}
  (hY:∀ a' n' c' h' z,h.le h'->NS h' a' n' c' z->QbG (fun e=>QhW right op (ZM e l) v) op l.length z->R (Qf [vsl a' n' c',vb true]) h') (hN:∀ h',h.le h'->R (Qf [vsl none 0 0,vb false]) h') :
  Qa Pg 227 [vi op,vsl a m c,vag (Qu v),vb right] h R:=by
 refine QeC ?_
 have hp:=O.pos;refine⟨fun x h'=>h.le h'/\∃ b,x=svV b/\(op=9->b=(2,1)),fun g=>QN ⟨_,_,rfl,qO h,_,rfl,fun _=>rfl⟩,fun g=>⟨qO h,(0,0),rfl,fun q=>absurd (cL q) g⟩,?_⟩
 rintro h6 x7 x8 ⟨l6,b,e,hb⟩;cases e;refine⟨_,fun _=>Xz (a:=v) (b:=b),?_⟩
 rw [gd hb];refine⟨fun x h'=>h.le h'/\∃ b,x=svV b/\(op=10->b=(2,0)),fun g=>QN ⟨_,_,rfl,l6,_,rfl,fun _=>rfl⟩,fun g=>⟨l6,(0,0),rfl,fun q=>absurd ⟨cO (by omega),cL q⟩ g⟩,?_⟩
 rintro h15 x16 x17 ⟨l15,b2,e,hb2⟩;cases e;refine⟨_,fun _=>Xz (a:=v) (b:=b2),?_⟩
 rw [gd hb2,cor];refine⟨fun x h'=>h.le h'/\∃ p,x=.t (.one (.v (vb p)))/\(p=true->(ZJ l).2=0/\(ZJ l).1≠1),fun g=>GQ (S.s.le l15) O hm fun h' l'=>⟨_,rfl,qP l15 l',_,rfl,fun q=>bC q⟩,fun g=>⟨l15,false,rfl,fun q=>by cases q⟩,?_⟩
 rintro h23 p24 ⟨l23,p,e,hp24⟩;cases e;have e24:∀(q:Prop) [Decidable q],(bif decide q then p24 else false)=true->q/\p24=true:=by
  intro q _ g;by_cases hq:q
  ·rw [cL hq] at g;exact⟨hq,g⟩
  ·rw [cO hq] at g;cases g
 refine⟨fun g=>?_,fun _=>?_⟩
 ·obtain⟨g1,g2⟩:=e24 _ g;have ht:=hp24 g2;exact hY _ _ _ _ _ l23 (S.le l23) (QkC O g1 ht.1 ht.2)
 refine⟨fun x h'=>h.le h'/\∃ b,x=svV b/\(op=9->b=(2,0)),fun g=>QN ⟨_,_,rfl,l23,_,rfl,fun _=>rfl⟩,fun g=>⟨l23,(0,0),rfl,fun q=>absurd (cL q) g⟩,?_⟩
 rintro h30 x31 x32 ⟨l30,b3,e,hb3⟩;cases e;refine⟨_,fun _=>Xz (a:=v) (b:=b3),?_⟩
 rw [gd hb3];intro J45;have yes:∀ h',h.le h'->(op=9/\v=(2,0))\/(op=10/\v=(2,1))->J45 true h':=by
  intro h' l' hc;refine⟨fun _=>?_,fun g=>by cases g⟩
  exact Jn (v:=v) fun a' c' h'' l'' S'=>⟨_,_,_,rfl,hY _ _ _ _ _ (qP l' l'') S' ((Ql7 (x:=l) hc).mono hp)⟩
 have no:∀ h',h.le h'->J45 false h':=by
  intro h48 l48;refine⟨fun g=>by (cases g),fun _=>?_⟩
  refine⟨fun x h'=>h.le h'/\∃ b,x=svV b/\(op=6->b=(1,0)),fun g=>QJ ⟨_,_,rfl,l48,_,rfl,fun _=>QqE⟩,fun g=>⟨l48,(0,0),rfl,fun q=>absurd (cL q) g⟩,?_⟩
  rintro h57 x58 x59 ⟨l57,b,e,hb⟩;cases e;refine⟨_,fun _=>Xz (a:=v) (b:=b),?_⟩
  rw [gd hb];refine⟨fun x h'=>h.le h'/\∃ b,x=svV b/\(op=8->b=(1,1)),fun g=>QJ ⟨_,_,rfl,l57,_,rfl,fun _=>QqT⟩,fun g=>⟨l57,(0,0),rfl,fun q=>absurd ⟨cO (by omega),cL q⟩ g⟩,?_⟩
  rintro h66 x67 x68 ⟨l66,b2,e,hb2⟩;cases e;refine⟨_,fun _=>Xz (a:=v) (b:=b2),?_⟩
  rw [gd hb2,cor];have er:(bif decide (op=7) then right else false)=decide (op=7/\right=true):=by
   by_cases h7:op=7<;>cases right<;>simp [h7]
  rw [er];refine⟨fun x h'=>h.le h'/\∃ b,x=svV b/\(op=7/\right=true->b=(1,0)),fun g=>QJ ⟨_,_,rfl,l66,_,rfl,fun _=>QqE⟩,fun g=>⟨l66,(0,0),rfl,fun q=>absurd ⟨cO (by omega),cL q⟩ g⟩,?_⟩
  rintro h75 x76 x77 ⟨l75,b3,e,hb3⟩;cases e;refine⟨_,fun _=>Xz (a:=v) (b:=b3),?_⟩
  rw [gd hb3,cor];refine⟨fun x h'=>h.le h'/\∃ p,x=.t (.one (.v (vb p)))/\(p=true->(ZJ l).2=0/\(ZJ l).1≠2),fun g=>VE (S.s.le l75) O hm fun h' l'=>⟨_,rfl,qP l75 l',_,rfl,fun q=>bC q⟩,fun g=>⟨l75,false,rfl,fun q=>by cases q⟩,?_⟩
  rintro h83 p84 ⟨l83,p,e,hp84⟩;cases e;refine⟨fun g=>?_,fun _=>⟨fun g=>?_,fun _=>hN _ l83⟩⟩
  ·have e84:∀(q:Prop) [Decidable q],(bif decide q then p84 else false)=true->q/\p84=true:=by
    intro q _ g;by_cases hq:q
    ·rw [cL hq] at g;exact⟨hq,g⟩
    ·rw [cO hq] at g;cases g
   obtain⟨g1,g2⟩:=e84 _ g;have ht:=hp84 g2;refine hY _ _ _ _ _ l83 (S.le l83) (QjU O ?_ ht.1 ht.2)
   rcases g1 with (g1|g1)|⟨⟨g1,g3⟩,g4⟩
   ·exact .inl g1
   ·exact .inr (.inl g1)
   ·exact .inr (.inr ⟨g1,g3,g4⟩)
  ·simp only [KS] at g;have g:=bC g;exact Jn (v:=v) fun a' c' h'' l'' S'=>⟨_,_,_,rfl,hY _ _ _ _ _ (qP l83 l'') S' ((Qng (x:=l) hv g.1.1 g.1.2 g.2).mono hp)⟩
 clear_value J45;refine⟨fun g=>?_,fun _=>?_⟩
 ·rw [g];exact yes _ l30 (.inl (bC g))
 refine⟨fun x h'=>h.le h'/\∃ b,x=svV b/\(op=10->b=(2,1)),fun g=>QN ⟨_,_,rfl,l30,_,rfl,fun _=>rfl⟩,fun g=>⟨l30,(0,0),rfl,fun q=>absurd (cL q) g⟩,?_⟩
 rintro h40 x41 x42 ⟨l40,b4,e,hb4⟩;cases e;refine⟨_,fun _=>Xz (a:=v) (b:=b4),?_⟩
 rw [gd hb4];by_cases hc:op=10/\v=(2,1)
 ·rw [cL hc];exact yes _ l40 (.inr hc)
 ·rw [cO hc];exact no _ l40
theorem Qfs {op:Int}(ho:arI op=2)(S:NS h a m c l){P:EvL->Int × Int}{T:Option Int}{k:Nat}(A:Rep P T k l)(hk:k<=1000000)
  {a2:OaT} {m2 c2:Nat} {l2:List Nd} (S2:NS h a2 m2 c2 l2) {Q:EvL->Int × Int} {U:Option Int} {j:Nat} (B:Rep Q U j l2) (hj:j<=1000000) {R:RtT}
  (hK:∀ a' n' c' h' z,h.le h'->NS h' a' n' c' z->Rep (fun e=>opV op (P e) (Q e)) (tyG op T U) (k+j+1) z->R (vsl a' n' c') h'):Qa Pg 182 [vi op,vsl a m c,vsl a2 m2 c2] h R:=by
 refine Qef ?_
 have hA:=A.len;have hB:=B.len;have hpA:=A.pos;have hpB:=B.pos;have ar:=ar0 (op:=op) (by omega)
 have m1:=S.s.1;have mm2:=S2.s.1;subst m1 mm2;have cnst:∀{x:List Nd} {n:Nd},OkE x->x=[n]->n.op=1->x=cst n.v/\Qq n.v:=by intro x n O e h1;subst e;have hn:=O.n n (cD.2 rfl);exact⟨QnC hn h1,Qfy hn⟩
 have Y:∀(p5 p10:Bool)(v w:Int × Int),(p5=true->l=cst v/\Qq v)->(p10=true->l2=cst w/\Qq w) ->
   (((bif p5 then p10 else false)=true->(Qa Pg 165 [(vi op),(vag [(vi v.1),(vi v.2)]),(vag [(vi w.1),(vi w.2)])] h fun v11 h12=>∃(x13:Int)(x14:Int),v11=(vag [(vi x13),(vi x14)])/\(Qa Pg 222 [(vag [(vi x13),(vi x14)])] h12 fun v15 h16=>∃(a17:OaT)(n17 c17:Nat),v15=(vsl a17 n17 c17)/\R (vsl a17 n17 c17) h16)))/\((bif p5 then p10 else false)=false->(let J25:HpT:=fun(h26:Hp)=>(let J33:HpT:=fun(h34:Hp)=>(Qa Pg 223 [(vi op),(vsl a l.length c),(vsl a2 l2.length c2)] h34 fun v35 h36=>∃(a37:OaT)(n37 c37:Nat),v35=(vsl a37 n37 c37)/\R (vsl a37 n37 c37) h36);((p10=true->(Qa Pg 227 [(vi op),(vsl a l.length c),(vag [(vi w.1),(vi w.2)]),(vb true)] h26 fun v27 h28=>∃(a29:OaT)(n29 c29:Nat)(p30:Bool),v27=(Qf [(vsl a29 n29 c29),(vb p30)])/\((p30=true->R (vsl a29 n29 c29) h28)/\(p30=false->(J33 h28)))))/\(p10=false->(J33 h26))));((p5=true->(Qa Pg 227 [(vi op),(vsl a2 l2.length c2),(vag [(vi v.1),(vi v.2)]),(vb false)] h fun v19 h20=>∃(a21:OaT)(n21 c21:Nat)(p22:Bool),v19=(Qf [(vsl a21 n21 c21),(vb p22)])/\((p22=true->R (vsl a21 n21 c21) h20)/\(p22=false->(J25 h20)))))/\(p5=false->(J25 h)))))):=by
  intro p5 p10 v w hp5 hp10;refine⟨fun g=>?_,fun _=>?_⟩
  ·have g1:p5=true/\p10=true:=by revert g;cases p5<;>cases p10<;>simp
   obtain⟨hl,hgv⟩:=hp5 g1.1;obtain⟨hl2,hgw⟩:=hp10 g1.2;rw [hl] at A;rw [hl2] at B;refine Qda (a:=v) (b:=w) ⟨_,_,rfl,Jn (v:=doV op v w) fun a' c' h' l' S'=>⟨_,_,_,rfl,hK _ _ _ _ _ l' S' ?_⟩⟩
   have og:=Qew (op:=op) (by omega) v w
   rw [Qg9 (by omega)] at og
   refine Rep.cst og.1 (by omega) (fun e E=>?_) fun t ht=>?_
   ·rw [A.cst_val e E,B.cst_val e E,Qg9 (by omega)]
   ·rw [MM ht];exact og.2
  intro J25;have j25:∀ h',h.le h'->J25 h':=by
   intro h26 l26;have j33:∀ h',h.le h'->Qa Pg 223 [(vi op),(vsl a l.length c),(vsl a2 l2.length c2)] h' fun v35 h36=>∃(a37:OaT)(n37 c37:Nat),v35=(vsl a37 n37 c37)/\R (vsl a37 n37 c37) h36:=fun h' l'=>Jb (S.s.le l') (S2.s.le l') B.ok.wf (by omega) (by omega) fun a' c' h'' V=>⟨_,_,_,rfl,hK _ _ _ _ _ (qP l' V.le0) (NS.of V) (A.join2 ho B)⟩
   refine⟨fun g=>?_,fun _=>j33 _ l26⟩
   obtain⟨hl2,hgw⟩:=hp10 g;refine Gz (v:=w) (S.le l26) A.ok (by omega) hgw (fun a' n' c' h' z l' S' Z=>⟨_,_,_,true,rfl,fun _=>hK _ _ _ _ _ (qP l26 l') S' ?_,fun g=>by cases g⟩) fun h' l'=>⟨_,_,_,false,rfl,fun g=>by (cases g),fun _=>j33 _ (qP l26 l')⟩
   rw [hl2] at B;have Z2:=Z.rep (j:=k+j+1) (by omega) T U
   refine⟨Z2.ok,Z2.len,fun e E=>?_,Z2.ty⟩
   rw [Z2.val e E,B.cst_val e E,Qg9 (by omega),A.val e E]
   rfl
  clear_value J25;refine⟨fun g=>?_,fun _=>j25 _ (qO h)⟩
  obtain⟨hl,hgv⟩:=hp5 g;refine Gz (v:=v) S2 B.ok (by omega) hgv (fun a' n' c' h' z l' S' Z=>⟨_,_,_,true,rfl,fun _=>hK _ _ _ _ _ l' S' ?_,fun g=>by cases g⟩) fun h' l'=>⟨_,_,_,false,rfl,fun g=>by (cases g),fun _=>j25 _ l'⟩
  rw [hl] at A;have Z2:=Z.rep (j:=k+j+1) (by omega) T U
  refine⟨Z2.ok,Z2.len,fun e E=>?_,Z2.ty⟩
  rw [Z2.val e E,A.cst_val e E,Qg9 (by omega),B.val e E]
  rfl
 refine Xq S.s (fun n hn h1=>⟨_,_,true,rfl,?_⟩) ⟨_,_,false,rfl,?_⟩
 ·refine Xq S2.s (fun n2 hn2 h2=>⟨_,_,true,rfl,?_⟩) ⟨_,_,false,rfl,?_⟩
  ·exact Y true true n.v n2.v (fun _=>cnst A.ok hn h1) (fun _=>cnst B.ok hn2 h2)
  ·exact Y true false n.v (0,0) (fun _=>cnst A.ok hn h1) (fun g=>by cases g)
 ·refine Xq S2.s (fun n2 hn2 h2=>⟨_,_,true,rfl,?_⟩) ⟨_,_,false,rfl,?_⟩
  ·exact Y false true (0,0) n2.v (fun g=>by cases g) (fun _=>cnst B.ok hn2 h2)
  ·exact Y false false (0,0) (0,0) (fun g=>by cases g) (fun g=>by cases g)
end
theorem QqN:ElT Pg 265 28 1 24:=.of (by kernel_rfl) (by kernel_rfl) (by decide)
def QmR (r:JF Nd):List Value:=[QcD r]
theorem Kz (r:JF Nd):(QmR r).length=1:=rfl
structure Qqz (h:Hp)(a:OaT)(n c:Nat)(R:List (JF Nd)):Prop where
 s:SlP QmR h a n R
 c:n<=c
 r:∀ r ∈ R,NS h r.1.1 r.2.length r.1.2 r.2
theorem Qdx {α β:Type}{f:α->β}{R:List α}{z:β}{s:List β}(h:(R.map f).reverse=z :: s):∃ r,R=R.take (R.length-1)++[r]/\f r=z/\((R.take (R.length-1)).map f).reverse=s/\1<=R.length/\R[R.length-1]?=some r:=by
 have h1:R.map f=s.reverse++[z]:=by rw [<-mF (R.map f),h,gR]
 have hlen:R.length=s.length+1:=by have:=congrArg List.length h1;simpa using this
 have hx:R[R.length-1]?=some (R[R.length-1]'(by omega)):=bD (by omega)
 refine⟨_,?_,?_,?_,by omega,hx⟩
 ·have:=dX (R.length-1) R;rw [dS (by omega),show R.length-1+1=R.length by omega,kL] at this
  exact this.symm
 ·have:(R.map f)[R.length-1]?=some z:=by rw [h1,dP (by simp;omega)];simp [hlen]
  rw [cC,hx] at this
  simpa using this
 ·rw [jN,h1,jT (by simp;omega),mF]
section
variable {a:OaT}{m c:Nat}{l:List Nd}{h:Hp}
structure Stp (l:List Nd)(F:List (List Nd)->Nat->Prop):Prop where
 z:F [] 0
 len:∀ s i,F s i->s.length<=i
 stp:∀ s i n,F s i->l[i]?=some n->(arI n.op=0/\F ([n] :: s) (i+1)) \/
  (arI n.op=1/\∃ z s',s=z :: s'/\∀(a:OaT)(m c:Nat)(h:Hp)(R:RtT),NS h a m c z->(∀ a' n' c' h' y,h.le h'->NS h' a' n' c' y->F (y :: s') (i+1)->R (vsl a' n' c') h')->Qa Pg 181 [vi n.op,vsl a m c] h R) \/
  (arI n.op=2/\∃ z z' s',s=z' :: z :: s'/\∀(a:OaT)(m c:Nat)(a2:OaT)(m2 c2:Nat)(h:Hp)(R:RtT),NS h a m c z->NS h a2 m2 c2 z'->(∀ a' n' c' h' y,h.le h'->NS h' a' n' c' y->F (y :: s') (i+1)->R (vsl a' n' c') h')->Qa Pg 182 [vi n.op,vsl a m c,vsl a2 m2 c2] h R)
theorem Qf3 {F0S:List (List Nd)->Nat->Prop}{Z:List Nd->Prop}(S:SlP Z6 h a m l)(H:Stp l F0S)(hz:∀ s,F0S s l.length->∃ z,s=[z]/\Z z)(hm:l.length<=100000){R:RtT}
  (hK:∀ a' n' c' h' z,h.le h'->NS h' a' n' c' z->Z z->R (vsl a' n' c') h'):Qa Pg 125 [vsl a m c] h R:=by
 refine Qg5 ?_
 obtain rfl:=S.1;refine⟨fun vs hh=>∃(i:Nat)(a:OaT)(c:Nat)(Q:List (JF Nd)),vs=[vsl a Q.length c,vi i]/\i<=l.length/\h.le hh/\Qqz hh a Q.length c Q/\F0S (Q.map Prod.snd).reverse i,fun vs hh=>l.length-(Qo vs 1).toNat,
  ⟨0,none,0,[],rfl,cE _,qO h,⟨⟨rfl,.inl rfl⟩,cB _,fun r hr=>by cases hr⟩,H.z⟩,?_⟩
 rintro vs hh ⟨i,a1,c1,Q,rfl,hi,hle,SQ,F⟩;refine⟨_,_,_,_,rfl,fun g=>?_,fun g=>?_⟩
 ·have hlt:i<l.length:=by have:=bC g;omega
  have hx:l[i]?=some l[i]:=bD hlt
  obtain⟨b,o,ha,hr⟩:=(S.le hle).get Zk (by decide) hx
  have st:=H.stp _ _ _ F hx;have fl:=H.len _ _ F;rw [List.length_reverse,bQ] at fl;generalize l[i]=n at *
  refine⟨b,o,⟨ha,by omega,by omega⟩,_,_,_,_,_,_,hr,Zd ⟨_,rfl,?_⟩⟩
  have hsz:szT Pg 28=1:=by kernel_rfl
  have hcap:=SQ.c;have fin:∀(kk:Nat),kk<=Q.length->∀(z:List Nd)(a46:OaT)(n46 c46:Nat)(h47:Hp),hh.le h47->NS h47 a46 n46 c46 z->F0S (z :: ((Q.take kk).map Prod.snd).reverse) (i+1) ->
    (∃(a48:OaT)(n48 c48:Nat),(Rd Pg (Instr.sliceAt 265 (vsl a1 Q.length c1) none (some (vi kk)) (some (vi kk))) h47 (vsl a48 n48 c48))/\(∀(b49:Nat),h47 b49=none->let h50:Hp:=Hp.set h47 b49 (Qb [(vsl a46 n46 c46)] 28);(Qh Pg (Builtin.append_ #[265,265] 265 #[(vsl a48 n48 c48),(vsl (some ⟨b49,0,none⟩) 1 1)]) h50 fun v51 h52=>∃(a53:OaT)(n53 c53:Nat),v51=(vsl a53 n53 c53)/\(∃(x55:Int),(IsW x55 ((i:Int)+1))/\((∃(i:Nat)(a:OaT)(c:Nat)(Q:List (JF Nd)),[(vsl a53 n53 c53),(vi x55)]=[vsl a Q.length c,vi i]/\i<=l.length/\h.le h52/\Qqz h52 a Q.length c Q/\F0S (Q.map Prod.snd).reverse i)/\l.length-(Qo [(vsl a53 n53 c53),(vi x55)] 1).toNat<l.length-(Qo [vsl a1 Q.length c1,vi i] 1).toNat))))):=by
   intro kk hkk z a46 n46 c46 h47 l47 SZ FZ;obtain rfl:=SZ.s.1;refine⟨_,_,_,Qjk (e:=28) (by kernel_rfl) (by kernel_rfl) (by omega) (gQ _) (by omega),fun b49 hb49=>?_⟩
   intro h50;rw [bF];have l50:h47.le h50:=qQ (qO h47) hb49 _;have SK:=(SQ.s.le (qP l47 l50)).take Kz hkk;have hfl:((Q.take kk).flatMap QmR).length=kk*1:=by rw [Qi Kz,<-SK.1]
   refine Qdi QqN SK.2 hfl (fun hn=>?_) (qW _ _ [vsl a46 z.length c46] _) (m:=1) rfl (pN 0) (by omega) (by omega) fun a' c' h' O'=>⟨_,_,_,rfl,_,iW,⟨i+1,a',c',Q.take kk++[((a46,c46),z)],?_,by omega,?_,⟨?_,?_,?_⟩,?_⟩,by simp [Qo];omega⟩
   ·rcases SK.2 with h1|⟨b',o',h1,_⟩
    ·rw [h1] at hfl;simp at hfl;omega
    ·rw [hn] at h1;cases h1
   ·rw [bO,<-SK.1];rfl
   ·exact qP (qP (qP hle l47) l50) O'.le
   ·have:(Q.take kk++[((a46,c46),z)]).flatMap QmR=(Q.take kk).flatMap QmR++[vsl a46 z.length c46]:=by rw [cP];rfl
    rw [<-this] at O';have:=Qg.slp Kz (by decide) O'
    rw [bO,<-SK.1];exact this
   ·rw [bO,<-SK.1];exact O'.own.cap
   ·intro r hr;rcases bU.1 hr with h1|h1
    ·exact(SQ.r r (gC h1)).le (qP (qP l47 l50) O'.le)
    ·rw [cD] at h1;subst h1;exact SZ.le (qP l50 O'.le)
   ·rw [cJ,List.reverse_append];exact FZ
  have own:∀(kk:Nat),kk<=Q.length->Rd Pg (Instr.sliceAt 265 (vsl a1 Q.length c1) (some (vi kk)) none none) hh (vsl (VZ a1 kk c1 1) (Q.length-kk) (c1-kk))/\SlP QmR hh (VZ a1 kk c1 1) (Q.length-kk) (Q.drop kk):=by
   intro kk hkk;have:=YD (P:=Pg) (h:=hh) (t:=265) (e:=28) (by kernel_rfl) (by kernel_rfl) (a:=a1) (n:=Q.length) (c:=c1) (x:=(kk:Int)) (by omega) (by omega)
   rw [hsz,bF] at this;exact⟨this,SQ.s.drop Kz hkk hcap⟩
  rcases st with ⟨h0,F0⟩|⟨h1,z,s',hs,C1⟩|⟨h2,z,z',s',hs,C2⟩
  ·rw [h0];refine⟨(Q.length:Nat),by have:=isW (e:=((Q.length:Nat):Int)-0) (by unfold InR;omega);rw [Int.sub_zero] at this ⊢;exact this,_,_,_,(own Q.length (cB _)).1,fun _=>?_,fun g=>?_⟩
   ·intro b23 hb23 h24;refine fin Q.length (cB _) [n] _ _ _ h24 (qQ (qO hh) hb23 _) ⟨⟨rfl,qW _ _ (Z6 n) _⟩,cB _⟩ ?_
    rw [dG];exact F0
   ·exfalso;have:=bB g;omega
  ·obtain⟨r,eQ,er,es,hQ1,hr1⟩:=Qdx hs;rw [h1];refine⟨((Q.length-1:Nat):Int),by have:=isW (e:=((Q.length:Nat):Int)-1) (by unfold InR;omega);rw [show ((Q.length:Nat):Int)-1=((Q.length-1:Nat):Int) by omega] at this ⊢;exact this,_,_,_,(own (Q.length-1) (by omega)).1,fun g=>?_,fun g=>⟨fun _=>?_,fun g=>?_⟩⟩
   ·exfalso;have:=bC g;omega
   ·have S1:=(own (Q.length-1) (by omega)).2
    obtain⟨b1,o1,ha1,hc1⟩:=S1.get Kz (by decide) (i:=0) (x:=r) (by rw [fP];exact hr1)
    have NR:=SQ.r r (cF hr1);refine⟨b1,o1,⟨ha1,by decide,by omega⟩,_,_,_,qT hc1 (i:=0) rfl,?_⟩
    rw [er] at NR ⊢;refine C1 _ _ _ _ _ NR fun a' n' c' h' y l' SY Y=>⟨_,_,_,rfl,?_⟩
    refine fin (Q.length-1) (by omega) y _ _ _ _ l' SY ?_
    rw [es];exact Y
   ·exfalso;have:=bB g;omega
  ·obtain⟨r',eQ,er',es',hQ1,hr1⟩:=Qdx hs;obtain⟨r,eQ2,er,es,hQ2,hr2⟩:=Qdx es';rw [bZ] at eQ2 es hQ2 hr2;have e2:min (Q.length-1) Q.length-1=Q.length-2:=by omega
   rw [e2] at eQ2 es hr2;rw [jP,show min (Q.length-2) (Q.length-1)=Q.length-2 by omega] at es
   rw [gE,bJ (by omega)] at hr2
   rw [h2];refine⟨((Q.length-2:Nat):Int),by have:=isW (e:=((Q.length:Nat):Int)-2) (by unfold InR;omega);rw [show ((Q.length:Nat):Int)-2=((Q.length-2:Nat):Int) by omega] at this ⊢;exact this,_,_,_,(own (Q.length-2) (by omega)).1,fun g=>?_,fun g=>⟨fun g=>?_,fun g=>?_⟩⟩
   ·exfalso;have:=bC g;omega
   ·exfalso;have:=bC g;omega
   ·have S1:=(own (Q.length-2) (by omega)).2
    obtain⟨b1,o1,ha1,hc1⟩:=S1.get Kz (by decide) (i:=0) (x:=r) (by rw [fP];exact hr2)
    obtain⟨b2,o2,ha2,hc2⟩:=S1.get Kz (by decide) (i:=1) (x:=r') (by rw [fP,show Q.length-2+1=Q.length-1 by omega];exact hr1)
    have NR:=SQ.r r (cF hr2);have NR':=SQ.r r' (cF hr1);refine⟨b1,o1,⟨ha1,by decide,by omega⟩,_,_,_,qT hc1 (i:=0) rfl,b2,o2,⟨ha2,by decide,by omega⟩,_,_,_,qT hc2 (i:=0) rfl,?_⟩
    rw [er] at NR ⊢;rw [er'] at NR' ⊢;refine C2 _ _ _ _ _ _ _ _ NR NR' fun a' n' c' h' y l' SY Y=>⟨_,_,_,rfl,?_⟩
    refine fin (Q.length-2) (by omega) y _ _ _ _ l' SY ?_
    rw [es];exact Y
 ·have hge:i=l.length:=by have:=bB g;omega
  subst hge;obtain⟨z,hz,A⟩:=hz _ F;obtain⟨r,eQ,er,es,hQ1,hr1⟩:=Qdx hz;have hQ:Q.length=1:=by have:=congrArg List.length hz;simpa using this
  rw [hQ] at hr1;obtain⟨b1,o1,ha1,hc1⟩:=SQ.s.get Kz (by decide) (i:=0) (x:=r) hr1
  have NR:=SQ.r r (cF hr1);refine⟨b1,o1,⟨ha1,by decide,by omega⟩,_,_,_,qT hc1 (i:=0) rfl,?_⟩
  rw [er] at NR ⊢;exact hK _ _ _ _ _ hle NR A
theorem Vo (S:SlP Z6 h a m l)(O:OkE l)(hm:l.length<=100000){R:RtT}
  (hK:∀ a' n' c' h' z,h.le h'->NS h' a' n' c' z->Rep (fun ev=>ZM ev l) (tAt l (l.length-1)) l.length z->R (vsl a' n' c') h'):Qa Pg 125 [vsl a m c] h R:=by
 refine Qf3 (F0S:=U9 l) S ⟨.nil,fun s i F=>F.len,fun s i n F hn=>?_⟩ (fun s F=>F.done O) hm hK
 have hi:=F.all;rcases F.step O hn with h0|⟨h1,z,s',P,T,k,hs,hk,A,F1⟩|⟨h2,z,z',s',P,T,k,Q2,U,j,hs,hk,A,B,F2⟩
 ·exact .inl h0
 ·exact .inr (.inl ⟨h1,z,s',hs,fun a m c h R N hR=>QdL h1 N A (by omega) fun a' n' c' h' y l' SY Y=>hR _ _ _ _ _ l' SY (F1 y Y)⟩)
 ·exact .inr (.inr ⟨h2,z,z',s',hs,fun a m c a2 m2 c2 h R N N' hR=>Qfs h2 N A (by omega) N' B (by omega) fun a' n' c' h' y l' SY Y=>hR _ _ _ _ _ l' SY (F2 y Y)⟩)
end
structure NL (q qf:Qy):Prop where
 sz:qf.size=q.size
 sl:qf.slide=q.slide
 de:qf.delay=q.delay
 la:qf.late=q.late
 an:qf.aggs.length=q.aggs.length
 ag:∀(i:Nat)(a b:Ag),q.aggs[i]?=some a->qf.aggs[i]?=some b->b.1=a.1/\(a.1=1->b.2=[])/\(a.1≠1->Rep (fun e=>ZM e a.2) (tAt a.2 (a.2.length-1)) a.2.length b.2)
 w0:q.wh=[]->qf.wh=[]
 w1:q.wh≠[]->Rep (fun e=>ZM e q.wh) (tAt q.wh (q.wh.length-1)) q.wh.length qf.wh
 b0:q.by_=[]->qf.by_=[]
 b1:q.by_≠[]->Rep (fun e=>ZM e q.by_) (tAt q.by_ (q.by_.length-1)) q.by_.length qf.by_
theorem NL.wn {q qf:Qy}(F:NL q qf):qf.wh=[]↔q.wh=[]:=by
 constructor
 ·intro h;refine jA fun q'=>?_
  have:=(F.w1 q').pos;rw [h] at this;exact absurd this (Nat.lt_irrefl 0)
 ·exact F.w0
theorem NL.bn {q qf:Qy}(F:NL q qf):qf.by_=[]↔q.by_=[]:=by
 constructor
 ·intro h;refine jA fun q'=>?_
  have:=(F.b1 q').pos;rw [h] at this;exact absurd this (Nat.lt_irrefl 0)
 ·exact F.b0
theorem Qd7 {l:List Nd}(O:OkE l)(hl:l.length<=1000000){a:OaT}{n c:Nat}{h:Hp}(S:SlP Z6 h a n l){e:EvL}{R:RtT}(hK:∀ h',h.le h'->R (vag (Qu (ZM e l))) h'):Qa Pg 109 [vsl a n c,vag (Xk e)] h R:=
 Vx S O.wf (by have:=O.pos;omega) (by omega) hK
structure Yv (hi h:Hp)(g:Nat)(cs:List Value)(ar:OaT)(cr:Nat)(rd:List Nat)(aw:OaT)(wn cw:Nat)(ws:List Value):Prop where
 blk:h g=some (Qb cs 132)
 gn:hi g=none
 r:Qg hi h 3 1 ar rd.length cr (rd.map fun n:Nat=>vi n)
 w:Qg hi h 95 5 aw wn cw ws
 rg:ar≠some ⟨g,0,none⟩
 wg:aw≠some ⟨g,0,none⟩
 rw_:∀ b,ar=some ⟨b,0,none⟩->aw≠some ⟨b,0,none⟩
section
variable {hi h:Hp}{g:Nat}{cs:List Value}{ar:OaT}{cr:Nat}{rd:List Nat}{aw:OaT}{wn cw:Nat}{ws:List Value}
theorem Yv.le0 (M:Yv hi h g cs ar cr rd aw wn cw ws):hi.le h:=M.r.le
theorem Yv.le {h':Hp}(M:Yv hi h g cs ar cr rd aw wn cw ws)(l:h.le h'):Yv hi h' g cs ar cr rd aw wn cw ws:=
 ⟨l _ _ M.blk,M.gn,M.r.mono l,M.w.mono l,M.rg,M.wg,M.rw_⟩
theorem QdU {h0 h:Hp}{e:TypeId}{sz n c:Nat}{a:OaT}{xs:List Value}(O:Qg h0 h e sz a n c xs){b:Nat}(hb:a=some ⟨b,0,none⟩):h b≠none:=(Qaf.fp e sz a n c xs).al (⟨O.own,rfl⟩:Qaf e sz a n c xs h (fun b=>a=some ⟨b,0,none⟩)) b hb
theorem Yv.rebase (M:Yv hi h g cs ar cr rd aw wn cw ws):∃ hj:Hp,hi.le hj/\Yv hj h g cs ar cr rd aw wn cw ws/\∀ b o,h b=some o->b≠g->ar≠some ⟨b,0,none⟩->aw≠some ⟨b,0,none⟩->hj b=some o:=by
 have e1:∀ b,(b=g\/ar=some ⟨b,0,none⟩\/aw=some ⟨b,0,none⟩)->(fun b=>if b=g\/ar=some ⟨b,0,none⟩\/aw=some ⟨b,0,none⟩ then none else h b:Hp) b=none:=fun b hb=>bJ hb
 have e2:∀ b,¬(b=g\/ar=some ⟨b,0,none⟩\/aw=some ⟨b,0,none⟩)->(fun b=>if b=g\/ar=some ⟨b,0,none⟩\/aw=some ⟨b,0,none⟩ then none else h b:Hp) b=h b:=fun b hb=>bE hb
 generalize (fun b=>if b=g\/ar=some ⟨b,0,none⟩\/aw=some ⟨b,0,none⟩ then none else h b:Hp)=hj at e1 e2
 have lj:Hp.le hj h:=fun b o ho=>by
  by_cases q:b=g\/ar=some ⟨b,0,none⟩\/aw=some ⟨b,0,none⟩
  ·rw [e1 b q] at ho;cases ho
  ·rw [e2 b q] at ho;exact ho
 refine⟨hj,fun b o ho=>?_,⟨M.blk,e1 g (.inl rfl),⟨lj,M.r.own,fun b hb=>e1 b (.inr (.inl hb))⟩,⟨lj,M.w.own,fun b hb=>e1 b (.inr (.inr hb))⟩,M.rg,M.wg,M.rw_⟩,fun b o ho n1 n2 n3=>(e2 b (by
  rintro(q|q|q)
  ·exact n1 q
  ·exact n2 q
  ·exact n3 q)).trans ho⟩
 refine(e2 b ?_).trans (M.le0 b o ho)
 rintro(q|q|q)
 ·rw [q,M.gn] at ho;cases ho
 ·rw [M.r.new b q] at ho;cases ho
 ·rw [M.w.new b q] at ho;cases ho
theorem Yv.rebase_new {h1:Hp}(M:Yv hi h g cs ar cr rd aw wn cw ws)(l:h.le h1):∃ hj:Hp,hi.le hj/\Yv hj h1 g cs ar cr rd aw wn cw ws/\(∀(a:OaT)(xs:List Value),Qe h1 a xs->(∀ b o,a=some ⟨b,o,none⟩->h b=none)->Qe hj a xs)/\∀ b o,h1 b=some o->h b=none->hj b=some o:=by
 obtain⟨hj,l1,M1,k1⟩:=(M.le l).rebase;have key:∀ b o,h1 b=some o->h b=none->hj b=some o:=fun b o ho hn=>k1 b o ho (fun q=>by rw [q,M.blk] at hn;cases hn) (fun q=>QdU M.r q hn) (fun q=>QdU M.w q hn)
 refine⟨hj,l1,M1,fun a xs H hn=>Qe.over H fun b o ob hb ho=>key b ob ho (hn b o hb),key⟩
theorem Yv.put (M:Yv hi h g cs ar cr rd aw wn cw ws){j:Nat}{v:Value}(hj:j<cs.length){K:HpT}(hK:∀ h',Yv hi h' g (cs.set j v) ar cr rd aw wn cw ws->K h'):h.store g j [v] K:=by
 refine Zu M.blk (by simp only [dV];omega) ?_
 rw [Jy _ _ _ hj];refine hK _ ⟨qK _ _ _,M.gn,Qg.apart M.r (fun b o ho=>?_) (fun b o hb ho=>?_),Qg.apart M.w (fun b o ho=>?_) (fun b o hb ho=>?_),M.rg,M.wg,M.rw_⟩
 ·exact(qL h _ (fun q=>by rw [q,M.gn] at ho;cases ho)).trans (M.le0 b o ho)
 ·exact(qL h _ (fun q=>M.rg (by rw [hb,q]))).trans ho
 ·exact(qL h _ (fun q=>by rw [q,M.gn] at ho;cases ho)).trans (M.le0 b o ho)
 ·exact(qL h _ (fun q=>M.wg (by rw [hb,q]))).trans ho
theorem Yv.read (M:Yv hi h g cs ar cr rd aw wn cw ws){p:Nat}{x:Nat}(hp:p<rd.length):∃ b,ar=some ⟨b,0,none⟩/\h.cell b (0+p*1)=some (vi (rd.getD p 0:Nat))/\∀ K:HpT,(∀ h',Yv hi h' g cs ar cr (rd.set p x) aw wn cw ws->K h')->h.store b (0+p*1) [vi (x:Int)] K:=by
 have S:SlI h ar rd.length (rd.map fun n:Nat=>(n:Int)):=by
  have:=M.r;rw [show (rd.map fun n:Nat=>vi n)=(rd.map fun n:Nat=>(n:Int)).map vi by rw [fH];rfl] at this
  exact this.sli
 obtain⟨b,o,ea,hc⟩:=S.get hp;have ho:=M.r.own.at0 b o ea;subst ho;have hg:(rd.map fun n:Nat=>(n:Int)).getD p 0=((rd.getD p 0:Nat):Int):=by
  rw [bI,bI,cC,bD hp];rfl
 rw [hg] at hc;refine⟨b,ea,hc,fun K hK=>?_⟩
 have O:Qg hi h 3 1 ar rd.length cr ((rd.map fun n:Nat=>(n:Int)).map vi):=by rw [fH];exact M.r
 refine O.store_i (x:=(x:Int)) hp ea fun ob O'=>hK _ ?_
 have e:((rd.map fun n:Nat=>(n:Int)).set p (x:Int)).map vi=(rd.set p x).map fun n:Nat=>vi n:=by rw [<-gM,fH];rfl
 rw [e] at O';have hbg:g≠b:=fun q=>M.rg (by rw [ea,q])
 refine⟨(qL h _ hbg).trans M.blk,M.gn,by rw [dL];exact O',Qg.apart M.w O'.le (fun b' o hb ho=>(qL h _ (fun q=>M.rw_ b ea (by rw [hb,q]))).trans ho),M.rg,M.wg,M.rw_⟩
theorem Qku:ElT Pg 48 95 5 56:=.of (by kernel_rfl) (by kernel_rfl) (by decide)
theorem Yv.rows (M:Yv hi h g cs ar cr rd aw wn cw ws){m b:Nat}{news:List Value}(hb:h b=none)(hl:news.length=m*5)(h1:∀ u ∈ news,u.oneCell'=true)(hn:wn+m<=100000000){ty:TypeId}{K:RtT}
  (hK:∀ aw' cw' h',Yv hi h' g cs ar cr rd aw' (wn+m) cw' (ws++news)->K (vsl aw' (wn+m) cw') h') :
  Qh Pg (Builtin.append_ #[48,48] ty #[vsl aw wn cw,vsl (some ⟨b,0,none⟩) m m]) (h.set b (Qb news 95)) K:=by
 have M1:=M.le (qQ (qO h) hb (Qb news 95));refine q8 Qku M1.w (qW _ _ news _) hl h1 (by omega) (by omega) fun a' c' h' O' k1 k2=>hK a' c' h' ?_
 refine⟨k1 g _ M1.blk M.wg,M.gn,Qg.apart M1.r O'.le (fun b' o hb' ho=>k1 b' o ho (M.rw_ b' hb')),O',M.rg,fun q=>?_,fun b' hb' q=>?_⟩
 ·rcases k2 g q with e|e
  ·exact M.wg (e.trans q)
  ·rw [M1.blk] at e;cases e
 ·rcases k2 b' q with e|e
  ·exact M.rw_ b' hb' (e.trans q)
  ·exact QdU M1.r hb' e
end
def Zj (b:Bool × PK)(v:Value):List Value:=[vb b.1,vi b.2.1,vi b.2.2.1,vi b.2.2.2,v]
theorem MO (b:Bool × PK)(v:Value):(Zj b v).length=5:=rfl
def YF (w:Rw):(Bool × PK) × List Vl:=((w.1,w.2.1),w.2.2)
def pnT (ks:List Int)(p:Pn):PK × List AcS × Bool:=(p.k,Yl ks p.rs,p.t)
def KL (a1:OaT)(n1 c1:Nat)(a2:OaT)(n2 c2:Nat)(a3:OaT)(n3 c3:Nat)(qf:Qy)(ak:OaT)(nk ck:Nat)(ar:OaT)(nr cr:Nat)(ac:OaT)(nc cc:Nat)(tb:OaT)(tn tc:Nat)(late:Nat)(aw:OaT)(wn cw:Nat):List Value:=
 [vsl a1 n1 c1,vsl a2 n2 c2,vsl a3 n3 c3,vi qf.size,vi qf.slide,vi qf.delay,vi qf.late,vsl ak nk ck,vsl ar nr cr,vsl ac nc cc,vsl tb tn tc,vi (late:Nat),vsl aw wn cw]
structure Qk3 (q qf:Qy)(hi:Hp)(a1:OaT)(n1:Nat)(a2:OaT)(n2:Nat)(a3:OaT)(n3:Nat)(ak:OaT)(nk:Nat)(ac:OaT)(nc:Nat)(tb:OaT)(R:List PR)(RW:List (Xt Vl (Bool × PK)))(st:En):Prop where
 f:NL q qf
 qa:QAt hi qf a1 n1 a2 n2 a3 n3
 k:SlI hi ak nk (Qd q)
 c:SlI hi ac nc st.far
 t:Tb hi tb R
 p:R.map prT=st.pn.map (pnT (Qd q))
 w:Qv RW=st.rows.map YF
 wi:∀ r ∈ RW,Qe hi r.2.1.1 (r.2.2.flatMap Qu)
theorem Qk3.le {q qf:Qy}{hi hj:Hp}{a1:OaT}{n1:Nat}{a2:OaT}{n2:Nat}{a3:OaT}{n3:Nat}{ak:OaT}{nk:Nat}{ac:OaT}{nc:Nat}{tb:OaT}{R:List PR}{RW:List (Xt Vl (Bool × PK))}{st:En}(I:Qk3 q qf hi a1 n1 a2 n2 a3 n3 ak nk ac nc tb R RW st)(l:hi.le hj):Qk3 q qf hj a1 n1 a2 n2 a3 n3 ak nk ac nc tb R RW st:=
 ⟨I.f,I.qa.le l,I.k.le l,I.c.le l,I.t.le l,I.p,I.w,fun r hr=>(I.wi r hr).le l⟩
def W9 (q:Qy)(h0 h:Hp)(g:Nat)(st:En):Prop:=
 ∃(qf:Qy)(hi:Hp)(a1:OaT)(n1 c1:Nat)(a2:OaT)(n2 c2:Nat)(a3:OaT) (n3 c3:Nat) (ak:OaT) (nk ck:Nat) (ar:OaT) (cr:Nat) (ac:OaT) (nc cc:Nat) (tb:OaT) (tc:Nat) (aw:OaT) (cw:Nat) (R:List PR) (RW:List (Xt Vl (Bool × PK))),
  h0.le hi/\Yv hi h g (KL a1 n1 c1 a2 n2 c2 a3 n3 c3 qf ak nk ck ar st.rd.length cr ac nc cc tb R.length tc st.late aw RW.length cw) ar cr st.rd aw RW.length cw (RW.flatMap (QV Zj))/\Qk3 q qf hi a1 n1 a2 n2 a3 n3 ak nk ac nc tb R RW st
theorem W9.le {q:Qy}{h0 h h':Hp}{g:Nat}{st:En}(X:W9 q h0 h g st)(l:h.le h'):W9 q h0 h' g st:=by
 obtain⟨qf,hi,a1,n1,c1,a2,n2,c2,a3,n3,c3,ak,nk,ck,ar,cr,ac,nc,cc,tb,tc,aw,cw,R,RW,l0,M,I⟩:=X;exact⟨qf,hi,a1,n1,c1,a2,n2,c2,a3,n3,c3,ak,nk,ck,ar,cr,ac,nc,cc,tb,tc,aw,cw,R,RW,l0,M.le l,I⟩
theorem W9.le0 {q:Qy}{h0 h:Hp}{g:Nat}{st:En}(X:W9 q h0 h g st):h0.le h:=by
 obtain⟨qf,hi,a1,n1,c1,a2,n2,c2,a3,n3,c3,ak,nk,ck,ar,cr,ac,nc,cc,tb,tc,aw,cw,R,RW,l0,M,I⟩:=X;exact qP l0 M.le0
theorem QjZ {ks:List Int}{R:List PR}{L:List Pn}(h:R.map prT=L.map (pnT ks)):R.map (·.k)=L.map (·.k):=by
 have:=congrArg (List.map Prod.fst) h;rw [fH,fH] at this;exact this
theorem QnT {ks:List Int}{R:List PR}{L:List Pn}(h:R.map prT=L.map (pnT ks)){i:Nat}{r:PR}(hr:R[i]?=some r):∃ p,L[i]?=some p/\r.k=p.k/\r.acs=Yl ks p.rs/\r.t=p.t:=by
 have h1:(R.map prT)[i]?=some (prT r):=by rw [cC,hr];rfl
 rw [h,cC,dF] at h1
 obtain⟨p,hp,e⟩:=h1;simp only [pnT,prT,fC] at e;exact⟨p,hp,e.1.symm,e.2.1.symm,e.2.2.symm⟩
theorem QlQ {k:PK}{v:List Vl}:∀{l:List Pn} {i:Nat} {p:Pn},l.Pairwise (fun a b=>Qt a.k b.k)->l[i]?=some p->p.k=k->Ks k v l=l.set i ⟨k,p.rs++[v],p.t⟩
 | [],i,p,_,h,_=>by simp at h
 | x :: l,0,p,hs,h,hk=>by
  simp only [List.getElem?_cons_zero,bH] at h
  subst h;rw [Ks,bE (by rw [hk];exact Z5 k),bJ hk,dJ]
 | x :: l,i+1,p,hs,h,hk=>by
  obtain⟨h1,h2⟩:=fA.1 hs;simp only [pI] at h
  have hx:=h1 p (cF h);rw [hk] at hx;rw [Ks,bJ hx,d6,QlQ h2 h hk]
theorem Qjo {k:PK}{v:List Vl}:∀{l:List Pn} {i:Nat},i<=l.length->(∀ x ∈ l.take i,Qt x.k k)->(∀ x,l[i]?=some x->¬ Qt x.k k)->(∀ x ∈ l,x.k≠k)->Ks k v l=l.take i++⟨k,[v],false⟩ :: l.drop i
 | [],0,_,_,_,_=>rfl
 | [],i+1,h,_,_,_=>by simp at h
 | x :: l,0,_,_,h,hn=>by
  rw [Ks,bE (h x rfl),bE (hn x (bY ..))];rfl
 | x :: l,i+1,hi,h1,h,hn=>by
  rw [Ks,bJ (h1 x (by simp)),Qjo (by simpa using hi) (fun y hy=>h1 y (by simp [hy])) (fun y hy=>h y (by simpa using hy)) (fun y hy=>hn y (bT _ hy))]
  rfl
theorem QnJ {q:Qy}{parts N:Nat}{st:En}(H:EnB q parts N st)(hN:N<=1000000000){R:List PR}(hp:R.map prT=st.pn.map (pnT (Qd q))):∀ r ∈ R,r.acs.length=(Qd q).length/\(∀ x ∈ r.acs,AcB x)/\-1000<=r.k.1/\r.k.1<=9999:=by
 intro r hr;obtain⟨i,hi⟩:=gB hr
 obtain⟨p,hp1,e1,e2,e3⟩:=QnT hp hi;obtain⟨q1,q2,q3,q4⟩:=H.pa p (cF hp1);have hl:∀ r ∈ p.rs,r.length=(Qd q).length:=fun r hr=>by rw [(q4 r hr).l,Qw]
 rw [e1,e2];refine⟨?_,Qa5 hl (fun r hr=>(q4 r hr).v) (by omega),q2,q3⟩
 have:=congrArg List.length (YG hl);rw [bQ] at this;exact this
theorem XK {u0:OaT}{u1 u2:Nat}{u3:OaT}{u4 u5:Nat}{h:Hp}{R:RtT}(H:((decide ((u1:Int)≠(u4:Int)))=true->R (vb false) h)/\((decide ((u1:Int)≠(u4:Int)))=false->∃(I3:LtT)(m4:LmT),I3 [vi 0] h/\∀ vs5 h6,I3 vs5 h6->∃ x7,vs5=[vi x7]/\((decide (x7<(u1:Int)))=true->∃ b10 o11,Ix u0 b10 o11 x7 u1/\∃ x12 x13,Hp.row h6 b10 (o11+x7.toNat*2) 2=some [vi x12,vi x13]/\∃ b14 o15,Ix u3 b14 o15 x7 u4/\∃ x16 x17,Hp.row h6 b14 (o15+x7.toNat*2) 2=some [vi x16,vi x17]/\∃ p18,RdG .neq 54 (.tmp 19) (.tmp 23) (vag [vi x12,vi x13]) (vag [vi x16,vi x17]) h6 (vb p18)/\(p18=true->R (vb false) h6)/\(p18=false->∃ x20,IsW x20 (x7+1)/\I3 [vi x20] h6/\m4 [vi x20] h6<m4 vs5 h6))/\((decide (x7<(u1:Int)))=false->R (vb true) h6))):Qa Pg 170 [vsl u0 u1 u2,vsl u3 u4 u5] h R:=callC ⟨[],[(4,([13],[.one (.int .i64)],[]))],[(6,[0,1,2,3,4,5,6,7,8])]⟩ Tryz.func170 [.one (.v (vsl u0 u1 u2)),.one (.v (vsl u3 u4 u5))] H
theorem JO {u0:Int}{u1:Int}{u2:Int}{u3:OaT}{u4 u5:Nat}{u6:Bool}{f_0b f_0o:Nat}{f_1b f_1o:Nat}{h:Hp}{R:RtT}(H:∃ x1,Hp.cell h f_0b f_0o=some (vi x1)/\∃ x2 x3,((decide (u0=x1))=true->Hp.row h f_1b f_1o 2=some [vi x2,vi x3])/\∃ p4,((decide (u0=x1))=true->RdG .eql 54 (.tmp 11) (.tmp 12) (vag [vi u1,vi u2]) (vag [vi x2,vi x3]) h (vb p4))/\R (vb (cond (decide (u0=x1)) p4 false)) h):Qa Pg 169 [vag [vi u0,vi u1,vi u2,vsl u3 u4 u5,vb u6],vhp f_0b f_0o,vhp f_1b f_1o] h R:=callO Tryz.func169 [.ag [.v (vi u0),.v (vi u1),.v (vi u2),.v (vsl u3 u4 u5),.v (vb u6)],.one (.hp f_0b f_0o),.one (.hp f_1b f_1o)] H
theorem GH {u0 u1:Nat}{u2:Int}{u3:Int}{u4:Int}{u5:Int}{u6:Int}{u7:Int}{u8:Int}{h:Hp}{R:RtT}(H:∃ a1 n1 c1,Hp.cell h u0 (u1+2)=some (vsl a1 n1 c1)/\((decide ((n1:Int)=0))=true->Qa Pg 131 [] h fun v2 h3=>∃ x4 x5,v2=vag [vi x4,vi x5]/\R (vag [vi x4,vi x5]) h3)/\((decide ((n1:Int)=0))=false->∃ a7 n7 c7,Hp.cell h u0 (u1+2)=some (vsl a7 n7 c7)/\Qa Pg 109 [vsl a7 n7 c7,vag [vi u2,vi u3,vi u4,vi u5,vi u6,vi u7,vi u8]] h fun v8 h9=>∃ x10 x11,v8=vag [vi x10,vi x11]/\R (vag [vi x10,vi x11]) h9)):Qa Pg 166 [vhp u0 u1,vag [vi u2,vi u3,vi u4,vi u5,vi u6,vi u7,vi u8]] h R:=callC ⟨[],[],[(3,[0,1,2,3,4,5,6,7])]⟩ Tryz.func166 [.one (.hp u0 u1),.ag [.v (vi u2),.v (vi u3),.v (vi u4),.v (vi u5),.v (vi u6),.v (vi u7),.v (vi u8)]] H
theorem VR {u0 u1:Nat}{u2:Int}{u3:Int}{u4:Int}{u5:Int}{u6:Int}{u7:Int}{u8:Int}{h:Hp}{R:RtT}(H:∃ a1 n1 c1,Hp.cell h u0 u1=some (vsl a1 n1 c1)/\∃(I3:LtT)(m4:LmT),I3 [vsl none 0 0,vi 0] h/\∀ vs5 h6,I3 vs5 h6->∃ a7 n7 c7 x8,vs5=[vsl a7 n7 c7,vi x8]/\((decide (x8<(n1:Int)))=true->let J35:OaT->Nat->Nat->Hp->Prop:=fun a38 n38 c38 h39=>(∃ x40,IsW x40 (x8+1)/\I3 [vsl a38 n38 c38,vi x40] h39/\m4 [vsl a38 n38 c38,vi x40] h39<m4 vs5 h6);∃ b11 o12,Ix a1 b11 o12 x8 n1/\∃ x13 a14 n14 c14,Hp.row h6 b11 (o12+x8.toNat*2) 2=some [vi x13,vsl a14 n14 c14]/\((decide (x13=1))=true->Qa Pg 131 [] h6 fun v15 h16=>∃ x17 x18,v15=vag [vi x17,vi x18]/\∀ b19,h16 b19=none->let h20:=Hp.set h16 b19 (Qb [vi x17,vi x18] 54);Qh Pg (Builtin.append_ #[91,91] 91 #[vsl a7 n7 c7,(vsl (some ⟨b19,0,none⟩) 1 1)]) h20 fun v21 h22=>∃ a23 n23 c23,v21=vsl a23 n23 c23/\J35 a23 n23 c23 h22)/\((decide (x13=1))=false->Qa Pg 109 [vsl a14 n14 c14,vag [vi u2,vi u3,vi u4,vi u5,vi u6,vi u7,vi u8]] h6 fun v25 h26=>∃ x27 x28,v25=vag [vi x27,vi x28]/\∀ b29,h26 b29=none->let h30:=Hp.set h26 b29 (Qb [vi x27,vi x28] 54);Qh Pg (Builtin.append_ #[91,91] 91 #[vsl a7 n7 c7,(vsl (some ⟨b29,0,none⟩) 1 1)]) h30 fun v31 h32=>∃ a33 n33 c33,v31=vsl a33 n33 c33/\J35 a33 n33 c33 h32))/\((decide (x8<(n1:Int)))=false->R (vsl a7 n7 c7) h6)):Qa Pg 168 [vhp u0 u1,vag [vi u2,vi u3,vi u4,vi u5,vi u6,vi u7,vi u8]] h R:=callC ⟨[],[(3,([5,14],[.one (.slice),.one (.int .i64)],[]))],[]⟩ Tryz.func168 [.one (.hp u0 u1),.ag [.v (vi u2),.v (vi u3),.v (vi u4),.v (vi u5),.v (vi u6),.v (vi u7),.v (vi u8)]] H
theorem UD {u0 u1:Nat}{u2:Int}{u3:Int}{u4:Int}{u5:Int}{u6:Int}{u7:Int}{u8:Int}{u9:Int}{h:Hp}{R:RtT}(H:∀ b1,h b1=none->let h2:=Hp.set h b1 (Qb [vi u2] 3);Qa Pg 166 [vhp u0 u1,vag [vi u3,vi u4,vi u5,vi u6,vi u7,vi u8,vi u9]] h2 fun v3 h4=>∃ x5 x6,v3=vag [vi x5,vi x6]/\∀ b7,h4 b7=none->let h8:=Hp.set h4 b7 (Qb [vi 0,vi 0] 54);Hp.store h8 b7 0 [vi x5,vi x6] fun h9=>∃ a10 n10 c10,Hp.row h9 u0 (u1+10) 1=some [vsl a10 n10 c10]/\∃ x11,Hp.cell h9 b1 0=some (vi x11)/\∃ x12 x13,Hp.row h9 b7 0 2=some [vi x12,vi x13]/\∃ a14 n14 c14,Hp.cell h9 u0 (u1+7)=some (vsl a14 n14 c14)/\Qa Pg 168 [vhp u0 u1,vag [vi u3,vi u4,vi u5,vi u6,vi u7,vi u8,vi u9]] h9 fun v15 h16=>∃ a17 n17 c17,v15=vsl a17 n17 c17/\Hp.cell h16 u0 (u1+7)=some (vsl a14 n14 c14)/\Hp.row h16 b7 0 2=some [vi x12,vi x13]/\Hp.cell h16 b1 0=some (vi x11)/\Hp.row h16 u0 (u1+10) 1=some [vsl a10 n10 c10]/\Qa Pg 167 [vag [vsl a10 n10 c10],vi x11,vag [vi x12,vi x13],vsl a14 n14 c14,vsl a17 n17 c17] h16 fun v18 h19=>∃ a20 n20 c20 x21 x22 x23 a24 n24 c24 p25 p26,v18=Qf [vag [vsl a20 n20 c20],vag [vi x21,vi x22,vi x23,vsl a24 n24 c24,vb p25],vb p26]/\∀ b27,h19 b27=none->let h28:=Hp.set h19 b27 (Qb [vsl none 0 0] 130);∀ b29,h28 b29=none->let h30:=Hp.set h28 b29 (Qb [vi 0,vi 0,vi 0,vsl none 0 0,vb false] 150);Hp.store h30 b27 0 [vsl a20 n20 c20] fun h31=>Hp.store h31 b29 0 [vi x21,vi x22,vi x23,vsl a24 n24 c24,vb p25] fun h32=>∃ a33 n33 c33,Hp.row h32 b27 0 1=some [vsl a33 n33 c33]/\Hp.store h32 u0 (u1+10) [vsl a33 n33 c33] fun h34=>∃ p35,((!p26)=false->Hp.cell h34 b29 (0+4)=some (vb p35))/\((cond (!p26) true (!p35))=true->R (Qf []) h34)/\((cond (!p26) true (!p35))=false->∃ x37 x38 x39 a40 n40 c40 p41,Hp.row h34 b29 0 5=some [vi x37,vi x38,vi x39,vsl a40 n40 c40,vb p41]/\Qa Pg 81 [vag [vi x37,vi x38,vi x39,vsl a40 n40 c40,vb p41]] h34 fun v42 h43=>∃ x44 x45 x46 a47 n47 c47,v42=vag [vi x44,vi x45,vi x46,vsl a47 n47 c47]/\∃ a48 n48 c48,Hp.cell h43 b27 0=some (vsl a48 n48 c48)/\Qa Pg 74 [vsl a48 n48 c48,(Value.func (.func 169) #[] #[vhp b1 0,vhp b7 0])] h43 fun v49 h50=>∃ x51,v49=vi x51/\∃ a52 n52 c52,Hp.cell h50 b27 0=some (vsl a52 n52 c52)/\∃ b53 o54,Ix a52 b53 o54 x51 n52/\∃ x55 x56 x57 a58 n58 c58 p59,Hp.row h50 b53 (o54+x51.toNat*5) 5=some [vi x55,vi x56,vi x57,vsl a58 n58 c58,vb p59]/\Qa Pg 81 [vag [vi x55,vi x56,vi x57,vsl a58 n58 c58,vb p59]] h50 fun v60 h61=>∃ x62 x63 x64 a65 n65 c65,v60=vag [vi x62,vi x63,vi x64,vsl a65 n65 c65]/\Qa Pg 170 [vsl a47 n47 c47,vsl a65 n65 c65] h61 fun v66 h67=>∃ p68,v66=vb p68/\((!p68)=true->∃ a69 n69 c69,Hp.cell h67 u0 (u1+12)=some (vsl a69 n69 c69)/\∀ b70,h67 b70=none->let h71:=Hp.set h67 b70 (Qb [vb true,vi x44,vi x45,vi x46,vsl a47 n47 c47,vb false,vi x62,vi x63,vi x64,vsl a65 n65 c65] 95);Qh Pg (Builtin.append_ #[48,48] 48 #[vsl a69 n69 c69,(vsl (some ⟨b70,0,none⟩) 2 2)]) h71 fun v72 h73=>∃ a74 n74 c74,v72=vsl a74 n74 c74/\Hp.store h73 u0 (u1+12) [vsl a74 n74 c74] fun h75=>R (Qf []) h75)/\((!p68)=false->R (Qf []) h67))):Qa Pg 111 [vhp u0 u1,vi u2,vag [vi u3,vi u4,vi u5,vi u6,vi u7,vi u8,vi u9]] h R:=callC ⟨[8,7,4,6],[],[(2,[0,1,2,3,4,5,6,7,8,9,10,11,12,13,14,15,16,17,18,19,20,21,22]),(9,[0,1,2,3,4,5,6,7,8,9,10,11,12,13])]⟩ Tryz.func111 [.one (.hp u0 u1),.one (.v (vi u2)),.ag [.v (vi u3),.v (vi u4),.v (vi u5),.v (vi u6),.v (vi u7),.v (vi u8),.v (vi u9)]] H
theorem VU {u0 u1:Nat}{u2:Int}{u3:Int}{u4:Int}{u5:Int}{u6:Int}{u7:Int}{u8:Int}{u9:Int}{h:Hp}{R:RtT}(H:∃ a1 n1 c1,Hp.row h u0 (u1+9) 1=some [vsl a1 n1 c1]/\∃ x2,Hp.cell h u0 (u1+5)=some (vi x2)/\Qa Pg 108 [vag [vsl a1 n1 c1],vi u2,vi x2] h fun v3 h4=>∃ x5 p6,v3=Qf [vi x5,vb p6]/\∃ a7 n7 c7,Hp.cell h4 u0 (u1+1)=some (vsl a7 n7 c7)/\∃ a8 n8 c8,((decide ((n7:Int)=0))=false->Hp.cell h4 u0 (u1+1)=some (vsl a8 n8 c8))/\∃(J9:ShT),((decide ((n7:Int)=0))=false->Qa Pg 109 [vsl a8 n8 c8,vag [vi u3,vi u4,vi u5,vi u6,vi u7,vi u8,vi u9]] h4 fun v10 h11=>∃ x12 x13,v10=vag [vi x12,vi x13]/\J9 (.t (.ag [.v (vi x12),.v (vi x13)])) h11)/\(¬((decide ((n7:Int)=0))=false)->J9 (.t (.ag [.v (vi 0),.v (vi 0)])) h4)/\∀ h14 x15 x16,J9 (.t (.ag [.v (vi x15),.v (vi x16)])) h14->∃(J17:ShT),((decide ((n7:Int)=0))=false->Qa Pg 110 [vb true] h14 fun v18 h19=>∃ x20 x21,v18=vag [vi x20,vi x21]/\J17 (.t (.ag [.v (vi x20),.v (vi x21)])) h19)/\(¬((decide ((n7:Int)=0))=false)->J17 (.t (.ag [.v (vi 0),.v (vi 0)])) h14)/\∀ h22 x23 x24,J17 (.t (.ag [.v (vi x23),.v (vi x24)])) h22->∃ p25,((decide ((n7:Int)=0))=false->RdG .eql 54 (.tmp 44) (.tmp 45) (vag [vi x15,vi x16]) (vag [vi x23,vi x24]) h22 (vb p25))/\let J58:HpT:=fun h59=>(∃ a60 n60 c60,Hp.cell h59 u0 (u1+8)=some (vsl a60 n60 c60)/\∃ b61 o62,Ix a60 b61 o62 u2 n60/\∃ x63,Hp.cell h59 b61 (o62+u2.toNat*1)=some (vi x63)/\∃ x64,IsW x64 (x63+1)/\∃ b65 o66,Ix a60 b65 o66 u2 n60/\Hp.store h59 b65 (o66+u2.toNat*1) [vi x64] fun h67=>∃ a68 n68 c68,Hp.row h67 u0 (u1+9) 1=some [vsl a68 n68 c68]/\Qa Pg 112 [vag [vsl a68 n68 c68],vi u2,vi u3] h67 fun v69 h70=>∃ a71 n71 c71,v69=vag [vsl a71 n71 c71]/\Hp.store h70 u0 (u1+9) [vsl a71 n71 c71] fun h72=>∃ a73 n73 c73,Hp.row h72 u0 (u1+9) 1=some [vsl a73 n73 c73]/\∃ x74,Hp.cell h72 u0 (u1+5)=some (vi x74)/\Qa Pg 62 [vag [vsl a73 n73 c73],vi x74] h72 fun v75 h76=>∃ x77 p78,v75=Qf [vi x77,vb p78]/\((!p78)=true->R (Qf []) h76)/\((!p78)=false->∃ a80 n80 c80,Hp.row h76 u0 (u1+10) 1=some [vsl a80 n80 c80]/\∃ x81,Hp.cell h76 u0 (u1+3)=some (vi x81)/\Qa Pg 113 [vag [vsl a80 n80 c80],vi x81,vi x77] h76 fun v82 h83=>∃ a84 n84 c84 a85 n85 c85,v82=Qf [vag [vsl a84 n84 c84],vsl a85 n85 c85]/\∃(I87:LtT)(m88:LmT),I87 [vi 0] h83/\∀ vs89 h90,I87 vs89 h90->∃ x91,vs89=[vi x91]/\((decide (x91<(n85:Int)))=true->∃ b94 o95,Ix a85 b94 o95 x91 n85/\∃ x96 x97 x98 a99 n99 c99 p100,Hp.row h90 b94 (o95+x91.toNat*5) 5=some [vi x96,vi x97,vi x98,vsl a99 n99 c99,vb p100]/\∃ a101 n101 c101,Hp.cell h90 u0 (u1+12)=some (vsl a101 n101 c101)/\Qa Pg 81 [vag [vi x96,vi x97,vi x98,vsl a99 n99 c99,vb p100]] h90 fun v102 h103=>∃ x104 x105 x106 a107 n107 c107,v102=vag [vi x104,vi x105,vi x106,vsl a107 n107 c107]/\Hp.cell h103 u0 (u1+12)=some (vsl a101 n101 c101)/\∀ b108,h103 b108=none->let h109:=Hp.set h103 b108 (Qb [vb false,vi x104,vi x105,vi x106,vsl a107 n107 c107] 95);Qh Pg (Builtin.append_ #[48,48] 48 #[vsl a101 n101 c101,(vsl (some ⟨b108,0,none⟩) 1 1)]) h109 fun v110 h111=>∃ a112 n112 c112,v110=vsl a112 n112 c112/\Hp.store h111 u0 (u1+12) [vsl a112 n112 c112] fun h113=>∃ x115,IsW x115 (x91+1)/\I87 [vi x115] h113/\m88 [vi x115] h113<m88 vs89 h90)/\((decide (x91<(n85:Int)))=false->∃ x116,Hp.cell h90 u0 (u1+3)=some (vi x116)/\∃ x117,Hp.cell h90 u0 (u1+6)=some (vi x117)/\∃ x118,IsW x118 (x77-x117)/\Qa Pg 114 [vag [vsl a84 n84 c84],vi x116,vi x118] h90 fun v119 h120=>∃ a121 n121 c121,v119=vag [vsl a121 n121 c121]/\Hp.store h120 u0 (u1+10) [vsl a121 n121 c121] fun h122=>R (Qf []) h122)));((cond (decide ((n7:Int)=0)) true p25)=true->∃ x26,Hp.cell h22 u0 (u1+3)=some (vi x26)/\∃ x27,Hp.cell h22 u0 (u1+4)=some (vi x27)/\Qa Pg 71 [vi u3,vi x26,vi x27] h22 fun v28 h29=>∃ a30 n30 c30,v28=vsl a30 n30 c30/\∃(I32:LtT)(m33:LmT),I32 [vi 0] h29/\∀ vs34 h35,I32 vs34 h35->∃ x36,vs34=[vi x36]/\((decide (x36<(n30:Int)))=true->let J54:HpT:=fun h55=>(∃ x56,IsW x56 (x36+1)/\I32 [vi x56] h55/\m33 [vi x56] h55<m33 vs34 h35);∃ b39 o40,Ix a30 b39 o40 x36 n30/\∃ x41,Hp.cell h35 b39 (o40+x36.toNat*1)=some (vi x41)/\∃ x42,(p6=true->Hp.cell h35 u0 (u1+3)=some (vi x42))/\∃ x43,(p6=true->IsW x43 (x41+x42))/\∃ x44,(p6=true->Hp.cell h35 u0 (u1+6)=some (vi x44))/\∃ x45,(p6=true->IsW x45 (x43+x44))/\((cond p6 (decide (x45<=x5)) false)=true->∃ x46,Hp.cell h35 u0 (u1+11)=some (vi x46)/\∃ x47,IsW x47 (x46+1)/\Hp.store h35 u0 (u1+11) [vi x47] fun h48=>J54 h48)/\((cond p6 (decide (x45<=x5)) false)=false->Qa Pg 111 [vhp u0 u1,vi x41,vag [vi u3,vi u4,vi u5,vi u6,vi u7,vi u8,vi u9]] h35 fun v51 h52=>v51=Qf []/\J54 h52))/\((decide (x36<(n30:Int)))=false->J58 h35))/\((cond (decide ((n7:Int)=0)) true p25)=false->J58 h22)):Qa Pg 55 [vhp u0 u1,vi u2,vag [vi u3,vi u4,vi u5,vi u6,vi u7,vi u8,vi u9]] h R:=callC ⟨[],[(4,([62],[.one (.int .i64)],[])),(16,([147],[.one (.int .i64)],[]))],[(1,[0,1,2,3,4,5,6,7,8,9,10,11,12,13,14,15]),(2,[0,1,2,3,4,5,6,7,8,9,10,11,12,13,14,15,16,17]),(3,[0,1,2,3,4,5,6,7,8,9,10,11,14,12,13]),(6,[0,1,2,3,4,5,6,7,8,9,10,11,12,13,14,15,16,17]),(11,[0,1,2,3,4,5,6,7,8,9,10,11]),(12,[0,1,2,3,4,5,6,7,8,9,10,11,12,13,14]),(14,[0,1,2,3,4,5,6,7,8,9,10,11,12,13,14,15,16]),(18,[0,1,2,3,4,5,6,7,8,9,10,11,12]),(20,[0,1,2,3,4,5,6,7,8,9,10,11,12,13,14,15,16,17])]⟩ Tryz.func55 [.one (.hp u0 u1),.one (.v (vi u2)),.ag [.v (vi u3),.v (vi u4),.v (vi u5),.v (vi u6),.v (vi u7),.v (vi u8),.v (vi u9)]] H
theorem Qf1 {u0:OaT}{u1 u2:Nat}{u3:OaT}{u4 u5:Nat}{u6:OaT}{u7 u8:Nat}{u9:Int}{u10:Int}{u11:Int}{u12:Int}{u13:Int}{h:Hp}{R:RtT}(H:Qa Pg 89 [vag [vsl u0 u1 u2,vsl u3 u4 u5,vsl u6 u7 u8,vi u9,vi u10,vi u11,vi u12]] h fun v1 h2=>∃ e3,v1=ifv e3/\((Option.isSome e3)=true->R (Qf [vp none,ifv e3]) h2)/\((Option.isSome e3)=false->Qa Pg 124 [vi u13] h2 fun v5 h6=>∃ a7 n7 c7 e8,v5=Qf [vag [vsl a7 n7 c7],ifv e8]/\((Option.isSome e8)=true->R (Qf [vp none,ifv e8]) h6)/\((Option.isSome e8)=false->Qh Pg (Instr.makeSlice 46 (vi u13) (vi u13)) h6 fun v10 h11=>∃ a12 n12 c12,v10=vsl a12 n12 c12/\∀ b13,h11 b13=none->let h14:=Hp.set h11 b13 (Qb [vsl u0 u1 u2,vsl u3 u4 u5,vsl u6 u7 u8,vi u9,vi u10,vi u11,vi u12,vsl none 0 0,vsl a12 n12 c12,vsl a7 n7 c7,vsl none 0 0,vi 0,vsl none 0 0] 132);Hp.store h14 b13 0 [vsl none 0 0] fun h15=>∃(I17:LtT)(m18:LmT),I17 [vi 0] h15/\∀ vs19 h20,I17 vs19 h20->∃ x21,vs19=[vi x21]/\((decide (x21<(u1:Int)))=true->∃ b24 o25,Ix u0 b24 o25 x21 u1/\∃ x26 a27 n27 c27,Hp.row h20 b24 (o25+x21.toNat*2) 2=some [vi x26,vsl a27 n27 c27]/\let J33:OaT->Nat->Nat->Hp->Prop:=fun a38 n38 c38 h39=>(∃ a40 n40 c40,Hp.cell h39 b13 0=some (vsl a40 n40 c40)/\∀ b41,h39 b41=none->let h42:=Hp.set h39 b41 (Qb [vi x26,vsl a38 n38 c38] 153);Qh Pg (Builtin.append_ #[27,27] 27 #[vsl a40 n40 c40,(vsl (some ⟨b41,0,none⟩) 1 1)]) h42 fun v43 h44=>∃ a45 n45 c45,v43=vsl a45 n45 c45/\Hp.store h44 b13 0 [vsl a45 n45 c45] fun h46=>∃ a47 n47 c47,Hp.cell h46 b13 (0+7)=some (vsl a47 n47 c47)/\∀ b48,h46 b48=none->let h49:=Hp.set h46 b48 (Qb [vi x26] 3);Qh Pg (Builtin.append_ #[46,46] 46 #[vsl a47 n47 c47,(vsl (some ⟨b48,0,none⟩) 1 1)]) h49 fun v50 h51=>∃ a52 n52 c52,v50=vsl a52 n52 c52/\Hp.store h51 b13 (0+7) [vsl a52 n52 c52] fun h53=>∃ x55,IsW x55 (x21+1)/\I17 [vi x55] h53/\m18 [vi x55] h53<m18 vs19 h20);((decide (x26≠1))=true->Qa Pg 125 [vsl a27 n27 c27] h20 fun v28 h29=>∃ a30 n30 c30,v28=vsl a30 n30 c30/\J33 a30 n30 c30 h29)/\((decide (x26≠1))=false->J33 a27 n27 c27 h20))/\((decide (x21<(u1:Int)))=false->let J62:HpT:=fun h63=>(let J70:HpT:=fun h71=>R (Qf [vhp b13 0,ifv none]) h71;((decide ((u7:Int)>0))=true->Qa Pg 125 [vsl u6 u7 u8] h63 fun v64 h65=>∃ a66 n66 c66,v64=vsl a66 n66 c66/\Hp.store h65 b13 (0+2) [vsl a66 n66 c66] fun h67=>J70 h67)/\((decide ((u7:Int)>0))=false->J70 h63));((decide ((u4:Int)>0))=true->Qa Pg 125 [vsl u3 u4 u5] h20 fun v56 h57=>∃ a58 n58 c58,v56=vsl a58 n58 c58/\Hp.store h57 b13 (0+1) [vsl a58 n58 c58] fun h59=>J62 h59)/\((decide ((u4:Int)>0))=false->J62 h20))))):Qa Pg 59 [vag [vsl u0 u1 u2,vsl u3 u4 u5,vsl u6 u7 u8,vi u9,vi u10,vi u11,vi u12],vi u13] h R:=callC ⟨[29],[(10,([37],[.one (.int .i64)],[]))],[(7,[0,1,3,2,4,5,6]),(14,[0,1,2,3,4,5,6,7,8,9,10,11,12]),(15,[0,1,2,3,4,5,6,7,8,9,10,11])]⟩ Tryz.func59 [.ag [.v (vsl u0 u1 u2),.v (vsl u3 u4 u5),.v (vsl u6 u7 u8),.v (vi u9),.v (vi u10),.v (vi u11),.v (vi u12)],.one (.v (vi u13))] H
theorem Qj7 {h:Hp}{b:Nat}{xs ys:List Value}{t:TypeId}(hl:ys.length=xs.length){K:HpT}(hK:K (h.set b (Qb ys t))):Hp.store (h.set b (Qb xs t)) b 0 ys K:=by
 refine⟨xs.toArray,t,qK _ _ _,by simp [hl],?_⟩
 rw [rB];have e:QP xs.toArray.toList 0 ys=ys:=by
  unfold QP;rw [jG,dE,jY,dW,gG (by omega),dH]
 rw [e];exact hK
section
variable {hi h:Hp}{g:Nat}{cs:List Value}{ar:OaT}{cr:Nat}{rd:List Nat}{aw:OaT}{wn cw:Nat}{ws:List Value}{R':RtT}
theorem Yv.frame (M:Yv hi h g cs ar cr rd aw wn cw ws){f:FuncId}{args:List Value}(H:Qa Pg f args hi fun v hk=>∀ h2,hk.le h2->Yv hk h2 g cs ar cr rd aw wn cw ws->R' v h2):Qa Pg f args h R':=by
 intro w hs;refine(Qa.frame M.le0 H w hs).mono ?_
 rintro e w' ⟨v,h2,rfl,s2,F,h1,l1,kp,k⟩;refine⟨v,h2,rfl,s2,F,k h2 l1 ⟨(kp g _ M.blk M.gn).1,(kp g _ M.blk M.gn).2,Qg.apart ⟨l1,?_,?_⟩ l1 (fun b o hb ho=>ho),Qg.apart ⟨l1,?_,?_⟩ l1 (fun b o hb ho=>ho),M.rg,M.wg,M.rw_⟩⟩
 ·exact M.r.own.keep fun b o hb ho=>(kp b o ho (M.r.new b hb)).1
 ·intro b hb;cases hq:h b with
  | none=>exact absurd hq (QdU M.r hb)
  | some o=>exact(kp b o hq (M.r.new b hb)).2
 ·exact M.w.own.keep fun b o hb ho=>(kp b o ho (M.w.new b hb)).1
 ·intro b hb;cases hq:h b with
  | none=>exact absurd hq (QdU M.w hb)
  | some o=>exact(kp b o hq (M.w.new b hb)).2
theorem Yv.putK (M:Yv hi h g cs ar cr rd aw wn cw ws){j:Nat}{v:Value}(hj:j<cs.length){K:HpT}(hK:∀ h',Yv hi h' g (cs.set j v) ar cr rd aw wn cw ws->(∀ b o,b≠g->h b=some o->h' b=some o)->K h'):h.store g j [v] K:=by
 refine Zu M.blk (by simp only [dV];omega) ?_
 have e:=Jy cs j v hj;refine hK _ ?_ fun b o hb ho=>(qL h _ hb).trans ho
 have key:∀ K2:HpT,(∀ h',Yv hi h' g (cs.set j v) ar cr rd aw wn cw ws->h'=h.set g (Qb (cs.set j v) 132)->K2 h')->K2 (h.set g (Qb (cs.set j v) 132)):=by
  intro K2 hk;obtain⟨c,e0,q1,q2,q3⟩:=M.put hj (K:=fun h'=>Yv hi h' g (cs.set j v) ar cr rd aw wn cw ws) fun h' m=>m
  rw [M.blk] at q1;cases q1;refine hk _ ?_ rfl
  have:QP (cs.toArray).toList j [v]=cs.set j v:=by rw [jY,e]
  rw [this] at q3;exact q3
 rw [e];exact key _ fun h' m _=>m
theorem Yv.pair (M:Yv hi h g cs ar cr rd aw wn cw ws){b b2:Nat}{xs xs' ys ys':List Value}{t t2:TypeId}(hb:h b=none)(hb2:(h.set b (Qb xs t)) b2=none)(h1:xs'.length=xs.length)(h2:ys'.length=ys.length){K:HpT}
  (hK:∀ h',Yv hi h' g cs ar cr rd aw wn cw ws->h' b=some (Qb xs' t)->h' b2=some (Qb ys' t2)->b≠g->b2≠g->K h'):Hp.store ((h.set b (Qb xs t)).set b2 (Qb ys t2)) b 0 xs' fun h31=>Hp.store h31 b2 0 ys' K:=by
 have hne:b2≠b:=fun q=>by subst q;rw [qK] at hb2;cases hb2
 have hb2h:h b2=none:=by rw [<-qL h (Qb xs t) hne];exact hb2
 have sl:∀(l vs:List Value),vs.length=l.length->QP l 0 vs=vs:=fun l vs hl=>by
  unfold QP;rw [jG,dE,dW,gG (by omega),dH]
 refine Zu (l:=xs) (t:=t) (by rw [qL _ _ hne.symm,qK]) (by omega) ?_
 rw [sl xs xs' h1];refine Zu (l:=ys) (t:=t2) (by rw [qL _ _ hne,qK]) (by omega) ?_
 rw [sl ys ys' h2];refine hK _ (M.le fun x o ho=>?_) (by rw [qL _ _ hne.symm,qK]) (qK _ _ _) (fun q=>by rw [q,M.blk] at hb;cases hb) (fun q=>by rw [q,M.blk] at hb2h;cases hb2h)
 have n1:x≠b:=fun q=>by rw [q,hb] at ho;cases ho
 have n2:x≠b2:=fun q=>by rw [q,hb2h] at ho;cases ho
 rw [qL _ _ n2,qL _ _ n1,qL _ _ n2,qL _ _ n1];exact ho
end
section
variable {h:Hp}{R':RtT}
theorem QdV {l m:List Vl}{a b:OaT}{c d:Nat}(S:SlP Qu h a l.length l)(S2:SlP Qu h b m.length m)(hn:l.length<=1000000)(hK:R' (vb (decide (l=m))) h):Qa Pg 170 [vsl a l.length c,vsl b m.length d] h R':=by
 refine XK ?_
 refine⟨fun e=>?_,fun e=>?_⟩
 ·have hne:l≠m:=by intro q;subst q;exact bC e rfl
  rw [cO hne] at hK;exact hK
 ·have hlen:l.length=m.length:=by have:=bB e;omega
  refine⟨fun vs hh=>hh=h/\∃ i:Nat,vs=[vi i]/\i<=l.length/\l.take i=m.take i,fun vs hh=>l.length-(Qo vs 0).toNat,⟨rfl,0,rfl,cE _,rfl⟩,?_⟩
  rintro vs hh ⟨rfl,i,rfl,hi,ht⟩;refine⟨i,rfl,fun e=>?_,fun e=>?_⟩
  ·have hlt:i<l.length:=by have:=bC e;omega
   have hx:l[i]?=some l[i]:=bD hlt
   have hy:m[i]?=some (m[i]'(by omega)):=bD (by omega)
   obtain⟨b1,o1,e1,r1⟩:=S.get (sz:=2) (fun _=>rfl) (by decide) hx
   obtain⟨b2,o2,e2,r2⟩:=S2.get (sz:=2) (fun _=>rfl) (by decide) hy
   have tk:l.take (i+1)=l.take i++[l[i]]:=bL hlt;have tm:m.take (i+1)=m.take i++[m[i]'(by omega)]:=bL (by omega)
   refine⟨b1,o1,⟨e1,by omega,by omega⟩,_,_,by rw [bF];exact r1,b2,o2,⟨e2,by omega,by omega⟩,_,_,(show Hp.row hh b2 (o2+((i:Nat):Int).toNat*2) 2=some (Qu (m[i]'(by omega))) by rw [bF];exact r2),!decide (l[i]=m[i]'(by omega)),QdF,fun e3=>?_,fun e3=>?_⟩
   ·have hne:l≠m:=by
     intro q;have h1:l[i]?=m[i]?:=by rw [q]
     rw [hx,hy] at h1;have h2:=cU h1;rw [cL h2] at e3;cases e3
    rw [cO hne] at hK;exact hK
   ·have h2:l[i]=m[i]'(by omega):=by simpa using e3
    refine⟨_,iW,⟨rfl,i+1,rfl,by omega,?_⟩,by simp [Qo];omega⟩
    rw [tk,tm,ht,h2]
  ·have hge:i=l.length:=by have:=bB e;omega
   have heq:l=m:=by rw [hge,dG,hlen,dG] at ht;exact ht
   rw [cL heq] at hK;exact hK
end
section
variable {q qf:Qy}{hi h:Hp}{g:Nat}{a1:OaT}{n1 c1:Nat}{a2:OaT}{n2 c2:Nat}{a3:OaT}{n3 c3:Nat}{ak:OaT}{nk ck:Nat}{ar:OaT}{nr cr:Nat}{ac:OaT}{nc cc:Nat}{tb:OaT}{tn tc late:Nat}{aw:OaT}{wn cw:Nat}{R:List PR}{RW:List (Xt Vl (Bool × PK))}{rd:List Nat}{ws:List Value}{st:En}{e:EvL}{R':RtT}
theorem QfG (M:Yv hi h g (KL a1 n1 c1 a2 n2 c2 a3 n3 c3 qf ak nk ck ar nr cr ac nc cc tb tn tc late aw wn cw) ar cr rd aw wn cw ws)(I:Qk3 q qf hi a1 n1 a2 n2 a3 n3 ak nk ac nc tb R RW st)(B:QOk q)(E:Yb e)(hK:∀ h',h.le h'->R' (vag (Qu (Q3 q e))) h'):Qa Pg 166 [vhp g 0,vag (Xk e)] h R':=by
 refine GH ?_
 have hn:=I.qa.b.1;unfold Q3 at hK;refine⟨_,_,_,Qc M.blk rfl,fun e1=>Zc ⟨_,_,rfl,?_⟩,fun e1=>⟨_,_,_,Qc M.blk rfl,?_⟩⟩
 ·have e1:=bC e1;have hb:qf.by_=[]:=fU.1 (by omega)
  have:=hK h (qO h);rw [bJ (I.f.bn.1 hb)] at this;exact this
 ·have e1:=bB e1;have hb:qf.by_≠[]:=fun e2=>e1 (by rw [hn,e2];rfl)
  have hbq:q.by_≠[]:=fun q'=>hb (I.f.bn.2 q')
  have Rp:=I.f.b1 hbq;have hlq:=(Yq (B.b hbq)).2;refine Qd7 Rp.ok (by have:=Rp.len;omega) (I.qa.b.le M.le0) fun h' l'=>⟨_,_,rfl,?_⟩
  have:=hK h' l';rw [bE hbq,<-Rp.val e E] at this;exact this
theorem QdX (M:Yv hi h g (KL a1 n1 c1 a2 n2 c2 a3 n3 c3 qf ak nk ck ar nr cr ac nc cc tb tn tc late aw wn cw) ar cr rd aw wn cw ws)(I:Qk3 q qf hi a1 n1 a2 n2 a3 n3 ak nk ac nc tb R RW st)(B:QOk q)(E:Yb e)(hK:∀ a c h',QnN h h' a c (Qp q e)->R' (vsl a (Qp q e).length c) h'):Qa Pg 168 [vhp g 0,vag (Xk e)] h R':=by
 refine VR ?_
 have hn:=I.qa.g.len;have han:=I.f.an;have hn4:=B.n2;have hvl:(Qp q e).length=q.aggs.length:=by unfold Qp;rw [bQ]
 refine⟨_,_,_,Qc M.blk rfl,fun vs hh=>∃(i:Nat)(a:OaT)(c:Nat),vs=[vsl a ((Qp q e).take i).length c,vi i]/\i<=q.aggs.length/\QnN h hh a c ((Qp q e).take i),fun vs hh=>q.aggs.length-(Qo vs 1).toNat,⟨0,none,0,rfl,cE _,qY (qO h) _ _⟩,?_⟩
 rintro vs hh ⟨i,a,c,rfl,hi',V⟩;refine⟨a,_,c,_,rfl,fun e1=>?_,fun e1=>?_⟩
 ·have hlt:i<q.aggs.length:=by have:=bC e1;omega
  have hx:q.aggs[i]?=some q.aggs[i]:=bD hlt
  have hxf:qf.aggs[i]?=some (qf.aggs[i]'(by omega)):=bD (by omega)
  obtain⟨k1,k2,k3⟩:=I.f.ag i _ _ hx hxf;obtain⟨b,o,a',c',ha,hrow,hS⟩:=(I.qa.g.le (qP M.le0 V.le0)).row Ji (by decide) hxf
  have hvi:(Qp q e)[i]'(by omega)=if (q.aggs[i]).1=1 then(0,0) else ZM e (q.aggs[i]).2:=by unfold Qp;rw [jF]
  have tk:(Qp q e).take (i+1)=(Qp q e).take i++[(Qp q e)[i]'(by omega)]:=bL (by omega)
  have hal:((Qp q e).take i).length=i:=by rw [bZ];omega
  have hg:=B.g _ (cM hlt);intro J35;have hJ:∀(v:Vl)(h41:Hp),hh.le h41->v=(Qp q e)[i]'(by omega)->∀ b19,h41 b19=none->Qh Pg (Builtin.append_ #[91,91] 91 #[vsl a ((Qp q e).take i).length c,vsl (some ⟨b19,0,none⟩) 1 1]) (h41.set b19 (Qb [vi v.1,vi v.2] 54)) fun v21 h22=>∃ a23 n23 c23,v21=vsl a23 n23 c23/\J35 a23 n23 c23 h22:=by
   intro v h41 l41 hv b19 hb19;refine Vec.app QhA YO QpL (V.keep0 l41) (by rw [hal];omega) (by rw [hal];omega) (x:=v) hb19 fun a2' c2' h' V'=>⟨_,_,_,rfl,_,iW,⟨i+1,a2',c2',?_,by omega,?_⟩,by simp [Qo];omega⟩
   ·rw [tk,<-hv];rfl
   ·rw [tk,<-hv];exact V'
  clear_value J35;refine⟨b,o,⟨ha,by omega,by omega⟩,_,_,_,_,by rw [bF];exact hrow,fun e2=>?_,fun e2=>?_⟩
  ·have e2:=bC e2;refine Zc ⟨_,_,rfl,?_⟩
   intro b19 hb19 h20;exact hJ (0,0) hh (qO hh) (by rw [hvi,bJ (k1.symm.trans e2)]) b19 hb19
  ·have e2:=bB e2;have hne:(q.aggs[i]).1≠1:=fun q'=>e2 (k1.trans q')
   have Rp:=k3 hne;have hlq:=(Yq (hg.2.2.1 hne)).2;refine Qd7 Rp.ok (by have:=Rp.len;omega) hS fun h26 l26=>⟨_,_,rfl,?_⟩
   intro b29 hb29 h30;exact hJ (ZM e (qf.aggs[i]'(by omega)).2) h26 l26 (by rw [hvi,bE hne];exact Rp.val e E) b29 hb29
 ·have hge:i=q.aggs.length:=by have:=bB e1;omega
  rw [cY (by omega)] at V ⊢
  exact hK a c hh V
end
theorem QaZ {r:PR}{K:PK}{b1 b2:Nat}{h:Hp}{R':RtT}(h1:h.cell b1 0=some (vi K.1))(h2:h.row b2 0 2=some (Qu K.2))(hK:R' (vb (decide (r.k=K))) h):Qa Pg 169 [vag (Ql r),vhp b1 0,vhp b2 0] h R':=by
 refine JO ?_
 refine⟨_,h1,_,_,fun _=>h2,decide (r.k.2=K.2),fun _=>Xz,?_⟩
 have e:(bif (decide ((r.k.1:Int)=K.1)) then(decide (r.k.2=K.2)) else false)=decide (r.k=K):=by rw [KS];exact fN.2 (Prod.ext_iff).symm
 show R' (vb (bif (decide ((r.k.1:Int)=K.1)) then(decide (r.k.2=K.2)) else false)) h;rw [e];exact hK
theorem Qnl {R:List PR}(hs:(R.map (·.k)).Pairwise Qt){i j:Nat}{x y:PR}(hx:R[i]?=some x)(hy:R[j]?=some y)(e:x.k=y.k):i=j:=by
 obtain⟨hi,ex⟩:=bG.1 hx
 obtain⟨hj,ey⟩:=bG.1 hy
 rcases pC i j with q|q|q
 ·have:=fL.1 hs i j (by simpa using hi) (by simpa using hj) q
  simp only [jF,ex,ey,e] at this;exact absurd this (Z5 _)
 ·exact q
 ·have:=fL.1 hs j i (by simpa using hj) (by simpa using hi) q
  simp only [jF,ex,ey,e] at this;exact absurd this (Z5 _)
theorem QlJ {ks:List Int}{k:PK}{v:List Vl}{p:Pn}(h:¬(p.t=true/\YW ks p.rs≠YW ks (p.rs++[v]))):Uz ks k v (some p)=[]:=bE h
theorem Qm6 {ks:List Int}{k:PK}{v:List Vl}{p:Pn}(h:p.t=true/\YW ks p.rs≠YW ks (p.rs++[v])):Uz ks k v (some p)=[(true,k,YW ks p.rs),(false,k,YW ks (p.rs++[v]))]:=bJ h
theorem Qfe {h:Hp}{K':RtT}{a:OaT}{R:List PR}{c n:Nat}(hl:n=R.length){fv:Value}{p:PR->Bool}(S:SlP Ql h a R.length R)(hn:R.length<=1000000)(hf:∀ r ∈ R,∀ K2:RtT,K2 (vb (p r)) h->ZC Pg fv [vag (Ql r)] h K2)
  (hy:∀(i:Nat)(r:PR),R[i]?=some r->p r=true->(∀ x ∈ R.take i,p x=false)->K' (vi i) h) (hno:(∀ r ∈ R,p r=false)->K' (vi (-1)) h):Qa Pg 74 [vsl a n c,fv] h K':=by
 subst hl;exact NO S hn hf hy hno
def Qph (q:Qy)(k:PK)(v:List Vl)(st:En):En:={ st with pn:=Ks k v st.pn,rows:=st.rows++Uz (Qd q) k v (atP k st.pn) }
set_option maxHeartbeats 2000000 in
theorem QcF {q:Qy}{h0 h:Hp}{g parts N:Nat}{st:En}{e:EvL}{s:Int}{R':RtT}(X:W9 q h0 h g st)(B:QOk q)(E:Yb e)(HB:EnB q parts N st)(hN:N<=800000)
  (hK:∀ h',h0.le h'->W9 q h0 h' g (Qph q (s,Q3 q e) (Qp q e) st)->R' (Qf []) h'):Qa Pg 111 [vhp g 0,vi s,vag (Xk e)] h R':=by
 obtain⟨qf,hi,a1,n1,c1,a2,n2,c2,a3,n3,c3,ak,nk,ck,ar,cr,ac,nc,cc,tb,tc,aw,cw,R,RW,l0,M,I⟩:=X;refine UD ?_
 have hRl:R.length=st.pn.length:=by have:=congrArg List.length I.p;simpa using this
 have hpl:=HB.pl;have hkl:=Qw q;have hn4:=B.n2;have hWl:RW.length=st.rows.length:=by have:=congrArg List.length I.w;simpa [Qv] using this
 have hwl:=HB.wl;have hks:(R.map (·.k)).Pairwise Qt:=by rw [QjZ I.p];exact Wt.1 HB.ps
 have hao:=QnJ HB (by omega) I.p
 have hvl:(Qp q e).length=(Qd q).length:=by unfold Qp;rw [bQ,hkl]
 intro b1 hb1 h2;have l2:h.le h2:=qQ (qO h) hb1 _;have x1:h2 b1=some (Qb [vi s] 3):=qK _ _ _;clear_value h2;refine QfG (M.le l2) I B E fun h4 l4=>⟨_,_,rfl,?_⟩
 intro b7 hb7 h8;show Hp.store (Hp.set h4 b7 (Qb [vi 0,vi 0] 54)) b7 0 [vi (Q3 q e).1,vi (Q3 q e).2] _;refine Qj7 (by rfl) ?_
 have l9:h4.le (h4.set b7 (Qb [vi (Q3 q e).1,vi (Q3 q e).2] 54)):=qQ (qO _) hb7 _;have x7:(h4.set b7 (Qb [vi (Q3 q e).1,vi (Q3 q e).2] 54)) b7=some (Qb [vi (Q3 q e).1,vi (Q3 q e).2] 54):=qK _ _ _;generalize h4.set b7 (Qb [vi (Q3 q e).1,vi (Q3 q e).2] 54)=h9 at l9 x7;have l49:=qP l4 l9;have l09:=qP l2 l49;have M9:=M.le l09;have x1:=l49 _ _ x1;have hb7h:h b7=none:=qR (qP l2 l4) hb7;refine⟨_,_,_,QO M9.blk (bP rfl),s,Qc x1 rfl,_,_,QO x7 (bP rfl),_,_,_,Qc M9.blk rfl,?_⟩
 refine QdX M9 I B E fun a17 c17 h16 V16=>⟨_,_,_,rfl,Qc (M9.le V16.le0).blk rfl,QO (V16.le0 _ _ x7) (bP rfl),Qc (V16.le0 _ _ x1) rfl,QO (M9.le V16.le0).blk (bP rfl),?_⟩
 have l016:=qP l09 V16.le0;obtain⟨hj,lj,Mj,trj,kpj⟩:=M.rebase_new l016;have x1:=V16.le0 _ _ x1;have x7:=V16.le0 _ _ x7;have y1:hj b1=some (Qb [vi s] 3):=kpj _ _ x1 hb1;have y7:hj b7=some (Qb [vi (Q3 q e).1,vi (Q3 q e).2] 54):=kpj _ _ x7 hb7h;have hV:SlP Qu hj a17 (Qp q e).length (Qp q e):=⟨rfl,trj _ _ (Qg.row V16) fun b o hb=>qR l09 (V16.new b (by rw [hb,QT.at0 (Qg.own V16) b o hb]))⟩
 have Ij:=I.le lj;refine Yv.frame Mj (QhP (k:=(s,Q3 q e)) Ij.t (by omega) hks Ij.k hV hvl (by omega) (fun r hr=>(hao r hr).1) (fun r hr=>(hao r hr).2.1) (J0 B E) ?_ ?_)
 ·
  intro i r a' c' a2' c2' hk hr hrk lk Tk h19 l19 M19;refine⟨_,_,_,_,_,_,_,_,_,_,_,rfl,?_⟩
  obtain⟨p,hp,e1,e2,e3⟩:=QnT I.p hr;have hpk:p.k=(s,Q3 q e):=by rw [<-e1];exact hrk
  have hat:atP (s,Q3 q e) st.pn=some p:=by rw [<-hpk];exact Qo7 HB.ps (cF hp)
  have hput:Ks (s,Q3 q e) (Qp q e) st.pn=st.pn.set i ⟨(s,Q3 q e),p.rs++[Qp q e],p.t⟩:=QlQ HB.ps hp hpk;have hacs:Za r.acs (Qp q e)=Yl (Qd q) (p.rs++[Qp q e]):=by rw [Kr,e2]
  have hset:(R.set i ⟨r.k,a2',c2',Za r.acs (Qp q e),r.t⟩).map prT=(Ks (s,Q3 q e) (Qp q e) st.pn).map (pnT (Qd q)):=by
   rw [hput,gM,gM,I.p];congr 1
   simp only [prT,pnT];rw [hrk,hacs,e3]
  have hRl2:(R.set i ⟨r.k,a2',c2',Za r.acs (Qp q e),r.t⟩).length=R.length:=dL;have hil:=(bG.1 hr).1
  intro b27 hb27 h28 b29 hb29 h30;refine M19.pair hb27 hb29 (by rfl) (by rfl) fun h32 M32 w27 w29 g27 g29=>⟨_,_,_,QO w27 (bP rfl),?_⟩
  refine M32.putK (j:=10) (bP rfl) fun h27 M27 k27=>?_
  have w27:=k27 _ _ g27 w27;have w29:=k27 _ _ g29 w29;have l027:h0.le h27:=qP l0 (qP lj (qP lk M27.le0));have Ik:=Ij.le lk;have fin:∀(hx h':Hp)(aw':OaT)(cw':Nat)(RW':List (Xt Vl (Bool × PK))) (rows':List Rw),hk.le hx->Yv hx h' g (KL a1 n1 c1 a2 n2 c2 a3 n3 c3 qf ak nk ck ar st.rd.length cr ac nc cc a' R.length c' st.late aw' RW'.length cw') ar cr st.rd aw' RW'.length cw' (RW'.flatMap (QV Zj))->Qv RW'=rows'.map YF->(∀ r ∈ RW',Qe hx r.2.1.1 (r.2.2.flatMap Qu))->rows'=st.rows++Uz (Qd q) (s,Q3 q e) (Qp q e) (some p)->R' (Qf []) h':=by
   intro hx h' aw' cw' RW' rows' lx Mx hw1 hw2 hrows;refine hK h' (qP l0 (qP lj (qP lk (qP lx Mx.le0)))) ⟨qf,hx,a1,n1,c1,a2,n2,c2,a3,n3,c3,ak,nk,ck,ar,cr,ac,nc,cc,a',c',aw',cw',R.set i ⟨r.k,a2',c2',Za r.acs (Qp q e),r.t⟩,RW',qP l0 (qP lj (qP lk lx)),?_,⟨I.f,Ik.qa.le lx,Ik.k.le lx,Ik.c.le lx,Tk.le lx,hset,?_,hw2⟩⟩
   ·rw [hRl2];exact Mx
   ·rw [hw1,hrows];simp only [Qph];rw [hat]
  have e4:(bif (!true) then true else(!r.t))=!r.t:=rfl;refine⟨r.t,fun _=>Qc w29 rfl,?_⟩
  rw [e4];refine⟨fun e5=>?_,fun e5=>?_⟩
  ·have ht:p.t=false:=by rw [<-e3];simpa using e5
   refine fin hk h27 aw cw RW st.rows (qO hk) M27 I.w Ik.wi ?_
   rw [QlJ (by rw [ht];simp),dH]
  ·have ht:p.t=true:=by rw [<-e3];simpa using e5
   have hrm:=cF hr;have hacl:=(hao r hrm).1;have hkj:=qP lk l19;refine⟨_,_,_,_,_,_,_,QO w29 (bP rfl),?_⟩
   refine JY (r:=r) ⟨rfl,(Ij.t.i r hrm).le (qP lk M27.le0)⟩ (by omega) fun a34 c34 h30 V30=>⟨_,_,_,_,_,_,rfl,_,_,_,Qc (V30.le0 _ _ w27) rfl,?_⟩
   have M30:=M27.le V30.le0;have z1:=M30.le0 _ _ (lk _ _ y1);have z7:=M30.le0 _ _ (lk _ _ y7);have S30:=(Tk.le M30.le0).s;rw [hRl2] at S30;have hks2:((R.set i ⟨r.k,a2',c2',Za r.acs (Qp q e),r.t⟩).map (·.k)).Pairwise Qt:=by
    have:(R.set i ⟨r.k,a2',c2',Za r.acs (Qp q e),r.t⟩).map (·.k)=R.map (·.k):=by
     rw [gM];apply fR;intro m;rw [gN]
     split
     ·rename_i hm;subst hm;rw [bJ (by rw [bQ];exact hil),cC,hr];rfl
     ·rfl
    rw [this];exact hks
   have hxi:(R.set i ⟨r.k,a2',c2',Za r.acs (Qp q e),r.t⟩)[i]?=some ⟨r.k,a2',c2',Za r.acs (Qp q e),r.t⟩:=fG hil
   refine Qfe (R:=R.set i ⟨r.k,a2',c2',Za r.acs (Qp q e),r.t⟩) hRl2.symm (p:=fun r=>decide (r.k=(s,Q3 q e))) (by rw [hRl2];exact S30) (by rw [hRl2];omega)
    (fun r0 _ K2 hk2=>⟨169,#[],#[vhp b1 0,vhp b7 0],rfl,⟨_,Tryz.func169,by kernel_rfl,rfl⟩,QaZ (Qc z1 rfl) (QO z7 (bP rfl)) hk2⟩)
    (fun m r2 hr2 hp2 _=>⟨_,rfl,?_⟩) (fun hno=>absurd hrk (bB (hno ⟨r.k,a2',c2',Za r.acs (Qp q e),r.t⟩ (cF hxi))))
   have hm:m=i:=Qnl hks2 hr2 hxi (by rw [bC hp2,hrk])
   subst hm;obtain⟨b,o,ea,hrow⟩:=S30.get Qr (by decide) hxi
   refine⟨_,_,_,Qc (V30.le0 _ _ w27) rfl,b,o,⟨ea,by omega,by omega⟩,_,_,_,_,_,_,_,by rw [bF];exact hrow,?_⟩
   have hacl2:=QaO (acs:=r.acs) (r:=Qp q e) (by omega)
   refine JY (r:=⟨r.k,a2',c2',Za r.acs (Qp q e),r.t⟩) ⟨rfl,(Tk.i _ (cF hxi)).le M30.le0⟩ (by simp only;omega) fun a50 c50 h46 V46=>⟨_,_,_,_,_,_,rfl,?_⟩
   have M46:=M30.le V46.le0;have hml:(r.acs.map Yk).length<=1000000:=by rw [bQ];omega
   refine QdV ((V30.slp YO (by decide)).le V46.le0) (V46.slp YO (by decide)) hml ⟨_,rfl,fun e6=>?_,fun e6=>?_⟩
   ·have hne:r.acs.map Yk≠(Za r.acs (Qp q e)).map Yk:=by have e6:(!decide (r.acs.map Yk=(Za r.acs (Qp q e)).map Yk))=true:=e6;simpa using e6
    refine⟨_,_,_,Qc M46.blk rfl,?_⟩
    intro b55 hb55 h56;obtain⟨hx,lx,Mx,trx,_⟩:=M27.rebase_new (qP V30.le0 V46.le0);have o1:=trx _ _ ((Qg.row V30).le V46.le0) fun b o hb=>V30.new b (by rw [hb,QT.at0 (Qg.own V30) b o hb])
    have o2:=trx _ _ (Qg.row V46) fun b o hb=>qR V30.le0 (V46.new b (by rw [hb,QT.at0 (Qg.own V46) b o hb]))
    refine Mx.rows (m:=2) (news:=[vb true,vi r.k.1,vi r.k.2.1,vi r.k.2.2,vsl a34 (r.acs.map Yk).length c34,vb false,vi r.k.1,vi r.k.2.1,vi r.k.2.2,vsl a50 ((Za r.acs (Qp q e)).map Yk).length c50]) hb55 rfl (by
     intro u hu;simp only [bS,dB,fV] at hu;rcases hu with rfl|rfl|rfl|rfl|rfl|rfl|rfl|rfl|rfl|rfl<;>rfl) (by omega) fun aw' cw' h58 M58=>⟨_,_,_,rfl,?_⟩
    refine M58.put (j:=12) (bP rfl) fun h60 M60=>?_
    have:=fin hx h60 aw' cw' (RW++[((true,(s,Q3 q e)),(a34,c34),r.acs.map Yk),((false,(s,Q3 q e)),(a50,c50),(Za r.acs (Qp q e)).map Yk)]) (st.rows++Uz (Qd q) (s,Q3 q e) (Qp q e) (some p)) lx;refine this ?_ ?_ ?_ rfl
    ·rw [bO,cP];have er:(([((true,(s,Q3 q e)),(a34,c34),r.acs.map Yk),((false,(s,Q3 q e)),(a50,c50),(Za r.acs (Qp q e)).map Yk)]:List (Xt Vl (Bool × PK))).flatMap (QV Zj))=[vb true,vi r.k.1,vi r.k.2.1,vi r.k.2.2,vsl a34 (r.acs.map Yk).length c34,vb false,vi r.k.1,vi r.k.2.1,vi r.k.2.2,vsl a50 ((Za r.acs (Qp q e)).map Yk).length c50]:=by
      rw [hrk];rfl
     rw [er];exact M60
    ·have e7:Uz (Qd q) (s,Q3 q e) (Qp q e) (some p)=[(true,(s,Q3 q e),r.acs.map Yk),(false,(s,Q3 q e),(Za r.acs (Qp q e)).map Yk)]:=by
      have h1:YW (Qd q) p.rs=r.acs.map Yk:=by rw [e2];rfl
      have h2:YW (Qd q) (p.rs++[Qp q e])=(Za r.acs (Qp q e)).map Yk:=by rw [hacs];rfl
      rw [Qm6 ⟨ht,by rw [h1,h2];exact hne⟩,h1,h2]
     rw [e7,cJ,<-I.w];unfold Qv;rw [cJ];rfl
    ·intro r' hr';rcases bU.1 hr' with q1|q1
     ·exact(Ik.wi r' q1).le lx
     ·simp only [bS,dB,fV] at q1;rcases q1 with rfl|rfl
      ·exact o1
      ·exact o2
   ·have heq:r.acs.map Yk=(Za r.acs (Qp q e)).map Yk:=by have e6:(!decide (r.acs.map Yk=(Za r.acs (Qp q e)).map Yk))=false:=e6;simpa using e6
    refine fin hk h46 aw cw RW st.rows (qO hk) M46 I.w Ik.wi ?_
    have h1:YW (Qd q) p.rs=r.acs.map Yk:=by rw [e2];rfl
    have h2:YW (Qd q) (p.rs++[Qp q e])=(Za r.acs (Qp q e)).map Yk:=by rw [hacs];rfl
    rw [QlJ (fun q1=>q1.2 (by rw [h1,h2];exact heq)),dH]
 ·
  intro i a' c' a2' c2' hk hil hah hna hne lk Tk h19 l19 M19;refine⟨_,_,_,_,_,_,_,_,_,_,_,rfl,?_⟩
  intro b27 hb27 h28 b29 hb29 h30;refine M19.pair hb27 hb29 (by rfl) (by rfl) fun h32 M32 w27 w29 g27 g29=>⟨_,_,_,QO w27 (bP rfl),?_⟩
  refine M32.putK (j:=10) (bP rfl) fun h27 M27 k27=>⟨false,fun q=>absurd q (by decide),fun _=>?_,fun q=>absurd q (by decide)⟩
  have keys:=QjZ I.p;have mapm:∀ x ∈ st.pn,∃ r ∈ R,r.k=x.k:=by
   intro x hx;have:x.k ∈ R.map (·.k):=by rw [keys];exact cZ.2 ⟨x,hx,rfl⟩
   obtain⟨r,hr,e1⟩:=cZ.1 this;exact⟨r,hr,e1⟩
  have hat:atP (s,Q3 q e) st.pn=none:=by
   unfold atP;rw [List.find?_eq_none]
   intro x hx q1;obtain⟨r,hr,e1⟩:=mapm x hx;exact hne r hr (by rw [e1];exact bC q1)
  have hput:Ks (s,Q3 q e) (Qp q e) st.pn=st.pn.take i++⟨(s,Q3 q e),[Qp q e],false⟩ :: st.pn.drop i:=by
   refine Qjo (by omega) (fun x hx=>?_) (fun x hx=>?_) (fun x hx q1=>?_)
   ·have:x.k ∈ (R.take i).map (·.k):=by rw [jN,keys,<-jN];exact cZ.2 ⟨x,hx,rfl⟩
    obtain⟨r,hr,e1⟩:=cZ.1 this;rw [<-e1];exact hah r hr
   ·have h1:(R.map (·.k))[i]?=some x.k:=by rw [keys,cC,hx];rfl
    rw [cC,dF] at h1
    obtain⟨r,hr,e1⟩:=h1;rw [<-e1];exact hna r hr
   ·obtain⟨r,hr,e1⟩:=mapm x hx;exact hne r hr (e1.trans q1)
  have hRl2:(R.take i++(⟨(s,Q3 q e),a2',c2',Za (ZP (Qd q)) (Qp q e),false⟩:PR) :: R.drop i).length=R.length+1:=by rw [bO,cH,bZ,d5];omega
  have Ik:=Ij.le lk;refine hK h27 (qP l0 (qP lj (qP lk M27.le0))) ⟨qf,hk,a1,n1,c1,a2,n2,c2,a3,n3,c3,ak,nk,ck,ar,cr,ac,nc,cc,a',c',aw,cw,_,RW,qP l0 (qP lj lk),?_,⟨I.f,Ik.qa,Ik.k,Ik.c,Tk,?_,?_,Ik.wi⟩⟩
  ·rw [hRl2];exact M27
  ·simp only [Qph];rw [hput,cJ,cJ,dD,dD,jN,pF,jN,pF,I.p];congr 1
  ·simp only [Qph];rw [hat,I.w];simp [Uz]
theorem Qa3 {ks:List Int}{C:List PR->List Pn->Prop}(h0:C [] [])(h1:∀ r R p L,prT r=pnT ks p->R.map prT=L.map (pnT ks)->C R L->C (r :: R) (p :: L)):∀{R:List PR} {L:List Pn},R.map prT=L.map (pnT ks)->C R L
 | [],[],_=>h0
 | [],_ :: _,h=>by simp at h
 | _ :: _,[],h=>by simp at h
 | r :: R,p :: L,h=>by
  simp only [dD,g8] at h;exact h1 r R p L h.1 h.2 (Qa3 h0 h1 h.2)
theorem Qkz {ks:List Int}{r:PR}{p:Pn}(h:prT r=pnT ks p):r.k=p.k/\r.acs=Yl ks p.rs/\r.t=p.t:=by
 simp only [prT,pnT,fC] at h;exact h
theorem Qnq {ks:List Int}{size u:Int}{R:List PR}{L:List Pn}(h:R.map prT=L.map (pnT ks)):(R.map (ZG size u)).map prT=(XO size u L).map (pnT ks):=by
 refine Qa3 (C:=fun R L=>(R.map (ZG size u)).map prT=(XO size u L).map (pnT ks)) rfl (fun r R p L h1 h2 ih=>?_) h
 obtain⟨e1,e2,e3⟩:=Qkz h1;unfold XO at ih ⊢;simp only [dD,ih];congr 1
 simp only [prT,pnT,ZG,Qi5,UX,e1,e2,e3]
theorem Qor {ks:List Int}{size u:Int}{R:List PR}{L:List Pn}(h:R.map prT=L.map (pnT ks)):(R.filter fun r=>!decide (r.k.1+size<=u)).map prT=(QaX size u L).map (pnT ks):=by
 refine Qa3 (C:=fun R L=>(R.filter fun r=>!decide (r.k.1+size<=u)).map prT=(QaX size u L).map (pnT ks)) rfl (fun r R p L h1 h2 ih=>?_) h
 obtain⟨e1,e2,e3⟩:=Qkz h1;unfold QaX UX at ih ⊢;rw [fO,fO,e1];split
 ·rw [dD,dD,ih,h1]
 ·exact ih
theorem QpA {ks:List Int}{size u:Int}{R:List PR}{L:List Pn}(h:R.map prT=L.map (pnT ks)):((R.filter (Yu size u)).map Zf).map (fun r=>(r.k,r.acs))=(QbD size u L).map (fun p=>(p.k,Yl ks p.rs)):=by
 refine Qa3 (C:=fun R L=>((R.filter (Yu size u)).map Zf).map (fun r=>(r.k,r.acs))=(QbD size u L).map (fun p=>(p.k,Yl ks p.rs))) rfl (fun r R p L h1 h2 ih=>?_) h
 obtain⟨e1,e2,e3⟩:=Qkz h1;unfold QbD at ih ⊢;have hc:Yu size u r=(!p.t&&UX size u p):=by unfold Yu Qi5 UX;rw [e1,e3]
 rw [fO,fO,hc];split
 ·rw [dD,dD,dD,ih];simp only [Zf,e1,e2]
 ·exact ih
def QoH (f d:Int):Int:=if f<0 then 0 else f-d
theorem QeA {a:OaT}{n c:Nat}{l:List Int}{p d:Int}{h:Hp}{R:RtT}(S:SlI h a n l)(hp:0<=p)(hp':p<n)(hr:InR (l.getD p.toNat 0-d))
  (hK:R (Qf [vi (QoH (l.getD p.toNat 0) d),vb (decide (0<=l.getD p.toNat 0))]) h):Qa Pg 108 [vag [vsl a n c],vi p,vi d] h R:=by
 refine Ny S hp hp' hr ?_
 unfold QoH at hK;split
 ·rename_i h1;rw [bJ h1,cO (by omega)] at hK
  exact hK
 ·rename_i h1;rw [bE h1,cL (by omega)] at hK
  exact hK
set_option maxHeartbeats 4000000 in
theorem Jq {q:Qy}{h0 h:Hp}{g parts N p:Nat}{st:En}{e:EvL}{R':RtT}(X:W9 q h0 h g st)(B:QOk q)(E:Yb e)(HB:EnB q parts N st)(hN:N<=700000)(hp:p<parts)(hparts:parts<=1000)
  (hK:∀ h',h0.le h'->W9 q h0 h' g (Xv q p e st)->R' (Qf []) h'):Qa Pg 55 [vhp g 0,vi p,vag (Xk e)] h R':=by
 refine VU ?_
 have hd:=B.d;have ht:=B.t;have hs:=B.s;have hsl:=B.l;have hEt:=E.t;have hfl:=HB.fl;have hrl:=HB.rl;have X0:=X;obtain⟨qf,hi,a1,n1,c1,a2,n2,c2,a3,n3,c3,ak,nk,ck,ar,cr,ac,nc,cc,tb,tc,aw,cw,R,RW,l0,M,I⟩:=X;have hnc:nc=st.far.length:=I.c.1;have hfp:st.far.getD p 0 ∈ st.far:=by rw [bI,bD (by omega)];exact cM _
 have hfb:=HB.fb _ hfp;have F:=I.f;refine⟨_,_,_,QO M.blk (bP rfl),_,Qc M.blk rfl,?_⟩
 refine QeA (p:=(p:Int)) (d:=qf.delay) (I.c.le M.le0) (by omega) (by omega) (by rw [bF,F.de];unfold InR;omega) ⟨_,_,rfl,?_⟩
 rw [bF,F.de];have hn:(decide ((((n2:Nat):Int):Int)=0))=decide (q.wh=[]):=by
  rw [I.qa.w.1];refine fN.2 ⟨fun h=>F.wn.1 (fU.1 (by omega)),fun h=>by rw [F.wn.2 h];rfl⟩
 refine⟨_,_,_,Qc M.blk rfl,_,_,_,fun _=>Qc M.blk rfl,?_⟩
 rw [hn];refine⟨fun x hh=>h.le hh/\(q.wh≠[]->x=.t (.ag [.v (vi (ZM e q.wh).1),.v (vi (ZM e q.wh).2)])),fun e1=>?_,fun e1=>⟨qO h,fun hw=>absurd (cO hw) e1⟩,?_⟩
 ·have hw:q.wh≠[]:=bB e1;have Rp:=F.w1 hw;have hlq:=(Yq (B.w hw)).2;refine Qd7 Rp.ok (by have:=Rp.len;omega) (I.qa.w.le M.le0) fun h' l'=>⟨_,_,rfl,l',fun _=>by rw [Rp.val e E]⟩
 rintro h14 x15 x16 ⟨l14,e14⟩;refine⟨fun x hh=>h.le hh/\(q.wh≠[]->x=.t (.ag [.v (vi (Ya true).1),.v (vi (Ya true).2)])),fun e1=>QN ⟨_,_,rfl,l14,fun _=>rfl⟩,fun e1=>⟨l14,fun hw=>absurd (cO hw) e1⟩,?_⟩
 rintro h22 x23 x24 ⟨l22,e22⟩;refine⟨decide (ZM e q.wh=Ya true),fun e1=>?_,?_⟩
 ·have hw:q.wh≠[]:=bB e1;have e14:=e14 hw;have e22:=e22 hw;cases e14;cases e22;exact Xz
 have hask:(bif (decide (q.wh=[])) then true else decide (ZM e q.wh=Ya true))=Qbn q e:=by unfold Qbn;cases decide (q.wh=[])<;>rfl
 rw [hask];intro J58;have X22:=X0.le l22;have hJ:∀ h59,W9 q h0 h59 g (Z7 q (st.far.getD p 0) e st)->J58 h59:=by
  intro h59 X59;have HB2:=Qfv B HB E (far:=st.far.getD p 0);obtain⟨ws1,ws2⟩:=Vz (q:=q) (far:=st.far.getD p 0) (e:=e) (st:=st);generalize hst2:Z7 q (st.far.getD p 0) e st=st2 at X59 HB2 ws1 ws2;clear M I X0 X22 l14 e14 l22 e22 hn hask;obtain⟨qf,hi,a1,n1,c1,a2,n2,c2,a3,n3,c3,ak,nk,ck,ar,cr,ac,nc,cc,tb,tc,aw,cw,R,RW,l0,M,I⟩:=X59;have F:=I.f;have hrl2:=HB2.rl;have hfl2:=HB2.fl;have hnc:nc=st2.far.length:=I.c.1;have hRl:R.length=st2.pn.length:=by have:=congrArg List.length I.p;simpa using this
  have hpl:=HB2.pl;have hwl:=HB2.wl;have hWl:RW.length=st2.rows.length:=by have:=congrArg List.length I.w;simpa [Qv] using this
  have hrm:st2.rd.getD p 0 ∈ st2.rd:=by rw [bI,bD (by omega)];exact cM _
  have hrb:=HB2.rb _ hrm;have hao:=QnJ HB2 (by omega) I.p
  obtain⟨bR,eR,hcR,HR⟩:=M.read (p:=p) (x:=st2.rd.getD p 0+1) (by omega)
  have hbd:ar=some ⟨bR,0,none⟩/\(0:Int)<=(p:Int)/\(p:Int)<((st2.rd.length:Nat):Int):=⟨eR,by omega,by omega⟩
  refine⟨_,_,_,Qc M.blk rfl,bR,0,hbd,((st2.rd.getD p 0:Nat):Int),hcR,_,iW,bR,0,hbd,?_⟩
  have ec:((st2.rd.getD p 0:Nat):Int)+1=((st2.rd.getD p 0+1:Nat):Int):=by omega
  rw [ec];refine HR _ fun h67 M67=>?_
  refine⟨_,_,_,QO M67.blk (bP rfl),?_⟩
  refine Qhn (p:=(p:Int)) (I.c.le M67.le0) (by omega) (by omega) (by omega) fun a71 c71 h70 O70=>⟨_,_,_,rfl,?_⟩
  rw [bF] at O70;obtain⟨hj,lj,Mj,trj,_⟩:=M67.rebase_new O70.le;have hclk:SlI hj a71 nc (see st2.far p e.1):=⟨by rw [QaI];exact hnc,trj _ _ O70.row fun b o hb=>O70.new b (by rw [hb,QT.at0 O70.own b o hb])⟩
  refine Mj.put (j:=9) (bP rfl) fun h72 M72=>?_
  have I72:Qk3 q qf hj a1 n1 a2 n2 a3 n3 ak nk a71 nc tb R RW (XR p e st2):=⟨F,I.qa.le lj,I.k.le lj,hclk,I.t.le lj,I.p,I.w,fun r hr=>(I.wi r hr).le lj⟩
  have hstep:Xv q p e st=Jc q (XR p e st2):=by unfold Xv;rw [hst2]
  rw [hstep] at hK;have hlr:(st2.rd.set p (st2.rd.getD p 0+1)).length=st2.rd.length:=dL;refine⟨_,_,_,QO M72.blk (bP rfl),_,Qc M72.blk rfl,?_⟩
  rw [F.de];refine QaM (hclk.le M72.le0) (by omega) (Qka _ _ _ HB2.fb hEt (by omega)) hd ⟨_,_,rfl,fun e1=>?_,fun e1=>?_⟩
  ·have e2:(Zm q.delay (see st2.far p e.1)).2=false:=by simpa using e1
   have hend:Jc q (XR p e st2)=XR p e st2:=by unfold Jc;rw [bE];show ¬(Zm q.delay (see st2.far p e.1)).2=true;rw [e2];decide
   rw [hend] at hK;refine hK h72 (qP l0 (qP lj M72.le0)) ⟨qf,hj,a1,n1,c1,a2,n2,c2,a3,n3,c3,ak,nk,ck,ar,cr,a71,nc,c71,tb,tc,aw,cw,R,RW,qP l0 lj,?_,I72⟩
   show Yv hj h72 g (KL a1 n1 c1 a2 n2 c2 a3 n3 c3 qf ak nk ck ar (st2.rd.set p (st2.rd.getD p 0+1)).length cr a71 nc c71 tb R.length tc st2.late aw RW.length cw) ar cr (st2.rd.set p (st2.rd.getD p 0+1)) aw RW.length cw (RW.flatMap (QV Zj));rw [hlr];exact M72
  ·have e2:(Zm q.delay (see st2.far p e.1)).2=true:=by simpa using e1
   have hend:Jc q (XR p e st2)={ XR p e st2 with pn:=QaX q.size ((Zm q.delay (see st2.far p e.1)).1-q.late) (XO q.size (Zm q.delay (see st2.far p e.1)).1 st2.pn),rows:=st2.rows++(QbD q.size (Zm q.delay (see st2.far p e.1)).1 st2.pn).map (QgJ (Qd q)) }:=by
    unfold Jc;rw [bJ (show (Zm q.delay (XR p e st2).far).2=true from e2)]
    rfl
   rw [hend] at hK;have hub:-1001<=(Zm q.delay (see st2.far p e.1)).1/\(Zm q.delay (see st2.far p e.1)).1<=9999:=by
    have hsa:=Qka st2.far p e.1 HB2.fb hEt (by omega)
    unfold Zm;split
    ·simp only;split
     ·omega
     ·rename_i hne;have:=hsa _ (QiI hne);omega
    ·simp only;omega
   generalize (Zm q.delay (see st2.far p e.1)).1=u at *
   refine⟨_,_,_,QO M72.blk (bP rfl),_,Qc M72.blk rfl,?_⟩
   rw [F.sz];refine Yv.frame M72 (QfR (size:=q.size) (upto:=u) I72.t (by omega) (fun r hr=>by have:=(hao r hr).2.2;unfold InR;omega) fun a84 c84 a85 c85 hk lk Tk TN h83 l83 M83=>⟨_,_,_,_,_,_,rfl,?_⟩)
   have Ik:=I72.le lk;have hNm:∀ r ∈ (R.filter (Yu q.size u)).map Zf,r.acs.length<=1000:=by intro r hr;obtain⟨r0,h0',rfl⟩:=cZ.1 hr;have:=(hao r0 (d8.1 h0').1).1;have h4:=B.n2;rw [Qw] at this;show r0.acs.length<=1000;omega
   have hNeq:((R.filter (Yu q.size u)).map Zf).map (fun r=>((false,r.k),r.acs.map Yk))=((QbD q.size u st2.pn).map (QgJ (Qd q))).map YF:=by
    have:=congrArg (List.map fun x:PK × List AcS=>(((false,x.1),x.2.map Yk):(Bool × PK) × List Vl)) (QpA (size:=q.size) (u:=u) I.p)
    simp only [fH] at this ⊢;exact this
   have hNl:((R.filter (Yu q.size u)).map Zf).length<=R.length:=by rw [bQ];exact jC _ _
   generalize (R.filter (Yu q.size u)).map Zf=NN at *
   refine⟨fun vs hh=>∃(i:Nat)(hx:Hp)(aw':OaT)(cw':Nat)(RW':List (Xt Vl (Bool × PK))),vs=[vi i]/\i<=NN.length/\hk.le hx/\Yv hx hh g (KL a1 n1 c1 a2 n2 c2 a3 n3 c3 qf ak nk ck ar st2.rd.length cr a71 nc c71 tb R.length tc st2.late aw' RW'.length cw') ar cr (st2.rd.set p (st2.rd.getD p 0+1)) aw' RW'.length cw' (RW'.flatMap (QV Zj))/\Qv RW'=st2.rows.map YF++(NN.take i).map (fun r=>((false,r.k),r.acs.map Yk))/\∀ r ∈ RW',Qe hx r.2.1.1 (r.2.2.flatMap Qu),fun vs hh=>NN.length-(Qo vs 0).toNat,⟨0,hk,aw,cw,RW,rfl,cE _,qO hk,M83,by rw [I.w];simp,Ik.wi⟩,?_⟩
   rintro vs hh ⟨i,hx,aw',cw',RW',rfl,hi',lx,Mx,hw1,hw2⟩;have hW':RW'.length=st2.rows.length+i:=by
    have:=congrArg List.length hw1;simp [Qv] at this;omega
   refine⟨i,rfl,fun e3=>?_,fun e3=>?_⟩
   ·have hlt:i<NN.length:=by have:=bC e3;omega
    have hxi:NN[i]?=some NN[i]:=bD hlt
    have hmem:=cM hlt;have tk:NN.take (i+1)=NN.take i++[NN[i]]:=bL hlt;have lhh:=qP lx Mx.le0;obtain⟨b,o,ea,hr⟩:=(TN.s.le lhh).get Qr (by decide) hxi
    have hri:=(TN.i _ hmem).le lhh;have hal:=hNm _ hmem;generalize NN[i]=r at *
    refine⟨b,o,⟨ea,by omega,by omega⟩,_,_,_,_,_,_,_,by rw [bF];exact hr,_,_,_,Qc Mx.blk rfl,?_⟩
    refine JY (r:=r) ⟨rfl,hri⟩ hal fun a107 c107 h103 V103=>⟨_,_,_,_,_,_,rfl,Qc (Mx.le V103.le0).blk rfl,?_⟩
    intro b108 hb108 h109;obtain⟨hy,ly,My,try_,_⟩:=Mx.rebase_new V103.le0;have o1:=try_ _ _ (Qg.row V103) fun b o hb=>V103.new b (by rw [hb,QT.at0 (Qg.own V103) b o hb])
    refine My.rows (m:=1) (news:=[vb false,vi r.k.1,vi r.k.2.1,vi r.k.2.2,vsl a107 (r.acs.map Yk).length c107]) hb108 rfl (by
     intro u hu;simp only [bS,dB,fV] at hu;rcases hu with rfl|rfl|rfl|rfl|rfl<;>rfl) (by omega) fun aw2 cw2 h111 M111=>⟨_,_,_,rfl,?_⟩
    refine M111.put (j:=12) (bP rfl) fun h113 M113=>⟨_,iW,⟨i+1,hy,aw2,cw2,RW'++[((false,r.k),(a107,c107),r.acs.map Yk)],rfl,by omega,qP lx ly,?_,?_,?_⟩,by simp [Qo];omega⟩
    ·rw [bO,cP];exact M113
    ·rw [tk,cJ,<-bX,<-hw1];unfold Qv;rw [cJ];rfl
    ·intro r' hr';rcases bU.1 hr' with q1|q1
     ·exact(hw2 r' q1).le ly
     ·rw [cD.1 q1];exact o1
   ·have hge:i=NN.length:=by have:=bB e3;omega
    subst hge;rw [dG] at hw1;refine⟨_,Qc Mx.blk rfl,_,Qc Mx.blk rfl,_,isW (by rw [F.la];unfold InR;omega),?_⟩
    rw [F.sz,F.la];have hml:(R.map (ZG q.size u)).length=R.length:=bQ _;have drp:=fun(K':RtT)(hK':∀ a' c' h',hx.le h'->Tb h' a' ((R.map (ZG q.size u)).filter fun r=>!decide (r.k.1+q.size<=u-q.late))->K' (vag [vsl a' ((R.map (ZG q.size u)).filter fun r=>!decide (r.k.1+q.size<=u-q.late)).length c']) h')=>
     QfZ (h:=hx) (K':=K') (c:=c84) (size:=q.size) (upto:=u-q.late) (Tk.le lx) (by rw [hml];omega) (fun r hr=>by
      obtain⟨r0,h0',rfl⟩:=cZ.1 hr;have:=(hao r0 h0').2.2;show InR (r0.k.1+q.size);unfold InR;omega) hK'
    rw [hml] at drp;refine Yv.frame Mx (drp _ fun a121 c121 hz lz Tz h120 l120 M120=>⟨_,_,_,rfl,?_⟩)
    refine M120.put (j:=10) (bP rfl) fun h122 M122=>?_
    have lall:h0.le hz:=qP l0 (qP lj (qP lk (qP lx lz)));have lkz:=qP lx lz;refine hK h122 (qP lall M122.le0) ⟨qf,hz,a1,n1,c1,a2,n2,c2,a3,n3,c3,ak,nk,ck,ar,cr,a71,nc,c71,a121,c121,aw',cw',(R.map (ZG q.size u)).filter fun r=>!decide (r.k.1+q.size<=u-q.late),RW',lall,?_,⟨F,Ik.qa.le lkz,Ik.k.le lkz,Ik.c.le lkz,Tz,Qor (Qnq I.p),?_,fun r hr=>(hw2 r hr).le lz⟩⟩
    ·show Yv hz h122 g (KL a1 n1 c1 a2 n2 c2 a3 n3 c3 qf ak nk ck ar (st2.rd.set p (st2.rd.getD p 0+1)).length cr a71 nc c71 a121 _ c121 st2.late aw' RW'.length cw') ar cr (st2.rd.set p (st2.rd.getD p 0+1)) aw' RW'.length cw' (RW'.flatMap (QV Zj));rw [hlr];exact M122
    ·show Qv RW'=(st2.rows++(QbD q.size u st2.pn).map (QgJ (Qd q))).map YF;rw [hw1,cJ,hNeq]
 clear_value J58;refine⟨fun e1=>?_,fun e1=>?_⟩
 ·have hw:Z7 q (st.far.getD p 0) e st=(Zx e.1 q.size q.slide).foldl (KN q (st.far.getD p 0) e) st:=by unfold Z7;rw [bJ e1]
  rw [hw] at hJ;have M22:=M.le l22;have cS:∀{qf:Qy},NL q qf->vi qf.size=vi q.size:=fun F=>by rw [F.sz]
  refine⟨_,Qc M22.blk rfl,_,Qc M22.blk rfl,?_⟩
  rw [F.sz,F.sl];refine JW (by omega) (by omega) (by omega) (by omega) (by omega) (by omega) fun a30 n30 c30 h29 l29 SS hnew=>⟨_,_,_,rfl,?_⟩
  have hsb:=Jg B E;have hsm:=JQ B (e:=e);have hn30:n30=(Zx e.1 q.size q.slide).length:=SS.1;generalize Zx e.1 q.size q.slide=ss at *
  refine⟨fun vs hh=>∃(k:Nat)(hb:Hp),vs=[vi k]/\k<=ss.length/\h0.le hb/\SlI hb a30 n30 ss/\W9 q hb hh g ((ss.take k).foldl (KN q (st.far.getD p 0) e) st),fun vs hh=>ss.length-(Qo vs 0).toNat,?_,?_⟩
  ·obtain⟨hj,lj,Mj,trj,_⟩:=M22.rebase_new l29;refine⟨0,hj,rfl,cE _,qP l0 lj,⟨SS.1,trj _ _ SS.2 hnew⟩,?_⟩
   rw [jG];exact⟨qf,hj,a1,n1,c1,a2,n2,c2,a3,n3,c3,ak,nk,ck,ar,cr,ac,nc,cc,tb,tc,aw,cw,R,RW,qO hj,Mj,I.le lj⟩
  rintro vs hh ⟨k,hb,rfl,hk,lb,Sb,Xb⟩;refine⟨k,rfl,fun e2=>?_,fun e2=>?_⟩
  ·have hlt:k<ss.length:=by have:=bC e2;omega
   obtain⟨b,o,ea,hc⟩:=(Sb.le Xb.le0).get (i:=k) (by omega)
   have hgd:ss.getD k 0=ss[k]:=by rw [bI,bD hlt];rfl
   have tk:ss.take (k+1)=ss.take k++[ss[k]]:=bL hlt;have hsk:=hsb _ (cM hlt);have HBk:=Vi (far:=st.far.getD p 0) B E (ss.take k) HB (fun s hs=>hsb s (gC hs))
   rw [bZ,dU hk] at HBk;rw [hgd] at hc;generalize ss[k]=s at *
   intro J54;have hJ2:∀ h',W9 q hb h' g (KN q (st.far.getD p 0) e ((ss.take k).foldl (KN q (st.far.getD p 0) e) st) s)->J54 h':=by
    intro h' X';refine⟨_,iW,⟨k+1,hb,rfl,by omega,lb,Sb,?_⟩,by simp [Qo];omega⟩
    rw [tk,fM];exact X'
   clear_value J54;generalize (ss.take k).foldl (KN q (st.far.getD p 0) e) st=stk at *
   have Xb0:=Xb;obtain⟨qf,hi,a1,n1,c1,a2,n2,c2,a3,n3,c3,ak,nk,ck,ar,cr,ac,nc,cc,tb,tc,aw,cw,R,RW,l0,M,I⟩:=Xb;have F:=I.f;refine⟨b,o,⟨ea,by omega,by omega⟩,s,by rw [bF];exact hc,_,fun _=>Qc M.blk rfl,_,fun _=>isW (by rw [F.sz];unfold InR;omega),_,fun _=>Qc M.blk rfl,_,fun _=>isW (by rw [F.sz,F.la];unfold InR;omega),?_⟩
   have hl:(bif (decide (0<=st.far.getD p 0)) then(decide ((s+qf.size+qf.late:Int)<=QoH (st.far.getD p 0) q.delay)) else false)=WP q (st.far.getD p 0) s:=by
    unfold WP QoH;rw [F.sz,F.la];by_cases h1:0<=st.far.getD p 0
    ·rw [cL h1,bE (by omega)];rfl
    ·rw [cO h1];rfl
   rw [hl];refine⟨fun e3=>?_,fun e3=>?_⟩
   ·have hll:=HBk.ll;refine⟨_,Qc M.blk rfl,_,iW,?_⟩
    refine M.put (j:=11) (bP rfl) fun h48 M48=>hJ2 h48 ?_
    unfold KN;rw [bJ e3];exact⟨qf,hi,a1,n1,c1,a2,n2,c2,a3,n3,c3,ak,nk,ck,ar,cr,ac,nc,cc,tb,tc,aw,cw,R,RW,l0,M48,⟨I.f,I.qa,I.k,I.c,I.t,I.p,I.w,I.wi⟩⟩
   ·refine QcF Xb0 B E HBk (by omega) fun h52 l52 X52=>⟨rfl,hJ2 h52 ?_⟩
    unfold KN;rw [bE (by rw [e3];decide)]
    exact X52
  ·have hge:k=ss.length:=by have:=bB e2;omega
   rw [hge,dG] at Xb;refine hJ hh ?_
   obtain⟨qf,hi,a1,n1,c1,a2,n2,c2,a3,n3,c3,ak,nk,ck,ar,cr,ac,nc,cc,tb,tc,aw,cw,R,RW,l0,M,I⟩:=Xb;exact⟨qf,hi,a1,n1,c1,a2,n2,c2,a3,n3,c3,ak,nk,ck,ar,cr,ac,nc,cc,tb,tc,aw,cw,R,RW,qP lb l0,M,I⟩
 ·have hw:Z7 q (st.far.getD p 0) e st=st:=by unfold Z7;rw [bE (by rw [e1];decide)]
  rw [hw] at hJ;exact hJ h22 X22
theorem Qpx (l:List Nat):(l.map fun n:Nat=>vi n)=(l.map fun n:Nat=>(n:Int)).map vi:=by rw [fH];rfl
theorem W9.seen {q:Qy}{h0 h:Hp}{g:Nat}{st:En}(X:W9 q h0 h g st):∃(a1:OaT)(n1 c1:Nat)(a2:OaT)(n2 c2:Nat)(a3:OaT)(n3 c3:Nat)(qf:Qy) (ak:OaT) (nk ck:Nat) (ar:OaT) (cr:Nat) (ac:OaT) (cc:Nat) (tb:OaT) (tc:Nat) (aw:OaT) (cw:Nat) (R:List PR),
  h g=some (Qb (KL a1 n1 c1 a2 n2 c2 a3 n3 c3 qf ak nk ck ar st.rd.length cr ac st.far.length cc tb R.length tc st.late aw (st.rows.map YF).length cw) 132)/\SlI h ar st.rd.length (st.rd.map fun n:Nat=>(n:Int))/\SlI h ac st.far.length st.far/\Ke Qu Zj h aw (st.rows.map YF).length (st.rows.map YF) /\
   Tb h tb R/\R.map prT=st.pn.map (pnT (Qd q)):=by
 obtain⟨qf,hi,a1,n1,c1,a2,n2,c2,a3,n3,c3,ak,nk,ck,ar,cr,ac,nc,cc,tb,tc,aw,cw,R,RW,l0,M,I⟩:=X;have hWl:RW.length=(st.rows.map YF).length:=by have:=congrArg List.length I.w;simpa [Qv] using this
 have hnc:nc=st.far.length:=I.c.1;subst hnc;refine⟨a1,n1,c1,a2,n2,c2,a3,n3,c3,qf,ak,nk,ck,ar,cr,ac,cc,tb,tc,aw,cw,R,?_,?_,I.c.le M.le0,⟨RW,I.w,rfl,M.w.row,fun r hr=>(I.wi r hr).le M.le0⟩,I.t.le M.le0,I.p⟩
 ·rw [<-hWl];exact M.blk
 ·have:=M.r;rw [Qpx] at this;exact this.sli
end Go.Proofs.YthicpjafcpfjoaaGreatDoor
namespace Go.Vc
open Go
structure Par (h0 h:Hp)(L:List Hp):Prop where
 z:h0.le h
 l:∀ p ∈ L,h0.le p/\p.le h
 dj:L.Pairwise fun p q=>∀ b,p b≠none->q b≠none->h0 b≠none
section
variable {P:Program}{h0 h:Hp}{L:List Hp}
theorem Par.nil (l:h0.le h):Par h0 h []:=⟨l,fun p hp=>(by cases hp),List.Pairwise.nil⟩
theorem Par.grow (D:Par h0 h L){h':Hp}(l:h.le h'):Par h0 h' L:=⟨qP D.z l,fun p hp=>⟨(D.l p hp).1,qP (D.l p hp).2 l⟩,D.dj⟩
theorem Par.sub {L':List Hp}(D:Par h0 h L)(s:L'.Sublist L):Par h0 h L':=⟨D.z,fun p hp=>D.l p (s.mem hp),D.dj.sublist s⟩
theorem Par.fresh (D:Par h0 h L):Par h0 h (h0 :: L):=by
 refine⟨D.z,fun p hp=>?_,fA.2 ⟨fun q hq b x _=>x,D.dj⟩⟩
 rcases bS.1 hp with rfl|hp
 ·exact⟨qO _,D.z⟩
 ·exact D.l p hp
theorem Par.at (D:Par h0 h L){i:Nat}{p:Hp}(hi:L[i]?=some p):h0.le p/\p.le h:=D.l p (cF hi)
theorem Par.two (D:Par h0 h L){i j:Nat}{p q:Hp}(hi:L[i]?=some p)(hj:L[j]?=some q)(hne:i≠j):∀ b,p b≠none->q b≠none->h0 b≠none:=by
 obtain⟨hi',ei⟩:=bG.1 hi
 obtain⟨hj',ej⟩:=bG.1 hj
 have:=fL.1 D.dj;intro b x y;rcases Nat.lt_or_gt_of_ne hne with q1|q1
 ·have:=this i j hi' hj' q1 b;rw [ei,ej] at this;exact this x y
 ·have:=this j i hj' hi' q1 b;rw [ei,ej] at this;exact this y x
theorem Par.upd (D:Par h0 h L){i:Nat}{p p' h':Hp}(hi:L[i]?=some p)(z:h0.le h')(z1:h0.le p')(l1:p'.le h')(hk:∀ q b o,(∃ j,j≠i/\L[j]?=some q)->q b=some o->h' b=some o)(hn:∀ q b,(∃ j,j≠i/\L[j]?=some q)->p' b≠none->q b≠none->h0 b≠none):Par h0 h' (L.set i p'):=by
 have hil:=(bG.1 hi).1
 have key:∀{k:Nat} {t:Hp},(L.set i p')[k]?=some t->(k=i/\t=p')\/(k≠i/\L[k]?=some t):=by
  intro k t h1;by_cases hki:k=i
  ·subst hki;rw [fG hil] at h1
   exact .inl ⟨rfl,(cU h1).symm⟩
  ·rw [gK (fun e=>hki e.symm)] at h1
   exact .inr ⟨hki,h1⟩
 refine⟨z,fun t ht=>?_,fL.2 fun a c ha hc hac b x y=>?_⟩
 ·obtain⟨k,hk'⟩:=gB ht
  rcases key hk' with ⟨_,rfl⟩|⟨q1,q2⟩
  ·exact⟨z1,l1⟩
  ·exact⟨(D.at q2).1,fun b o ho=>hk t b o ⟨k,q1,q2⟩ ho⟩
 ·rcases key (bD ha) with ⟨q1,q2⟩|⟨q1,q2⟩
  ·rcases key (bD hc) with ⟨q3,q4⟩|⟨q3,q4⟩
   ·omega
   ·rw [q2] at x;exact hn _ b ⟨c,q3,q4⟩ x y
  ·rcases key (bD hc) with ⟨q3,q4⟩|⟨q3,q4⟩
   ·rw [q4] at y;exact hn _ b ⟨a,q1,q2⟩ y x
   ·exact D.two q2 q4 (by omega) b x y
theorem Par.call (D:Par h0 h L){i:Nat}{p:Hp}(hi:L[i]?=some p){f:FuncId}{args:List Value}{R:RtT}(H:Qa P f args p fun v p'=>h0.le p'/\∀ h',Par h0 h' (L.set i p')->R v h'):Qa P f args h R:=by
 intro w hs;obtain⟨zp,lp⟩:=D.at hi;refine(Qa.frame lp H w hs).mono ?_
 rintro e w' ⟨v,h2,rfl,s2,F,p',l1,kp,z1,k⟩;refine⟨v,h2,rfl,s2,F,k h2 (D.upd hi (qP z1 l1) z1 l1 (fun q b o hq ho=>?_) fun q b hq x y=>?_)⟩
 ·obtain⟨j,hj,hq⟩:=hq;cases hp:p b with
  | none=>exact(kp b o ((D.at hq).2 b o ho) hp).1
  | some o'=>
   cases hz:h0 b with
   | none=>exact absurd hz (D.two hi hq (fun e=>hj e.symm) b (by rw [hp];simp) (by rw [ho];simp))
   | some o2=>
    have e1:=(D.at hq).1 b o2 hz;rw [ho] at e1;cases e1;exact l1 b o (z1 b o hz)
 ·obtain⟨j,hj,hq⟩:=hq;cases hz:h0 b with
  | some o2=>simp
  | none=>
   exfalso;cases ho:q b with
   | none=>exact y ho
   | some o=>
    cases hp:p b with
    | none=>exact x (kp b o ((D.at hq).2 b o ho) hp).2
    | some o'=>exact D.two hi hq (fun e=>hj e.symm) b (by rw [hp];simp) (by rw [ho];simp) hz
theorem Par.adopt (D:Par h0 h L){i:Nat}{p:Hp}(hi:L[i]?=some p){h':Hp}(l:h.le h'):∃ p',p.le p'/\Par h0 h' (L.set i p')/\(∀ b o,h' b=some o->h b=none->p' b=some o)/\∀ b,h b≠none->p' b=p b:=by
 obtain⟨zp,lp⟩:=D.at hi;have e1:∀ b,h b=none->(fun b=>if h b=none then h' b else p b:Hp) b=h' b:=fun b hb=>bJ hb
 have e2:∀ b,h b≠none->(fun b=>if h b=none then h' b else p b:Hp) b=p b:=fun b hb=>bE hb
 generalize (fun b=>if h b=none then h' b else p b:Hp)=p' at e1 e2
 have lpp:p.le p':=fun b o ho=>by
  have:=lp b o ho;rw [e2 b (by rw [this];simp)];exact ho
 refine⟨p',lpp,D.upd hi (qP D.z l) (qP zp lpp) (fun b o ho=>?_) (fun q b o hq ho=>?_) (fun q b hq x y=>?_),fun b o ho hn=>(e1 b hn).trans ho,e2⟩
 ·cases hb:h b with
  | none=>rw [e1 b hb] at ho;exact ho
  | some ob=>
   rw [e2 b (by rw [hb];simp)] at ho
   exact l b o (lp b o ho)
 ·obtain⟨j,_,hq⟩:=hq;exact l b o ((D.at hq).2 b o ho)
 ·obtain⟨j,hj,hq⟩:=hq;cases hy:q b with
  | none=>exact absurd hy y
  | some o=>
   have hb:=(D.at hq).2 b o hy;rw [e2 b (by rw [hb];simp)] at x
   exact D.two hi hq (fun e=>hj e.symm) b x y
theorem Par.store (D:Par h0 h L){i:Nat}{p:Hp}(hi:L[i]?=some p){g:Nat}(hp:p g≠none)(h0g:h0 g=none)(ob:Obj):Par h0 (h.set g ob) (L.set i (p.set g ob)):=by
 obtain⟨zp,lp⟩:=D.at hi;have zs:∀{k:Hp},h0.le k->h0.le (k.set g ob):=fun {k} l b o ho=>by
  have hb:b≠g:=fun e=>by rw [e,h0g] at ho;cases ho
  rw [qL _ _ hb];exact l b o ho
 refine D.upd hi (zs D.z) (zs zp) (fun b o ho=>?_) (fun q b o hq ho=>?_) fun q b hq x y=>?_
 ·by_cases e:b=g
  ·subst e;rw [qK] at ho ⊢;exact ho
  ·rw [qL _ _ e] at ho ⊢;exact lp b o ho
 ·obtain⟨j,hj,hq⟩:=hq;have hb:b≠g:=fun e=>by
   subst e;exact D.two hi hq (fun e=>hj e.symm) b hp (by rw [ho];simp) h0g
  rw [qL _ _ hb];exact(D.at hq).2 b o ho
 ·obtain⟨j,hj,hq⟩:=hq;by_cases e:b=g
  ·subst e;exact D.two hi hq (fun e=>hj e.symm) b hp y
  ·rw [qL _ _ e] at x;exact D.two hi hq (fun e=>hj e.symm) b x y
end
theorem Par.one {h0 p:Hp}(l:h0.le p):Par h0 p [p]:=⟨l,fun x hx=>by rw [cD.1 hx];exact⟨l,qO p⟩,pK ..⟩
theorem Par.last {h0 h:Hp}{L:List Hp}(D:Par h0 h L){i:Nat}{p:Hp}(hi:L[i]?=some p):p.le h:=(D.at hi).2
theorem Par.swap {h0 h p q:Hp}{L:List Hp}(P:Par h0 h (p :: q :: L)):Par h0 h (q :: p :: L):=by
 obtain⟨z,l,d⟩:=P;refine⟨z,fun x hx=>l x ?_,?_⟩
 ·simp only [bS] at hx ⊢;rcases hx with h|h|h
  ·exact .inr (.inl h)
  ·exact .inl h
  ·exact .inr (.inr h)
 ·simp only [fA,bS] at d ⊢;obtain⟨d1,d2,d3⟩:=d;refine⟨fun x hx=>?_,fun x hx=>d1 x (.inr hx),d3⟩
  rcases hx with rfl|hx
  ·exact fun b u v=>d1 q (.inl rfl) b v u
  ·exact d2 x hx
theorem Par.rest {h0 h p q:Hp}(D:Par h0 h [p,q]):∃ r,Par p h [r]/\q.le r/\∀ b,q b≠none->h0 b=none->p b=none:=by
 have hp:=D.at (i:=0) rfl;have hq:=D.at (i:=1) rfl;have dj:=D.two (i:=0) (j:=1) rfl rfl (by decide)
 have e1:∀ b,p b≠none->(fun b=>if p b=none then q b else p b:Hp) b=p b:=fun b hb=>bE hb
 have e2:∀ b,p b=none->(fun b=>if p b=none then q b else p b:Hp) b=q b:=fun b hb=>bJ hb
 generalize (fun b=>if p b=none then q b else p b:Hp)=r at e1 e2
 have l1:p.le r:=fun b o ho=>(e1 b (by rw [ho];simp)).trans ho
 refine⟨r,⟨hp.2,fun x hx=>?_,pK ..⟩,fun b o ho=>?_,fun b hb h0b=>?_⟩
 ·rw [cD.1 hx];refine⟨l1,fun b o ho=>?_⟩
  cases hb:p b with
  | none=>rw [e2 b hb] at ho;exact hq.2 b o ho
  | some o'=>rw [e1 b (by rw [hb];simp)] at ho;exact hp.2 b o ho
 ·cases hb:p b with
  | none=>exact(e2 b hb).trans ho
  | some o'=>
   have h0b:=dj b (by rw [hb];simp) (by rw [ho];simp)
   cases h0o:h0 b with
   | none=>exact absurd h0o h0b
   | some o2=>
    have q1:=hp.1 b o2 h0o;have q2:=hq.1 b o2 h0o;rw [ho] at q2;cases q2;rw [e1 b (by rw [hb];simp)]
    exact q1
 ·cases hpb:p b with
  | none=>rfl
  | some o=>exact absurd h0b (dj b (by rw [hpb];simp) hb)
section
variable {hi h:Hp}{L:List Ow}
theorem Zw.sub {L':List Ow}(O:Zw hi h L)(hs:L'.Sublist L):Zw hi h L':=⟨O.le,fun s h1=>O.own s (hs.mem h1),fun s h1=>O.new s (hs.mem h1),O.dj.sublist hs⟩
theorem Zw.cons {h':Hp}(O:Zw hi h L)(l:h.le h'){s:Ow}(O':s.own h')(hn:∀ b,s.at b->h b=none):Zw hi h' (s :: L):=by
 have O2:=O.grow l;refine⟨O2.le,fun t ht=>?_,fun t ht b hb=>?_,fA.2 ⟨fun y hy b hb hb'=>?_,O.dj⟩⟩
 ·rcases bS.1 ht with rfl|q
  ·exact O'
  ·exact O2.own t q
 ·rcases bS.1 ht with rfl|q
  ·exact qR O.le (hn b hb)
  ·exact O.new t q b hb
 ·exact Ow.al (O.own y hy) hb' (hn b hb)
theorem Zw.ins {h':Hp}{x:Ow}(O:Zw hi h (x :: L))(l:h.le h'){s:Ow}(O':s.own h')(hn:∀ b,s.at b->h b=none):Zw hi h' (x :: s :: L):=by
 have O2:=O.grow l;have Os:=(O.sub (fX x L)).cons l O' hn;obtain⟨d1,d2⟩:=fA.1 O.dj;refine⟨O2.le,fun t ht=>?_,fun t ht b hb=>?_,fA.2 ⟨fun y hy b hb hb'=>?_,Os.dj⟩⟩
 ·rcases bS.1 ht with rfl|q
  ·exact O2.own _ (bY ..)
  ·exact Os.own t q
 ·rcases bS.1 ht with rfl|q
  ·exact O.new _ (bY ..) b hb
  ·exact Os.new t q b hb
 ·rcases bS.1 hy with rfl|q
  ·exact Ow.al (O.own x (bY ..)) hb (hn b hb')
  ·exact d1 y q b hb hb'
theorem Zw.shut1 {x s:Ow}(O:Zw hi h (x :: s :: L)):∃ hj:Hp,hi.le hj/\Zw hj h (x :: L)/\Qe hj s.a s.xs:=by
 obtain⟨hj,lj,Oj,kj⟩:=O.rebase (L':=x :: L) (List.Sublist.cons_cons x (fX s L));refine⟨hj,lj,Oj,?_⟩
 have hs:s ∈ x :: s :: L:=by simp
 have hrow:=(O.ownV hs).row;obtain⟨d1,d2⟩:=fA.1 O.dj;obtain⟨d3,d4⟩:=fA.1 d2;rcases hrow with e|⟨b,o,ha,hr⟩
 ·exact .inl e
 ·refine .inr ⟨b,o,ha,?_⟩
  have hb0:o=0:=(O.own s hs).at0 b o ha;subst hb0;unfold Hp.row at hr ⊢;cases hq:h b with
  | none=>rw [hq] at hr;cases hr
  | some ob=>
   rw [kj b ob hq fun t ht q1=>?_]
   ·rw [hq] at hr;exact hr
   ·rcases bS.1 ht with rfl|ht
    ·exact d1 s (bY ..) b q1 ha
    ·exact d3 t ht b ha q1
end
end Go.Vc
namespace Go.Proofs.YthicpjafcpfjoaaGreatDoor
open Go Go.Vc
def Qeo (h hi:Hp):Hp:=fun b=>if h b=none then hi b else none
theorem Qqm {h hi:Hp}:(Qeo h hi).le hi:=fun b o ho=>by
 unfold Qeo at ho;split at ho
 ·exact ho
 ·cases ho
theorem Qn8 {h hi:Hp}{b:Nat}(hb:h b≠none):Qeo h hi b=none:=by unfold Qeo;rw [bE hb]
theorem QjA {h hi hk:Hp}(l:hi.le hk):(Qeo h hi).le (Qeo h hk):=fun b o ho=>by
 unfold Qeo at ho ⊢;split at ho
 ·rename_i hn;rw [bJ hn];exact l b o ho
 ·cases ho
theorem QlN {h hi:Hp}{a:OaT}{xs:List Value}(H:Qe hi a xs)(hn:∀ b o,a=some ⟨b,o,none⟩->h b=none):Qe (Qeo h hi) a xs:=by
 refine Qe.over H fun b o ob ha ho=>?_
 unfold Qeo;rw [bJ (hn b o ha)];exact ho
theorem Qnt (l:List Vl):∀ u ∈ l.flatMap Qu,u.oneCell'=true:=by
 intro u hu;obtain⟨r,_,hr⟩:=fI.1 hu;simp only [Qu,bS,dB,fV] at hr;rcases hr with rfl|rfl<;>rfl
theorem Qo1 (R:List (Xt Vl (Bool × PK))):∀ u ∈ R.flatMap (QV Zj),u.oneCell'=true:=by
 intro u hu;obtain⟨r,_,hr⟩:=fI.1 hu;simp only [QV,Zj,bS,dB,fV] at hr;rcases hr with rfl|rfl|rfl|rfl|rfl<;>rfl
section
variable {h:Hp}{K':RtT}{a:OaT}{c:Nat}
theorem Qjf {l:List Vl}(S:Qe h a (l.flatMap Qu))(hn:l.length<=1000000)(hK:∀ a' c' h',Qg h h' 54 2 a' l.length c' (l.flatMap Qu)->K' (vsl a' l.length c') h'):Qa Pg 123 [vsl a l.length c] h K':=by
 refine XI ?_
 have hle:∀ x:Vl,(Qu x).length=2:=fun _=>rfl
 refine⟨_,Jj (e:=54) (by kernel_rfl),fun e=>?_,fun e=>?_⟩
 ·have h0:l.flatMap Qu=[]:=by
   rcases S with h1|⟨b,o,ha,_⟩
   ·exact h1
   ·rw [ha] at e;cases e
  have hn0:l=[]:=by have:=congrArg List.length h0;rw [Qi hle] at this;exact dR (by simp at this;omega)
  subst hn0;exact hK none 0 h (qY (qO h) _ _)
 ·intro b3 hb3 h4;have O0:Qg h h4 54 2 (some ⟨b3,0,none⟩) 0 0 []:=qZ (qO h) hb3 _ [] rfl (by simp [maxLen])
  refine q8 QhA O0 (S.le (qQ (qO h) hb3 _)) (Qi hle l) (Qnt l) (by omega) (by omega) fun a' c' h' O' _ _=>⟨_,_,_,rfl,?_⟩
  rw [dW,dE] at *
  exact hK a' c' h' O'
theorem QiE {l:List (Xt Vl (Bool × PK))}(S:Qe h a (l.flatMap (QV Zj)))(hn:l.length<=1000000)(hK:∀ a' c' h',Qg h h' 95 5 a' l.length c' (l.flatMap (QV Zj))->K' (vsl a' l.length c') h'):Qa Pg 122 [vsl a l.length c] h K':=by
 refine WM ?_
 have hle:∀ x:Xt Vl (Bool × PK),(QV Zj x).length=5:=fun _=>rfl
 refine⟨_,Jj (e:=95) (by kernel_rfl),fun e=>?_,fun e=>?_⟩
 ·have h0:l.flatMap (QV Zj)=[]:=by
   rcases S with h1|⟨b,o,ha,_⟩
   ·exact h1
   ·rw [ha] at e;cases e
  have hn0:l=[]:=by have:=congrArg List.length h0;rw [Qi hle] at this;exact dR (by simp at this;omega)
  subst hn0;exact hK none 0 h (qY (qO h) _ _)
 ·intro b3 hb3 h4;have O0:Qg h h4 95 5 (some ⟨b3,0,none⟩) 0 0 []:=qZ (qO h) hb3 _ [] rfl (by simp [maxLen])
  refine q8 Qku O0 (S.le (qQ (qO h) hb3 _)) (Qi hle l) (Qo1 l) (by omega) (by omega) fun a' c' h' O' _ _=>⟨_,_,_,rfl,?_⟩
  rw [dW,dE] at *
  exact hK a' c' h' O'
theorem QoQ {l:List (Xt Vl (Bool × PK))}{i:Nat}{r:Xt Vl (Bool × PK)}(hx:l[i]?=some r)(b:OaT)(d:Nat):QP (l.flatMap (QV Zj)) (i*5+4) [vsl b r.2.2.length d]=(l.set i (r.1,(b,d),r.2.2)).flatMap (QV Zj):=by
 obtain⟨hi,er⟩:=bG.1 hx
 have hle:∀ x:Xt Vl (Bool × PK),(QV Zj x).length=5:=fun _=>rfl
 have e1:l=l.take i++r :: l.drop (i+1):=by rw [<-er,<-dS hi,dX]
 have e2:l.set i (r.1,(b,d),r.2.2)=l.take i++(r.1,(b,d),r.2.2) :: l.drop (i+1):=by rw [jS,bJ hi]
 have hA:((l.take i).flatMap (QV Zj)).length=i*5:=by rw [Qi hle,bZ,dU (by omega)]
 rw [e2];conv=>lhs;rw [e1]
 rw [cP,cP,dI,dI];have h3:=XX ((l.take i).flatMap (QV Zj)) (QV Zj r++(l.drop (i+1)).flatMap (QV Zj)) 4 [vsl b r.2.2.length d];rw [hA] at h3;rw [h3];rfl
theorem UB {L:List ((Bool × PK) × List Vl)}{n:Nat}(G:Ke Qu Zj h a n L)(hn:L.length<=1000000)(hx:∀ x ∈ L,x.2.length<=1000)
  (hK:∀ a' c' h' hN,h.le h'->hN.le h'->(∀ b,h b≠none->hN b=none)->n<=c'->Ke Qu Zj hN a' n L->K' (vsl a' n c') h'):Qa Pg 58 [vsl a n c] h K':=by
 refine Qcd ?_
 obtain⟨RW,eW,hnL,hrow,hin⟩:=G;have hRl:RW.length=L.length:=QmD eW;have hnR:n=RW.length:=by omega
 subst hnR;refine QiE hrow (by omega) fun a3 c3 h2 O2=>⟨_,_,_,rfl,?_⟩
 have O2':Zw h h2 [⟨95,5,a3,RW.length,c3,RW.flatMap (QV Zj)⟩]:=by
  have:=(Zw.nil (qO h)).push O2.le (s:=⟨95,5,a3,RW.length,c3,RW.flatMap (QV Zj)⟩) O2.own (fun b hb=>O2.new b hb)
  simpa using this
 refine⟨fun vs hh=>∃(i:Nat)(hi:Hp)(N:List (Xt Vl (Bool × PK))),vs=[vi i]/\i<=RW.length/\h.le hi/\N.length=i/\Zw hi hh [⟨95,5,a3,RW.length,c3,(N++RW.drop i).flatMap (QV Zj)⟩]/\Qv N=Qv (RW.take i)/\∀ r ∈ N,Qe (Qeo h hi) r.2.1.1 (r.2.2.flatMap Qu),
  fun vs hh=>RW.length-(Qo vs 0).toNat,⟨0,h,[],rfl,cE _,qO h,rfl,by simpa using O2',rfl,fun r hr=>by cases hr⟩,?_⟩
 clear O2 O2';rintro vs hh ⟨i,hi,N,rfl,hi',lhi,hNl,O,eN,hNi⟩;refine⟨i,rfl,fun e=>?_,fun e=>?_⟩
 ·have hlt:i<RW.length:=by have:=bC e;omega
  have hxr:RW[i]?=some RW[i]:=bD hlt
  have hat:(N++RW.drop i)[i]?=some RW[i]:=by rw [dP (by omega),hNl,fT,fP,f7];exact hxr
  have hal:(RW[i]).2.2.length<=1000:=by
   have:(Qv RW)[i]?=some ((RW[i]).1,(RW[i]).2.2):=by unfold Qv;rw [cC,hxr];rfl
   rw [eW] at this;exact hx _ (cF this)
  have hri:=hin _ (cM hlt);have tk:RW.take (i+1)=RW.take i++[RW[i]]:=bL hlt;have dr:RW.drop i=RW[i] :: RW.drop (i+1):=dS hlt;generalize RW[i]=r at *
  have OV:=O.ownV (bY ..);have S:SlP (QV Zj) hh a3 RW.length (N++RW.drop i):=⟨by rw [bO,hNl,d5];omega,OV.row⟩
  obtain⟨b,o,ea,hr⟩:=S.get (sz:=5) (fun _=>rfl) (by decide) hat
  have ho:o=0:=OV.own.at0 b o ea;subst ho;refine⟨b,0,⟨ea,by omega,by omega⟩,r.2.1.1,r.2.2.length,r.2.1.2,by rw [bF,kG];exact qT hr (i:=4) rfl,?_⟩
  refine O.frame (Qjf (hri.le lhi) (by omega) fun a17 c17 hk O17 h16 l16 O16=>⟨_,_,_,rfl,b,0,⟨ea,by omega,by omega⟩,?_⟩)
  have est:0+(i:Int).toNat*5+1+3=0+(i*5+4):=by rw [bF];omega
  rw [est];refine O16.store (j:=0) rfl (i:=i*5+4) (by simp) (by simp only [dV];omega) ea fun h20 O20 _=>?_
  simp only [dJ] at O20;rw [QoQ hat] at O20;have eset:(N++RW.drop i).set i (r.1,(a17,c17),r.2.2)=(N++[(r.1,(a17,c17),r.2.2)])++RW.drop (i+1):=by
   rw [gJ _ _ (by omega),hNl,fT,dr,dJ,bX]
   rfl
  rw [eset] at O20;refine⟨_,iW,⟨i+1,hk,N++[(r.1,(a17,c17),r.2.2)],rfl,by omega,qP lhi O17.le,by simp [hNl],O20,?_,fun r' hr'=>?_⟩,by simp [Qo];omega⟩
  ·rw [tk];unfold Qv at eN ⊢;rw [cJ,cJ,eN];rfl
  ·rcases bU.1 hr' with q1|q1
   ·exact(hNi r' q1).le (QjA O17.le)
   ·rw [cD.1 q1];refine QlN O17.row fun b' o' hb'=>?_
    have h0':o'=0:=O17.own.at0 b' o' hb';subst h0';exact qR lhi (O17.new b' hb')
 ·have hge:i=RW.length:=by have:=bB e;omega
  subst hge;rw [kL,dH] at O;rw [dG] at eN;have OV:=O.ownV (bY ..);refine hK a3 c3 hh (Qeo h hh) (qP lhi O.le) Qqm (fun b hb=>Qn8 hb) OV.own.cap ⟨N,eN.trans eW,by omega,?_,fun r hr=>(hNi r hr).le (QjA O.le)⟩
  refine QlN OV.row fun b' o' hb'=>?_
  have h0':o'=0:=OV.own.at0 b' o' hb';subst h0';exact qR lhi (OV.new b' hb')
end
theorem Qdj {u0:Int}{u1:Int}{u2:Int}{u3:Int}{u4:Int}{u5:Int}{u6:Int}{h:Hp}{R:RtT}(H:((cond (decide (u0<0)) true (decide (u0>9999)))=true->R (ifv (some (119,vi 1))) h)/\((cond (decide (u0<0)) true (decide (u0>9999)))=false->∀ b2,h b2=none->let h3:=Hp.set h b2 (Qb [vi u1,vi u2,vi u3,vi u4,vi u5,vi u6] 54);∃(I5:LtT)(m6:LmT),I5 [vi 0] h3/\∀ vs7 h8,I5 vs7 h8->∃ x9,vs7=[vi x9]/\((decide (x9<((3:Nat):Int)))=true->∃ b12 o13,((some (⟨b2,0,none⟩:Addr))=some ⟨b12,o13,none⟩/\(0:Int)<=x9/\x9<((3:Nat):Int))/\∃ x14 x15,Hp.row h8 b12 (o13+x9.toNat*2) 2=some [vi x14,vi x15]/\Qa Pg 159 [vag [vi x14,vi x15]] h8 fun v16 h17=>∃ e18,v16=ifv e18/\((Option.isSome e18)=true->R (ifv e18) h17)/\((Option.isSome e18)=false->((decide (x14=2))=true->R (ifv (some (119,vi 3))) h17)/\((decide (x14=2))=false->((cond (decide (x15<(-1000))) true (decide (x15>1000)))=true->R (ifv (some (119,vi 1))) h17)/\((cond (decide (x15<(-1000))) true (decide (x15>1000)))=false->∃ x22,IsW x22 (x9+1)/\I5 [vi x22] h17/\m6 [vi x22] h17<m6 vs7 h8))))/\((decide (x9<((3:Nat):Int)))=false->R (ifv none) h8))):Qa Pg 104 [vag [vi u0,vi u1,vi u2,vi u3,vi u4,vi u5,vi u6]] h R:=callC ⟨[],[(4,([23],[.one (.int .i64)],[]))],[]⟩ Tryz.func104 [.ag [.v (vi u0),.v (vi u1),.v (vi u2),.v (vi u3),.v (vi u4),.v (vi u5),.v (vi u6)]] H
theorem QfL {u0:Int}{h:Hp}{R:RtT}(H:((cond (decide (u0<1)) true (decide (u0>3)))=true->R (Qf [vp none,(ifv (some (119,vi 1)))]) h)/\((cond (decide (u0<1)) true (decide (u0>3)))=false->Qh Pg (Instr.makeSlice 38 (vi u0) (vi u0)) h fun v2 h3=>∃ a4 n4 c4,v2=vsl a4 n4 c4/\∀ b5,h3 b5=none->let h6:=Hp.set h3 b5 (Qb [vsl a4 n4 c4] 105);R (Qf [vhp b5 0,ifv none]) h6)):Qa Pg 41 [vi u0] h R:=callC ⟨[14],[],[]⟩ Tryz.func41 [.one (.v (vi u0))] H
theorem Vh {u0 u1:Nat}{h:Hp}{R:RtT}(H:∃ a1 n1 c1,Hp.cell h u0 u1=some (vsl a1 n1 c1)/\R (vi (n1:Int)) h ):Qa Pg 53 [vhp u0 u1] h R:=callO Tryz.func53 [.one (.hp u0 u1)] H
theorem Mb {u0 u1:Nat}{u2:Int}{u3:Int}{u4:Int}{u5:Int}{u6:Int}{u7:Int}{u8:Int}{u9:Int}{h:Hp}{R:RtT}(H:∃ a1 n1 c1,((decide (u2<0))=false->Hp.cell h u0 u1=some (vsl a1 n1 c1))/\((cond (decide (u2<0)) true (decide (u2>=(n1:Int))))=true->R (ifv (some (119,vi 5))) h)/\((cond (decide (u2<0)) true (decide (u2>=(n1:Int))))=false->Qa Pg 104 [vag [vi u3,vi u4,vi u5,vi u6,vi u7,vi u8,vi u9]] h fun v3 h4=>∃ e5,v3=ifv e5/\((Option.isSome e5)=true->R (ifv e5) h4)/\((Option.isSome e5)=false->∃ a7 n7 c7,Hp.cell h4 u0 u1=some (vsl a7 n7 c7)/\∃ b8 o9,Ix a7 b8 o9 u2 n7/\∃ a10 n10 c10,Hp.cell h4 b8 (o9+u2.toNat*1)=some (vsl a10 n10 c10)/\((decide ((n10:Int)=40))=true->R (ifv (some (119,vi 6))) h4)/\((decide ((n10:Int)=40))=false->∃ a12 n12 c12,Hp.cell h4 u0 u1=some (vsl a12 n12 c12)/\∃ a13 n13 c13,Hp.cell h4 u0 u1=some (vsl a13 n13 c13)/\∃ b14 o15,Ix a13 b14 o15 u2 n13/\∃ a16 n16 c16,Hp.cell h4 b14 (o15+u2.toNat*1)=some (vsl a16 n16 c16)/\∀ b17,h4 b17=none->let h18:=Hp.set h4 b17 (Qb [vi u3,vi u4,vi u5,vi u6,vi u7,vi u8,vi u9] 56);Qh Pg (Builtin.append_ #[51,51] 51 #[vsl a16 n16 c16,(vsl (some ⟨b17,0,none⟩) 1 1)]) h18 fun v19 h20=>∃ a21 n21 c21,v19=vsl a21 n21 c21/\Hp.cell h20 u0 u1=some (vsl a12 n12 c12)/\∃ b22 o23,Ix a12 b22 o23 u2 n12/\Hp.store h20 b22 (o23+u2.toNat*1) [vsl a21 n21 c21] fun h24=>R (ifv none) h24)))):Qa Pg 44 [vhp u0 u1,vi u2,vag [vi u3,vi u4,vi u5,vi u6,vi u7,vi u8,vi u9]] h R:=callC ⟨[],[],[(8,[0,1,2,3,4,5,6,7,8,9,10,11,12,13,14,15,16])]⟩ Tryz.func44 [.one (.hp u0 u1),.one (.v (vi u2)),.ag [.v (vi u3),.v (vi u4),.v (vi u5),.v (vi u6),.v (vi u7),.v (vi u8),.v (vi u9)]] H
theorem G7 {u0 u1:Nat}{u2:Int}{u3:Int}{h:Hp}{R:RtT}(H:∃ a1 n1 c1,((decide (u2<0))=false->Hp.cell h u0 u1=some (vsl a1 n1 c1))/\∃ a2 n2 c2,((cond (cond (decide (u2<0)) true (decide (u2>=(n1:Int)))) true (decide (u3<0)))=false->Hp.cell h u0 u1=some (vsl a2 n2 c2))/\∃ b3 o4,((cond (cond (decide (u2<0)) true (decide (u2>=(n1:Int)))) true (decide (u3<0)))=false->Ix a2 b3 o4 u2 n2)/\∃ a5 n5 c5,((cond (cond (decide (u2<0)) true (decide (u2>=(n1:Int)))) true (decide (u3<0)))=false->Hp.cell h b3 (o4+u2.toNat*1)=some (vsl a5 n5 c5))/\((cond (cond (cond (decide (u2<0)) true (decide (u2>=(n1:Int)))) true (decide (u3<0))) true (decide (u3>=(n5:Int))))=true->R (Qf [vag [vi 0,vi 0,vi 0,vi 0,vi 0,vi 0,vi 0],vb false]) h)/\((cond (cond (cond (decide (u2<0)) true (decide (u2>=(n1:Int)))) true (decide (u3<0))) true (decide (u3>=(n5:Int))))=false->∃ a7 n7 c7,Hp.cell h u0 u1=some (vsl a7 n7 c7)/\∃ b8 o9,Ix a7 b8 o9 u2 n7/\∃ a10 n10 c10,Hp.cell h b8 (o9+u2.toNat*1)=some (vsl a10 n10 c10)/\∃ b11 o12,Ix a10 b11 o12 u3 n10/\∃ x13 x14 x15 x16 x17 x18 x19,Hp.row h b11 (o12+u3.toNat*7) 7=some [vi x13,vi x14,vi x15,vi x16,vi x17,vi x18,vi x19]/\R (Qf [vag [vi x13,vi x14,vi x15,vi x16,vi x17,vi x18,vi x19],vb true]) h)):Qa Pg 54 [vhp u0 u1,vi u2,vi u3] h R:=callO Tryz.func54 [.one (.hp u0 u1),.one (.v (vi u2)),.one (.v (vi u3))] H
theorem QqU:ElT Pg 51 56 7 56:=.of (by kernel_rfl) (by kernel_rfl) (by decide)
abbrev EvT:=WH Xk 7 56 51
def KZ (g:Nat)(L:List (List EvL))(h:Hp)(F:NpT):Prop:=∃ t G,h g=some (Qb [vsl (some ⟨t,0,none⟩) L.length L.length] 105)/\EvT h G t L/\F=(fun b=>b=g\/G b)/\¬ G g
theorem QnB (g:Nat)(L:List (List EvL)):Fp (KZ g L) where
 al:=by
  rintro h F ⟨t,G,hg,D,rfl,hn⟩ b (rfl|hb)
  ·rw [hg];simp
  ·exact D.al b hb
 keep:=by
  rintro h h' F ⟨t,G,hg,D,rfl,hn⟩ hk;exact⟨t,G,hk g (.inl rfl) _ hg,D.keep fun b hb o ho=>hk b (.inr hb) o ho,rfl,hn⟩
theorem VI {e:EvL}{h:Hp}{R:RtT}(hK:∀ h',h.le h'->R (ifv (QA (K5 e))) h'):Qa Pg 104 [vag (Xk e)] h R:=by
 refine Qdj ?_
 refine⟨fun q=>?_,fun q=>?_⟩
 ·have:K5 e=1:=by unfold K5;rw [bJ (by simp [cQ] at q;omega)]
  rw [this] at hK;exact hK h (qO h)
 have e1:K5 e=QkN [e.2.1,e.2.2.1,e.2.2.2]:=by unfold K5;rw [bE (by simp [cQ] at q;omega)]
 rw [e1] at hK;clear e1 q;intro b2 hb2 h3;have l3:h.le h3:=qQ (qO h) hb2 _;have S:SlP Qu h3 (some ⟨b2,0,none⟩) 3 [e.2.1,e.2.2.1,e.2.2.2]:=⟨rfl,qW _ _ [vi e.2.1.1,vi e.2.1.2,vi e.2.2.1.1,vi e.2.2.1.2,vi e.2.2.2.1,vi e.2.2.2.2] _⟩;clear_value h3;have hl:[e.2.1,e.2.2.1,e.2.2.2].length=3:=rfl;generalize [e.2.1,e.2.2.1,e.2.2.2]=l at *
 refine⟨fun vs hh=>hh=h3/\∃ i:Nat,vs=[vi i]/\i<=3/\QkN l=QkN (l.drop i),fun vs hh=>3-(Qo vs 0).toNat,⟨rfl,0,rfl,by decide,rfl⟩,?_⟩
 rintro vs hh ⟨rfl,i,rfl,hi,hc⟩;refine⟨i,rfl,fun q=>?_,fun q=>?_⟩
 ·have hlt:i<3:=by have:=bC q;omega
  have hx:l[i]?=some (l[i]'(by omega)):=bD (by omega)
  rw [Qj0 (by omega:i<l.length),QkN] at hc
  obtain⟨b,o,ha,hr⟩:=S.get YO (by decide) hx
  generalize l[i]'(by omega)=v at *
  have A:(some ⟨b2,0,none⟩:OaT)=some ⟨b,o,none⟩/\(0:Int)<=i/\(i:Int)<(3:Nat):=⟨ha,by omega,by omega⟩
  refine⟨b,o,A,_,_,hr,Mp (v:=v) ⟨_,rfl,fun q2=>?_,fun q2=>⟨fun q3=>?_,fun q3=>⟨fun q4=>?_,fun q4=>?_⟩⟩⟩⟩
  ·rw [QR] at q2;have hg:¬ Qq v:=fun hg=>by simp [hg] at q2
   have:Qdn v=3:=by unfold Qdn;rw [bJ (.inl hg)]
   rw [this,bE (by decide)] at hc
   rw [bE hg];rw [hc] at hK;exact hK hh l3
  ·have:Qdn v=3:=by unfold Qdn;rw [bJ (.inr (bC q3))]
   rw [this,bE (by decide)] at hc
   rw [hc] at hK;exact hK hh l3
  ·rw [QR] at q2;have hg:Qq v:=by
    by_cases hg:Qq v
    ·exact hg
    ·simp [hg] at q2
   have h2:¬ v.1=2:=bB q3;have:Qdn v=1:=by unfold Qdn;rw [bE (by simp [hg,h2]),bJ (by simp [cQ] at q4;omega)]
   rw [this,bE (by decide)] at hc
   rw [hc] at hK;exact hK hh l3
  ·rw [QR] at q2;have hg:Qq v:=by
    by_cases hg:Qq v
    ·exact hg
    ·simp [hg] at q2
   have h2:¬ v.1=2:=bB q3;have:Qdn v=0:=by unfold Qdn;rw [bE (by simp [hg,h2]),bE (by simp [cQ] at q4;omega)]
   rw [this,bJ rfl] at hc;exact⟨_,iW,⟨rfl,i+1,rfl,by omega,hc⟩,by simp [Qo];omega⟩
 ·have hge:i=3:=by have:=bB q;omega
  subst hge;rw [gL (by omega)] at hc
  rw [hc] at hK;exact hK hh l3
theorem Qqy:ElT Pg 38 51 1 24:=.of (by kernel_rfl) (by kernel_rfl) (by decide)
theorem QfC {n:Int}{h:Hp}{R:RtT}(hK1:¬(1<=n/\n<=3)->R (Qf [vp none,ifv (QA 1)]) h)
  (hK2:1<=n->n<=3->∀ g h' F',h.le h'->(∀ b,F' b->h b=none)->KZ g (List.replicate n.toNat []) h' F'->R (Qf [vhp g 0,ifv none]) h'):Qa Pg 41 [vi n] h R:=by
 refine QfL ?_
 refine⟨fun e=>hK1 (by simp [cQ] at e;omega),fun e=>?_⟩
 have hn:1<=n/\n<=3:=by simp [cQ] at e;omega
 have en:n=((n.toNat:Nat):Int):=by omega
 rw [en];refine Gi Qqy (z:=[vsl none 0 0]) (by kernel_rfl) (by omega) (by omega) fun b hb=>⟨_,_,_,rfl,?_⟩
 intro b5 hb5 h6;have D:=WH.new (enc:=Xk) (sz:=7) (e:=56) (T:=51) hb n.toNat;have hne:b5≠b:=fun e=>by rw [e,qK] at hb5;cases hb5
 have l1:h.le (h.set b (Qb ((List.replicate n.toNat [vsl none 0 0]).flatten) 51)):=qQ (qO h) hb _;refine hK2 hn.1 hn.2 b5 h6 _ (qQ l1 hb5 _) ?_ ⟨b,fun x=>x=b,?_,D.le (qQ (qO _) hb5 _),rfl,hne⟩
 ·rintro x (rfl|rfl)
  ·exact qR l1 hb5
  ·exact hb
 ·have e2:(List.replicate n.toNat ([]:List EvL)).length=n.toNat:=by simp
  rw [e2];exact qK _ _ _
section
variable {h:Hp}{F:NpT}{g:Nat}{L:List (List EvL)}
theorem KZ.c (D:KZ g L h F):∃ t G,h.cell g 0=some (vsl (some ⟨t,0,none⟩) L.length L.length)/\EvT h G t L/\F=(fun b=>b=g\/G b)/\¬ G g:=by
 obtain⟨t,G,hg,D,e,hn⟩:=D;exact⟨t,G,Qc hg rfl,D,e,hn⟩
theorem KJ (D:KZ g L h F){R:RtT}(hK:R (vi L.length) h):Qa Pg 53 [vhp g 0] h R:=by
 refine Vh ?_
 obtain⟨t,G,hc,_⟩:=D.c;exact⟨_,_,_,hc,hK⟩
def Up (L:List (List EvL))(p:Int)(e:EvL):List (List EvL) × Int:=
 if p<0\/p>=L.length then(L,5) else if K5 e≠0 then(L,K5 e) else if (L.getD p.toNat []).length=40 then(L,6) else(L.set p.toNat (L.getD p.toNat []++[e]),0)
theorem Qim {α:Type}{L:List (List α)}{i:Nat}(h:i<L.length):L[i]?=some (L.getD i []):=by
 rw [bI,bD h];rfl
theorem Qf9 (D:KZ g L h F){p:Int}{e:EvL}(hs:∀ l ∈ L,l.length<=40){R:RtT}(hK:∀ h' F',KZ g (Up L p e).1 h' F'->Mut F h F' h'->R (ifv (QA (Up L p e).2)) h') :
  Qa Pg 44 [vhp g 0,vi p,vag (Xk e)] h R:=by
 refine Mb ?_
 have Dq:=D;obtain⟨t,G,hc,DT,eF,hn⟩:=D.c;refine⟨_,_,_,fun _=>hc,fun q=>?_,fun q=>?_⟩
 ·have:Up L p e=(L,5):=by unfold Up;rw [bJ (by simp [cQ] at q;omega)]
  rw [this] at hK;exact hK h F Dq (rA (qO h))
 have hp:¬(p<0\/p>=L.length):=by simp [cQ] at q;omega
 refine VI fun h4 l4=>⟨_,rfl,fun q2=>?_,fun q2=>?_⟩
 ·rw [QR] at q2;have hne:K5 e≠0:=by simpa using q2
  have:Up L p e=(L,K5 e):=by unfold Up;rw [bE hp,bJ hne]
  rw [this] at hK;exact hK h4 F ((QnB g L).keep Dq fun b _ o ho=>l4 b o ho) (rA l4)
 rw [QR] at q2;have he:¬ K5 e≠0:=by simpa using q2
 have hp2:p.toNat<L.length:=by omega
 have hL:=Qim hp2;have hlen:(L.getD p.toNat []).length<=40:=hs _ (cF hL);obtain⟨a,c,hcell,_⟩:=(DT.le l4).cell hL;have hc4:=qS l4 hc;have A:(some ⟨t,0,none⟩:OaT)=some ⟨t,0,none⟩/\(0:Int)<=p/\p<(L.length:Nat):=⟨rfl,by omega,by omega⟩
 refine⟨_,_,_,hc4,t,0,A,_,_,_,hcell,fun q3=>?_,fun q3=>?_⟩
 ·have:Up L p e=(L,6):=by unfold Up;rw [bE hp,bE he,bJ (by have:=bC q3;omega)]
  rw [this] at hK;exact hK h4 F ((QnB g L).keep Dq fun b _ o ho=>l4 b o ho) (rA l4)
 have h40:¬(L.getD p.toNat []).length=40:=by have:=bB q3;omega
 have:Up L p e=(L.set p.toNat (L.getD p.toNat []++[e]),0):=by unfold Up;rw [bE hp,bE he,bE h40]
 rw [this] at hK;refine⟨_,_,_,hc4,_,_,_,hc4,t,0,A,_,_,_,hcell,fun b17 hb17=>?_⟩
 refine(DT.le l4).app QqU Qjc Qm3 hL (by omega) (by omega) hcell hb17 fun a' c' h20 hk hst=>⟨_,_,_,rfl,?_⟩
 have hg4:h4 g=some (Qb [vsl (some ⟨t,0,none⟩) L.length L.length] 105):=by obtain⟨t',G',hg',_,_,_⟩:=Dq;have e1:h.cell g 0=some (vsl (some ⟨t',0,none⟩) L.length L.length):=Qc hg' rfl;rw [hc] at e1;cases e1;exact l4 _ _ hg'
 have hg20:=hk g _ (.inl hn) hg4;refine⟨Qc hg20 rfl,t,0,A,hst _ fun h24 F24 D24 M24=>?_⟩
 have hg24:h24 g=some (Qb [vsl (some ⟨t,0,none⟩) L.length L.length] 105):=M24.keep g _ hn hg4;have hn24:¬ F24 g:=fun hf=>by
  rcases M24.new g hf with h1|h1
  ·exact hn h1
  ·rw [hg4] at h1;cases h1
 refine hK h24 (fun b=>b=g\/F24 b) ⟨t,F24,by rw [dL];exact hg24,D24,rfl,hn24⟩ ?_
 rw [eF];refine(rA l4).trans ⟨fun b o hb ho=>M24.keep b o (fun hG=>hb (.inr hG)) ho,?_⟩
 rintro b (rfl|hb)
 ·exact .inl (.inl rfl)
 ·rcases M24.new b hb with h1|h1
  ·exact .inl (.inr h1)
  ·exact .inr h1
def Qid (L:List (List EvL))(p n:Int):EvL × Bool:=
 if p<0\/p>=L.length\/n<0\/n>=(L.getD p.toNat []).length then((0,(0,0),(0,0),(0,0)),false) else((L.getD p.toNat []).getD n.toNat (0,(0,0),(0,0),(0,0)),true)
theorem QfT (D:KZ g L h F){p n:Int}{R:RtT}(hK:R (Qf [vag (Xk (Qid L p n).1),vb (Qid L p n).2]) h):Qa Pg 54 [vhp g 0,vi p,vi n] h R:=by
 refine G7 ?_
 obtain⟨t,G,hc,DT,eF,hn⟩:=D.c;by_cases hp:p<0\/p>=L.length
 ·have:Qid L p n=((0,(0,0),(0,0),(0,0)),false):=by unfold Qid;rw [bJ (by omega)]
  rw [this] at hK;have hc1:(bif (decide (p<0)) then true else(decide (p>=((L.length:Nat):Int))))=true:=by simp [cQ];omega
  refine⟨_,_,_,fun _=>hc,none,0,0,fun q=>?_,0,0,fun q=>?_,none,0,0,fun q=>?_,fun _=>hK,fun q=>?_⟩<;>rw [hc1] at q<;>cases q
 have hp2:p.toNat<L.length:=by omega
 have hL:=Qim hp2;obtain⟨a,c,hcell,S⟩:=DT.cell hL;have A:(some ⟨t,0,none⟩:OaT)=some ⟨t,0,none⟩/\(0:Int)<=p/\p<(L.length:Nat):=⟨rfl,by omega,by omega⟩
 refine⟨_,_,_,fun _=>hc,_,_,_,fun _=>hc,t,0,fun _=>A,_,_,_,fun _=>hcell,fun q=>?_,fun q=>?_⟩
 ·have:Qid L p n=((0,(0,0),(0,0),(0,0)),false):=by
   unfold Qid;rw [bJ];simp [cQ] at q;simp only [bI] at q ⊢
   omega
  rw [this] at hK;exact hK
 have hb:¬(n<0)/\¬ n>=(L.getD p.toNat []).length:=by
  simp [cQ] at q;simp only [bI]
  omega
 have:Qid L p n=((L.getD p.toNat []).getD n.toNat (0,(0,0),(0,0),(0,0)),true):=by unfold Qid;rw [bE (by omega)]
 rw [this] at hK;generalize L.getD p.toNat []=l at *
 have hx:l[n.toNat]?=some (l.getD n.toNat (0,(0,0),(0,0),(0,0))):=by rw [bI,bD (by omega)];rfl
 obtain⟨b,o,ha,hr⟩:=S.get Qjc (by decide) hx
 exact⟨_,_,_,hc,t,0,A,_,_,_,hcell,b,o,⟨ha,by omega,by omega⟩,_,_,_,_,_,_,_,hr,hK⟩
end
theorem QhN {u0 u1:Nat}{h:Hp}{R:RtT}(H:Qa Pg 100 [vhp u0 u1] h fun v1 h2=>∃ x3,v1=vi x3/\∃ x4,IsW x4 (x3-2)/\((2:Int)≠0/\InR (Int.tdiv x4 2))/\R (vi (Int.tdiv x4 2)) h2):Qa Pg 117 [vhp u0 u1] h R:=callO Tryz.func117 [.one (.hp u0 u1)] H
theorem Qh5 {u0:Int}{h:Hp}{R:RtT}(H:∃ x1,RdG .shr 3 (.tmp 5) (.const (vk .u64 8)) (vi u0) (vk .u64 8) h (vi x1)/\∃ x2,RdG .shr 3 (.tmp 8) (.const (vk .u64 16)) (vi u0) (vk .u64 16) h (vi x2)/\∃ x3,RdG .shr 3 (.tmp 11) (.const (vk .u64 24)) (vi u0) (vk .u64 24) h (vi x3)/\∀ b4,h b4=none->let h5:=Hp.set h b4 (Qb [(vk .u8 (IntKind.wrap .u8 u0)),(vk .u8 (IntKind.wrap .u8 x1)),(vk .u8 (IntKind.wrap .u8 x2)),(vk .u8 (IntKind.wrap .u8 x3))] 5);∃ s6,Rd Pg (convert 207 9 (vsl (some ⟨b4,0,none⟩) 4 4)) h5 (vs s6)/\R (vs s6) h5):Qa Pg 158 [vi u0] h R:=callO Tryz.func158 [.one (.v (vi u0))] H
theorem Qeq {u0:ByteArray}{h:Hp}{R:RtT}(H:∃ x1,Rd Pg (Instr.index 9 (vs u0) (vi 0)) h (vk .u8 x1)/\∃ x2,Rd Pg (Instr.index 9 (vs u0) (vi 1)) h (vk .u8 x2)/\∃ x3,RdG .shl 3 (.tmp 8) (.const (vk .u64 8)) (vi (IntKind.wrap .i64 x2)) (vk .u64 8) h (vi x3)/\∃ x4,Rd Pg (binOp .or 3 (vi (IntKind.wrap .i64 x1)) (vi x3)) h (vi x4)/\∃ x5,Rd Pg (Instr.index 9 (vs u0) (vi 2)) h (vk .u8 x5)/\∃ x6,RdG .shl 3 (.tmp 13) (.const (vk .u64 16)) (vi (IntKind.wrap .i64 x5)) (vk .u64 16) h (vi x6)/\∃ x7,Rd Pg (binOp .or 3 (vi x4) (vi x6)) h (vi x7)/\∃ x8,Rd Pg (Instr.index 9 (vs u0) (vi 3)) h (vk .u8 x8)/\∃ x9,RdG .shl 3 (.tmp 18) (.const (vk .u64 24)) (vi (IntKind.wrap .i64 x8)) (vk .u64 24) h (vi x9)/\∃ x10,Rd Pg (binOp .or 3 (vi x7) (vi x9)) h (vi x10)/\R (vi x10) h):Qa Pg 174 [vs u0] h R:=callC ⟨[],[],[(1,[0,1,2,3,4,5,6,7,8,9,10,11,12,13,14,15,16,17,18])]⟩ Tryz.func174 [.one (.v (vs u0))] H
theorem Qit {u0:Int}{u1:Int}{h:Hp}{R:RtT}(H:Qa Pg 158 [vi u0] h fun v1 h2=>∃ s3,v1=vs s3/\∃ s4,RdG .add 9 (.const (vs ⟨#[84]⟩)) (.tmp 6) (vs ⟨#[84]⟩) (vs s3) h2 (vs s4)/\Qa Pg 158 [vi u1] h2 fun v5 h6=>∃ s7,v5=vs s7/\∃ s8,RdG .add 9 (.tmp 7) (.tmp 9) (vs s4) (vs s7) h6 (vs s8)/\R (vs s8) h6):Qa Pg 103 [vi u0,vi u1] h R:=callO Tryz.func103 [.one (.v (vi u0)),.one (.v (vi u1))] H
theorem Qfb {u0 u1:Nat}{h:Hp}{R:RtT}(H:Qa Pg 100 [vhp u0 u1] h fun v1 h2=>∃ x3,v1=vi x3/\((decide (x3<4))=true->R (ifv (some (119,vi 6))) h2)/\((decide (x3<4))=false->Qa Pg 101 [vhp u0 u1,vi 1,(vs ⟨#[]⟩)] h2 fun v5 h6=>∃ e7,v5=ifv e7/\let J13:OtT->Hp->Prop:=fun e15 h16=>(let J25:OtT->Hp->Prop:=fun e27 h28=>(let J34:OtT->Hp->Prop:=fun e36 h37=>R (ifv e36) h37;((Option.isNone e27)=true->Qa Pg 102 [vhp u0 u1] h28 fun v29 h30=>∃ e31,v29=ifv e31/\J34 e31 h30)/\((Option.isNone e27)=false->J34 e27 h28));((Option.isNone e15)=true->Qa Pg 103 [vi 2,vi 0] h16 fun v17 h18=>∃ s19,v17=vs s19/\Qa Pg 101 [vhp u0 u1,vi 0,vs s19] h18 fun v20 h21=>∃ e22,v20=ifv e22/\J25 e22 h21)/\((Option.isNone e15)=false->J25 e15 h16));((Option.isNone e7)=true->Qa Pg 102 [vhp u0 u1] h6 fun v8 h9=>∃ e10,v8=ifv e10/\J13 e10 h9)/\((Option.isNone e7)=false->J13 e7 h6))):Qa Pg 43 [vhp u0 u1] h R:=callO Tryz.func43 [.one (.hp u0 u1)] H
theorem QhO {u0 u1:Nat}{h:Hp}{R:RtT}(H:Qa Pg 100 [vhp u0 u1] h fun v1 h2=>∃ x3,v1=vi x3/\((decide (x3<4))=true->R (Qf [vi 0,vi 0,(ifv (some (119,vi 4)))]) h2)/\((decide (x3<4))=false->∃(I6:LtT)(m7:LmT),I6 [vi 0,vi 0,vi 0] h2/\∀ vs8 h9,I6 vs8 h9->∃ x10 x11 x12,vs8=[vi x10,vi x11,vi x12]/\((decide (x12<2))=true->let J38:Int->Int->Hp->Prop:=fun x44 x45 h46=>(∃ x47,IsW x47 (x12+1)/\I6 [vi x44,vi x45,vi x47] h46/\m7 [vi x44,vi x45,vi x47] h46<m7 vs8 h9);Qa Pg 126 [vhp u0 u1,vi x12] h9 fun v15 h16=>∃ s17 e18,v15=Qf [vs s17,ifv e18]/\((Option.isSome e18)=true->R (Qf [vi 0,vi 0,ifv e18]) h16)/\((Option.isSome e18)=false->∃ s20,Rd Pg (Instr.sliceAt 9 (vs s17) (some (vi 1)) (some (vi 5)) none) h16 (vs s20)/\∃ s21,Rd Pg (Instr.sliceAt 9 (vs s17) (some (vi 5)) (some (vi 9)) none) h16 (vs s21)/\Qa Pg 174 [vs s20] h16 fun v22 h23=>∃ x24,v22=vi x24/\Rd Pg (Instr.sliceAt 9 (vs s17) (some (vi 5)) (some (vi 9)) none) h23 (vs s21)/\Qa Pg 174 [vs s21] h23 fun v25 h26=>∃ x27,v25=vi x27/\∃ x28,Rd Pg (Instr.index 9 (vs s17) (vi 0)) h26 (vk .u8 x28)/\∃(J29:ShT),((cond (decide (x28=84)) (decide (x24>x10)) false)=true->Qa Pg 117 [vhp u0 u1] h26 fun v30 h31=>∃ x32,v30=vi x32/\J29 (.t (.one (.v (vi x32)))) h31)/\(¬((cond (decide (x28=84)) (decide (x24>x10)) false)=true)->J29 (.t (.one (.v (vi 0)))) h26)/\∀ h33 x34,J29 (.t (.one (.v (vi x34)))) h33->∃ x35,((cond (decide (x28=84)) (decide (x24>x10)) false)=true->IsW x35 (x34*256))/\((cond (cond (decide (x28=84)) (decide (x24>x10)) false) (decide (x27<=x35)) false)=true->J38 x24 x27 h33)/\((cond (cond (decide (x28=84)) (decide (x24>x10)) false) (decide (x27<=x35)) false)=false->J38 x10 x11 h33)))/\((decide (x12<2))=false->((decide (x10=0))=true->R (Qf [vi 0,vi 0,(ifv (some (119,vi 4)))]) h9)/\((decide (x10=0))=false->R (Qf [vi x10,vi x11,ifv none]) h9)))):Qa Pg 116 [vhp u0 u1] h R:=callC ⟨[],[(4,([2,3,14],[.one (.int .i64),.one (.int .i64),.one (.int .i64)],[]))],[(9,[0,1,3,4,2,5,6,7])]⟩ Tryz.func116 [.one (.hp u0 u1)] H
theorem Qhw {u0 u1:Nat}{h:Hp}{R:RtT}(H:Qa Pg 115 [vhp u0 u1] h fun v1 h2=>∃ p3,v1=vb p3/\(p3=true->R (Qf [(vs ⟨#[]⟩),(ifv (some (119,vi 7)))]) h2)/\(p3=false->Qa Pg 116 [vhp u0 u1] h2 fun v5 h6=>∃ x7 x8 e9,v5=Qf [vi x7,vi x8,ifv e9]/\((Option.isSome e9)=true->R (Qf [(vs ⟨#[]⟩),ifv e9]) h6)/\((Option.isSome e9)=false->∃(I12:LtT)(m13:LmT),I12 [(vs ⟨#[]⟩),vi 0] h6/\∀ vs14 h15,I12 vs14 h15->∃ s16 x17,vs14=[vs s16,vi x17]/\∃ x18,IsW x18 (x17*256)/\((decide (x18<x8))=true->(2:Int)≠0/\Qa Pg 117 [vhp u0 u1] h15 fun v21 h22=>∃ x23,v21=vi x23/\∃ x24,IsW x24 ((Int.tmod x7 2)*x23)/\∃ x25,IsW x25 (2+x24)/\∃ x26,IsW x26 (x25+x17)/\Qa Pg 126 [vhp u0 u1,vi x26] h22 fun v27 h28=>∃ s29 e30,v27=Qf [vs s29,ifv e30]/\((Option.isSome e30)=true->R (Qf [(vs ⟨#[]⟩),ifv e30]) h28)/\((Option.isSome e30)=false->∃ s32,RdG .add 9 (.tmp 45) (.tmp 46) (vs s16) (vs s29) h28 (vs s32)/\∃ x34,IsW x34 (x17+1)/\I12 [vs s32,vi x34] h28/\m13 [vs s32,vi x34] h28<m13 vs14 h15))/\((decide (x18<x8))=false->∃ s35,Rd Pg (Instr.sliceAt 9 (vs s16) none (some (vi x8)) none) h15 (vs s35)/\R (Qf [vs s35,ifv none]) h15)))):Qa Pg 60 [vhp u0 u1] h R:=callC ⟨[],[(8,([7,8],[.one (.str),.one (.int .i64)],[]))],[]⟩ Tryz.func60 [.one (.hp u0 u1)] H
theorem QfF {u0 u1:Nat}{u2:ByteArray}{h:Hp}{R:RtT}(H:∀ b1,h b1=none->let h2:=Hp.set h b1 (Qb [vhp u0 u1] 34);∀ b3,h2 b3=none->let h4:=Hp.set h2 b3 (Qb [ifv none] 59);∃ q5,Hp.cell h4 b1 0=some (vp q5)/\Qa Pg 115 [vp q5] h4 fun v6 h7=>∃ p8,v6=vb p8/\(p8=true->Hp.store h7 b3 0 [(ifv (some (119,vi 7)))] fun h9=>∃ e10,Hp.cell h9 b3 0=some (ifv e10)/\R (ifv e10) h9)/\(p8=false->∃ q12,Hp.cell h7 b1 0=some (vp q12)/\Qa Pg 116 [vp q12] h7 fun v13 h14=>∃ x15 x16 e17,v13=Qf [vi x15,vi x16,ifv e17]/\∀ b18,h14 b18=none->let h19:=Hp.set h14 b18 (Qb [ifv none] 59);Hp.store h19 b18 0 [ifv e17] fun h20=>∃ e21,Hp.cell h20 b18 0=some (ifv e21)/\((Option.isSome e21)=true->∃ e22,Hp.cell h20 b18 0=some (ifv e22)/\Hp.store h20 b3 0 [ifv e22] fun h23=>∃ e24,Hp.cell h23 b3 0=some (ifv e24)/\R (ifv e24) h23)/\((Option.isSome e21)=false->∃ q26,Hp.cell h20 b1 0=some (vp q26)/\Qa Pg 117 [vp q26] h20 fun v27 h28=>∃ x29,v27=vi x29/\∃ x30,IsW x30 (x29*256)/\((decide ((((ByteArray.size u2:Nat):Int):Int)>x30))=true->Hp.store h28 b3 0 [(ifv (some (119,vi 6)))] fun h31=>∃ e32,Hp.cell h31 b3 0=some (ifv e32)/\R (ifv e32) h31)/\((decide ((((ByteArray.size u2:Nat):Int):Int)>x30))=false->∃ x34,IsW x34 (x15+1)/\(2:Int)≠0/\∃ q35,Hp.cell h28 b1 0=some (vp q35)/\Qa Pg 117 [vp q35] h28 fun v36 h37=>∃ x38,v36=vi x38/\∃ x39,IsW x39 ((Int.tmod x34 2)*x38)/\∃ x40,IsW x40 (2+x39)/\∀ b41,h37 b41=none->let h42:=Hp.set h37 b41 (Qb [vi 0] 3);Hp.store h42 b41 0 [vi x40] fun h43=>Qh Pg (convert 9 207 (vs u2)) h43 fun v44 h45=>∃ a46 n46 c46,v44=vsl a46 n46 c46/\Qa Pg 118 [vsl a46 n46 c46,vi 256] h45 fun v47 h48=>∃(y49:Value),v47=y49/\∃(hc50:_)(good51:Value->Prop)(xs52:List Value)(I53:LtT),QiP Pg (y49) hc50 good51 xs52/\I53 [] h48/\(∀ l h',I53 l h'->Hp.le hc50 h'/\ZR h48 h')/\(∀ l54 h55 (x56:Value),good51 x56->List.length l54<List.length xs52->I53 l54 h55->∃ a57 n57 c57,x56=vsl a57 n57 c57/\∃ q58,Hp.cell h55 b1 0=some (vp q58)/\∃ x59,Hp.cell h55 b41 0=some (vi x59)/\∃ s60,Rd Pg (convert 207 9 (vsl a57 n57 c57)) h55 (vs s60)/\Qa Pg 101 [vp q58,vi x59,vs s60] h55 fun v61 h62=>∃ e63,v61=ifv e63/\Hp.store h62 b18 0 [ifv e63] fun h64=>∃ e65,Hp.cell h64 b18 0=some (ifv e65)/\((Option.isSome e65)=true->∃ e66,Hp.cell h64 b18 0=some (ifv e66)/\Hp.store h64 b3 0 [ifv e66] fun h67=>ZR h48 h67/\(l54++[x56] <+: xs52->∃ e68,Hp.cell h67 b3 0=some (ifv e68)/\R (ifv e68) h67))/\((Option.isSome e65)=false->∃ x70,Hp.cell h64 b41 0=some (vi x70)/\∃ x71,IsW x71 (x70+1)/\Hp.store h64 b41 0 [vi x71] fun h72=>I53 (l54++[x56]) h72))/\∀ h73,I53 xs52 h73->∃ q75,Hp.cell h73 b1 0=some (vp q75)/\Qa Pg 102 [vp q75] h73 fun v76 h77=>∃ e78,v76=ifv e78/\Hp.store h77 b18 0 [ifv e78] fun h79=>∃ e80,Hp.cell h79 b18 0=some (ifv e80)/\let J91:HpT:=fun h92=>(∃ e93,Hp.cell h92 b18 0=some (ifv e93)/\let J101:HpT:=fun h102=>(∃ e103,Hp.cell h102 b18 0=some (ifv e103)/\Hp.store h102 b3 0 [ifv e103] fun h104=>∃ e105,Hp.cell h104 b3 0=some (ifv e105)/\R (ifv e105) h104);((Option.isNone e93)=true->∃ q94,Hp.cell h92 b1 0=some (vp q94)/\Qa Pg 102 [vp q94] h92 fun v95 h96=>∃ e97,v95=ifv e97/\Hp.store h96 b18 0 [ifv e97] fun h98=>J101 h98)/\((Option.isNone e93)=false->J101 h92));((Option.isNone e80)=true->∃ q81,Hp.cell h79 b1 0=some (vp q81)/\(2:Int)≠0/\Qa Pg 103 [vi x34,(vi ((ByteArray.size u2:Nat):Int))] h79 fun v82 h83=>∃ s84,v82=vs s84/\Hp.cell h83 b1 0=some (vp q81)/\Qa Pg 101 [vp q81,(vi (Int.tmod x34 2)),vs s84] h83 fun v85 h86=>∃ e87,v85=ifv e87/\Hp.store h86 b18 0 [ifv e87] fun h88=>J91 h88)/\((Option.isNone e80)=false->J91 h79))))):Qa Pg 56 [vhp u0 u1,vs u2] h R:=callC ⟨[2,4,7,8],[(11,([],[.one (.slice)],[]))],[(18,[0,1,2,3,4,5,6,7,8])]⟩ Tryz.func56 [.one (.hp u0 u1),.one (.v (vs u2))] H
theorem JM {u0:OaT}{u1 u2:Nat}{u3:Int}{h:Hp}{R:RtT}(H:∀ b1,h b1=none->let h2:=Hp.set h b1 (Qb [vsl u0 u1 u2] 207);∀ b3,h2 b3=none->let h4:=Hp.set h2 b3 (Qb [vi u3] 3);∃ x5,Hp.cell h4 b3 0=some (vi x5)/\((decide (x5<1))=true->False)/\((decide (x5<1))=false->R (Value.func (.func 175) #[] #[vhp b1 0,vhp b3 0]) h4)):Qa Pg 118 [vsl u0 u1 u2,vi u3] h R:=callC ⟨[2,3],[],[]⟩ Tryz.func118 [.one (.v (vsl u0 u1 u2)),.one (.v (vi u3))] H
structure DK where
 kept:List (LuT)
 now:List (LuT)
 wait:List (Int × LuT)
 fuse:Int
 down:Bool
def Nk (x:Int × LuT):List Value:=[vi x.1,vs (bs x.2)]
theorem Qm4 (x:Int × LuT):(Nk x).length=2:=rfl
theorem Vk (l:List (LuT)):l.flatMap Yj=l.map fun x=>vs (bs x):=by
 induction l with
 | nil=>rfl
 | cons x l ih=>rw [dI,ih];rfl
theorem Qgs (l:List (LuT))(i:Nat)(d:LuT)(h:i<l.length):QP (l.flatMap Yj) i [vs (bs d)]=(l.set i d).flatMap Yj:=by
 rw [Vk,Vk,Jy _ _ _ (by simpa using h),gM]
def ZE (l:LuT):LuT:=l++List.replicate (256-l.length) 0
def QU (s:DK):DK × Int:=if s.down then(s,7) else if s.fuse=0 then({ s with down:=true,fuse:=-1 },7) else({ s with fuse:=max (s.fuse-1) (-1) },0)
def Qec (s:DK)(i:Int):LuT × Int:=if s.down then([],7) else if i<0\/i>=s.now.length then([],1) else(s.now.getD i.toNat [],0)
def Qx (s:DK)(i:Int)(d:LuT):DK × Int:=
 if i<0\/i>=s.now.length\/d.length>256 then(s,1) else if (QU s).2≠0 then QU s else
  ({ (QU s).1 with now:=s.now.set i.toNat (ZE d),wait:=s.wait++[(i,ZE d)] },0)
def QX (s:DK):DK × Int:=if (QU s).2≠0 then QU s else({ (QU s).1 with kept:=s.now,wait:=[] },0)
def Qlu (k:Int)(i:Nat):Bool:=decide (k / 2 ^ (i % 64) % 2=1)
def Yg (k:Int):Nat->List (Int × LuT)->List (LuT)->List (LuT)
 | _,[],l=>l
 | i,t :: ts,l=>Yg k (i+1) ts (if Qlu k i then l.set t.1.toNat t.2 else l)
def Y9 (s:DK)(k:Int):DK:=⟨Yg k 0 s.wait s.kept,Yg k 0 s.wait s.kept,[],-1,false⟩
theorem WG (k:Int):∀(i:Nat)(ts:List (Int × LuT))(l:List (LuT)),(Yg k i ts l).length=l.length
 | _,[],l=>rfl
 | i,t :: ts,l=>by rw [Yg,WG k];split<;>simp
theorem Qe7 (k:Int):∀(ts:List (Int × LuT))(i:Nat)(t:Int × LuT)(l:List (LuT)),Yg k i (ts++[t]) l=if Qlu k (i+ts.length) then(Yg k i ts l).set t.1.toNat t.2 else Yg k i ts l
 | [],i,t,l=>by simp [Yg]
 | u :: ts,i,t,l=>by
  rw [dA,Yg,Qe7 k ts,Yg,cH,show i+1+ts.length=i+(ts.length+1) by omega]
structure DK.wf (s:DK)(n:Nat):Prop where
 k:s.kept.length=n
 w:s.now.length=n
 t:∀ x ∈ s.wait,0<=x.1/\x.1<n
 f:-1<=s.fuse
 f2:s.fuse<=9223372036854775807
 n1:1<=n
 n2:n<=160
def dkF (tT:TypeId)(aK:OaT)(cK:Nat)(aN:OaT)(cN:Nat)(aW:OaT)(cW:Nat)(s:DK):List Fld:=
 [.s 9 1 aK s.kept.length cK (s.kept.flatMap Yj),.s 9 1 aN s.now.length cN (s.now.flatMap Yj),.s tT 2 aW s.wait.length cW (s.wait.flatMap Nk),.v (vi s.fuse),.v (vb s.down)]
def ZL (T tT:TypeId)(h:Hp)(F:NpT)(g:Nat)(s:DK):Prop:=∃ aK cK aN cN aW cW,F=ftR g (dkF tT aK cK aN cN aW cW s)/\Rec h g T (dkF tT aK cK aN cN aW cW s)
section
variable {T tT:TypeId}{h:Hp}{F:NpT}{g:Nat}{s:DK}
theorem ZL.al (D:ZL T tT h F g s):∀ b,F b->h b≠none:=by
 obtain⟨aK,cK,aN,cN,aW,cW,rfl,R⟩:=D;exact R.al
theorem ZL.keep {h':Hp}(D:ZL T tT h F g s)(hk:∀ b,F b->∀ o,h b=some o->h' b=some o):ZL T tT h' F g s:=by
 obtain⟨aK,cK,aN,cN,aW,cW,rfl,R⟩:=D;exact⟨aK,cK,aN,cN,aW,cW,rfl,R.keep hk⟩
theorem ZL.le {h':Hp}(D:ZL T tT h F g s)(hl:h.le h'):ZL T tT h' F g s:=D.keep fun b _ o ho=>hl b o ho
theorem ZL.c3 (D:ZL T tT h F g s):h.cell g (0+3)=some (vi s.fuse):=by
 obtain⟨aK,cK,aN,cN,aW,cW,rfl,R⟩:=D;exact R.cell (j:=3) rfl
theorem ZL.c4 (D:ZL T tT h F g s):h.cell g (0+4)=some (vb s.down):=by
 obtain⟨aK,cK,aN,cN,aW,cW,rfl,R⟩:=D;exact R.cell (j:=4) rfl
theorem ZL.v3 (D:ZL T tT h F g s){x:Int}{K:HpT}(hK:∀ h' F',ZL T tT h' F' g { s with fuse:=x }->Mut F h F' h'->K h'):h.store g (0+3) [vi x] K:=by
 obtain⟨aK,cK,aN,cN,aW,cW,rfl,R⟩:=D;exact R.put (j:=3) (f':=.v (vi x)) rfl (fun b o ho _=>ho) trivial (fun b hb=>hb.elim) (fun h'' _ R' M=>hK h'' _ ⟨aK,cK,aN,cN,aW,cW,rfl,R'⟩ M) rfl
theorem ZL.v4 (D:ZL T tT h F g s){x:Bool}{K:HpT}(hK:∀ h' F',ZL T tT h' F' g { s with down:=x }->Mut F h F' h'->K h'):h.store g (0+4) [vb x] K:=by
 obtain⟨aK,cK,aN,cN,aW,cW,rfl,R⟩:=D;exact R.put (j:=4) (f':=.v (vb x)) rfl (fun b o ho _=>ho) trivial (fun b hb=>hb.elim) (fun h'' _ R' M=>hK h'' _ ⟨aK,cK,aN,cN,aW,cW,rfl,R'⟩ M) rfl
theorem ZL.noWait (D:ZL T tT h F g s){K:HpT}(hK:∀ h' F',ZL T tT h' F' g { s with wait:=[] }->Mut F h F' h'->K h'):h.store g (0+2) [vsl none 0 0] K:=by
 obtain⟨aK,cK,aN,cN,aW,cW,rfl,R⟩:=D;exact R.put (j:=2) (f':=.s tT 2 none 0 0 []) rfl (fun b o ho _=>ho) (qX h tT 2) (fun b hb=>by cases hb) (fun h'' _ R' M=>hK h'' _ ⟨aK,cK,aN,cN,none,0,rfl,R'⟩ M) rfl
theorem ZL.nowS (D:ZL T tT h F g s):∃ a c,h.cell g (0+1)=some (vsl a s.now.length c)/\SlB h a s.now.length s.now /\
  ∀(i:Nat)(d:LuT)(b o:Nat)(K:HpT),i<s.now.length->a=some ⟨b,o,none⟩->(∀ h' F',h' g=h g->ZL T tT h' F' g { s with now:=s.now.set i d }->Mut F h F' h'->K h')->h.store b (o+i*1) [vs (bs d)] K:=by
 obtain⟨aK,cK,aN,cN,aW,cW,rfl,R⟩:=D;have O:QT h 9 1 aN s.now.length cN (s.now.flatMap Yj):=R.own 1 _ rfl;refine⟨aN,cN,R.cell (j:=1) rfl,⟨rfl,O.row⟩,fun i d b o K hi ha hK=>?_⟩
 rw [fZ];refine R.elem (j:=1) rfl (by simp) (by simp;omega) ha fun h' hg' R' M=>?_
 rw [Qgs _ _ _ hi] at R' M;have e:(dkF tT aK cK aN cN aW cW s).set 1 (.s 9 1 aN s.now.length cN ((s.now.set i d).flatMap Yj))=dkF tT aK cK aN cN aW cW { s with now:=s.now.set i d }:=by simp [dkF]
 rw [e] at R' M;exact hK h' _ hg' ⟨aK,cK,aN,cN,aW,cW,rfl,R'⟩ M
theorem ZL.keptS (D:ZL T tT h F g s):∃ a c,h.cell g 0=some (vsl a s.kept.length c)/\SlB h a s.kept.length s.kept /\
  ∀(i:Nat)(d:LuT)(b o:Nat)(K:HpT),i<s.kept.length->a=some ⟨b,o,none⟩->(∀ h' F',h' g=h g->ZL T tT h' F' g { s with kept:=s.kept.set i d }->Mut F h F' h'->K h')->h.store b (o+i*1) [vs (bs d)] K:=by
 obtain⟨aK,cK,aN,cN,aW,cW,rfl,R⟩:=D;have O:QT h 9 1 aK s.kept.length cK (s.kept.flatMap Yj):=R.own 0 _ rfl;refine⟨aK,cK,R.cell (j:=0) rfl,⟨rfl,O.row⟩,fun i d b o K hi ha hK=>?_⟩
 rw [fZ];refine R.elem (j:=0) rfl (by simp) (by simp;omega) ha fun h' hg' R' M=>?_
 rw [Qgs _ _ _ hi] at R' M;have e:(dkF tT aK cK aN cN aW cW s).set 0 (.s 9 1 aK s.kept.length cK ((s.kept.set i d).flatMap Yj))=dkF tT aK cK aN cN aW cW { s with kept:=s.kept.set i d }:=by simp [dkF]
 rw [e] at R' M;exact hK h' _ hg' ⟨aK,cK,aN,cN,aW,cW,rfl,R'⟩ M
theorem ZL.waitS (D:ZL T tT h F g s):∃ a c,h.cell g (0+2)=some (vsl a s.wait.length c)/\SlP Nk h a s.wait.length s.wait:=by
 obtain⟨aK,cK,aN,cN,aW,cW,rfl,R⟩:=D;have O:QT h tT 2 aW s.wait.length cW (s.wait.flatMap Nk):=R.own 2 _ rfl;exact⟨aW,cW,R.cell (j:=2) rfl,⟨rfl,O.row⟩⟩
end
section
variable {T tT:TypeId}{h:Hp}{F:NpT}{g:Nat}{s:DK}
theorem ZL.waitApp {tS:TypeId}{bytes:Nat}(E:ElT Pg tS tT 2 bytes)(D:ZL T tT h F g s)(hb:(s.wait.length+1)*bytes<=140737488355328)(hb2:s.wait.length+1<=140737488355328){x:Int × LuT}{a:OaT}{c:Nat}(hc:h.cell g (0+2)=some (vsl a s.wait.length c)){b:Nat}(hbn:h b=none){ty:TypeId}{K:RtT}
  (hK:∀ a' c' h',(∀ K2:HpT,(∀ h'' F',ZL T tT h'' F' g { s with wait:=s.wait++[x] }->Mut F h F' h''->K2 h'')->h'.store g (0+2) [vsl a' (s.wait.length+1) c'] K2)->K (vsl a' (s.wait.length+1) c') h') :
  Qh Pg (Builtin.append_ #[tS,tS] ty #[vsl a s.wait.length c,vsl (some ⟨b,0,none⟩) 1 1]) (h.set b (Qb (Nk x) tT)) K:=by
 obtain⟨aK,cK,aN,cN,aW,cW,rfl,R⟩:=D;have hca:=R.cell (j:=2) rfl;rw [show (0+2:Nat)=2 from rfl,hca] at hc
 simp only [Fld.val,bH,Value.slice.injEq] at hc;obtain⟨rfl,_,rfl⟩:=hc;have hl:h.le (h.set b (Qb (Nk x) tT)):=qQ (qO h) hbn _;have O:QT (h.set b (Qb (Nk x) tT)) tT 2 aW s.wait.length cW (s.wait.flatMap Nk):=(R.own 2 _ rfl:QT h tT 2 aW s.wait.length cW (s.wait.flatMap Nk)).le hl;refine Qab E O (qW _ _ (Nk x) _) (m:=1) rfl (by simp [Nk,Value.oneCell']) hb hb2 fun a' c' h' O' k1 k2 _ _=>hK a' c' h' fun K2 hK2=>?_
 have e:(dkF tT aK cK aN cN aW cW s).set 2 (.s tT 2 a' (s.wait.length+1) c' (s.wait.flatMap Nk++Nk x))=dkF tT aK cK aN cN a' c' { s with wait:=s.wait++[x] }:=by simp [dkF]
 refine R.put (h':=h') (j:=2) (f':=.s tT 2 a' (s.wait.length+1) c' (s.wait.flatMap Nk++Nk x)) rfl (fun b' o ho hat=>k1 b' o (hl b' o ho) hat) O' (fun b' hb'=>?_) (fun h'' _ R' M=>by rw [e] at R' M;exact hK2 h'' _ ⟨aK,cK,aN,cN,a',c',rfl,R'⟩ M) rfl
 rcases k2 b' hb' with e|e
 ·exact .inl (e.trans hb')
 ·exact .inr (qR hl e)
end
def le4 (n:Nat):LuT:=[UInt8.ofNat n,UInt8.ofNat (n / 256),UInt8.ofNat (n / 65536),UInt8.ofNat (n / 16777216)]
def un4 (l:LuT):Nat:=(l.getD 0 0).toNat+256*(l.getD 1 0).toNat+65536*(l.getD 2 0).toNat+16777216*(l.getD 3 0).toNat
theorem QlM {n:Nat}(h:n<4294967296):un4 (le4 n)=n:=by
 simp [un4,le4];omega
def Yy (e k:Nat):LuT:=84 :: (le4 e++le4 k)
theorem QmI (e k:Nat):(Yy e k).length=9:=rfl
def QI (s:DK):Nat:=(s.now.length-2) / 2
def ZQ (room:Nat)(p:Nat × Nat)(x:LuT):Nat × Nat:=
 if (x.getD 0 0=84/\un4 ((x.drop 1).take 4)>p.1)/\un4 ((x.drop 5).take 4)<=room then(un4 ((x.drop 1).take 4),un4 ((x.drop 5).take 4)) else p
def QeL (s:DK):Nat × Nat:=ZQ (QI s*256) (ZQ (QI s*256) (0,0) (s.now.getD 0 [])) (s.now.getD 1 [])
def GM (s:DK):Nat->Nat × Nat
 | 0=>(0,0)
 | i+1=>ZQ (QI s*256) (GM s i) (s.now.getD i [])
theorem Qmu (s:DK):GM s 2=QeL s:=rfl
def Zh (s:DK):(Nat × Nat) × Int:=if s.now.length<4 then((0,0),4) else if s.down then((0,0),7) else if (QeL s).1=0 then((0,0),4) else(QeL s,0)
def Z8 (t:LuT)(k:Nat):LuT:=(t.drop (k*256)).take 256
def Zq (t:LuT):List (LuT):=(List.range ((t.length+255) / 256)).map (Z8 t)
def Qz:DK->Nat->List (LuT)->DK × Int
 | s,_,[]=>(s,0)
 | s,i,c :: cs=>if (Qx s i c).2≠0 then Qx s i c else Qz (Qx s i c).1 (i+1) cs
def QdK (s:DK)(e k:Nat):DK × Int:=
 if (QX s).2≠0 then QX s else if (Qx (QX s).1 ((e % 2:Nat):Int) (Yy e k)).2≠0 then Qx (QX s).1 ((e % 2:Nat):Int) (Yy e k) else QX (Qx (QX s).1 ((e % 2:Nat):Int) (Yy e k)).1
def KC (s:DK)(t:LuT):DK × Int:=
 if s.down then(s,7) else if (Zh s).2≠0 then(s,(Zh s).2) else if t.length>QI s*256 then(s,6) else
  if (Qz s (2+((Zh s).1.1+1) % 2*QI s) (Zq t)).2≠0 then Qz s (2+((Zh s).1.1+1) % 2*QI s) (Zq t)
  else QdK (Qz s (2+((Zh s).1.1+1) % 2*QI s) (Zq t)).1 ((Zh s).1.1+1) t.length
def Km (s:DK):DK × Int:=if s.now.length<4 then(s,6) else if (Qx s 1 []).2≠0 then Qx s 1 [] else
 if (QX (Qx s 1 []).1).2≠0 then QX (Qx s 1 []).1 else if (Qx (QX (Qx s 1 []).1).1 0 (Yy 2 0)).2≠0 then Qx (QX (Qx s 1 []).1).1 0 (Yy 2 0) else
  QX (Qx (QX (Qx s 1 []).1).1 0 (Yy 2 0)).1
def QgI (s:DK)(e i:Nat):LuT:=s.now.getD (2+e % 2*QI s+i) []
def QbE (s:DK)(e m:Nat):LuT:=(List.range m).flatMap (QgI s e)
def Qjq (s:DK):LuT × Int:=if s.down then([],7) else if (Zh s).2≠0 then([],(Zh s).2) else((QbE s (Zh s).1.1 (((Zh s).1.2+255) / 256)).take (Zh s).1.2,0)
structure DOK (s:DK)(n:Nat):Prop where
 wf:s.wf n
 l1:∀ x ∈ s.now,x.length=256
 l2:∀ x ∈ s.kept,x.length=256
 l3:∀ x ∈ s.wait,x.2.length=256
theorem QgV {l:LuT}(h:l.length<=256):(ZE l).length=256:=by simp [ZE];omega
theorem DOK.up {s:DK}{n:Nat}(D:DOK s n){f:Int}(hf:-1<=f/\f<=9223372036854775807){b:Bool}:DOK { s with fuse:=f,down:=b } n:=
 ⟨⟨D.wf.k,D.wf.w,D.wf.t,hf.1,hf.2,D.wf.n1,D.wf.n2⟩,D.l1,D.l2,D.l3⟩
theorem DOK.stepD {s:DK}{n:Nat}(D:DOK s n):DOK (QU s).1 n:=by
 have h1:=D.wf.f;have h2:=D.wf.f2;unfold QU;split
 ·exact D
 ·split
  ·exact D.up (f:=-1) (b:=true) (by omega)
  ·have:=D.up (f:=max (s.fuse-1) (-1)) (b:=s.down) (by omega)
   exact this
theorem UE (s:DK):(QU s).1.now=s.now/\(QU s).1.kept=s.kept/\(QU s).1.wait=s.wait:=by
 unfold QU;split
 ·exact⟨rfl,rfl,rfl⟩
 ·split<;>exact⟨rfl,rfl,rfl⟩
theorem QlC {α:Type}{l:List α}{i:Nat}{x y:α}(h:y ∈ l.set i x):y ∈ l\/y=x:=by
 rcases gD h with h1|h1
 ·exact .inl h1
 ·exact .inr h1
theorem DOK.write {s:DK}{n:Nat}(D:DOK s n)(i:Int)(d:LuT):DOK (Qx s i d).1 n:=by
 have S:=D.stepD;have e:=UE s;unfold Qx;split
 ·exact D
 ·rename_i h;split
  ·exact S
  ·refine⟨⟨?_,?_,?_,S.wf.f,S.wf.f2,S.wf.n1,S.wf.n2⟩,?_,?_,?_⟩
   ·exact S.wf.k
   ·simp only [dL];exact D.wf.w
   ·intro x hx;rcases bU.1 hx with h1|h1
    ·exact D.wf.t x h1
    ·simp at h1;subst h1;have:=D.wf.w;simp only;omega
   ·intro x hx;rcases QlC hx with h1|h1
    ·exact D.l1 x h1
    ·rw [h1];exact QgV (by omega)
   ·exact S.l2
   ·intro x hx;rcases bU.1 hx with h1|h1
    ·exact D.l3 x h1
    ·simp at h1;subst h1;exact QgV (by omega)
theorem DOK.flush {s:DK}{n:Nat}(D:DOK s n):DOK (QX s).1 n:=by
 have S:=D.stepD;unfold QX;split
 ·exact S
 ·exact⟨⟨D.wf.w,S.wf.w,(fun x hx=>absurd hx dB),S.wf.f,S.wf.f2,S.wf.n1,S.wf.n2⟩,S.l1,D.l1,(fun x hx=>absurd hx dB)⟩
theorem Qcn (s:DK)(i:Int)(d:LuT):(Qx s i d).1.wait.length<=s.wait.length+1:=by
 have e:=UE s;unfold Qx;split
 ·simp
 ·split
  ·rw [e.2.2];omega
  ·simp
theorem ML (s:DK):(QX s).1.wait.length<=s.wait.length:=by
 have e:=UE s;unfold QX;split
 ·rw [e.2.2];omega
 ·simp
theorem U5:∀(cs:List (LuT))(s:DK)(i:Nat)(c:LuT),(Qz s i cs).2=0->Qz s i (cs++[c])=Qx (Qz s i cs).1 ((i+cs.length:Nat):Int) c
 | [],s,i,c,_=>by
  simp only [dE,Qz,fB,f7];split
  ·rfl
  ·rename_i h;have h2:(Qx s i c).2=0:=by simpa using h
   rw [<-h2]
 | x :: cs,s,i,c,h=>by
  rw [Qz] at h;split at h
  ·rename_i h1;exact absurd h h1
  ·rename_i h1;rw [dA,Qz,bE h1,U5 cs _ _ c h,Qz,bE h1];congr 1
   rw [cH];omega
theorem U4:∀(cs ds:List (LuT))(s:DK)(i:Nat),(Qz s i cs).2≠0->Qz s i (cs++ds)=Qz s i cs
 | [],ds,s,i,h=>absurd rfl h
 | c :: cs,ds,s,i,h=>by
  rw [dA,Qz,Qz];rw [Qz] at h;split
  ·rfl
  ·rename_i h1;rw [bE h1] at h;exact U4 cs ds _ _ h
theorem DOK.writes {n:Nat}:∀(cs:List (LuT)) {s:DK} (i:Nat),DOK s n->DOK (Qz s i cs).1 n
 | [],s,i,D=>D
 | c :: cs,s,i,D=>by
  rw [Qz];split
  ·exact D.write _ _
  ·exact DOK.writes cs _ (D.write _ _)
theorem K8:∀(cs:List (LuT))(s:DK)(i:Nat),(Qz s i cs).1.wait.length<=s.wait.length+cs.length
 | [],s,i=>by simp [Qz]
 | c :: cs,s,i=>by
  rw [Qz];have h1:=Qcn s i c;have h2:=K8 cs (Qx s i c).1 (i+1);rw [cH];split<;>omega
theorem DOK.newD {n:Nat}(h1:1<=n)(h2:n<=160){z:LuT}(hz:z.length=256):DOK ⟨List.replicate n z,List.replicate n z,[],-1,false⟩ n:=
 ⟨⟨dQ,dQ,(fun x hx=>absurd hx dB),by simp,by simp,h1,h2⟩,(fun x hx=>by rw [fQ hx];exact hz),(fun x hx=>by rw [fQ hx];exact hz),(fun x hx=>absurd hx dB)⟩
theorem Qhq {u0:ByteArray}{h:Hp}{R:RtT}(H:∃ x1,IsW x1 (256-((ByteArray.size u0:Nat):Int))/\Qh Pg (Instr.makeSlice 207 (vi x1) (vi x1)) h fun v2 h3=>∃ a4 n4 c4,v2=vsl a4 n4 c4/\∃ s5,Rd Pg (convert 207 9 (vsl a4 n4 c4)) h3 (vs s5)/\∃ s6,RdG .add 9 (.tmp 3) (.tmp 8) (vs u0) (vs s5) h3 (vs s6)/\R (vs s6) h3):Qa Pg 98 [vs u0] h R:=callO Tryz.func98 [.one (.v (vs u0))] H
theorem QiW {u0:Int}{h:Hp}{R:RtT}(H:((cond (decide (u0<1)) true (decide (u0>160)))=true->R (Qf [vp none,(ifv (some (119,vi 1)))]) h)/\((cond (decide (u0<1)) true (decide (u0>160)))=false->Qa Pg 98 [(vs ⟨#[]⟩)] h fun v2 h3=>∃ s4,v2=vs s4/\∀ b5,h3 b5=none->let h6:=Hp.set h3 b5 (Qb [vs s4] 9);Qa Pg 97 [(vsl (some ⟨b5,0,none⟩) 1 1),vi u0] h6 fun v7 h8=>∃ a9 n9 c9,v7=vsl a9 n9 c9/\Qa Pg 99 [vsl a9 n9 c9] h8 fun v10 h11=>∃ a12 n12 c12,v10=vsl a12 n12 c12/\∀ b13,h11 b13=none->let h14:=Hp.set h11 b13 (Qb [vsl a9 n9 c9,vsl a12 n12 c12,vsl none 0 0,(vi (-1)),vb false] 188);R (Qf [vhp b13 0,ifv none]) h14)):Qa Pg 42 [vi u0] h R:=callC ⟨[20],[],[]⟩ Tryz.func42 [.one (.v (vi u0))] H
theorem G6 {u0 u1:Nat}{h:Hp}{R:RtT}(H:∃ a1 n1 c1,Hp.cell h u0 (u1+1)=some (vsl a1 n1 c1)/\R (vi (n1:Int)) h ):Qa Pg 100 [vhp u0 u1] h R:=callO Tryz.func100 [.one (.hp u0 u1)] H
theorem QaR {u0 u1:Nat}{h:Hp}{R:RtT}(H:∃ p1,Hp.cell h u0 (u1+4)=some (vb p1)/\∃ x2,((!p1)=true->Hp.cell h u0 (u1+3)=some (vi x2))/\let J7:HpT:=fun h8=>(∃ p9,Hp.cell h8 u0 (u1+4)=some (vb p9)/\(p9=true->R (ifv (some (119,vi 7))) h8)/\(p9=false->∃ x11,Hp.cell h8 u0 (u1+3)=some (vi x11)/\∃ x12,IsW x12 (x11-1)/\∃ x13,Rd Pg (Builtin.max_ #[3,3] 3 #[vi x12,(vi (-1))]) h8 (vi x13)/\Hp.store h8 u0 (u1+3) [vi x13] fun h14=>R (ifv none) h14));((cond (!p1) (decide (x2=0)) false)=true->Hp.store h u0 (u1+4) [vb true] fun h3=>Hp.store h3 u0 (u1+3) [(vi (-1))] fun h4=>J7 h4)/\((cond (!p1) (decide (x2=0)) false)=false->J7 h)):Qa Pg 157 [vhp u0 u1] h R:=callO Tryz.func157 [.one (.hp u0 u1)] H
theorem QbB {u0 u1:Nat}{u2:Int}{h:Hp}{R:RtT}(H:∃ p1,Hp.cell h u0 (u1+4)=some (vb p1)/\(p1=true->R (Qf [(vs ⟨#[]⟩),(ifv (some (119,vi 7)))]) h)/\(p1=false->∃ a3 n3 c3,((decide (u2<0))=false->Hp.cell h u0 (u1+1)=some (vsl a3 n3 c3))/\((cond (decide (u2<0)) true (decide (u2>=(n3:Int))))=true->R (Qf [(vs ⟨#[]⟩),(ifv (some (119,vi 1)))]) h)/\((cond (decide (u2<0)) true (decide (u2>=(n3:Int))))=false->∃ a5 n5 c5,Hp.cell h u0 (u1+1)=some (vsl a5 n5 c5)/\∃ b6 o7,Ix a5 b6 o7 u2 n5/\∃ s8,Hp.cell h b6 (o7+u2.toNat*1)=some (vs s8)/\R (Qf [vs s8,ifv none]) h))):Qa Pg 126 [vhp u0 u1,vi u2] h R:=callO Tryz.func126 [.one (.hp u0 u1),.one (.v (vi u2))] H
theorem QaE {u0 u1:Nat}{u2:Int}{u3:ByteArray}{h:Hp}{R:RtT}(H:∃ a1 n1 c1,((decide (u2<0))=false->Hp.cell h u0 (u1+1)=some (vsl a1 n1 c1))/\((cond (cond (decide (u2<0)) true (decide (u2>=(n1:Int)))) true (decide ((((ByteArray.size u3:Nat):Int):Int)>256)))=true->R (ifv (some (119,vi 1))) h)/\((cond (cond (decide (u2<0)) true (decide (u2>=(n1:Int)))) true (decide ((((ByteArray.size u3:Nat):Int):Int)>256)))=false->Qa Pg 157 [vhp u0 u1] h fun v3 h4=>∃ e5,v3=ifv e5/\let J26:HpT:=fun h27=>R (ifv e5) h27;((Option.isNone e5)=true->∃ a6 n6 c6,Hp.cell h4 u0 (u1+1)=some (vsl a6 n6 c6)/\Qa Pg 98 [vs u3] h4 fun v7 h8=>∃ s9,v7=vs s9/\Hp.cell h8 u0 (u1+1)=some (vsl a6 n6 c6)/\∃ b10 o11,Ix a6 b10 o11 u2 n6/\Hp.store h8 b10 (o11+u2.toNat*1) [vs s9] fun h12=>∃ a13 n13 c13,Hp.cell h12 u0 (u1+2)=some (vsl a13 n13 c13)/\∃ a14 n14 c14,Hp.cell h12 u0 (u1+1)=some (vsl a14 n14 c14)/\∃ b15 o16,Ix a14 b15 o16 u2 n14/\∃ s17,Hp.cell h12 b15 (o16+u2.toNat*1)=some (vs s17)/\∀ b18,h12 b18=none->let h19:=Hp.set h12 b18 (Qb [vi u2,vs s17] 224);Qh Pg (Builtin.append_ #[186,186] 186 #[vsl a13 n13 c13,(vsl (some ⟨b18,0,none⟩) 1 1)]) h19 fun v20 h21=>∃ a22 n22 c22,v20=vsl a22 n22 c22/\Hp.store h21 u0 (u1+2) [vsl a22 n22 c22] fun h23=>J26 h23)/\((Option.isNone e5)=false->J26 h4))):Qa Pg 101 [vhp u0 u1,vi u2,vs u3] h R:=callC ⟨[],[],[(5,[0,1,2,3,4,5,6,7,8]),(6,[0,1,2,3,4,5,6,7,8,9,10,11,12,13,14,15,16,17,18])]⟩ Tryz.func101 [.one (.hp u0 u1),.one (.v (vi u2)),.one (.v (vs u3))] H
theorem NZ {u0 u1:Nat}{h:Hp}{R:RtT}(H:Qa Pg 157 [vhp u0 u1] h fun v1 h2=>∃ e3,v1=ifv e3/\let J12:HpT:=fun h13=>R (ifv e3) h13;((Option.isNone e3)=true->∃ a4 n4 c4,Hp.cell h2 u0 u1=some (vsl a4 n4 c4)/\∃ a5 n5 c5,Hp.cell h2 u0 (u1+1)=some (vsl a5 n5 c5)/\Qh Pg (Builtin.copy_ #[162,162] 3 #[vsl a4 n4 c4,vsl a5 n5 c5]) h2 fun v6 h7=>∃ x8,v6=vi x8/\Hp.store h7 u0 (u1+2) [vsl none 0 0] fun h9=>J12 h9)/\((Option.isNone e3)=false->J12 h2)):Qa Pg 102 [vhp u0 u1] h R:=callC ⟨[],[],[(3,[0,1,2,3,4,5,6,7,8])]⟩ Tryz.func102 [.one (.hp u0 u1)] H
theorem QbP {u0 u1:Nat}{u2:Int}{h:Hp}{R:RtT}(H:∃ x1,Rd Pg (Builtin.max_ #[3,3] 3 #[vi u2,(vi (-1))]) h (vi x1)/\Hp.store h u0 (u1+3) [vi x1] fun h2=>R (Qf []) h2):Qa Pg 69 [vhp u0 u1,vi u2] h R:=callO Tryz.func69 [.one (.hp u0 u1),.one (.v (vi u2))] H
theorem Qa4 {u0 u1:Nat}{h:Hp}{R:RtT}(H:∃ p1,Hp.cell h u0 (u1+4)=some (vb p1)/\R (vb p1) h ):Qa Pg 115 [vhp u0 u1] h R:=callO Tryz.func115 [.one (.hp u0 u1)] H
theorem Gp {u0 u1:Nat}{u2:Int}{h:Hp}{R:RtT}(H:∃ a1 n1 c1,Hp.cell h u0 (u1+2)=some (vsl a1 n1 c1)/\∃(I3:LtT)(m4:LmT),I3 [vi 0] h/\∀ vs5 h6,I3 vs5 h6->∃ x7,vs5=[vi x7]/\((decide (x7<(n1:Int)))=true->let J22:HpT:=fun h23=>(∃ x24,IsW x24 (x7+1)/\I3 [vi x24] h23/\m4 [vi x24] h23<m4 vs5 h6);∃ b10 o11,Ix a1 b10 o11 x7 n1/\∃ x12 s13,Hp.row h6 b10 (o11+x7.toNat*2) 2=some [vi x12,vs s13]/\(64:Int)≠0/\∃ x14,RdG .shr 43 (.tmp 16) (.tmp 18) (vk .u64 u2) (vi (Int.tmod x7 64)) h6 (vk .u64 x14)/\∃ x15,Rd Pg (binOp .and 43 (vk .u64 x14) (vk .u64 1)) h6 (vk .u64 x15)/\((decide (x15=1))=true->∃ a16 n16 c16,Hp.cell h6 u0 u1=some (vsl a16 n16 c16)/\∃ b17 o18,Ix a16 b17 o18 x12 n16/\Hp.store h6 b17 (o18+x12.toNat*1) [vs s13] fun h19=>J22 h19)/\((decide (x15=1))=false->J22 h6))/\((decide (x7<(n1:Int)))=false->∃ a25 n25 c25,Hp.cell h6 u0 (u1+1)=some (vsl a25 n25 c25)/\∃ a26 n26 c26,Hp.cell h6 u0 u1=some (vsl a26 n26 c26)/\Qh Pg (Builtin.copy_ #[162,162] 3 #[vsl a25 n25 c25,vsl a26 n26 c26]) h6 fun v27 h28=>∃ x29,v27=vi x29/\Hp.store h28 u0 (u1+2) [vsl none 0 0] fun h30=>Hp.store h30 u0 (u1+4) [vb false] fun h31=>Hp.store h31 u0 (u1+3) [(vi (-1))] fun h32=>R (Qf []) h32)):Qa Pg 67 [vhp u0 u1,(vk .u64 u2)] h R:=callC ⟨[],[(1,([11],[.one (.int .i64)],[]))],[(4,[0,1,2,3,4,5,6,7,8,9]),(6,[0,1,2,3,4,5,6,7,8])]⟩ Tryz.func67 [.one (.hp u0 u1),.one (.v (vk .u64 u2))] H
theorem KB {u0:OaT}{u1 u2:Nat}{h:Hp}{R:RtT}(H:∃ p1,RdG .eql 162 (.tmp 3) (.const (vsl none 0 0)) (vsl u0 u1 u2) (vsl none 0 0) h (vb p1)/\(p1=true->R (vsl none 0 0) h)/\(p1=false->∀ b3,h b3=none->let h4:=Hp.set h b3 (Qb [] 9);Qh Pg (Builtin.append_ #[162,162] 162 #[(vsl (some ⟨b3,0,none⟩) 0 0),vsl u0 u1 u2]) h4 fun v5 h6=>∃ a7 n7 c7,v5=vsl a7 n7 c7/\R (vsl a7 n7 c7) h6)):Qa Pg 99 [vsl u0 u1 u2] h R:=callO Tryz.func99 [.one (.v (vsl u0 u1 u2))] H
theorem WR {u0:OaT}{u1 u2:Nat}{u3:Int}{h:Hp}{R:RtT}(H:((decide (u3<0))=true->False)/\((decide (u3<0))=false->Qa Pg 156 [(vk .u64 (IntKind.wrap .u64 (u1:Int))),(vk .u64 (IntKind.wrap .u64 u3))] h fun v2 h3=>∃ x4 x5,v2=Qf [(vk .u64 x4),(vk .u64 x5)]/\((cond (decide (x4>0)) true (decide (x5>9223372036854775807)))=true->False)/\((cond (decide (x4>0)) true (decide (x5>9223372036854775807)))=false->Qh Pg (Instr.makeSlice 162 (vi (IntKind.wrap .i64 x5)) (vi (IntKind.wrap .i64 x5))) h3 fun v7 h8=>∃ a9 n9 c9,v7=vsl a9 n9 c9/\Qh Pg (Builtin.copy_ #[162,162] 3 #[vsl a9 n9 c9,vsl u0 u1 u2]) h8 fun v10 h11=>∃ x12,v10=vi x12/\∃(I14:LtT)(m15:LmT),I14 [vi x12] h11/\∀ vs16 h17,I14 vs16 h17->∃ x18,vs16=[vi x18]/\((decide (x18<(n9:Int)))=true->∃ a21 n21 c21,Rd Pg (Instr.sliceAt 162 (vsl a9 n9 c9) (some (vi x18)) none none) h17 (vsl a21 n21 c21)/\∃ a22 n22 c22,Rd Pg (Instr.sliceAt 162 (vsl a9 n9 c9) none (some (vi x18)) none) h17 (vsl a22 n22 c22)/\Qh Pg (Builtin.copy_ #[162,162] 3 #[vsl a21 n21 c21,vsl a22 n22 c22]) h17 fun v23 h24=>∃ x25,v23=vi x25/\∃ x26,IsW x26 (x18+x25)/\I14 [vi x26] h24/\m15 [vi x26] h24<m15 vs16 h17)/\((decide (x18<(n9:Int)))=false->R (vsl a9 n9 c9) h17)))):Qa Pg 97 [vsl u0 u1 u2,vi u3] h R:=callC ⟨[],[(8,([8],[.one (.int .i64)],[]))],[(9,[0,1,2,3,4,5,6,7,8,9])]⟩ Tryz.func97 [.one (.v (vsl u0 u1 u2)),.one (.v (vi u3))] H
theorem Qcp {u0:Int}{u1:Int}{h:Hp}{R:RtT}(H:(false=true->Qa Pg 209 [(vk .u32 (IntKind.wrap .u32 u0)),(vk .u32 (IntKind.wrap .u32 u1))] h fun v1 h2=>∃ x3 x4,v1=Qf [(vk .u32 x3),(vk .u32 x4)]/\R (Qf [(vk .u64 (IntKind.wrap .u64 x3)),(vk .u64 (IntKind.wrap .u64 x4))]) h2)/\(false=false->Qa Pg 210 [(vk .u64 u0),(vk .u64 u1)] h fun v6 h7=>∃ x8 x9,v6=Qf [(vk .u64 x8),(vk .u64 x9)]/\R (Qf [(vk .u64 x8),(vk .u64 x9)]) h7)):Qa Pg 156 [(vk .u64 u0),(vk .u64 u1)] h R:=callO Tryz.func156 [.one (.v (vk .u64 u0)),.one (.v (vk .u64 u1))] H
theorem Qat {u0:Int}{u1:Int}{h:Hp}{R:RtT}(H:∃ x1,Rd Pg (binOp .and 43 (vk .u64 u0) (vk .u64 4294967295)) h (vk .u64 x1)/\∃ x2,Rd Pg (binOp .shr 43 (vk .u64 u0) (vk .u64 32)) h (vk .u64 x2)/\∃ x3,Rd Pg (binOp .and 43 (vk .u64 u1) (vk .u64 4294967295)) h (vk .u64 x3)/\∃ x4,Rd Pg (binOp .shr 43 (vk .u64 u1) (vk .u64 32)) h (vk .u64 x4)/\∃ x5,Rd Pg (binOp .mul 43 (vk .u64 x1) (vk .u64 x3)) h (vk .u64 x5)/\∃ x6,Rd Pg (binOp .mul 43 (vk .u64 x2) (vk .u64 x3)) h (vk .u64 x6)/\∃ x7,Rd Pg (binOp .shr 43 (vk .u64 x5) (vk .u64 32)) h (vk .u64 x7)/\∃ x8,Rd Pg (binOp .add 43 (vk .u64 x6) (vk .u64 x7)) h (vk .u64 x8)/\∃ x9,Rd Pg (binOp .and 43 (vk .u64 x8) (vk .u64 4294967295)) h (vk .u64 x9)/\∃ x10,Rd Pg (binOp .shr 43 (vk .u64 x8) (vk .u64 32)) h (vk .u64 x10)/\∃ x11,Rd Pg (binOp .mul 43 (vk .u64 x1) (vk .u64 x4)) h (vk .u64 x11)/\∃ x12,Rd Pg (binOp .add 43 (vk .u64 x9) (vk .u64 x11)) h (vk .u64 x12)/\∃ x13,Rd Pg (binOp .mul 43 (vk .u64 x2) (vk .u64 x4)) h (vk .u64 x13)/\∃ x14,Rd Pg (binOp .add 43 (vk .u64 x13) (vk .u64 x10)) h (vk .u64 x14)/\∃ x15,Rd Pg (binOp .shr 43 (vk .u64 x12) (vk .u64 32)) h (vk .u64 x15)/\∃ x16,Rd Pg (binOp .add 43 (vk .u64 x14) (vk .u64 x15)) h (vk .u64 x16)/\∃ x17,Rd Pg (binOp .mul 43 (vk .u64 u0) (vk .u64 u1)) h (vk .u64 x17)/\R (Qf [(vk .u64 x16),(vk .u64 x17)]) h):Qa Pg 210 [(vk .u64 u0),(vk .u64 u1)] h R:=callO Tryz.func210 [.one (.v (vk .u64 u0)),.one (.v (vk .u64 u1))] H
theorem QqV:ElT Pg 207 5 1 1:=.of (by kernel_rfl) (by kernel_rfl) (by decide)
theorem QnV:ElT Pg 162 9 1 16:=.of (by kernel_rfl) (by kernel_rfl) (by decide)
theorem Qqb:ElT Pg 186 224 2 24:=.of (by kernel_rfl) (by kernel_rfl) (by decide)
abbrev PD:=ZL 188 224
theorem JJ {f:Int}(h:f≠0):QA f=some (119,vi f):=by unfold QA;rw [bE h]
def Yi (n:Nat):LuT:=List.replicate n 0
theorem QiZ (h:Hp)(b m:Nat)(t:TypeId):(h.set b (Qb ((List.replicate m [vk .u8 0]).flatten) t)).row b 0 (Yi m).length=some ((Yi m).map fun x=>vk .u8 (x.toNat:Nat)):=by
 rw [QiF];have:=Qht h b ((List.replicate m (0:UInt8)).map fun x=>vk .u8 (x.toNat:Nat)) t
 rw [bQ] at this;exact this
theorem Qbq {l:LuT}{h:Hp}{R:RtT}(hl:l.length<=256)(hK:∀ h',h.le h'->R (vs (bs (ZE l))) h'):Qa Pg 98 [vs (bs l)] h R:=by
 refine Qhq ?_
 rw [Yh];have e:(256:Int)-(l.length:Nat)=((256-l.length:Nat):Int):=by omega
 refine⟨_,iW,?_⟩
 rw [e];refine Gi QqV (z:=[vk .u8 0]) (by kernel_rfl) (by omega) (by omega) fun b hb=>⟨_,_,_,rfl,_,?_,_,Qhj (m:=Yi (256-l.length)) (by simp [Yi,maxLen];omega),?_⟩
 ·have:=Qfi (P:=Pg) (h:=h.set b (Qb ((List.replicate (256-l.length) [vk .u8 0]).flatten) 5)) (src:=207) (dst:=9) (e:=5) (by kernel_rfl) (by kernel_rfl) (by kernel_rfl) (c:=256-l.length) (QiZ h b (256-l.length) _)
  rw [show (Yi (256-l.length)).length=256-l.length by simp [Yi]] at this
  exact this
 ·exact hK _ (qQ (qO h) hb _)
theorem QiM {x y:Nat}(hx:x<4294967296)(hy:y<4294967296)(hxy:x*y<4294967296){h:Hp}{R:RtT}(hK:R (Qf [vk .u64 0,vk .u64 (x*y:Nat)]) h):Qa Pg 156 [vk .u64 x,vk .u64 y] h R:=by
 refine Qcp ?_
 refine⟨fun e=>(by cases e),fun _=>Qat ?_⟩
 refine⟨_,Qcz hx,_,GC hx,_,Qcz hy,_,GC hy,_,V7 hxy,_,V7 (a:=0) (b:=y) (by omega),_,GC hxy,_,QaS (a:=0*y) (b:=0) (by omega),_,Qcz (a:=0*y+0) (by omega),_,GC (a:=0*y+0) (by omega),_,V7 (a:=x) (b:=0) (by omega),
  _,QaS (a:=0*y+0) (b:=x*0) (by omega),_,V7 (a:=0) (b:=0) (by omega),_,QaS (a:=0*0) (b:=0) (by omega),_,GC (a:=0*y+0+x*0) (by omega),_,QaS (a:=0*0+0) (b:=0) (by omega),_,V7 hxy,_,_,rfl,?_⟩
 simpa using hK
theorem Qb7 {w:LuT}{n c:Nat}{a:OaT}{h:Hp}{R:RtT}(hn:1<=n)(hn2:n<=1000)(S:SlB h a 1 [w])
  (hK:∀ a' h',Qg h h' 9 1 a' n n ((List.replicate n w).flatMap Yj)->R (vsl a' n n) h'):Qa Pg 97 [vsl a 1 c,vi n] h R:=by
 refine WR ?_
 have w1:IntKind.wrap .u64 ((1:Nat):Int)=((1:Nat):Int):=by decide
 have w2:IntKind.wrap .u64 (n:Int)=(n:Nat):=by rw [IntKind.wrap_u64];omega
 have w3:IntKind.wrap .i64 ((1*n:Nat):Int)=(n:Nat):=by rw [IntKind.wrap_i64];omega
 rw [w1,w2];refine⟨fun e=>by have:=bC e;omega,fun _=>QiM (x:=1) (y:=n) (by omega) (by omega) (by omega) ⟨_,_,rfl,fun e=>?_,fun _=>?_⟩⟩
 ·simp [cQ] at e;omega
 rw [w3];refine Gi QnV (z:=[vs ⟨#[]⟩]) (by kernel_rfl) (by omega) (by omega) fun b hb=>⟨_,_,_,rfl,?_⟩
 generalize hL0:(List.replicate n [vs ⟨#[]⟩]).flatten=L0;have hL0l:L0.length=n:=by rw [<-hL0];simp
 have oneW:∀ m,∀ u ∈ List.replicate m (vs (bs w)),u.oneCell'=true:=by intro m u hu;rw [List.mem_replicate] at hu;rw [hu.2];rfl
 have S1:=S.le (qQ (qO h) hb (Qb L0 9));refine Qgr (e:=9) (by kernel_rfl) (by kernel_rfl) (L:=L0) (ys:=[vs (bs w)]) (qK _ _ _) S1.2 (by rw [dV];omega) (by rw [dV];omega) (oneW 1) (by simp) ⟨_,rfl,?_⟩
 rw [rB];refine⟨fun vs' hh=>∃(m:Nat)(L:List Value),vs'=[vi m]/\1<=m/\m<=n/\hh=h.set b (Qb L 9)/\L.length=n/\L.take m=List.replicate m (vs (bs w)),fun vs' hh=>n-(Qo vs' 0).toNat,⟨1,_,rfl,by omega,hn,rfl,?_,?_⟩,?_⟩
 ·rw [Yz _ _ _ (by simp;omega)];exact hL0l
 ·unfold QP;simp
 rintro vs' hh ⟨m,L,rfl,hm1,hmn,rfl,hLl,hLt⟩;refine⟨m,rfl,fun e=>?_,fun e=>?_⟩
 ·have hlt:m<n:=by have:=bC e;omega
  refine⟨_,_,_,YD (e:=9) (by kernel_rfl) (by kernel_rfl) (by omega) (by omega),_,_,_,X6 (e:=9) (by kernel_rfl) (by kernel_rfl) (by omega) (by omega),?_⟩
  rw [bF];have hcut:VZ (some ⟨b,0,none⟩) m n (szT Pg 9)=some ⟨b,m,none⟩:=by
   have e1:szT Pg 9=1:=by kernel_rfl
   unfold VZ;rw [bE (by omega),e1,fD,Yo]
   simp
  rw [hcut];have hrow:Qe (h.set b (Qb L 9)) (some ⟨b,0,none⟩) (List.replicate (min m (n-m)) (vs (bs w))):=by
   refine .inr ⟨b,0,rfl,?_⟩
   rw [QO (qK _ _ _) (by rw [dQ];omega),qD,dQ]
   have:L.take (min m (n-m))=(L.take m).take (min m (n-m)):=by rw [jP];congr 1;omega
   rw [this,hLt,List.take_replicate];congr 2
   omega
  refine Qgr (e:=9) (by kernel_rfl) (by kernel_rfl) (L:=L) (qK _ _ _) hrow (by rw [dQ]) (by rw [dQ];omega) (oneW _) (by rw [ne_eq,List.replicate_eq_nil_iff];omega) ⟨_,rfl,?_⟩
  rw [dQ,rB];have hk:1<=min m (n-m)/\m+min m (n-m)<=n:=by omega
  refine⟨_,iW,⟨m+min m (n-m),_,by push_cast;rfl,by omega,hk.2,rfl,?_,?_⟩,by simp [Qo];omega⟩
  ·rw [Yz _ _ _ (by rw [dQ];omega)];exact hLl
  ·unfold QP;rw [hLt];have e1:(List.replicate m (vs (bs w))++List.replicate (min m (n-m)) (vs (bs w))).length=m+min m (n-m):=by simp
   rw [jT e1,List.replicate_append_replicate]
 ·have hge:m=n:=by have:=bB e;omega
  subst hge;rw [cY (by omega)] at hLt
  refine hK (some ⟨b,0,none⟩) _ ?_
  have hfl:(List.replicate m w).flatMap Yj=L:=by rw [hLt,Vk,gW]
  rw [hfl];exact qZ (qO h) hb _ _ (by omega) (by simp only [maxLen];omega)
theorem QmT {a:OaT}{n c:Nat}{l:List (LuT)}{h:Hp}{R:RtT}(S:SlB h a n l)(hn:n<=1000000)(hK:∀ a' c' h',Qg h h' 9 1 a' n c' (l.flatMap Yj)->R (vsl a' n c') h') :
  Qa Pg 99 [vsl a n c] h R:=by
 refine KB ?_
 have hl:=S.1;have hfl:(l.flatMap Yj).length=n*1:=by rw [Qi Z4,<-hl]
 refine⟨_,Jj (e:=9) (by kernel_rfl),fun e=>?_,fun e=>?_⟩
 ·have h0:l.flatMap Yj=[]:=by
   rcases S.2 with h1|⟨b,o,ha,_⟩
   ·exact h1
   ·rw [ha] at e;cases e
  rw [h0] at hfl;have hn0:n=0:=by simpa using hfl.symm
  subst hn0;have:=hK none 0 h (by rw [h0];exact qY (qO h) _ _)
  exact this
 ·intro b3 hb3 h4;have O0:Qg h h4 9 1 (some ⟨b3,0,none⟩) 0 0 []:=qZ (qO h) hb3 _ [] rfl (by simp [maxLen])
  refine q8 QnV O0 (S.le (qQ (qO h) hb3 _)).2 hfl (Qfk l) (by omega) (by omega) fun a' c' h' O' _ _=>⟨_,_,_,rfl,?_⟩
  rw [dW,dE] at *
  exact hK a' c' h' O'
def Gq (n:Nat):DK:=⟨List.replicate n (Yi 256),List.replicate n (Yi 256),[],-1,false⟩
theorem Qqd {T tT:TypeId}{h:Hp}{g:Nat}(hg:h g=none){s:DK}{aK:OaT}{cK:Nat}{aN:OaT}{cN:Nat}(hw:s.wait=[])(OK:QT h 9 1 aK s.kept.length cK (s.kept.flatMap Yj))(ON:QT h 9 1 aN s.now.length cN (s.now.flatMap Yj))(hd:∀ b,aK=some ⟨b,0,none⟩->aN≠some ⟨b,0,none⟩) :
  Rec (h.set g (Qb ((dkF tT aK cK aN cN none 0 s).map Fld.val) T)) g T (dkF tT aK cK aN cN none 0 s):=by
 have hW:QT h tT 2 none s.wait.length 0 (s.wait.flatMap Nk):=by rw [hw];exact qX h tT 2
 refine Rec.new hg ?_ ?_
 ·intro j f hf;match j,hf with
  | 0,hf=>cases hf;exact OK
  | 1,hf=>cases hf;exact ON
  | 2,hf=>cases hf;exact hW
  | 3,hf=>cases hf;trivial
  | 4,hf=>cases hf;trivial
 ·intro j k f f' b hj hk hb hb';match j,hj with
  | 0,hj=>
   cases hj;match k,hk with
   | 0,_=>rfl
   | 1,hk=>cases hk;exact(hd b hb hb').elim
   | 2,hk=>cases hk;cases hb'
   | 3,hk=>cases hk;exact hb'.elim
   | 4,hk=>cases hk;exact hb'.elim
  | 1,hj=>
   cases hj;match k,hk with
   | 0,hk=>cases hk;exact(hd b hb' hb).elim
   | 1,_=>rfl
   | 2,hk=>cases hk;cases hb'
   | 3,hk=>cases hk;exact hb'.elim
   | 4,hk=>cases hk;exact hb'.elim
  | 2,hj=>cases hj;cases hb
  | 3,hj=>cases hj;exact hb.elim
  | 4,hj=>cases hj;exact hb.elim
theorem QoW {tT:TypeId}{aK:OaT}{cK:Nat}{aN:OaT}{cN:Nat}{s:DK}{h:Hp}{g:Nat}(hg:h g=none)(hK:∀ b,aK=some ⟨b,0,none⟩->h b=none)(hN:∀ b,aN=some ⟨b,0,none⟩->h b=none):∀ b,ftR g (dkF tT aK cK aN cN none 0 s) b->h b=none:=by
 rintro b (rfl|⟨j,f,hf,hb⟩)
 ·exact hg
 ·match j,hf with
  | 0,hf=>cases hf;exact hK b hb
  | 1,hf=>cases hf;exact hN b hb
  | 2,hf=>cases hf;cases hb
  | 3,hf=>cases hf;exact hb.elim
  | 4,hf=>cases hf;exact hb.elim
theorem QjD {n:Int}{h:Hp}{R:RtT}(hK1:¬(1<=n/\n<=160)->R (Qf [vp none,ifv (QA 1)]) h)
  (hK2:1<=n->n<=160->∀ g h' F',h.le h'->(∀ b,F' b->h b=none)->PD h' F' g (Gq n.toNat)->R (Qf [vhp g 0,ifv none]) h'):Qa Pg 42 [vi n] h R:=by
 refine QiW ?_
 refine⟨fun e=>hK1 (by simp [cQ] at e;omega),fun e=>?_⟩
 have hn:1<=n/\n<=160:=by simp [cQ] at e;omega
 refine Qbq (l:=[]) (by simp) fun h3 l3=>⟨_,rfl,?_⟩
 intro b5 hb5 h6;have en:n=((n.toNat:Nat):Int):=by omega
 rw [en];refine Qb7 (w:=Yi 256) (by omega) (by omega) ⟨rfl,qW _ _ [vs (bs (Yi 256))] _⟩ fun a9 h8 O9=>⟨_,_,_,rfl,?_⟩
 have S9:SlB h8 a9 n.toNat (List.replicate n.toNat (Yi 256)):=O9.slp Z4 (by decide)
 refine QmT S9 (by omega) fun a12 c12 h11 O12=>⟨_,_,_,rfl,?_⟩
 intro b13 hb13 h14;have l6:h.le h6:=qQ l3 hb5 _;have l11:h6.le h11:=qP O9.le O12.le;have len:(Gq n.toNat).kept.length=n.toNat:=by simp [Gq]
 have len2:(Gq n.toNat).now.length=n.toNat:=by simp [Gq]
 have RR:=Qqd (T:=188) (tT:=224) (s:=Gq n.toNat) (aK:=a9) (cK:=n.toNat) (aN:=a12) (cN:=c12) hb13 rfl (by rw [len];exact O9.own.le O12.le) (by rw [len2];exact O12.own) fun b hb hb'=>by
  have h1:=O12.new b hb';exact absurd h1 (by
   rcases O9.own.2 with ⟨q,_⟩|⟨g',cur,q,q2,_⟩
   ·rw [q] at hb;cases hb
   ·rw [q] at hb;cases hb;rw [q2];simp)
 refine hK2 hn.1 hn.2 b13 h14 _ (qQ (qP l6 l11) hb13 _) ?_ ⟨a9,n.toNat,a12,c12,none,0,rfl,?_⟩
 ·exact QoW (qR (qP l6 l11) hb13) (fun b hb=>qR l6 (O9.new b hb)) fun b hb=>qR (qP l6 O9.le) (O12.new b hb)
 ·have e2:(dkF 224 a9 n.toNat a12 c12 none 0 (Gq n.toNat)).map Fld.val=[vsl a9 n.toNat n.toNat,vsl a12 n.toNat c12,vsl none 0 0,vi (-1),vb false]:=by simp [dkF,Fld.val,Gq]
  rw [e2] at RR;exact RR
section
variable {h:Hp}{F:NpT}{g:Nat}{s:DK}
theorem KT (D:PD h F g s){R:RtT}(hK:R (vi s.now.length) h):Qa Pg 100 [vhp g 0] h R:=by
 refine G6 ?_
 obtain⟨a,c,h1,h2,h3⟩:=D.nowS;exact⟨_,_,_,h1,hK⟩
theorem Qbc (D:PD h F g s){R:RtT}(hK:R (vb s.down) h):Qa Pg 115 [vhp g 0] h R:=by
 refine Qa4 ?_
 exact⟨_,D.c4,hK⟩
theorem QiB (D:PD h F g s){n:Int}{R:RtT}(hK:∀ h' F',PD h' F' g { s with fuse:=max n (-1) }->Mut F h F' h'->R (Qf []) h'):Qa Pg 69 [vhp g 0,vi n] h R:=by
 refine QbP ?_
 exact⟨_,Qek,D.v3 hK⟩
theorem QaU (D:PD h F g s)(hf:-1<=s.fuse/\s.fuse<=9223372036854775807){R:RtT}(hK:∀ h' F',PD h' F' g (QU s).1->Mut F h F' h'->R (ifv (QA (QU s).2)) h'):Qa Pg 157 [vhp g 0] h R:=by
 refine QaR ?_
 refine⟨_,D.c4,_,fun _=>D.c3,?_⟩
 intro J7;unfold QU at hK;cases hd:s.down with
 | true=>
  rw [hd,bJ rfl] at hK;refine⟨fun e=>(by cases e),fun _=>⟨_,D.c4,fun _=>hK h F D ⟨fun b o _ ho=>ho,fun b hb=>.inl hb⟩,fun e=>by rw [hd] at e;cases e⟩⟩
 | false=>
  rw [hd,bE (by simp)] at hK
  refine⟨fun e=>?_,fun e=>?_⟩
  ·have h0:s.fuse=0:=bC e;rw [bJ h0] at hK;refine D.v4 fun h3 F3 D3 M3=>D3.v3 fun h4 F4 D4 M4=>⟨_,D4.c4,fun _=>hK h4 F4 D4 (M3.trans M4),fun e=>(by cases e)⟩
  ·have h0:¬ s.fuse=0:=bB e;rw [bE h0] at hK;refine⟨_,D.c4,fun e=>by (rw [hd] at e;cases e),fun _=>⟨_,D.c3,_,iW,_,Qek,D.v3 fun h' F' D' M'=>hK h' F' (by rw [hd] at D';exact D') M'⟩⟩
theorem Vg (D:PD h F g s){i:Int}{R:RtT}(hK:R (Qf [vs (bs (Qec s i).1),ifv (QA (Qec s i).2)]) h):Qa Pg 126 [vhp g 0,vi i] h R:=by
 refine QbB ?_
 unfold Qec at hK;obtain⟨a,c,h1,h2,h3⟩:=D.nowS;refine⟨_,D.c4,fun e=>?_,fun e=>⟨_,_,_,fun _=>h1,fun e2=>?_,fun e2=>?_⟩⟩
 ·rw [bJ e] at hK;exact hK
 ·have:i<0\/i>=s.now.length:=by simp [cQ] at e2;omega
  rw [bE (by rw [e];simp),bJ this] at hK;exact hK
 ·have:¬(i<0\/i>=s.now.length):=by simp [cQ] at e2;omega
  rw [bE (by rw [e];simp),bE this] at hK
  obtain⟨b,o,ha,hc⟩:=h2.get1 (i:=i.toNat) (by omega)
  exact⟨_,_,_,h1,b,o,⟨ha,by omega,by omega⟩,_,hc,hK⟩
theorem Kj (D:PD h F g s){n:Nat}(W:s.wf n)(hw:s.wait.length<=1000000){i:Int}{d:LuT}{R:RtT}(hK:∀ h' F',PD h' F' g (Qx s i d).1->Mut F h F' h'->R (ifv (QA (Qx s i d).2)) h') :
  Qa Pg 101 [vhp g 0,vi i,vs (bs d)] h R:=by
 refine QaE ?_
 rw [Yh];unfold Qx at hK;obtain⟨a,c,h1,h2,h3⟩:=D.nowS;refine⟨_,_,_,fun _=>h1,fun e=>?_,fun e=>?_⟩
 ·have:i<0\/i>=s.now.length\/d.length>256:=by simp [cQ] at e;omega
  rw [bJ this] at hK;exact hK h F D ⟨fun b o _ ho=>ho,fun b hb=>.inl hb⟩
 have hi:¬(i<0\/i>=s.now.length\/d.length>256):=by simp [cQ] at e;omega
 rw [bE hi] at hK;refine QaU D ⟨W.f,W.f2⟩ fun h4 F4 D4 M4=>⟨_,rfl,?_⟩
 intro J26;by_cases hs:(QU s).2=0
 ·rw [bE (by simpa using hs)] at hK
  have en:QA (QU s).2=none:=by rw [hs];rfl
  have J:∀ h' F',PD h' F' g { (QU s).1 with now:=s.now.set i.toNat (ZE d),wait:=s.wait++[(i,ZE d)] }->Mut F h F' h'->J26 h':=by intro h' F' D' M';show R (ifv (QA (QU s).2)) h';rw [hs];exact hK h' F' D' M'
  have hnow:(QU s).1.now=s.now:=by unfold QU;split<;>(try split)<;>rfl
  have hwait:(QU s).1.wait=s.wait:=by unfold QU;split<;>(try split)<;>rfl
  refine⟨fun _=>?_,fun e=>by rw [en] at e;cases e⟩
  obtain⟨a4,c4,k1,k2,k3⟩:=D4.nowS;refine⟨_,_,_,k1,Qbq (by omega) fun h8 l8=>⟨_,rfl,?_⟩⟩
  have D8:=D4.le l8;obtain⟨a8,c8,q1,q2,q3⟩:=D8.nowS;have k1':=qS l8 k1;rw [k1'] at q1;simp only [bH,Value.slice.injEq,jL] at q1;obtain⟨rfl,rfl⟩:=q1;rw [hnow] at k1' q2 q3;obtain⟨b,o,ha,_⟩:=q2.get1 (i:=i.toNat) (by omega)
  rw [hnow];refine⟨k1',b,o,⟨ha,by omega,by omega⟩,q3 i.toNat (ZE d) b o _ (by omega) ha fun h12 F12 _ D12 M12=>?_⟩
  obtain⟨aW,cW,w1,w2⟩:=D12.waitS;obtain⟨aN,cN,n1,n2,n3⟩:=D12.nowS;have hlen:(s.now.set i.toNat (ZE d)).length=s.now.length:=by simp
  simp only at n1 n2 w1 w2;obtain⟨bN,oN,haN,hcN⟩:=n2.get1 (i:=i.toNat) (by omega)
  have hget:(s.now.set i.toNat (ZE d)).getD i.toNat []=ZE d:=by rw [bI,fG (by omega)];rfl
  rw [hget] at hcN;refine⟨_,_,_,w1,_,_,_,n1,bN,oN,⟨haN,by omega,by omega⟩,_,hcN,?_⟩
  intro b18 hb18 h19;refine D12.waitApp Qqb (x:=(i,ZE d)) (by simp only [hwait];omega) (by simp only [hwait];omega) w1 hb18 fun a' c' h21 hst=>⟨_,_,_,rfl,?_⟩
  refine hst _ fun h23 F23 D23 M23=>J h23 F23 ?_ ((M4.trans (rA l8)).trans (M12.trans M23))
  simp only [hwait] at D23;exact D23
 ·rw [bJ hs] at hK;have en:(QA (QU s).2).isNone=false:=by rw [YR];simpa using hs
  refine⟨fun e=>by (rw [en] at e;cases e),fun _=>hK h4 F4 D4 M4⟩
theorem Ko (D:PD h F g s){n:Nat}(W:s.wf n){R:RtT}(hK:∀ h' F',PD h' F' g (QX s).1->Mut F h F' h'->R (ifv (QA (QX s).2)) h') :
  Qa Pg 102 [vhp g 0] h R:=by
 refine NZ ?_
 unfold QX at hK;refine QaU D ⟨W.f,W.f2⟩ fun h2 F2 D2 M2=>⟨_,rfl,?_⟩
 intro J12;by_cases hs:(QU s).2=0
 ·rw [bE (by simpa using hs)] at hK
  have en:QA (QU s).2=none:=by rw [hs];rfl
  have hnow:(QU s).1.now=s.now:=by unfold QU;split<;>(try split)<;>rfl
  have hkept:(QU s).1.kept=s.kept:=by unfold QU;split<;>(try split)<;>rfl
  refine⟨fun _=>?_,fun e=>by rw [en] at e;cases e⟩
  obtain⟨aK,cK,aN,cN,aW,cW,rfl,RR⟩:=D2;have OK:QT h2 9 1 aK (QU s).1.kept.length cK ((QU s).1.kept.flatMap Yj):=RR.own 0 _ rfl;have ON:QT h2 9 1 aN (QU s).1.now.length cN ((QU s).1.now.flatMap Yj):=RR.own 1 _ rfl;have hkn:(QU s).1.kept.length=(QU s).1.now.length:=by rw [hkept,hnow,W.k,W.w]
  refine⟨_,_,_,RR.cell (j:=0) rfl,_,_,_,RR.cell (j:=1) rfl,?_⟩
  rw [<-hkn];refine Qbl (e:=9) (by kernel_rfl) (by kernel_rfl) OK ON.row (by rw [Qi Z4,<-hkn,fZ]) (Qfk _) (fun b ob ha O'=>⟨_,rfl,?_⟩) (fun h0=>by rw [hkept,W.k] at h0;have:=W.n1;omega)
  obtain⟨R',M'⟩:=RR.inner (j:=0) rfl ha O';have e:(dkF 224 aK cK aN cN aW cW (QU s).1).set 0 (.s 9 1 aK (QU s).1.kept.length cK ((QU s).1.now.flatMap Yj))=dkF 224 aK cK aN cN aW cW { (QU s).1 with kept:=(QU s).1.now }:=by
   simp [dkF,hkn]
  rw [e] at R' M';have D7:PD (h2.set b ob) _ g { (QU s).1 with kept:=(QU s).1.now }:=⟨aK,cK,aN,cN,aW,cW,rfl,R'⟩
  refine D7.noWait fun h9 F9 D9 M9=>?_
  show R (ifv (QA (QU s).2)) h9;rw [hs];refine hK h9 F9 ?_ (M2.trans (M'.trans M9))
  simp only [hnow] at D9 ⊢;exact D9
 ·rw [bJ hs] at hK;have en:(QA (QU s).2).isNone=false:=by rw [YR];simpa using hs
  refine⟨fun e=>by (rw [en] at e;cases e),fun _=>hK h2 F2 D2 M2⟩
theorem Qdl (D:PD h F g s){n:Nat}(W:s.wf n)(hw:s.wait.length<=1000000){k:Int}(hk:0<=k/\k<=18446744073709551615){R:RtT}(hK:∀ h' F',PD h' F' g (Y9 s k)->Mut F h F' h'->R (Qf []) h') :
  Qa Pg 67 [vhp g 0,vk .u64 k] h R:=by
 refine Gp ?_
 obtain⟨a1,c1,w1,w2⟩:=D.waitS;refine⟨_,_,_,w1,fun vs hh=>∃(i:Nat)(F':NpT),vs=[vi i]/\i<=s.wait.length/\PD hh F' g { s with kept:=Yg k 0 (s.wait.take i) s.kept }/\Mut F h F' hh/\hh.cell g (0+2)=some (vsl a1 s.wait.length c1),fun vs hh=>s.wait.length-(Qo vs 0).toNat,⟨0,F,rfl,cE _,D,⟨fun b o _ ho=>ho,fun b hb=>.inl hb⟩,w1⟩,?_⟩
 rintro vs hh ⟨i,F',rfl,hi,D',M',hc⟩;refine⟨i,rfl,fun e=>?_,fun e=>?_⟩
 ·have hlt:i<s.wait.length:=by have:=bC e;omega
  have tk:s.wait.take (i+1)=s.wait.take i++[s.wait[i]]:=bL hlt;have hx:s.wait[i]?=some s.wait[i]:=bD hlt
  have ht:=W.t s.wait[i] (cM hlt);obtain⟨a',c',q1,q2⟩:=D'.waitS;rw [hc] at q1;simp only [bH,Value.slice.injEq,jL] at q1;obtain⟨rfl,_⟩:=q1;obtain⟨b,o,ha,hr⟩:=q2.get Qm4 (by decide) hx
  intro J22;have e64:Int.tmod ((i:Nat):Int) 64=((i % 64:Nat):Int):=by rw [kK (by omega)];omega
  rw [e64];have hlenk:(Yg k 0 (s.wait.take i) s.kept).length=n:=by rw [WG,W.k]
  have hsn:=Qe7 k (s.wait.take i) 0 s.wait[i] s.kept;rw [<-tk,bZ,dU (by omega),dW] at hsn
  refine⟨b,o,⟨ha,by omega,by omega⟩,_,_,hr,by decide,_,Qpb (by omega) hk.1,_,Qpi (Int.ediv_nonneg hk.1 (Int.le_of_lt (Int.pow_pos (by decide)))) (by have:=Int.ediv_le_self (2 ^ (i % 64)) hk.1;omega),fun e2=>?_,fun e2=>?_⟩
  ·have hbit:Qlu k i=true:=e2;rw [hbit,bJ rfl] at hsn;obtain⟨aK,cK,p1,p2,p3⟩:=D'.keptS;simp only at p1 p2 p3;rw [hlenk] at p1 p2 p3;obtain⟨bK,oK,haK,_⟩:=p2.get1 (i:=s.wait[i].1.toNat) (by omega)
   refine⟨_,_,_,p1,bK,oK,⟨haK,ht.1,by omega⟩,p3 _ _ bK oK _ (by omega) haK fun h19 F19 hg19 D19 M19=>⟨_,iW,⟨i+1,F19,rfl,by omega,?_,M'.trans M19,?_⟩,by simp [Qo];omega⟩⟩
   ·rw [hsn];exact D19
   ·unfold Hp.cell at hc ⊢;rw [hg19];exact hc
  ·have hbit:Qlu k i=false:=e2;rw [hbit,bE (by simp)] at hsn
   exact⟨_,iW,⟨i+1,F',rfl,by omega,by rw [hsn];exact D',M',hc⟩,by simp [Qo];omega⟩
 ·have hge:i=s.wait.length:=by have:=bB e;omega
  have ht:s.wait.take i=s.wait:=cY (by omega)
  rw [ht] at D';obtain⟨aK,cK,aN,cN,aW,cW,rfl,RR⟩:=D';generalize hkk:Yg k 0 s.wait s.kept=kk at *
  have hkl:kk.length=n:=by rw [<-hkk,WG,W.k]
  have OK:QT hh 9 1 aK kk.length cK (kk.flatMap Yj):=RR.own 0 _ rfl;have ON:QT hh 9 1 aN s.now.length cN (s.now.flatMap Yj):=RR.own 1 _ rfl;have hkn:kk.length=s.now.length:=by rw [hkl,W.w]
  refine⟨_,_,_,RR.cell (j:=1) rfl,_,_,_,RR.cell (j:=0) rfl,?_⟩
  simp only [hkn];refine Qbl (e:=9) (by kernel_rfl) (by kernel_rfl) ON OK.row (by rw [Qi Z4,hkn,fZ]) (Qfk _) (fun b ob ha O'=>⟨_,rfl,?_⟩) (fun h0=>by rw [W.w] at h0;have:=W.n1;omega)
  obtain⟨R',M2⟩:=RR.inner (j:=1) rfl ha O';have e:(dkF 224 aK cK aN cN aW cW { s with kept:=kk }).set 1 (.s 9 1 aN s.now.length cN (kk.flatMap Yj))=dkF 224 aK cK aN cN aW cW { s with kept:=kk,now:=kk }:=by
   simp [dkF,hkn]
  rw [e] at R' M2;have D7:PD (hh.set b ob) _ g { s with kept:=kk,now:=kk }:=⟨aK,cK,aN,cN,aW,cW,rfl,R'⟩
  refine D7.noWait fun h9 F9 D9 M9=>D9.v4 fun h10 F10 D10 M10=>D10.v3 fun h11 F11 D11 M11=>hK h11 F11 ?_ (((M'.trans M2).trans M9).trans (M10.trans M11))
  unfold Y9;rw [hkk];exact D11
end
section
variable {P:Program}{h:Hp}
theorem QhD {t:TypeId}{x y:Operand}{k:Int}{j:Nat}(hj:j<64)(hk:0<=k):Rd P (eqGuard .shr t x y (vi k) (vk .u64 j) >>= fun _=>binOp .shr t (vi k) (vk .u64 j)) h (vi (k / 2 ^ j)):=by
 intro w _;rw [eqGuard_shr];have e:min ((j:Nat):Int).toNat IntKind.i64.bits=j:=by simp only [IntKind.bits,bF];omega
 simp only [binOp,shift_shr_any _ _ _ _ (show (0:Int)<=(j:Nat) by omega),Sem.run_bind,Sem.run_pure,Result.andThen_ok,e]
theorem Qik {t:TypeId}{x y:Operand}{k:Int}{j:Nat}(hj:j<64)(hk:InR (k*2 ^ j)):Rd P (eqGuard .shl t x y (vi k) (vk .u64 j) >>= fun _=>binOp .shl t (vi k) (vk .u64 j)) h (vi (k*2 ^ j)):=by
 intro w _;rw [eqGuard_shl];have e:min ((j:Nat):Int).toNat IntKind.i64.bits=j:=by simp only [IntKind.bits,bF];omega
 simp only [binOp,shift_shl_any _ _ _ _ (show (0:Int)<=(j:Nat) by omega),Sem.run_bind,Sem.run_pure,Result.andThen_ok,e]
 rw [<-isW hk]
theorem QkA {t:TypeId}{a b j:Nat}(ha:a<2 ^ j)(hab:a+2 ^ j*b<4611686018427387904):Rd P (binOp .or t (vi a) (vi (2 ^ j*b:Nat))) h (vi (a+2 ^ j*b:Nat)):=by
 intro w _;have e0:=Nat.two_pow_add_eq_or_of_lt ha b;generalize 2 ^ j*b=c at *
 have e:(BitVec.ofInt 64 (a:Int) ||| BitVec.ofInt 64 (c:Int)).toNat=a+c:=by
  rw [BitVec.toNat_or,BitVec.ofInt_natCast,BitVec.ofInt_natCast,BitVec.toNat_ofNat,BitVec.toNat_ofNat,pJ (by omega),pJ (by omega),Nat.or_comm,<-e0]
  omega
 have e2:((a+c:Nat):Int)=IntKind.wrap .i64 ((a+c:Nat):Int):=iW
 have e3:binOp .or t (vi a) (vi c)=(pure (.int .i64 (IntKind.wrap .i64 ((BitVec.ofInt 64 (a:Int) ||| BitVec.ofInt 64 (c:Int)).toNat:Int))):Sem Value):=by simp [binOp,Op.intBits,IntKind.bits];rfl
 rw [e3,e,<-e2,Sem.run_pure]
end
theorem Qbr (n:Nat):IntKind.wrap .u8 (n:Int)=((UInt8.ofNat n).toNat:Int):=by
 rw [IntKind.wrap_u8];simp
theorem K7 {h:Hp}{F:NpT}{g:Nat}{s:DK}(D:PD h F g s)(hn:2<=s.now.length/\s.now.length<=1000){R:RtT}(hK:R (vi (QI s)) h):Qa Pg 117 [vhp g 0] h R:=by
 refine QhN ?_
 refine KT D ⟨_,rfl,_,iW,⟨by decide,?_⟩,?_⟩
 ·rw [mS (by omega)];unfold InR;omega
 ·have e:Int.tdiv ((s.now.length:Int)-2) 2=(QI s:Int):=by
   rw [mS (by omega)]
   unfold QI;omega
  rw [e];exact hK
theorem Qa0 {n:Nat}(hn:n<=4611686018427387904){h:Hp}{R:RtT}(hK:∀ h',h.le h'->R (vs (bs (le4 n))) h'):Qa Pg 158 [vi n] h R:=by
 refine Qh5 ?_
 refine⟨_,QhD (j:=8) (by decide) (by omega),_,QhD (j:=16) (by decide) (by omega),_,QhD (j:=24) (by decide) (by omega),fun b hb=>⟨bs (le4 n),?_,?_⟩⟩
 ·have e:[(vk .u8 (IntKind.wrap .u8 n)),(vk .u8 (IntKind.wrap .u8 ((n:Int) / 2 ^ 8))),(vk .u8 (IntKind.wrap .u8 ((n:Int) / 2 ^ 16))),(vk .u8 (IntKind.wrap .u8 ((n:Int) / 2 ^ 24)))]=(le4 n).map fun x=>vk .u8 (x.toNat:Nat):=by
   have e1:(n:Int) / 2 ^ 8=((n / 256:Nat):Int):=by omega
   have e2:(n:Int) / 2 ^ 16=((n / 65536:Nat):Int):=by omega
   have e3:(n:Int) / 2 ^ 24=((n / 16777216:Nat):Int):=by omega
   rw [e1,e2,e3,Qbr,Qbr,Qbr,Qbr];rfl
  refine Qfi (P:=Pg) (e:=5) (by kernel_rfl) (by kernel_rfl) (by kernel_rfl) (l:=le4 n) ?_
  have:=Qht h b ((le4 n).map fun x=>vk .u8 (x.toNat:Nat)) 5
  rw [<-e] at this ⊢;exact this
 ·exact hK _ (qQ (qO h) hb _)
theorem Mg {l:LuT}(hl:4<=l.length){h:Hp}{R:RtT}(hK:R (vi (un4 l)) h):Qa Pg 174 [vs (bs l)] h R:=by
 refine Qeq ?_
 have hu:∀ i,(l.getD i 0).toNat<256:=fun i=>k9 _
 have wr:∀ i,IntKind.wrap .i64 (((l.getD i 0).toNat:Nat):Int)=((l.getD i 0).toNat:Nat):=fun i=>(isW (by have:=hu i;unfold InR;omega)).symm
 have h0:=hu 0;have h1:=hu 1;have h2:=hu 2;have h3:=hu 3;refine⟨_,KU (by kernel_rfl) (by decide) (by omega),_,KU (by kernel_rfl) (by decide) (by omega),(((2 ^ 8*(l.getD 1 0).toNat:Nat)):Int),?_,(((l.getD 0 0).toNat+2 ^ 8*(l.getD 1 0).toNat:Nat):Int),?_,_,KU (by kernel_rfl) (by decide) (by omega),(((2 ^ 16*(l.getD 2 0).toNat:Nat)):Int),?_,(((l.getD 0 0).toNat+2 ^ 8*(l.getD 1 0).toNat+2 ^ 16*(l.getD 2 0).toNat:Nat):Int),?_,_,KU (by kernel_rfl) (by decide) (by omega),(((2 ^ 24*(l.getD 3 0).toNat:Nat)):Int),?_,(((l.getD 0 0).toNat+2 ^ 8*(l.getD 1 0).toNat+2 ^ 16*(l.getD 2 0).toNat+2 ^ 24*(l.getD 3 0).toNat:Nat):Int),?_,?_⟩
 ·have:=Qik (P:=Pg) (h:=h) (t:=3) (x:=.tmp 8) (y:=.const (vk .u64 8)) (k:=((l.getD 1 0).toNat:Nat)) (j:=8) (by decide) (by unfold InR;omega)
  rw [show (((2 ^ 8*(l.getD 1 0).toNat:Nat)):Int)=((l.getD 1 0).toNat:Int)*2 ^ 8 by omega]
  rw [show (1:Int).toNat=1 from rfl,wr 1]
  exact this
 ·rw [show (0:Int).toNat=0 from rfl,wr 0]
  exact QkA (j:=8) (by omega) (by omega)
 ·have:=Qik (P:=Pg) (h:=h) (t:=3) (x:=.tmp 13) (y:=.const (vk .u64 16)) (k:=((l.getD 2 0).toNat:Nat)) (j:=16) (by decide) (by unfold InR;omega)
  rw [show (((2 ^ 16*(l.getD 2 0).toNat:Nat)):Int)=((l.getD 2 0).toNat:Int)*2 ^ 16 by omega]
  rw [show (2:Int).toNat=2 from rfl,wr 2]
  exact this
 ·exact QkA (j:=16) (by omega) (by omega)
 ·have:=Qik (P:=Pg) (h:=h) (t:=3) (x:=.tmp 18) (y:=.const (vk .u64 24)) (k:=((l.getD 3 0).toNat:Nat)) (j:=24) (by decide) (by unfold InR;omega)
  rw [show (((2 ^ 24*(l.getD 3 0).toNat:Nat)):Int)=((l.getD 3 0).toNat:Int)*2 ^ 24 by omega]
  rw [show (3:Int).toNat=3 from rfl,wr 3]
  exact this
 ·exact QkA (j:=24) (by omega) (by omega)
 ·have e:(((l.getD 0 0).toNat+2 ^ 8*(l.getD 1 0).toNat+2 ^ 16*(l.getD 2 0).toNat+2 ^ 24*(l.getD 3 0).toNat:Nat):Int)=(un4 l:Nat):=rfl;rw [e];exact hK
theorem Qa7 {e k:Nat}(he:e<=4611686018427387904)(hk:k<=4611686018427387904){h:Hp}{R:RtT}(hK:∀ h',h.le h'->R (vs (bs (Yy e k))) h'):Qa Pg 103 [vi e,vi k] h R:=by
 refine Qit ?_
 refine Qa0 he fun h2 l2=>⟨_,rfl,_,Qhj (l:=[84]) (m:=le4 e) (by simp [le4,maxLen]),?_⟩
 refine Qa0 hk fun h3 l3=>⟨_,rfl,_,Qhj (l:=[84]++le4 e) (m:=le4 k) (by simp [le4,maxLen]),?_⟩
 exact hK _ (qP l2 l3)
theorem Qjs {s:DK}{n:Nat}(W:s.wf n)(hd:s.down=false){i:Nat}(hi:i<n):Qec s i=(s.now.getD i [],0):=by
 unfold Qec;rw [bE (by rw [hd];decide),bE (by have:=W.w;omega),bF]
theorem Qfz {s:DK}{n:Nat}(D:DOK s n){i:Nat}(hi:i<n):(s.now.getD i []).length=256:=by
 have h1:i<s.now.length:=by rw [D.wf.w];exact hi
 rw [bI,bD h1]
 exact D.l1 _ (cM h1)
theorem Qa2 {h:Hp}{F:NpT}{g:Nat}{s:DK}{n:Nat}(D:PD h F g s)(hD:DOK s n){R:RtT}(hK:R (Qf [vi (Zh s).1.1,vi (Zh s).1.2,ifv (QA (Zh s).2)]) h):Qa Pg 116 [vhp g 0] h R:=by
 refine QhO ?_
 have hw:=hD.wf.w;have hn2:=hD.wf.n2;unfold Zh at hK;refine KT D ⟨_,rfl,fun e=>?_,fun e=>?_⟩
 ·simp only [jI] at e;rw [bJ (by omega),JJ (by decide)] at hK
  exact hK
 ·simp only [f9] at e;rw [bE (by omega)] at hK
  refine⟨fun vs hh=>∃ i:Nat,i<=2/\(i=0\/s.down=false)/\vs=[vi (GM s i).1,vi (GM s i).2,vi i]/\hh=h,fun vs _=>2-(Qo vs 2).toNat,⟨0,by decide,.inl rfl,rfl,rfl⟩,?_⟩
  rintro vs8 hh ⟨i,hi,hd,rfl,rfl⟩;refine⟨_,_,_,rfl,fun e1=>?_,fun e1=>?_⟩
  ·simp only [jI] at e1;intro J38;by_cases hdn:s.down=true
   ·rw [bJ hdn,JJ (by decide)] at hK
    have hr:Qec s i=([],7):=by unfold Qec;rw [bJ hdn]
    refine Vg D ?_
    rw [hr,JJ (by decide)]
    exact⟨_,_,rfl,fun _=>hK,fun e2=>by cases e2⟩
   ·have hdf:s.down=false:=by simpa using hdn
    refine Vg D ?_
    rw [Qjs hD.wf hdf (i:=i) (by omega)]
    refine⟨_,_,rfl,fun e2=>by simp [QA] at e2,fun _=>?_⟩
    have hlen:=Qfz hD (i:=i) (by omega)
    generalize hx:s.now.getD i []=x at hlen ⊢;have c1:∀ hh,Rd Pg (Instr.sliceAt 9 (vs (bs x)) (some (vi 1)) (some (vi 5)) none) hh (vs (bs ((x.drop 1).take 4))):=fun hh=>QkT (by kernel_rfl) (by decide) (by decide) (by omega)
    have c2:∀ hh,Rd Pg (Instr.sliceAt 9 (vs (bs x)) (some (vi 5)) (some (vi 9)) none) hh (vs (bs ((x.drop 5).take 4))):=fun hh=>QkT (by kernel_rfl) (by decide) (by decide) (by omega)
    refine⟨_,c1 _,_,c2 _,Mg (by simp;omega) ⟨_,rfl,c2 _,Mg (by simp;omega) ⟨_,rfl,_,KU (i:=0) (l:=x) (by kernel_rfl) (by decide) (by omega),?_⟩⟩⟩
    have h84:((((x.getD (0:Int).toNat 0).toNat:Nat):Int)=84)↔x.getD 0 0=84:=by
     constructor
     ·intro e;have:(x.getD 0 0).toNat=84:=by exact_mod_cast e
      exact UInt8.toNat_inj.1 (by rw [this];rfl)
     ·intro e;rw [show (0:Int).toNat=0 from rfl,e]
      rfl
    have hstep:GM s (i+1)=ZQ (QI s*256) (GM s i) x:=by rw [<-hx];rfl
    simp only [KS];refine⟨fun v h2=>h2=hh/\∃ z:Int,v=.t (.one (.v (vi z)))/\(((((x.getD (0:Int).toNat 0).toNat:Nat):Int)=84/\((un4 ((x.drop 1).take 4):Nat):Int)>(GM s i).1)->z=QI s),fun e2=>?_,fun e2=>⟨rfl,0,rfl,fun e3=>absurd (cL e3) e2⟩,?_⟩
    ·exact K7 D (by omega) ⟨_,rfl,rfl,_,rfl,fun _=>rfl⟩
    ·rintro h33 z ⟨rfl,z',ez,hz⟩;cases ez;have hnext:∀ p:Nat × Nat,GM s (i+1)=p->J38 (p.1:Int) (p.2:Int) h33:=by
      intro p hp;refine⟨_,iW,⟨i+1,by omega,.inr hdf,by rw [hp];rfl,rfl⟩,?_⟩
      show 2-((i:Int)+1).toNat<2-(i:Int).toNat;omega
     refine⟨if ((((x.getD (0:Int).toNat 0).toNat:Nat):Int)=84/\((un4 ((x.drop 1).take 4):Nat):Int)>(GM s i).1) then((QI s*256:Nat):Int) else 0,fun e2=>?_,fun e2=>?_,fun e2=>?_⟩
     ·have e2':=bC e2;rw [bJ e2',hz e2'];have:QI s<=160:=by unfold QI;omega
      have:=isW (e:=(QI s:Int)*256) (by unfold InR;omega)
      simpa using this
     ·have e2':=bC e2;rw [bJ e2'.1] at e2';have:=hnext (un4 ((x.drop 1).take 4),un4 ((x.drop 5).take 4)) (by rw [hstep];unfold ZQ;rw [bJ ⟨⟨h84.1 e2'.1.1,by have:=e2'.1.2;omega⟩,by have:=e2'.2;omega⟩])
      exact this
     ·have e2':=bB e2;have:=hnext (GM s i) (by
       rw [hstep];unfold ZQ;rw [bE ?_]
       rintro⟨⟨k1,k2⟩,k3⟩;have k4:((((x.getD (0:Int).toNat 0).toNat:Nat):Int)=84/\((un4 ((x.drop 1).take 4):Nat):Int)>(GM s i).1):=⟨h84.2 k1,by omega⟩
       refine e2' ⟨k4,?_⟩
       rw [bJ k4];omega)
      exact this
  ·simp only [f9] at e1;obtain rfl:i=2:=by omega
   have hdf:s.down=false:=by
    rcases hd with h1|h1
    ·omega
    ·exact h1
   rw [bE (by rw [hdf];decide)] at hK
   rw [Qmu];refine⟨fun e2=>?_,fun e2=>?_⟩
   ·simp only [jI] at e2;rw [bJ (by omega),JJ (by decide)] at hK
    exact hK
   ·simp only [f9] at e2;rw [bE (by omega)] at hK
    exact hK
theorem Qc0 (f:Int):(QA f).isNone=decide (f=0):=by
 unfold QA;split<;>simp [*]
theorem Wg (f:Int):(QA f).isSome=!decide (f=0):=by
 unfold QA;split<;>simp [*]
theorem Je {f:Int}(h:(QA f).isNone=true):f=0:=by rw [Qc0] at h;simpa using h
theorem JX {f:Int}(h:(QA f).isNone=false):f≠0:=by rw [Qc0] at h;simpa using h
theorem Qqc (l:LuT):un4 l<4294967296:=by
 have h0:=k9 (l.getD 0 0);have h1:=k9 (l.getD 1 0);have h2:=k9 (l.getD 2 0);have h3:=k9 (l.getD 3 0);unfold un4;omega
theorem NI {r:Nat}{p:Nat × Nat}(hp:p.2<=r/\p.1<4294967296)(x:LuT):(ZQ r p x).2<=r/\(ZQ r p x).1<4294967296:=by
 unfold ZQ;split
 ·rename_i h;exact⟨h.2,Qqc _⟩
 ·exact hp
theorem Qes {s:DK}(h:(Zh s).2=0):(Zh s).1.2<=QI s*256/\s.down=false/\4<=s.now.length/\(Zh s).1.1<4294967296/\(Zh s).1=QeL s/\(QeL s).1≠0:=by
 have k:=NI (NI (r:=QI s*256) (p:=(0,0)) ⟨cE _,by decide⟩ (s.now.getD 0 [])) (s.now.getD 1 [])
 unfold Zh at h ⊢;split at h
 ·simp at h
 ·rename_i h1;rw [bE h1];split at h
  ·simp at h
  ·rename_i h2;rw [bE h2];split at h
   ·simp at h
   ·rename_i h3;rw [bE h3];exact⟨k.1,by simpa using h2,by omega,k.2,rfl,h3⟩
theorem Qep {h:Hp}{F:NpT}{g:Nat}{s:DK}{n:Nat}(D:PD h F g s)(hD:DOK s n)(hw:s.wait.length<=900000){R:RtT}(hK:∀ h' F',PD h' F' g (Km s).1->Mut F h F' h'->R (ifv (QA (Km s).2)) h'):Qa Pg 43 [vhp g 0] h R:=by
 refine Qfb ?_
 unfold Km at hK;refine KT D ⟨_,rfl,fun e=>?_,fun e=>?_⟩
 ·simp only [jI] at e;have:=hK h F (by rw [bJ (by omega)];exact D) (rA (qO h))
  rw [bJ (by omega)] at this
  exact this
 ·simp only [f9] at e;rw [bE (by omega)] at hK
  have w1:=Qcn s 1 [];refine Kj (d:=[]) D hD.wf (by omega) fun h1 F1 D1 M1=>⟨_,rfl,?_⟩
  intro J13;have X1:=hD.write 1 [];have f1w:=ML (Qx s 1 []).1;refine⟨fun e1=>?_,fun e1=>?_⟩
  ·rw [bE (by rw [Je e1];decide)] at hK
   refine Ko D1 X1.wf fun h2 F2 D2 M2=>⟨_,rfl,?_⟩
   show And _ _;refine⟨fun e2=>?_,fun e2=>?_⟩
   ·rw [bE (by rw [Je e2];decide)] at hK
    refine Qa7 (e:=2) (k:=0) (by decide) (by decide) fun h3 l3=>⟨_,rfl,?_⟩
    refine Kj (D2.le l3) X1.flush.wf (by omega) fun h4 F4 D4 M4=>⟨_,rfl,?_⟩
    show And _ _;refine⟨fun e3=>?_,fun e3=>?_⟩
    ·rw [bE (by rw [Je e3];decide)] at hK
     refine Ko D4 (X1.flush.write _ _).wf fun h5 F5 D5 M5=>⟨_,rfl,?_⟩
     exact hK h5 F5 D5 ((((M1.trans M2).trans (rA l3)).trans M4).trans M5)
    ·rw [bJ (JX e3)] at hK;exact hK h4 F4 D4 (((M1.trans M2).trans (rA l3)).trans M4)
   ·rw [bJ (JX e2)] at hK;show And _ _;exact⟨fun e3=>absurd (Je e3) (JX e2),fun _=>hK h2 F2 D2 (M1.trans M2)⟩
  ·rw [bJ (JX e1)] at hK;show And _ _;refine⟨fun e3=>absurd (Je e3) (JX e1),fun _=>?_⟩
   show And _ _;exact⟨fun e3=>absurd (Je e3) (JX e1),fun _=>hK h1 F1 D1 M1⟩
theorem QeM (s:DK)(e m:Nat):QbE s e (m+1)=QbE s e m++QgI s e m:=by simp [QbE,kV]
theorem Qlw {s:DK}{n:Nat}(D:DOK s n)(h4:4<=s.now.length){e i:Nat}(hi:i<QI s):2+e % 2*QI s+i<n:=by
 have hw:=D.wf.w;have h2:e % 2<2:=mD _ (by decide)
 unfold QI at hi ⊢;rcases kM (e % 2) 1 with h|h
 ·have:e % 2=0:=by omega
  rw [this];omega
 ·have:e % 2=1:=by omega
  rw [this];omega
theorem QbW {s:DK}{n:Nat}(D:DOK s n)(h4:4<=s.now.length)(e:Nat):∀ m,m<=QI s->(QbE s e m).length=m*256
 | 0,_=>rfl
 | m+1,h=>by
  rw [QeM,bO,QbW D h4 e m (by omega)]
  have:=Qfz D (Qlw D h4 (e:=e) (i:=m) (by omega))
  unfold QgI;omega
theorem Qh3 {h:Hp}{F:NpT}{g:Nat}{s:DK}{n:Nat}(D:PD h F g s)(hD:DOK s n){R:RtT}(hK:R (Qf [vs (bs (Qjq s).1),ifv (QA (Qjq s).2)]) h):Qa Pg 60 [vhp g 0] h R:=by
 refine Qhw ?_
 unfold Qjq at hK;refine Qbc D ⟨_,rfl,fun e=>?_,fun e=>?_⟩
 ·rw [bJ e,JJ (by decide)] at hK
  exact hK
 ·rw [bE (by rw [e];decide)] at hK
  refine Qa2 D hD ⟨_,_,_,rfl,fun e1=>?_,fun e1=>?_⟩
  ·rw [Wg] at e1;rw [bJ (by simpa using e1)] at hK
   exact hK
  ·rw [Wg] at e1;have e0:(Zh s).2=0:=by simpa using e1
   rw [bE (by rw [e0];decide)] at hK
   obtain⟨r1,r2,r3,r4,r5,r6⟩:=Qes e0;generalize (Zh s).1.1=ep at *
   generalize (Zh s).1.2=k at *
   have hw:=hD.wf.w;have hn2:=hD.wf.n2;have hh:QI s<=80:=by unfold QI;omega
   refine⟨fun v hh=>∃ i:Nat,i<=(k+255) / 256/\v=[vs (bs (QbE s ep i)),vi i]/\hh=h,fun v _=>k-(Qo v 1).toNat,⟨0,cE _,rfl,rfl⟩,?_⟩
   rintro v hh ⟨i,hi,rfl,rfl⟩;refine⟨_,_,rfl,_,iW,fun e2=>?_,fun e2=>?_⟩
   ·simp only [jI] at e2;have hi2:i<QI s:=by omega
    have hs:=Qlw hD r3 (e:=ep) hi2;have ht:Int.tmod (ep:Int) 2=((ep % 2:Nat):Int):=by rw [kK (by omega)];rfl
    have hm:((ep % 2:Nat):Int)*(QI s:Int)=((ep % 2*QI s:Nat):Int):=by rw [qB]
    refine⟨by decide,K7 D (by omega) ⟨_,rfl,((ep % 2*QI s:Nat):Int),?_,((2+ep % 2*QI s:Nat):Int),?_,((2+ep % 2*QI s+i:Nat):Int),?_,?_⟩⟩
    ·rw [ht,hm];exact iW
    ·have:=isW (e:=2+((ep % 2*QI s:Nat):Int)) (by unfold InR;omega)
     rw [show ((2+ep % 2*QI s:Nat):Int)=2+((ep % 2*QI s:Nat):Int) by omega]
     exact this
    ·have:=isW (e:=((2+ep % 2*QI s:Nat):Int)+(i:Int)) (by unfold InR;omega)
     rw [show ((2+ep % 2*QI s+i:Nat):Int)=((2+ep % 2*QI s:Nat):Int)+(i:Int) by omega]
     exact this
    ·refine Vg D ?_
     rw [Qjs hD.wf r2 hs];refine⟨_,_,rfl,fun e3=>by simp [QA] at e3,fun _=>⟨_,Qhj (m:=QgI s ep i) ?_,_,iW,⟨i+1,by omega,by rw [QeM];rfl,rfl⟩,?_⟩⟩
     ·rw [QbW hD r3 ep i (by omega)]
      unfold QgI;rw [Qfz hD hs];unfold maxLen;omega
     ·show k-((i:Int)+1).toNat<k-(i:Int).toNat;omega
   ·simp only [f9] at e2;obtain rfl:i=(k+255) / 256:=by omega
    have hl:=QbW hD r3 ep ((k+255) / 256) (by omega)
    refine⟨_,Qo4 (by kernel_rfl) (by omega) (by omega),?_⟩
    rw [bF];exact hK
open Go.RowKit Go.Shelf
attribute [local go_sem] Oper.semAt_some
def U0 (b off len n:Nat)(v:Value):Prop:=∃ o m,v=vsl (some ⟨b,off+o,none⟩) m m/\o+m<=len/\m<=n
def QhI (b off len n k:Nat):Value:=vsl (some ⟨b,off+min (k*n) len,none⟩) (min n (len-k*n)) (min n (len-k*n))
theorem Qma (b off len n k:Nat):U0 b off len n (QhI b off len n k):=⟨_,_,rfl,by omega,by omega⟩
def QcB (b off len n k:Nat):{ v:Value // U0 b off len n v }:=⟨_,Qma b off len n k⟩
def XC (b off len n k:Nat):List { v:Value // U0 b off len n v }:=(List.range k).map (QcB b off len n)
theorem NE (b off len n k:Nat):XC b off len n (k+1)=XC b off len n k++[QcB b off len n k]:=by simp [XC,kV]
theorem Qdp (b off len n k:Nat):(XC b off len n k).length=k:=by simp [XC]
def WS (b off len n:Nat):List Value:=(List.range ((len+n-1) / n)).map (QhI b off len n)
theorem NM (b off len n:Nat):(WS b off len n).length=(len+n-1) / n:=by simp [WS]
theorem QkF (b off len n:Nat){k:Nat}(hk:k<(len+n-1) / n):(XC b off len n k++[QcB b off len n k]).map (·.1) <+: WS b off len n:=by
 rw [<-NE];have e:(XC b off len n (k+1)).map (·.1)=(WS b off len n).take (k+1):=by
  unfold XC WS;rw [fH,<-jN,List.take_range,dU (by omega)]
  rfl
 rw [e];exact List.take_prefix _ _
set_option maxHeartbeats 2000000 in
theorem QmN (l Bs Bn b off len cap n:Nat)(hn:1<=n)(hle:len<=cap)(hreach:len+n<=140737488351232)(hc:Hp)(hB1:hc.cell Bs 0=some (vsl (some ⟨b,off,none⟩) len cap))(hB2:hc.cell Bn 0=some (vi n))(J Jx:List { v:Value // U0 b off len n v }->World->Prop)(hJ:∀ s W,J s W->J s W.drew)
  (hY:∀ pre x W,J pre W->pre.length<(len+n-1) / n->YieldAt Fence.wide 1 Pg l #[x.1] W fun e W'=>
   (e=.returned (.bool true)/\J (pre++[x]) W'/\(Sub hc W->Sub hc W'))\/(e=.returned (.bool false)/\Jx (pre++[x]) W'))
  (W:World) (hs:Sub hc W) (h0:J [] W) :
  CallsIn Fence.wide 2 Pg 175 #[.func (.yield l) #[] #[],vhp Bs 0,vhp Bn 0] W fun e W'=>(∃ v,e=.returned v) /\
   ((∃ ys,ys.map (·.1)=WS b off len n/\J ys W')\/(∃ pre,pre.map (·.1) <+: WS b off len n/\Jx pre W')):=by
 refine callsIn_of_wp Tryz.func175 rfl trivial ?_ rfl
 simp only [Tryz.ntmps175,gZ,cH,fB,Nat.reduceAdd,Nat.reduceSub,Array.replicate_succ,Array.replicate_zero,List.push_toArray,List.append_toArray,dE,dA];gi_wp2
 gi_loopw [4] (fun i wr=>∃ k:Nat,k<=(len+n-1) / n/\i=.int .i64 ((k*n:Nat):Int)/\J (XC b off len n k) wr/\Sub hc wr)
  (fun i _=>len+n-(intOf i).toNat)
 case atStart=>exact⟨0,cE _,by simp,h0,hs⟩
 case round=>
  obtain⟨k,hk,rfl,hJs,hss⟩:=hrel;have hc1:=ZA hB1 hss;have hc2:=ZA hB2 hss;by_cases hlt:k*n<len
  ·have hk1:k<(len+n-1) / n:=by
    rw [Nat.lt_iff_add_one_le,Nat.le_div_iff_mul_le (by omega)]
    rw [gH];omega
   gi_wp2
   refine wpIn_wide.2 ?_
   go_region
   have hJ2:=hJ _ _ hJs;have hs2:Vc.Sub hc wr.drew:=fun b o h=>hss b o h
   have hd1:=ZA hB1 hs2;have hd2:=ZA hB2 hs2;generalize wr.drew=W1 at *
   obtain⟨fn,tmps,assign,body,hy,hR⟩:=hY _ (QcB b off len n k) W1 hJ2 (by rw [Qdp];exact hk1)
   have hm:(if len-k*n<n then((len-k*n:Nat):Int) else(n:Int))=((min n (len-k*n):Nat):Int):=by split<;>omega
   have hm2:min (n:Int) ((len-k*n:Nat):Int)=((min n (len-k*n):Nat):Int):=by omega
   first
    | rw [hm]
    | rw [hm2]
   have hpv:(QcB b off len n k).val=vsl (some ⟨b,off+k*n,none⟩) (min n (len-k*n)) (min n (len-k*n)):=by show QhI b off len n k=_;unfold QhI;rw [dU (gF hlt)]
   rw [hpv] at hy;obtain⟨m,hmm⟩:∃ m,m=min n (len-k*n):=⟨_,rfl⟩
   rw [<-hmm] at hy ⊢;have hm1:1<=m:=by omega
   have hm2:k*n+m<=len:=by omega
   have hm3:m<=n:=by omega
   clear hmm hm hpv;have hmk:k*n+m-k*n=m:=by omega
   have hy':=hy;rw [<-hmk] at hy';gi_wp2
   refine hR.mono ?_
   rintro e W3 (⟨rfl,hJ3,hk3⟩|⟨rfl,hJx3⟩)
   ·have hs3:=hk3 hs2;have he2:=ZA hB2 hs3;gi_wp2
    go_roundw
    case rel=>exact⟨k+1,by omega,by rw [gH,j7];simp,by rw [NE];exact hJ3,hs3⟩
    case measure=>simp [intOf];omega
   ·gi_wp2
    refine bodyPost_ret (results_none rfl _ _ _) rfl ?_
    exact⟨⟨_,rfl⟩,.inr ⟨_,QkF b off len n hk1,hJx3⟩⟩
  ·gi_wp2
   have hkK:k=(len+n-1) / n:=by
    refine Nat.le_antisymm hk ?_
    have:(len+n-1) / n<k+1:=by
     rw [mC (by omega),gH]
     omega
    omega
   go_end0
   exact⟨⟨_,rfl⟩,.inl ⟨_,by rw [hkK];simp [XC,WS,QcB],hJs⟩⟩
theorem QmO (Bs Bn b off len cap n:Nat)(hn:1<=n)(hle:len<=cap)(hreach:len+n<=140737488351232)(hc:Hp)(hcell:∀ b o,hc b=some o->o.isCells=true)(hB1:hc.cell Bs 0=some (vsl (some ⟨b,off,none⟩) len cap))(hB2:hc.cell Bn 0=some (vi n)) :
  QiP Pg (Value.func (.func 175) #[] #[vhp Bs 0,vhp Bn 0]) hc (U0 b off len n) (WS b off len n):=by
 refine⟨hcell,_,_,_,rfl,Tryz.func175,by kernel_rfl,by kernel_rfl,fun w hs=>?_⟩
 intro l J Jx W hW hJ hJx hY h0;have hsW:Vc.Sub hc W:=fun b o hb=>by
  have h1:=hs b o hb;exact(hW.block b (bV.1 h1).1).trans h1
 refine QmN l Bs Bn b off len cap n hn hle hreach hc hB1 hB2 J Jx (fun s W1 hj=>hJ s W1 W1.drew none hj ⟨rfl,rfl,rfl,cB _,fun _ _ _=>rfl⟩ (by intro r e;cases e)) (fun pre x W1 hj hl=>?_) W hsW h0
 exact hY pre x W1 hj (by rw [NM];exact hl)
theorem Qoi {b off len cap n:Nat}(hn:1<=n)(hn2:n<=1000000)(hle:len<=cap)(hreach:len<=140737487351232){h:Hp}{R:RtT}
  (hK:∀ Bs Bn h' hc,h Bs=none->h Bn=none->Bn≠Bs->h'=(h.set Bs (Qb [vsl (some ⟨b,off,none⟩) len cap] 207)).set Bn (Qb [vi n] 3)->hc.le h'->(∀ b,b≠Bs->b≠Bn->hc b=none) ->
   QiP Pg (Value.func (.func 175) #[] #[vhp Bs 0,vhp Bn 0]) hc (U0 b off len n) (WS b off len n) ->
   R (Value.func (.func 175) #[] #[vhp Bs 0,vhp Bn 0]) h') :
  Qa Pg 118 [vsl (some ⟨b,off,none⟩) len cap,vi n] h R:=by
 refine JM ?_
 intro Bs hBs h2 Bn hBn h4;have hne:Bn≠Bs:=fun e=>by subst e;simp [h2,Hp.set] at hBn
 have hBn':h Bn=none:=by rw [<-hBn];exact(qL _ _ hne).symm
 refine⟨(n:Int),by simp [h4,Hp.cell,Hp.set,Qb],fun e=>?_,fun _=>?_⟩
 ·simp at e;omega
 ·let hc:Hp:=fun i=>if i=Bn then some (Qb [vi n] 3) else if i=Bs then some (Qb [vsl (some ⟨b,off,none⟩) len cap] 207) else none
  refine hK Bs Bn h4 hc hBs hBn' hne rfl (fun b' o hb'=>?_) (fun b' e1 e2=>by simp [hc,e1,e2]) (QmO Bs Bn b off len cap n hn hle (by omega) hc (fun b' o hb'=>?_) ?_ ?_)
  ·simp only [hc] at hb';simp only [h4,h2,Hp.set];split
   ·rename_i e;rw [bJ e] at hb';exact hb'
   ·rename_i e;rw [bE e] at hb';split
    ·rename_i e;rw [bJ e] at hb';exact hb'
    ·rename_i e;rw [bE e] at hb';cases hb'
  ·simp only [hc] at hb';split at hb'
   ·cases hb';rfl
   ·split at hb'
    ·cases hb';rfl
    ·cases hb'
  ·simp [Hp.cell,hc,Qb,qE hne]
  ·simp [Hp.cell,hc,Qb]
end Go.Proofs.YthicpjafcpfjoaaGreatDoor
