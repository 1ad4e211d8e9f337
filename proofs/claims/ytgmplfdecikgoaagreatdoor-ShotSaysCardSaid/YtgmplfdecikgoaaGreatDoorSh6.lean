/-
  The statement that the last part names, proved; and all that it stands on that is not in the parts ahead. Conditions: those stated at each.
-/
import Derived.SizedLaws
import Derived.Handed
import Derived.Test.YtgmplfdecikgoaaGreatDoorRows
import Derived.Test.YtgmplfdecikgoaaGreatDoorCards
import Derived.Test.YtgmplfdecikgoaaGreatDoorTie
import Derived.WalkKit
import Derived.ProofKit
import Derived.OpenShut
import Derived.LaidMore
import Derived.Stop.Joined
import Derived.Stop.LaidErr
import Derived.SevenTiedAt
import Derived.Lay
import Derived.Test.YtgmplfdecikgoaaGreatDoorSh5
set_option linter.unusedVariables false
set_option maxRecDepth 100000
namespace Go.Proofs.YtgmplfdecikgoaaGreatDoor
open Go Go.Vc Go.Txt Go.RowKit
theorem Ql5 (l:List Wds):∀ u ∈ l.flatMap JR,u.oneCell'=true:=by
 intro u hu
 obtain⟨x,_,hx⟩:=List.mem_flatMap.1 hu
 have:u=vs (bs x):=by simpa [JR] using hx
 rw [this];rfl
theorem Jf {n:Int}(h0:-1000000000000≤n)(h1:n≤1000000000000):InR n:=by unfold InR;omega
theorem Qi1 {α β:Type}(f:α→List β)(m:Nat)(h:∀ x,(f x).length=m):∀ l:List α,(l.flatMap f).length=l.length*m
 | []=>by simp
 | x :: l=>by rw [List.flatMap_cons,List.length_append,h x,Qi1 f m h l,List.length_cons,Nat.succ_mul,Nat.add_comm]
theorem QkX {sep:Wds}(hs:sep.length≤1):∀ l:List Wds,(∀ w ∈ l,w.length≤14)→(Lib.join l sep).length≤15*l.length
 | [],_=>Nat.le_refl _
 | x :: l,h=>by
  rw [Lib.join_length]
  have hl:∀ l:List Wds,(∀ w ∈ l,w.length≤14)→Lib.lens l≤14*l.length:=by
   intro l
   induction l with
   | nil=>intro _;exact Nat.le_refl _
   | cons y l ih=>
    intro h
    have h1:=h y (List.mem_cons_self ..)
    have h2:=ih fun w hw=>h w (List.mem_cons_of_mem _ hw)
    unfold Lib.lens at *
    simp only [List.map_cons,List.sum_cons,List.length_cons] at *
    omega
  have:=hl (x :: l) h
  have h3:sep.length*l.length≤l.length:=by
   rcases Nat.le_one_iff_eq_zero_or_eq_one.1 hs with e|e<;>rw [e]<;>omega
  rw [List.length_cons] at *
  omega
theorem QiD {ks:List Int}{parts:Nat}{st:En}(H:ShO ks parts st)(hk:ks.length≤4):(XV ks st).length≤10+10000*15+10000*7∧∀ w ∈ XV ks st,w.length≤14:=by
 have il:∀ n:Int,-1000000000000≤n→n≤1000000000000→(Lib.itoa n).length≤14:=fun n h0 h1=>Qjd h0 h1
 have bl:∀ b,(GW b).length≤14:=fun b=>by cases b<;>decide
 have fm:∀{α:Type} (f:α→List Wds) (l:List α) (m:Nat),(∀ x ∈ l,(f x).length≤m)→(l.flatMap f).length≤l.length*m:=by
  intro α f l m
  induction l with
  | nil=>intro _;simp
  | cons y l ih=>
   intro h
   have h1:=h y (List.mem_cons_self ..)
   have h2:=ih fun w hw=>h w (List.mem_cons_of_mem _ hw)
   rw [List.flatMap_cons,List.length_append,List.length_cons,Nat.succ_mul]
   omega
 have p3:=H.p3
 have rl:=H.rl
 have fl:=H.fl
 have pl:=H.pl
 have wl:=H.wl
 have la:=H.la
 refine⟨?_,?_⟩
 ·have f1:=fm rfW (st.rd.zip st.far) 2 fun x _=>Nat.le_refl _
  have f2:=fm pnW (st.pn.map (pnT ks)) 15 fun x hx=>by
   obtain⟨p,hp,rfl⟩:=List.mem_map.1 hx
   have h4:=congrArg List.length (H.pn p hp).2.2.2.1
   rw [List.length_map] at h4
   have h5:=fm acW (pnT ks p).2.1 3 fun x _=>Nat.le_refl _
   unfold pnW
   simp only [List.length_append,List.length_cons,List.length_nil]
   omega
  have f3:=fm rwW st.rows 7 fun w hw=>by
   have h4:=(H.rw w hw).2.2.2.1
   unfold rwW
   simp only [List.length_append,List.length_cons,List.length_nil,List.length_map]
   omega
  unfold XV hdW
  rw [List.length_zip] at f1
  rw [List.length_map] at f2
  simp only [List.length_append,List.length_cons,List.length_nil]
  have e1:Nat.min st.rd.length st.far.length≤3:=by rw [rl,fl];exact Nat.le_trans (Nat.min_le_left ..) p3
  have e1':min st.rd.length st.far.length≤3:=e1
  omega
 ·intro w hw
  unfold XV hdW at hw
  simp only [List.mem_append,List.mem_flatMap,List.mem_cons,List.not_mem_nil,or_false] at hw
  rcases hw with ((hw|⟨x,hx0,hx⟩)|⟨x,hx0,hx⟩)|⟨x,hx0,hx⟩
  ·rcases hw with rfl|rfl|rfl|rfl<;>exact il _ (by omega) (by omega)
  ·unfold rfW at hx
   simp only [List.mem_cons,List.not_mem_nil,or_false] at hx
   have h1:=H.rb _ (List.of_mem_zip hx0).1
   have h2:=H.fb _ (List.of_mem_zip hx0).2
   rcases hx with rfl|rfl<;>exact il _ (by omega) (by omega)
  ·obtain⟨p,hp,rfl⟩:=List.mem_map.1 hx0
   obtain⟨k1,k2,k3,k4,k5⟩:=H.pn p hp
   unfold pnW acW at hx
   simp only [List.mem_append,List.mem_flatMap,List.mem_cons,List.not_mem_nil,or_false] at hx
   rcases hx with (rfl|rfl|rfl)|⟨a,ha0,ha⟩
   ·exact il _ (by omega) (by omega)
   ·exact QeG k3
   ·exact bl _
   ·obtain⟨a1,a2,a3,a4,a5,a6⟩:=k5 a ha0
    rcases ha with rfl|rfl|rfl<;>exact il _ (by omega) (by omega)
  ·obtain⟨k1,k2,k3,k4,k5⟩:=H.rw x hx0
   unfold rwW at hx
   simp only [List.mem_append,List.mem_map,List.mem_cons,List.not_mem_nil,or_false] at hx
   rcases hx with (rfl|rfl|rfl)|⟨a,ha0,rfl⟩
   ·exact bl _
   ·exact il _ (by omega) (by omega)
   ·exact QeG k3
   ·exact QeG (k5 a ha0)
theorem QiN {ks:List Int}{parts:Nat}{st:En}(H:ShO ks parts st)(hk:ks.length≤4):(XV ks st).length≤10+st.pn.length*15+st.rows.length*7:=by
 have fm:∀{α:Type} (f:α→List Wds) (l:List α) (m:Nat),(∀ x ∈ l,(f x).length≤m)→(l.flatMap f).length≤l.length*m:=by
  intro α f l m
  induction l with
  | nil=>intro _;simp
  | cons y l ih=>
   intro h
   have h1:=h y (List.mem_cons_self ..)
   have h2:=ih fun w hw=>h w (List.mem_cons_of_mem _ hw)
   rw [List.flatMap_cons,List.length_append,List.length_cons,Nat.succ_mul]
   omega
 have p3:=H.p3
 have rl:=H.rl
 have fl:=H.fl
 have f1:=fm rfW (st.rd.zip st.far) 2 fun x _=>Nat.le_refl _
 have f2:=fm pnW (st.pn.map (pnT ks)) 15 fun x hx=>by
  obtain⟨p,hp,rfl⟩:=List.mem_map.1 hx
  have h4:=congrArg List.length (H.pn p hp).2.2.2.1
  rw [List.length_map] at h4
  have h5:=fm acW (pnT ks p).2.1 3 fun x _=>Nat.le_refl _
  unfold pnW
  simp only [List.length_append,List.length_cons,List.length_nil]
  omega
 have f3:=fm rwW st.rows 7 fun w hw=>by
  have h4:=(H.rw w hw).2.2.2.1
  unfold rwW
  simp only [List.length_append,List.length_cons,List.length_nil,List.length_map]
  omega
 unfold XV hdW
 rw [List.length_zip] at f1
 rw [List.length_map] at f2
 simp only [List.length_append,List.length_cons,List.length_nil]
 have e1':min st.rd.length st.far.length≤3:=by rw [rl,fl];exact Nat.le_trans (Nat.min_le_left ..) p3
 omega
section
variable {h:Hp}{R':Value→Hp→Prop}
abbrev WdV (h hh:Hp)(a:Option Addr)(c:Nat)(l:List Wds):Prop:=Qh h hh 9 1 a l.length c (l.flatMap JR)
theorem WdV.app {hh:Hp}{a:Option Addr}{c:Nat}{l:List Wds}(O:WdV h hh a c l){b:Nat}(hb:hh b=none)(news:List Wds){tn ty:TypeId}{n m:Nat}(hn:n=l.length)(hm:m=news.length)(h1:l.length+news.length≤1000000){K:Value→Hp→Prop}(hK:∀ a' c' h',WdV h h' a' c' (l++news)→K (vsl a' (l++news).length c') h') :
  Ql Tryz.prog (Builtin.append_ #[75,75] ty #[vsl a n c,vsl (some ⟨b,0,none⟩) m m]) (hh.set b (Qc (news.flatMap JR) tn)) K:=by
 subst hn
 subst hm
 refine Qh.append Qm1 (O.set hb _) (Qg.new _ _ _ _) (Qs Yi news) (Ql5 news) (by omega) (by omega) fun a' c' h' O' _ _=>?_
 have:=hK a' c' h' (by show Qh h h' _ 1 a' (l++news).length c' ((l++news).flatMap JR);rw [List.length_append,List.flatMap_append];exact O')
 rw [List.length_append] at this
 exact this
set_option maxHeartbeats 2000000 in
theorem QaW {q:Qy}{h0:Hp}{g parts:Nat}{st:En}(X:Y7 q h0 h g st)(B:QOk q)(H:ShO (Qe q) parts st)(T:VF h)(hK:∀ h',h.le h'→R' (vs (bs (QgC (Qe q) st))) h'):Qa Tryz.prog 12 [vhp g 0] h R':=by
 refine Qhe ?_
 unfold QaO
 obtain⟨a1,n1,c1,a2,n2,c2,a3,n3,c3,qf,ak,nk,ck,ar,cr,ac,cc,tb,tc,aw,cw,RP,k1,s1,s2,g1,tb1,eP⟩:=X.seen
 have hk4:(Qe q).length≤4:=by rw [QC];exact B.n2
 obtain⟨sl,sw⟩:=QiD H hk4
 have p3:=H.p3
 have rl:=H.rl
 have fl:=H.fl
 have pl:=H.pl
 have wl:=H.wl
 have la:=H.la
 have hgl:(st.rows.map Xo).length=st.rows.length:=List.length_map _
 have hRl:RP.length=st.pn.length:=by have:=congrArg List.length eP;simpa using this
 refine⟨_,_,_,Qb k1 rfl,_,Qb k1 rfl,_,_,_,Qb k1 rfl,_,_,_,Qb k1 rfl,?_⟩
 refine We (Jf (by omega) (by omega)) T ⟨_,rfl,Qb k1 rfl,Qb k1 rfl,Qb k1 rfl,?_⟩
 refine We (Jf (by omega) (by omega)) T ⟨_,rfl,Qb k1 rfl,Qb k1 rfl,?_⟩
 refine We (Jf (by omega) (by omega)) T ⟨_,rfl,Qb k1 rfl,?_⟩
 refine We (Jf (by omega) (by omega)) T ⟨_,rfl,?_⟩
 intro b17 hb17 h18
 have V18:WdV h h18 (some ⟨b17,0,none⟩) 4 (hdW st):=by
  have e:hdW st=[Lib.itoa (st.rd.length:Nat),Lib.itoa (st.late:Nat),Lib.itoa (RP.length:Nat),Lib.itoa ((st.rows.map Xo).length:Nat)]:=by unfold hdW;rw [hRl,hgl]
  rw [e]
  exact Qh.mk_new (n:=4) (Hp.le_refl h) hb17 _ _ rfl (by decide)
 clear_value h18
 have hfl:st.far.length=st.rd.length:=by omega
 refine⟨_,_,_,Qb (V18.le _ _ k1) rfl,?_⟩
 refine⟨fun vs hh=>∃(i:Nat) (a:Option Addr) (c:Nat),vs=[vsl a (hdW st++((st.rd.zip st.far).take i).flatMap rfW).length c,vi i]∧i≤st.rd.length∧WdV h hh a c (hdW st++((st.rd.zip st.far).take i).flatMap rfW),
  fun vs hh=>st.rd.length - (Qn vs 1).toNat,⟨0,some ⟨b17,0,none⟩,4,by simp [hdW],Nat.zero_le _,by simpa using V18⟩,?_⟩
 clear V18
 rintro vs hh ⟨i,a,c,rfl,hi,V⟩
 refine⟨_,_,_,_,rfl,fun e=>?_,fun e=>?_⟩
 ·have hlt:i < st.rd.length:=by have:=of_decide_eq_true e;omega
  obtain⟨br,or_,er,hcr⟩:=(s1.le V.le).get hlt
  obtain⟨bc,oc,ec,hcc⟩:=(s2.le V.le).get (i:=i) (by omega)
  have g1:(st.rd.map fun n:Nat=>(n:Int)).getD i 0=(st.rd[i]:Int):=by rw [List.getD_eq_getElem?_getD,List.getElem?_map,List.getElem?_eq_getElem hlt];rfl
  have g2:st.far.getD i 0=st.far[i]'(by omega):=by rw [List.getD_eq_getElem?_getD,List.getElem?_eq_getElem (by omega)];rfl
  rw [g1] at hcr
  rw [g2] at hcc
  have hz:i < (st.rd.zip st.far).length:=by rw [List.length_zip];omega
  have tk:(st.rd.zip st.far).take (i+1)=(st.rd.zip st.far).take i++[(st.rd[i],st.far[i]'(by omega))]:=by
   rw [List.take_succ_eq_append_getElem hz,List.getElem_zip]
  have hb1:=H.rb _ (List.getElem_mem hlt)
  have hb2:=H.fb _ (List.getElem_mem (show i < st.far.length by omega))
  have hlen:(hdW st++((st.rd.zip st.far).take i).flatMap rfW).length≤10:=by
   have:(((st.rd.zip st.far).take i).flatMap rfW).length=i*2:=by
    rw [Qi1 rfW 2 (fun _=>rfl),List.length_take,List.length_zip]
    congr 1
    rw [hfl,Nat.min_self]
    exact Nat.min_eq_left (by omega)
   rw [List.length_append,this]
   simp only [hdW,List.length_cons,List.length_nil]
   omega
  generalize st.rd[i]=x at *
  generalize st.far[i]'(by omega)=y at *
  have k1':=V.le _ _ k1
  refine⟨_,_,_,Qb k1' rfl,br,or_,⟨er,by omega,by omega⟩,_,by rw [Int.toNat_natCast];exact hcr,_,_,_,Qb k1' rfl,bc,oc,⟨ec,by omega,by omega⟩,_,by rw [Int.toNat_natCast];exact hcc,?_⟩
  refine We (Jf (by omega) (by omega)) (T.le V.le) ⟨_,rfl,by rw [Int.toNat_natCast];exact hcc,Qb k1' rfl,?_⟩
  refine We (Jf (by omega) (by omega)) (T.le V.le) ⟨_,rfl,?_⟩
  intro b43 hb43 h44
  refine V.app hb43 (rfW (x,y)) rfl rfl (by simp only [rfW,List.length_cons,List.length_nil];omega) fun a' c' h' V'=>⟨_,_,_,rfl,_,isW (by unfold InR;omega),⟨i+1,a',c',?_,by omega,?_⟩,by simp [Qn];omega⟩
  ·rw [tk,List.flatMap_append,List.flatMap_singleton,←List.append_assoc]
   rfl
  ·rw [tk,List.flatMap_append,List.flatMap_singleton,←List.append_assoc]
   exact V'
 ·have hge:i=st.rd.length:=by have:=of_decide_eq_false e;omega
  have htk:(st.rd.zip st.far).take i=st.rd.zip st.far:=List.take_of_length_le (by rw [List.length_zip];simp only [Nat.min_def];split<;>omega)
  rw [htk] at V ⊢
  clear htk hge e hi
  have e1:XV (Qe q) st=(hdW st++(st.rd.zip st.far).flatMap rfW)++(st.pn.map (pnT (Qe q))).flatMap pnW++st.rows.flatMap rwW:=rfl
  generalize hdW st++(st.rd.zip st.far).flatMap rfW=W0 at *
  refine⟨_,_,_,Qb (V.le _ _ k1) rfl,?_⟩
  refine⟨fun vs hh=>∃(i:Nat) (a:Option Addr) (c:Nat),vs=[vsl a (W0++((st.pn.map (pnT (Qe q))).take i).flatMap pnW).length c,vi i]∧i≤RP.length∧WdV h hh a c (W0++((st.pn.map (pnT (Qe q))).take i).flatMap pnW),
   fun vs hh=>RP.length - (Qn vs 1).toNat,⟨0,a,c,by simp,Nat.zero_le _,by simpa using V⟩,?_⟩
  clear V
  rintro vs hh ⟨i,a,c,rfl,hi,V⟩
  refine⟨_,_,_,_,rfl,fun e=>?_,fun e=>?_⟩
  ·have hlt:i < RP.length:=by have:=of_decide_eq_true e;omega
   have hx:RP[i]?=some RP[i]:=List.getElem?_eq_getElem hlt
   have hpm:(st.pn.map (pnT (Qe q)))[i]?=some (prT RP[i]):=by rw [←eP,List.getElem?_map,hx];rfl
   have tk:(st.pn.map (pnT (Qe q))).take (i+1)=(st.pn.map (pnT (Qe q))).take i++[prT RP[i]]:=by
    obtain⟨h1,h2⟩:=List.getElem?_eq_some_iff.1 hpm
    rw [List.take_succ_eq_append_getElem h1,h2]
   have hO:PnO (Qe q) (prT RP[i]):=by
    have:=List.mem_of_getElem? hpm
    obtain⟨p,hp,e9⟩:=List.mem_map.1 this
    rw [←e9]
    exact H.pn p hp
   have hlen:(W0++((st.pn.map (pnT (Qe q))).take (i+1)).flatMap pnW).length≤220010:=by
    have h1:((st.pn.map (pnT (Qe q))).take (i+1)).flatMap pnW++((st.pn.map (pnT (Qe q))).drop (i+1)).flatMap pnW=(st.pn.map (pnT (Qe q))).flatMap pnW:=by rw [←List.flatMap_append,List.take_append_drop]
    rw [e1,←h1] at sl
    simp only [List.length_append] at sl ⊢
    omega
   rw [tk,List.flatMap_append,List.flatMap_singleton,←List.append_assoc] at hlen
   obtain⟨b,o,ea,hr⟩:=(tb1.s.le V.le).get Qq (by decide) hx
   have hri:=(tb1.i _ (List.getElem_mem hlt)).le V.le
   generalize RP[i]=r at *
   obtain⟨o1,o2,o3,o4,o5⟩:=hO
   have o4':r.acs.length≤4:=by have:=congrArg List.length o4;rw [List.length_map] at this;exact Nat.le_trans (Nat.le_of_eq this) hk4
   have hr':Hp.row hh b (o+i*5) 5=some [vi r.k.1,vi r.k.2.1,vi r.k.2.2,vsl r.a r.acs.length r.c,vb r.t]:=hr
   have o3':InR r.k.2.2:=by have:Qp r.k.2:=o3;unfold Qp at this;unfold InR;omega
   have o1':-1000≤r.k.1:=o1
   have o2':r.k.1≤9999:=o2
   refine⟨b,o,⟨ea,by omega,by omega⟩,_,_,_,_,_,_,_,by rw [Int.toNat_natCast];exact hr',?_⟩
   intro J69
   have hJ:J69 (bs (GW r.t)):=by
    refine We (Jf (by omega) (by omega)) (T.le V.le) ⟨_,rfl,?_⟩
    refine JM (v:=r.k.2) o3' (T.le V.le) ⟨_,rfl,?_⟩
    intro b83 hb83 h84
    have hlen2:(W0++((st.pn.map (pnT (Qe q))).take i).flatMap pnW).length+3+(r.acs.flatMap acW).length≤220010:=by
     simp only [pnW,prT,List.length_append,List.length_cons,List.length_nil] at hlen ⊢
     omega
    refine V.app hb83 [Lib.itoa r.k.1,Z3 r.k.2,GW r.t] rfl rfl (by simp only [List.length_cons,List.length_nil];omega) fun a' c' h' V'=>⟨_,_,_,rfl,?_⟩
    have hex:(W0++((st.pn.map (pnT (Qe q))).take i).flatMap pnW++[Lib.itoa r.k.1,Z3 r.k.2,GW r.t]).length=(W0++((st.pn.map (pnT (Qe q))).take i).flatMap pnW).length+3:=by rw [List.length_append];rfl
    have tk2:∀ c:List Wds,c=r.acs.flatMap acW→W0++((st.pn.map (pnT (Qe q))).take i).flatMap pnW++[Lib.itoa r.k.1,Z3 r.k.2,GW r.t]++c=W0++((st.pn.map (pnT (Qe q))).take (i+1)).flatMap pnW:=by
     rintro c rfl
     rw [tk,List.flatMap_append,List.flatMap_singleton]
     simp only [pnW,prT,List.append_assoc]
    rw [←hex] at hlen2
    generalize W0++((st.pn.map (pnT (Qe q))).take i).flatMap pnW++[Lib.itoa r.k.1,Z3 r.k.2,GW r.t]=W1 at *
    refine⟨fun vs hh=>∃(j:Nat) (a:Option Addr) (c:Nat),vs=[vsl a (W1++(r.acs.take j).flatMap acW).length c,vi j]∧j≤r.acs.length∧WdV h hh a c (W1++(r.acs.take j).flatMap acW),
     fun vs hh=>r.acs.length - (Qn vs 1).toNat,⟨0,a',c',by simp,Nat.zero_le _,by simpa using V'⟩,?_⟩
    clear V'
    rintro vs h2 ⟨j,a2,c2,rfl,hj,V2⟩
    refine⟨_,_,_,_,rfl,fun e5=>?_,fun e5=>?_⟩
    ·have hjl:j < r.acs.length:=by have:=of_decide_eq_true e5;omega
     have hax:r.acs[j]?=some r.acs[j]:=List.getElem?_eq_getElem hjl
     have tka:r.acs.take (j+1)=r.acs.take j++[r.acs[j]]:=List.take_succ_eq_append_getElem hjl
     have hri2:Qg h2 r.a (r.acs.flatMap YK):=(Qg.le V2.le ((tb1.i r (List.mem_of_getElem? hx))))
     obtain⟨b97,o98,e97,r97⟩:=(show SlP YK h2 r.a r.acs.length r.acs from⟨rfl,hri2⟩).get YJ (by decide) hax
     obtain⟨m1,m2,m3,m4,m5,m6⟩:=o5 _ (List.getElem_mem hjl)
     have hlj:(W1++(r.acs.take j).flatMap acW).length+3≤220010:=by
      have h1:((r.acs.take (j+1)).flatMap acW).length≤(r.acs.flatMap acW).length:=by
       have:(r.acs.take (j+1)).flatMap acW++(r.acs.drop (j+1)).flatMap acW=r.acs.flatMap acW:=by rw [←List.flatMap_append,List.take_append_drop]
       rw [←this,List.length_append];omega
      rw [tka,List.flatMap_append,List.length_append,List.flatMap_singleton] at h1
      have h2:(acW r.acs[j]).length=3:=rfl
      rw [List.length_append]
      omega
     generalize r.acs[j]=ax at *
     refine⟨b97,o98,⟨e97,by omega,by omega⟩,_,_,_,_,by rw [Int.toNat_natCast];exact r97,?_⟩
     refine We (Jf (by omega) (by omega)) (T.le V2.le) ⟨_,rfl,?_⟩
     refine We (Jf (by omega) (by omega)) (T.le V2.le) ⟨_,rfl,?_⟩
     refine We (Jf (by omega) (by omega)) (T.le V2.le) ⟨_,rfl,?_⟩
     intro b112 hb112 h113
     refine V2.app hb112 (acW ax) rfl rfl (by simp only [acW,List.length_cons,List.length_nil];omega) fun a' c' h' V'=>⟨_,_,_,rfl,_,isW (by unfold InR;omega),⟨j+1,a',c',?_,by omega,?_⟩,by simp [Qn];omega⟩
     ·rw [tka,List.flatMap_append,List.flatMap_singleton,←List.append_assoc]
      rfl
     ·rw [tka,List.flatMap_append,List.flatMap_singleton,←List.append_assoc]
      exact V'
    ·have hge:j=r.acs.length:=by have:=of_decide_eq_false e5;omega
     rw [hge,List.take_length] at V2 ⊢
     have ew:=tk2 _ rfl
     rw [ew] at V2 ⊢
     exact⟨_,isW (by unfold InR;omega),⟨i+1,a2,c2,rfl,by omega,V2⟩,by simp [Qn];omega⟩
   clear_value J69
   refine⟨fun e6=>?_,fun e6=>?_⟩
   ·rw [e6] at hJ;exact hJ
   ·rw [e6] at hJ;exact hJ
  ·have hge:i=RP.length:=by have:=of_decide_eq_false e;omega
   have htk:(st.pn.map (pnT (Qe q))).take i=st.pn.map (pnT (Qe q)):=List.take_of_length_le (by rw [List.length_map];omega)
   rw [htk] at V ⊢
   clear htk hge e hi
   generalize W0++(st.pn.map (pnT (Qe q))).flatMap pnW=W1 at *
   refine⟨_,_,_,Qb (V.le _ _ k1) rfl,?_⟩
   refine⟨fun vs hh=>∃(i:Nat) (a:Option Addr) (c:Nat),vs=[vsl a (W1++(st.rows.take i).flatMap rwW).length c,vi i]∧i≤st.rows.length∧WdV h hh a c (W1++(st.rows.take i).flatMap rwW),
    fun vs hh=>st.rows.length - (Qn vs 1).toNat,⟨0,a,c,by simp,Nat.zero_le _,by simpa using V⟩,?_⟩
   clear V
   rintro vs hh ⟨i,a,c,rfl,hi,V⟩
   refine⟨_,_,_,_,rfl,fun e=>?_,fun e=>?_⟩
   ·have hlt:i < st.rows.length:=by have:=of_decide_eq_true e;omega
    have hx:st.rows[i]?=some st.rows[i]:=List.getElem?_eq_getElem hlt
    have tk:st.rows.take (i+1)=st.rows.take i++[st.rows[i]]:=List.take_succ_eq_append_getElem hlt
    have hO:=H.rw _ (List.getElem_mem hlt)
    have hlen:(W1++(st.rows.take (i+1)).flatMap rwW).length≤220010:=by
     have h1:(st.rows.take (i+1)).flatMap rwW++(st.rows.drop (i+1)).flatMap rwW=st.rows.flatMap rwW:=by rw [←List.flatMap_append,List.take_append_drop]
     rw [e1,←h1] at sl
     simp only [List.length_append] at sl ⊢
     omega
    rw [tk,List.flatMap_append,List.flatMap_singleton,←List.append_assoc] at hlen
    generalize st.rows[i]=w at *
    obtain⟨gw,k,l⟩:=w
    have hxg:(st.rows.map Xo)[i]?=some ((gw,k),l):=by rw [List.getElem?_map,hx];rfl
    obtain⟨b,o,av,cv,ea,hr,SV⟩:=(g1.le V.le).row Mn (by decide) hxg
    obtain⟨o1,o2,o3,o4,o5⟩:=hO
    have o4':l.length≤4:=Nat.le_trans (Nat.le_of_eq o4) hk4
    have hr':Hp.row hh b (o+i*5) 5=some [vb gw,vi k.1,vi k.2.1,vi k.2.2,vsl av l.length cv]:=hr
    have o3':InR k.2.2:=by have:Qp k.2:=o3;unfold Qp at this;unfold InR;omega
    have o1':-1000≤k.1:=o1
    have o2':k.1≤9999:=o2
    refine⟨b,o,⟨ea,by omega,by omega⟩,_,_,_,_,_,_,_,by rw [Int.toNat_natCast];exact hr',?_⟩
    intro J69
    have hJ:J69 (bs (GW gw)):=by
     refine We (Jf (by omega) (by omega)) (T.le V.le) ⟨_,rfl,?_⟩
     refine JM (v:=k.2) o3' (T.le V.le) ⟨_,rfl,?_⟩
     intro b83 hb83 h84
     have hlen2:(W1++(st.rows.take i).flatMap rwW).length+3+(l.map Z3).length≤220010:=by
      simp only [rwW,List.length_append,List.length_cons,List.length_nil] at hlen ⊢
      omega
     refine V.app hb83 [GW gw,Lib.itoa k.1,Z3 k.2] rfl rfl (by simp only [List.length_cons,List.length_nil];omega) fun a' c' h' V'=>⟨_,_,_,rfl,?_⟩
     have hex:(W1++(st.rows.take i).flatMap rwW++[GW gw,Lib.itoa k.1,Z3 k.2]).length=(W1++(st.rows.take i).flatMap rwW).length+3:=by rw [List.length_append];rfl
     have tk2:∀ c:List Wds,c=l.map Z3→W1++(st.rows.take i).flatMap rwW++[GW gw,Lib.itoa k.1,Z3 k.2]++c=W1++(st.rows.take (i+1)).flatMap rwW:=by
      rintro c rfl
      rw [tk,List.flatMap_append,List.flatMap_singleton]
      simp only [rwW,List.append_assoc]
     rw [←hex] at hlen2
     have SVh:Qg h av (l.flatMap Qv)∨True:=.inr trivial
     have l9:hh.le h'∨True:=.inr trivial
     generalize W1++(st.rows.take i).flatMap rwW++[GW gw,Lib.itoa k.1,Z3 k.2]=W2 at *
     refine⟨fun vs h2=>∃(j:Nat) (a:Option Addr) (c:Nat),vs=[vsl a (W2++(l.take j).map Z3).length c,vi j]∧j≤l.length∧WdV h h2 a c (W2++(l.take j).map Z3),
      fun vs h2=>l.length - (Qn vs 1).toNat,⟨0,a',c',by simp,Nat.zero_le _,by simpa using V'⟩,?_⟩
     clear V'
     rintro vs h2 ⟨j,a2,c2,rfl,hj,V2⟩
     refine⟨_,_,_,_,rfl,fun e5=>?_,fun e5=>?_⟩
     ·have hjl:j < l.length:=by have:=of_decide_eq_true e5;omega
      have hax:l[j]?=some l[j]:=List.getElem?_eq_getElem hjl
      have tka:l.take (j+1)=l.take j++[l[j]]:=List.take_succ_eq_append_getElem hjl
      have hv:=o5 _ (List.getElem_mem hjl)
      obtain⟨b0,o0,av0,cv0,ea0,hr0,SV0⟩:=g1.row Mn (by decide) hxg
      have hr1:=Hp.row_le V.le hr0
      rw [ea0] at ea
      cases ea
      rw [hr1] at hr'
      simp only [Xg,Option.some.injEq,List.cons.injEq,true_and,and_true] at hr'
      cases hr'
      obtain⟨b97,o98,e97,r97⟩:=(SV0.le V2.le).get (sz:=2) (fun _=>rfl) (by decide) hax
      have hlj:(W2++(l.take j).map Z3).length+1≤220010:=by
       rw [List.length_map] at hlen2
       rw [List.length_append,List.length_map,List.length_take,Nat.min_eq_left hj]
       omega
      generalize l[j]=v at *
      refine⟨b97,o98,⟨e97,by omega,by omega⟩,_,_,by rw [Int.toNat_natCast];exact r97,?_⟩
      refine JM (v:=v) (by unfold Qp at hv;unfold InR;omega) (T.le V2.le) ⟨_,rfl,?_⟩
      intro b112 hb112 h113
      refine V2.app hb112 [Z3 v] rfl rfl (by simp only [List.length_cons,List.length_nil];omega) fun a' c' h' V'=>⟨_,_,_,rfl,_,isW (by unfold InR;omega),⟨j+1,a',c',?_,by omega,?_⟩,by simp [Qn];omega⟩
      ·rw [tka,List.map_append,←List.append_assoc]
       rfl
      ·rw [tka,List.map_append,←List.append_assoc]
       exact V'
     ·have hge:j=l.length:=by have:=of_decide_eq_false e5;omega
      rw [hge,List.take_length] at V2 ⊢
      have ew:=tk2 _ rfl
      rw [ew] at V2 ⊢
      exact⟨_,isW (by unfold InR;omega),⟨i+1,a2,c2,rfl,by omega,V2⟩,by simp [Qn];omega⟩
    clear_value J69
    refine⟨fun e6=>?_,fun e6=>?_⟩
    ·rw [e6] at hJ;exact hJ
    ·rw [e6] at hJ;exact hJ
   ·have hge:i=st.rows.length:=by have:=of_decide_eq_false e;omega
    rw [hge,List.take_length,←e1] at V ⊢
    have S:=(show SlB hh a (XV (Qe q) st).length (XV (Qe q) st) from V.slp Yi (by decide))
    have hjl:=QkX (sep:=[32]) (by decide) _ sw
    refine QoJ S (by unfold XV hdW;simp) V.own.cap (by omega) (by omega) ⟨_,rfl,?_⟩
    exact hK hh V.le
end
theorem Qll {q:Qy}{h:Hp}{parts:Nat}{st:En}{a1:Option Addr}{n1 c1:Nat}{a2:Option Addr}{n2 c2:Nat}{a3:Option Addr}{n3 c3:Nat}(Q:QAt h q a1 n1 a2 n2 a3 n3)(B:QOk q)(Z:EnZ q parts st)(h1:1≤parts)(h3:parts≤3)(h40:∀ x ∈ st.rd,x≤40)(T:VF h)(E:Qbt h)(M:Qfp h){R':Value→Hp→Prop}
  (hK:∀ g' h',h.le h'→Y7 q h h' g' st→R' (Qf [vhp g' 0,ifv none]) h'):Qa Tryz.prog 8 [vs (bs (QgC (Qe q) st)),vag [vsl a1 n1 c1,vsl a2 n2 c2,vsl a3 n3 c3,vi q.size,vi q.slide,vi q.delay,vi q.late],vi parts] h R':=by
 have H:=Z.sho h1 h3 h40
 obtain⟨sl,sw⟩:=QiD H (by rw [QC];exact B.n2)
 have hl:(QgC (Qe q) st).length≤15*(XV (Qe q) st).length:=QkX (by decide) _ sw
 have hZl:=Z.b.pl
 have hZw:=Z.b.wl
 have hZs:st.rd.sum≤120:=by
  have:=Qdq st.rd h40
  rw [Z.b.rl] at this
  omega
 have e:=QlC H
 rw [←Qnq] at e
 refine Nq (s:=QgC (Qe q) st) Q B T E M ?_ h1 h3 (fun h' l' hn=>by rw [e] at hn;cases hn) fun Y g' h' l' hy hE=>?_
 ·refine Nat.le_trans hl ?_
  have:=QiN H (by rw [QC];exact B.n2)
  omega
 ·rw [e] at hy
  cases hy
  exact hK g' h' l' (hE st rfl rfl rfl rfl rfl)
theorem QdG {q:Qy}{h0 h:Hp}{g parts:Nat}{st:En}(X:Y7 q h0 h g st){a1:Option Addr}{n1 c1:Nat}{a2:Option Addr}{n2 c2:Nat}{a3:Option Addr}{n3 c3:Nat}(Q:QAt h q a1 n1 a2 n2 a3 n3)(B:QOk q)(Z:EnZ q parts st)(h1:1≤parts)(h3:parts≤3)(h40:∀ x ∈ st.rd,x≤40)(T:VF h)(E:Qbt h)(M:Qfp h){R':Value→Hp→Prop}
  (hK:∀ g' h',h.le h'→Y7 q h h' g' st→R' (Qf [vhp g' 0,ifv none]) h'):Qa Tryz.prog 8 [vs (bs (QgC (Qe q) st)),vag [vsl a1 n1 c1,vsl a2 n2 c2,vsl a3 n3 c3,vi q.size,vi q.slide,vi q.delay,vi q.late],vi parts] h R':=
 Qll Q B Z h1 h3 h40 T E M hK
end Go.Proofs.YtgmplfdecikgoaaGreatDoor
namespace Go.Proofs.YtgmplfdecikgoaaGreatDoor
open Go Go.Vc
def QaF  (h:Hp)(R:Value→Hp→Prop):Prop:=
 (Qa Tryz.prog 23 [(vs ⟨#[115,101,108,101,99,116,32,99,111,117,110,116,40,42,41,32,102,114,111,109,32,101,118,101,110,116,115,32,119,105,110,100,111,119,32,49,48]⟩)] h fun v1 h2=>∃ a3 n3 c3 a4 n4 c4 a5 n5 c5 x6 x7 x8 x9 e10,v1=(Qf [vag [vsl a3 n3 c3,vsl a4 n4 c4,vsl a5 n5 c5,vi x6,vi x7,vi x8,vi x9],ifv e10])∧(((Option.isSome e10)=true→R (vb false) h2)∧((Option.isSome e10)=false→(Qa Tryz.prog 10 [vag [vsl a3 n3 c3,vsl a4 n4 c4,vsl a5 n5 c5,vi x6,vi x7,vi x8,vi x9],vi 1] h2 fun v12 h13=>∃ q14 e15,v12=(Qf [vp q14,ifv e15])∧(((Option.isSome e15)=true→R (vb false) h13)∧((Option.isSome e15)=false→(Qa Tryz.prog 14 [vp q14,vi 0,vag [vi 3,vi 0,vi 0,vi 0,vi 0,vi 0,vi 0]] h13 fun v17 h18=>v17=(Qf [])∧(Qa Tryz.prog 12 [vp q14] h18 fun v19 h20=>∃ s21,v19=(vs s21)∧(Qa Tryz.prog 8 [vs s21,vag [vsl a3 n3 c3,vsl a4 n4 c4,vsl a5 n5 c5,vi x6,vi x7,vi x8,vi x9],vi 1] h20 fun v22 h23=>∃ q24 e25,v22=(Qf [vp q24,ifv e25])∧(∃ p26,((Option.isNone e25)=true→Rd Tryz.prog ((eqGuard .neq 31 (.tmp 31) (.const (vp none)) (vp q24) (vp none) >>= fun _=>binOp .neq 31 (vp q24) (vp none))) h23 (vb p26))∧(∃ b27 o28,((bif (Option.isNone e25) then p26 else false)=true→q24=some ⟨b27,o28,none⟩)∧(∃ a29 n29 c29,((bif (Option.isNone e25) then p26 else false)=true→Hp.cell h23 b27 (o28+8)=some (vsl a29 n29 c29))∧(∃ b30 o31,((bif (Option.isNone e25) then p26 else false)=true→(a29=some ⟨b30,o31,none⟩∧(0:Int)≤0∧0 < (n29:Int)))∧(∃ x32,((bif (Option.isNone e25) then p26 else false)=true→Hp.cell h23 b30 (o31+(0:Int).toNat*1)=some (vi x32))∧(∃ b33 o34,((bif (bif (Option.isNone e25) then p26 else false) then(decide (x32=1)) else false)=true→q24=some ⟨b33,o34,none⟩)∧(∃ a35 n35 c35,((bif (bif (Option.isNone e25) then p26 else false) then(decide (x32=1)) else false)=true→Hp.cell h23 b33 (o34+10)=some (vsl a35 n35 c35))∧R (vb (bif (bif (bif (Option.isNone e25) then p26 else false) then(decide (x32=1)) else false) then(decide ((n35:Int)=1)) else false)) h23))))))))))))))))
theorem QgL {h R}(H:QaF  h R):Qa Tryz.prog 5 [] h R:=
 Qd (cfg:=⟨[],[],[(8,[0,2,1,3,4,5,6,7,8])]⟩) Qo mixed Tryz.func5 [] (by kernel_rfl) rfl (by kernel_rfl) H
def U7 (u0:ByteArray)(u1:Int)(u2:Option Addr)(u3 u4:Nat)(u5:Option Addr)(u6 u7:Nat)(u8:ByteArray)(h:Hp)(R:Value→Hp→Prop):Prop:=
 (Qa Tryz.prog 5 [] h fun v1 h2=>∃ p3,v1=(vb p3)∧(∃(J4:SV→Hp→Prop),((!p3)=false→(Qa Tryz.prog 6 [vsl u2 u3 u4,vsl none 0 0] h2 fun v5 h6=>∃ p7,v5=(vb p7)∧J4 (.t (.one (.v (vb p7)))) h6))∧(¬((!p3)=false)→J4 (.t (.one (.v (vb false)))) h2)∧∀ h8 p9,J4 (.t (.one (.v (vb p9)))) h8→(∃(J10:SV→Hp→Prop),((bif (!p3) then true else(!p9))=false→(Qa Tryz.prog 6 [vsl u5 u6 u7,vsl none 0 0] h8 fun v11 h12=>∃ p13,v11=(vb p13)∧J10 (.t (.one (.v (vb p13)))) h12))∧(¬((bif (!p3) then true else(!p9))=false)→J10 (.t (.one (.v (vb false)))) h8)∧∀ h14 p15,J10 (.t (.one (.v (vb p15)))) h14→(((bif (bif (bif (!p3) then true else(!p9)) then true else(!p15)) then true else(decide ((((ByteArray.size u8:Nat):Int):Int) > 2000)))=true→R (vb p3) h14)∧((bif (bif (bif (!p3) then true else(!p9)) then true else(!p15)) then true else(decide ((((ByteArray.size u8:Nat):Int):Int) > 2000)))=false→(Qa Tryz.prog 7 [vs u0] h14 fun v17 h18=>∃ a19 n19 c19 a20 n20 c20 a21 n21 c21 x22 x23 x24 x25 p26,v17=(Qf [vag [vsl a19 n19 c19,vsl a20 n20 c20,vsl a21 n21 c21,vi x22,vi x23,vi x24,vi x25],vb p26])∧(((bif (bif (!p26) then true else(decide (u1 < 1))) then true else(decide (u1 > 3)))=true→R (vb true) h18)∧((bif (bif (!p26) then true else(decide (u1 < 1))) then true else(decide (u1 > 3)))=false→(Qa Tryz.prog 8 [vs u8,vag [vsl a19 n19 c19,vsl a20 n20 c20,vsl a21 n21 c21,vi x22,vi x23,vi x24,vi x25],vi u1] h18 fun v28 h29=>∃ q30 e31,v28=(Qf [vp q30,ifv e31])∧(∃ p32,((Option.isSome e31)=true→Rd Tryz.prog ((eqGuard .neq 31 (.tmp 68) (.const (vp none)) (vp q30) (vp none) >>= fun _=>binOp .neq 31 (vp q30) (vp none))) h29 (vb p32))∧(∃(J33:SV→Hp→Prop),(((Option.isSome e31)=true∧p32=false)→(Qa Tryz.prog 9 [ifv e31,vi 4] h29 fun v34 h35=>∃ p36,v34=(vb p36)∧J33 (.t (.one (.v (vb p36)))) h35))∧(¬((Option.isSome e31)=true∧p32=false)→J33 (.t (.one (.v (vb false)))) h29)∧∀ h37 p38,J33 (.t (.one (.v (vb p38)))) h37→(((bif (Option.isSome e31) then(bif p32 then true else(!p38)) else false)=true→R (vb false) h37)∧((bif (Option.isSome e31) then(bif p32 then true else(!p38)) else false)=false→(Qa Tryz.prog 10 [vag [vsl a19 n19 c19,vsl a20 n20 c20,vsl a21 n21 c21,vi x22,vi x23,vi x24,vi x25],vi u1] h37 fun v40 h41=>∃ q42 e43,v40=(Qf [vp q42,ifv e43])∧(((Option.isSome e43)=true→R (vb false) h41)∧((Option.isSome e43)=false→(Qa Tryz.prog 11 [vag [vsl a19 n19 c19,vsl a20 n20 c20,vsl a21 n21 c21,vi x22,vi x23,vi x24,vi x25],vi u1] h41 fun v45 h46=>∃ q47,v45=(vp q47)∧(let J171:Int→Hp→Prop:=fun x173 h174=>R (vb (decide (x173≥0))) h174;(∃(I49:List Value→Hp→Prop) (m50:List Value→Hp→Nat),I49 [vp q42,vi 0,vi 0] h46∧∀ vs51 h52,I49 vs51 h52→∃ q53 x54 x55,vs51=[vp q53,vi x54,vi x55]∧(∃ x56,(IsW x56 ((u3:Int)+(u6:Int)))∧(((decide (x55 < x56))=true→(let J161:Option Addr→Int→Hp→Prop:=fun q167 x168 h169=>(∃ x170,(IsW x170 (x55+1))∧(I49 [vp q167,vi x168,vi x170] h169∧m50 [vp q167,vi x168,vi x170] h169 < m50 vs51 h52));(let J70:Option Addr→Hp→Prop:=fun q71 h72=>(let J96:Int→Int→Int→Int→Int→Int→Int→Int→Prop:=fun x132 x133 x134 x135 x136 x137 x138 x139=>(∃ x140,(Rd Tryz.prog (binOp .and 3 (vi x132) (vi 1023)) h72 (vi x140))∧((u1≠0)∧(Qa Tryz.prog 13 [vag [vi x133,vi x134,vi x135,vi x136,vi x137,vi x138,vi x139]] h72 fun v141 h142=>∃ x143,v141=(vi x143)∧(∃ b144 o145,((decide (x143 > 0))=false→q47=some ⟨b144,o145,none⟩)∧(∃ a146 n146 c146,((decide (x143 > 0))=false→Hp.cell h142 b144 (o145+7)=some (vsl a146 n146 c146))∧(∃ b147 o148,((decide (x143 > 0))=false→(a146=some ⟨b147,o148,none⟩∧(0:Int)≤(Int.tmod x140 u1)∧(Int.tmod x140 u1) < (n146:Int)))∧(∃ x149,((decide (x143 > 0))=false→Hp.cell h142 b147 (o148+(Int.tmod x140 u1).toNat*1)=some (vi x149))∧(((bif (decide (x143 > 0)) then true else(decide (x149=40)))=true→(J161 q71 x54 h142))∧((bif (decide (x143 > 0)) then true else(decide (x149=40)))=false→(∃ x152,(IsW x152 (x54+1))∧(Qa Tryz.prog 14 [vp q71,(vi (Int.tmod x140 u1)),vag [vi x133,vi x134,vi x135,vi x136,vi x137,vi x138,vi x139]] h142 fun v153 h154=>v153=(Qf [])∧(Qa Tryz.prog 15 [vp q47,(vi (Int.tmod x140 u1)),vag [vi x133,vi x134,vi x135,vi x136,vi x137,vi x138,vi x139]] h154 fun v155 h156=>v155=(Qf [])∧(Qa Tryz.prog 16 [vp q71,vp q47] h156 fun v157 h158=>∃ p159,v157=(vb p159)∧(((!p159)=true→R (vb false) h158)∧((!p159)=false→(J161 q71 x152 h158))))))))))))))));(((decide (x55 < (u3:Int)))=true→(∃ b73 o74,(u2=some ⟨b73,o74,none⟩∧(0:Int)≤x55∧x55 < (u3:Int))∧(∃ x75 x76 x77 x78 x79 x80 x81 x82,(Hp.row h72 b73 (o74+x55.toNat*8) 8=some [vi x75,vi x76,vi x77,vi x78,vi x79,vi x80,vi x81,vi x82])∧(J96 x75 x76 x77 x78 x79 x80 x81 x82))))∧((decide (x55 < (u3:Int)))=false→(∃ x84,(IsW x84 (x55 - (u3:Int)))∧(∃ b85 o86,(u5=some ⟨b85,o86,none⟩∧(0:Int)≤x84∧x84 < (u6:Int))∧(∃ x87 x88 x89 x90 x91 x92 x93 x94,(Hp.row h72 b85 (o86+x84.toNat*8) 8=some [vi x87,vi x88,vi x89,vi x90,vi x91,vi x92,vi x93,vi x94])∧(J96 x87 x88 x89 x90 x91 x92 x93 x94)))))));(((decide (x55=(u3:Int)))=true→(Qa Tryz.prog 12 [vp q53] h52 fun v59 h60=>∃ s61,v59=(vs s61)∧(Qa Tryz.prog 8 [vs s61,vag [vsl a19 n19 c19,vsl a20 n20 c20,vsl a21 n21 c21,vi x22,vi x23,vi x24,vi x25],vi u1] h60 fun v62 h63=>∃ q64 e65,v62=(Qf [vp q64,ifv e65])∧(∃ p66,((Option.isSome e65)=false→Rd Tryz.prog ((eqGuard .eql 31 (.tmp 111) (.const (vp none)) (vp q64) (vp none) >>= fun _=>binOp .eql 31 (vp q64) (vp none))) h63 (vb p66))∧(((bif (Option.isSome e65) then true else p66)=true→R (vb false) h63)∧((bif (Option.isSome e65) then true else p66)=false→(J70 q64 h63)))))))∧((decide (x55=(u3:Int)))=false→(J70 q53 h52))))))∧((decide (x55 < x56))=false→(J171 x54 h52)))))))))))))))))))))))
theorem Qc5 {u0 u1 u2 u3 u4 u5 u6 u7 u8 h R}(H:U7 u0 u1 u2 u3 u4 u5 u6 u7 u8 h R):Qa Tryz.prog 3 [vs u0,vi u1,vsl u2 u3 u4,vsl u5 u6 u7,vs u8] h R:=
 Qd (cfg:=⟨[],[(16,([16,18,19],[.one (.ptr),.one (.int .i64),.one (.int .i64)],[]))],[(19,[0,2,3,1,4,5,6,7,8,9])]⟩) Qo mixed Tryz.func3 [.one (.v (vs u0)),.one (.v (vi u1)),.one (.v (vsl u2 u3 u4)),.one (.v (vsl u5 u6 u7)),.one (.v (vs u8))] (by kernel_rfl) rfl (by kernel_rfl) H
open Go.RowKit Go.Txt
theorem Qgb {P:Program}{h:Hp}{t e:TypeId}(ht:P.underlying t=some (.pointer e)){x y:Operand}{p:Option Addr}:Rd P (eqGuard .neq t x y (vp p) (vp none) >>= fun _=>binOp .neq t (vp p) (vp none)) h (vb (!p.isNone)):=by
 intro w _
 have:=run_neq_pointer_nil (P:=P) w t p (by simp [Program.pointee,ht])
 simp [eqGuard,this]
theorem Y7.base {q:Qy}{h0 h1 h:Hp}{g:Nat}{st:En}(l:h0.le h1)(X:Y7 q h1 h g st):Y7 q h0 h g st:=by
 obtain⟨qf,hi,a1,n1,c1,a2,n2,c2,a3,n3,c3,ak,nk,ck,ar,cr,ac,nc,cc,tb,tc,aw,cw,R,RW,l0,M,I⟩:=X
 exact⟨qf,hi,a1,n1,c1,a2,n2,c2,a3,n3,c3,ak,nk,ck,ar,cr,ac,nc,cc,tb,tc,aw,cw,R,RW,Hp.le_trans l l0,M,I⟩
theorem QjE:(XL (Z7 Qj7).1 0 (evE 3) (WX 1)).rd=[1]∧(XL (Z7 Qj7).1 0 (evE 3) (WX 1)).pn.length=1:=by decide +kernel
theorem QgQ {h:Hp}(T:QgF h)(M:Qfp h){R:Value→Hp→Prop}(hK:∀ h',h.le h'→R (vb true) h'):Qa Tryz.prog 5 [] h R:=by
 refine QgL ?_
 unfold QaF
 obtain⟨e0,_⟩:=Qmc
 obtain⟨e1,e2⟩:=QjE
 have Qk:=(Qes e0).1
 refine QdM (l:=Qj7) T fun a1 n1 c1 a2 n2 c2 a3 n3 c3 h2 l2 Q=>⟨_,_,_,_,_,_,_,_,_,_,_,_,_,_,rfl,?_⟩
 rw [Zj,decide_eq_true e0]
 refine⟨fun e=>(by cases e),fun _=>?_⟩
 generalize (Z7 Qj7).1=q at *
 refine Nn Q Qk (fun e=>absurd ⟨by decide,by decide⟩ e) fun _ _ g h13 l13 X=>⟨some ⟨g,0,none⟩,none,rfl,fun e=>(by cases e),fun _=>?_⟩
 have E1:WC (evE 3):=Qha (by decide)
 have Z0:=EnZ.new q 1
 refine VC (p:=0) (e:=evE 3) X Qk E1 (Qkz q 1) (by decide) (by decide) (by decide) fun h18 l18 X1=>⟨rfl,?_⟩
 rw [show (WX (1:Int).toNat)=WX 1 from rfl] at *
 have Z1:=Z0.step Qk (p:=0) (by decide) E1
 generalize XL q 0 (evE 3) (WX 1)=st at *
 have h40:∀ x ∈ st.rd,x≤40:=by rw [e1];simp
 have l018:=Hp.le_trans l2 X1.le0
 refine QaW X1 Qk (Z1.sho (by decide) (by decide) h40) (T.le l018).p fun h20 l20=>⟨_,rfl,?_⟩
 have l020:=Hp.le_trans l018 l20
 refine QdG (parts:=1) (X1.le l20) (Q.le (Hp.le_trans X1.le0 l20)) Qk Z1 (by decide) (by decide) h40 (T.le l020).p (T.le l020).e (M.le l020) fun g' h' l' X2=>⟨some ⟨g',0,none⟩,none,rfl,_,fun _=>Qgb (e:=68) (by kernel_rfl),?_⟩
 obtain⟨a1,n1,c1,a2,n2,c2,a3,n3,c3,qf,ak,nk,ck,ar,cr,ac,cc,tb,tc,aw,cw,RP,k1,s1,s2,g1,tb1,eP⟩:=X2.seen
 have hRl:RP.length=1:=by have:=congrArg List.length eP;rw [List.length_map,List.length_map,e2] at this;exact this
 have hl1:st.rd.length=1:=by rw [e1];rfl
 obtain⟨b,o,ea,hc⟩:=s1.get (i:=0) (by omega)
 have hc':h'.cell b (o+0*1)=some (vi 1):=by rw [hc,e1];rfl
 refine⟨g',0,fun _=>rfl,_,_,_,fun _=>Qb k1 rfl,b,o,fun _=>⟨ea,by decide,by omega⟩,1,fun _=>hc',g',0,fun _=>rfl,_,_,_,fun _=>Qb k1 rfl,?_⟩
 rw [hRl]
 exact hK h' (Hp.le_trans l020 l')
set_option maxHeartbeats 1000000 in
theorem QcW {s:Wd}{parts:Int}{a:Option Addr}{n c:Nat}{l:List (Int × EvL)}{a':Option Addr}{n' c':Nat}{l':List (Int × EvL)}{t:Wd}{h:Hp}(S:SlP QlJ h a n l)(S':SlP QlJ h a' n' l')(T:QgF h)(TM:Qfp h):Qa Tryz.prog 3 [vs (bs s),vi parts,vsl a n c,vsl a' n' c',vs (bs t)] h fun v h'=>v=vb true∧h.le h':=by
 refine Qc5 ?_
 unfold U7
 have hn:=S.1
 have hn':=S'.1
 refine QgQ T TM fun h2 l2=>⟨_,rfl,?_⟩
 refine⟨fun x h'=>h'=h2∧x=.t (.one (.v (vb (bif (decide ((((n:Nat):Int):Int)≤130)) then true else false)))),fun _=>?_,fun e=>absurd rfl e,?_⟩
 ·refine QaY ?_
  unfold UT
  exact⟨_,rfl,rfl,rfl⟩
 rintro h8 p9 ⟨rfl,e9⟩
 cases e9
 refine⟨fun x h'=>h'=h8∧((bif (!true) then true else(!(bif (decide ((((n:Nat):Int):Int)≤130)) then true else false)))=false→x=.t (.one (.v (vb (bif (decide ((((n':Nat):Int):Int)≤130)) then true else false))))),fun _=>?_,fun e=>⟨rfl,fun q=>absurd q e⟩,?_⟩
 ·refine QaY ?_
  unfold UT
  exact⟨_,rfl,rfl,fun _=>rfl⟩
 rintro h14 p15 ⟨rfl,e15⟩
 refine⟨fun _=>⟨rfl,l2⟩,fun e=>?_⟩
 obtain⟨ea,et⟩:=ZC e
 obtain⟨eb,ep⟩:=ZC ea
 have e15':=e15 eb
 obtain⟨_,en⟩:=ZC eb
 clear e15 e ea eb
 cases e15'
 have hn130:n≤130:=by
  by_cases q:((n:Nat):Int)≤130
  ·omega
  ·rw [decide_eq_false q] at en;cases en
 have hn130':n'≤130:=by
  by_cases q:((n':Nat):Int)≤130
  ·omega
  ·rw [decide_eq_false q] at ep;cases ep
 have ht2:t.length≤2000:=by
  have:=of_decide_eq_false et
  rw [Y5] at this
  omega
 clear en et ep
 refine QfE fun a1 n1 c1 a2 n2 c2 a3 n3 c3 x4 x5 x6 x7 p0 h18 l18 hq=>⟨_,_,_,_,_,_,_,_,_,_,_,_,_,_,rfl,?_⟩
 have l018:=Hp.le_trans l2 l18
 refine⟨fun _=>⟨rfl,l018⟩,fun e=>?_⟩
 obtain⟨e,eq3⟩:=ZC e
 obtain⟨e,eq1⟩:=ZC e
 have hpt:p0=true:=by simpa using e
 obtain⟨q,B,Q,rfl,rfl,rfl,rfl⟩:=hq hpt
 have hp1:=of_decide_eq_false eq1
 have hp3:=of_decide_eq_false eq3
 clear hq e hpt eq1 eq3
 obtain⟨k,rfl⟩:=Int.eq_ofNat_of_zero_le (show 0≤parts by omega)
 have T18:=T.le l018
 have M18:=TM.le l018
 -- any text is read, or isn't
 refine Nq (h:=h18) (s:=t) (R':=fun v h29=>h18.le h29∧∃(q30:Option Addr) (e31:Option (TypeId × Value)),v=Qf [vp q30,ifv e31]∧(e31=none∨(q30=none∧e31=some (80,vi 4)))) Q B T18.p T18.e M18 (by omega) (by omega) (by omega) (fun h' l' _=>⟨l',none,_,rfl,.inr ⟨rfl,rfl⟩⟩) (fun X g h' l' _ _=>⟨l',_,none,rfl,.inl rfl⟩) |>.mono ?_
 rintro v h29 ⟨l29,q30,e31,rfl,h31⟩
 refine⟨q30,e31,rfl,!q30.isNone,fun _=>Qgb (e:=68) (by kernel_rfl),?_⟩
 have h29':∀{K:Prop},(e31=none→K)→(q30=none→e31=some (80,vi 4)→K)→K:=fun k1 k2=>h31.elim k1 fun q=>k2 q.1 q.2
 refine⟨fun x hh=>h29.le hh∧(e31≠none→x=.t (.one (.v (vb true)))),fun e=>?_,fun e=>⟨Hp.le_refl _,fun q=>?_⟩,?_⟩
 ·refine h29' (fun q=>by rw [q] at e;cases e.1) fun q1 q2=>?_
  rw [q2]
  exact Qib (f:=4) (by decide) ⟨true,rfl,Hp.le_refl _,fun _=>rfl⟩
 ·refine h29' (fun q2=>absurd q2 q) fun q1 q2=>absurd ⟨?_,?_⟩ e
  ·rw [q2];rfl
  ·rw [q1];rfl
 rintro h37 p38 ⟨l37,e38⟩
 have hgo:(bif Option.isSome e31 then(bif !q30.isNone then true else !p38) else false)=false:=by
  refine h29' (fun q=>by rw [q];rfl) fun q1 q2=>?_
  have:=e38 (by rw [q2];simp)
  cases this
  rw [q1,q2];rfl
 rw [hgo]
 refine⟨fun e=>(by cases e),fun _=>?_⟩
 have l1837:=Hp.le_trans l29 l37
 have l037:=Hp.le_trans l018 l1837
 have Q37:=Q.le l1837
 clear h31 h29' e38 hgo Q T18 M18 l29 l37 l018
 clear l1837
 have T37:=T.le l037
 have M37:=TM.le l037
 refine Nn Q37 B (fun hbad=>absurd ⟨by omega,by omega⟩ hbad) fun _ _ g h41 l41 X=>⟨some ⟨g,0,none⟩,none,rfl,fun e=>(by cases e),fun _=>?_⟩
 rw [Int.toNat_natCast] at X
 refine(Duo.new l41).right (QcX Q37 (by omega) fun m h1 l1 Y=>⟨l1,fun h46 D=>⟨some ⟨m,0,none⟩,rfl,?_⟩⟩)
 intro J171
 have hJE:∀(x:Nat) h',h37.le h'→J171 x h':=by
  intro x h' lh
  exact⟨by rw [decide_eq_true (by omega)],Hp.le_trans l037 lh⟩
 clear_value J171
 refine⟨fun vs hh=>∃(i cnt g:Nat) (hA hM:Hp) (st:En),vs=[vhp g 0,vi cnt,vi i]∧i≤n+n'∧cnt≤i∧Duo h37 hA hM hh∧Y7 q h37 hA g st∧QbT q h37 hM m st∧EnZ q k st∧(∀ x ∈ st.rd,x≤40),fun vs hh=>n+n' - (Qn vs 2).toNat,⟨0,0,g,h41,h1,WX k,rfl,Nat.zero_le _,Nat.zero_le _,D,X,Y,EnZ.new q k,fun x hx=>by
  unfold WX at hx
  rw [List.eq_of_mem_replicate hx];decide⟩,?_⟩
 clear D X Y l1 l41
 clear h1 h46 h41
 clear g
 rintro vs hh ⟨i,cnt,g,hA,hM,st,rfl,hi,hcnt,D,X,Y,Z,h40⟩
 refine⟨_,_,_,rfl,_,isW (by unfold InR;omega),fun e=>?_,fun e=>hJE cnt hh D.le0⟩
 have hlt:i < n+n':=by have:=of_decide_eq_true e;omega
 intro J161
 have hJ:∀(h':Hp) (cnt' g':Nat),cnt'≤cnt+1→(∃(hA hM:Hp) (st:En),Duo h37 hA hM h'∧Y7 q h37 hA g' st∧QbT q h37 hM m st∧EnZ q k st∧∀ x ∈ st.rd,x≤40)→J161 (some ⟨g',0,none⟩) cnt' h':=by
  rintro h' cnt' g' hc ⟨hA,hM,st,q1,q2,q3,q4,q5⟩
  exact⟨_,isW (by unfold InR;omega),⟨i+1,cnt',g',hA,hM,st,rfl,by omega,by omega,q1,q2,q3,q4,q5⟩,by simp [Qn];omega⟩
 clear_value J161
 intro J70
 -- one event, at whichever engine
 have hJ70:∀(hh:Hp) (g:Nat) (hA hM:Hp),Duo h37 hA hM hh→Y7 q h37 hA g st→QbT q h37 hM m st→J70 (some ⟨g,0,none⟩) hh:=by
  clear D X Y hh
  clear hA hM g
  intro hh g hA hM D X Y
  have lhh:=Hp.le_trans l037 D.le0
  dsimp -zeta only [J70]
  intro J96
  have hJ96:∀(r:Int) (ev:EvL),J96 r ev.1 ev.2.1.1 ev.2.1.2 ev.2.2.1.1 ev.2.2.1.2 ev.2.2.2.1 ev.2.2.2.2:=by
   intro r ev
   obtain⟨p,ep,hp⟩:=Qoi (parts:=k) (by omega) r
   refine⟨_,QjQ,by omega,?_⟩
   rw [ep]
   refine Qc9 (e:=ev) fun h142 l142=>⟨_,rfl,?_⟩
   obtain⟨a1',n1',c1',a2',n2',c2',a3',n3',c3',ar',cr',af',cf',ap',cp',aw',cw',k2,s3,s4,g2⟩:=(Y.le (Hp.le_trans D.lM l142)).see
   have hrl:=Z.b.rl
   obtain⟨br,or_,er,hcr⟩:=s3.get (i:=p) (by omega)
   have hgd:(st.rd.map fun n:Nat=>(n:Int)).getD p 0=((st.rd.getD p 0:Nat):Int):=by
    rw [List.getD_eq_getElem?_getD,List.getD_eq_getElem?_getD,List.getElem?_map,List.getElem?_eq_getElem (by omega)];rfl
   rw [hgd] at hcr
   refine⟨m,0,fun _=>rfl,_,_,_,fun _=>Qb k2 rfl,br,or_,fun _=>⟨er,by omega,by omega⟩,_,fun _=>by rw [Int.toNat_natCast];exact hcr,fun e1=>?_,fun e1=>?_⟩
   ·exact hJ h142 cnt g (by omega) ⟨hA,hM,st,D.grow l142,X,Y,Z,h40⟩
   ·obtain⟨e2,e3⟩:=ZC e1
    have E:WC ev:=Qha (by have:=of_decide_eq_false e2;have:=QpM ev;omega)
    have hne:st.rd.getD p 0≠40:=by have:=of_decide_eq_false e3;omega
    have hmem:st.rd.getD p 0 ∈ st.rd:=by rw [List.getD_eq_getElem?_getD,List.getElem?_eq_getElem (by omega)];exact List.getElem_mem _
    have hr40:=h40 _ hmem
    have Z2:=Z.step B hp E
    have h40':∀ x ∈ (XL q p ev st).rd,x≤40:=by
     rw [QiS]
     intro x hx
     rcases List.mem_or_eq_of_mem_set hx with q1|q1
     ·exact h40 x q1
     ·omega
    have hs:st.rd.sum≤120:=by
     have:=Qdq st.rd h40
     rw [hrl] at this
     have:k*40≤120:=by omega
     omega
    have hs2:(XL q p ev st).rd.sum≤120:=by
     have:=Qdq _ h40'
     rw [Z2.b.rl] at this
     omega
    refine⟨_,isW (by unfold InR;omega),?_⟩
    refine(D.grow l142).left (VC X B E Z.b (by omega) hp (by omega) fun h1 l1 X1=>⟨l1,fun h72 D72=>⟨rfl,?_⟩⟩)
    refine D72.right (Qk9 Y B E Z.b (by omega) hp (by omega) fun h2 l2 Y1=>⟨l2,fun h83 D83=>⟨rfl,?_⟩⟩)
    refine Qc7 (X1.le D83.lA) (Y1.le D83.lM) B Z2.b (by omega) (by omega) ⟨_,rfl,fun e=>(by cases e),fun _=>?_⟩
    exact hJ h83 (cnt+1) g (by omega) ⟨h1,h2,_,D83,X1,Y1,Z2,h40'⟩
  clear_value J96
  refine⟨fun e1=>?_,fun e1=>?_⟩
  ·have hil:i < l.length:=by have:=of_decide_eq_true e1;omega
   have hx:l[i]?=some l[i]:=List.getElem?_eq_getElem hil
   generalize l[i]=y at hx
   obtain⟨r,ev⟩:=y
   obtain⟨b,o,ea,hr⟩:=(S.le lhh).get Qic (by decide) hx
   exact⟨b,o,⟨ea,by omega,by have:=of_decide_eq_true e1;omega⟩,_,_,_,_,_,_,_,_,by rw [Int.toNat_natCast];exact hr,hJ96 r ev⟩
  ·have hge:n≤i:=by have:=of_decide_eq_false e1;omega
   have hx:l'[i - n]?=some (l'[i - n]'(by omega)):=List.getElem?_eq_getElem (by omega)
   generalize l'[i - n]'(by omega)=y at hx
   obtain⟨r,ev⟩:=y
   obtain⟨b,o,ea,hr⟩:=(S'.le lhh).get Qic (by decide) hx
   have hin:((i:Int) - ((n:Nat):Int))=((i - n:Nat):Int):=by omega
   refine⟨_,isW (by unfold InR;omega),?_⟩
   rw [hin]
   exact⟨b,o,⟨ea,by omega,by omega⟩,_,_,_,_,_,_,_,_,by rw [Int.toNat_natCast];exact hr,hJ96 r ev⟩
 clear_value J70
 refine⟨fun e1=>?_,fun _=>hJ70 hh g hA hM D X Y⟩
 have l0A:=Hp.le_trans l037 X.le0
 refine D.left (QaW X B (Z.sho (by omega) (by omega) h40) (T.le l0A).p fun h60 l60=>⟨Hp.le_trans X.le0 l60,fun h2 D2=>⟨_,rfl,?_⟩⟩)
 have l060:=Hp.le_trans l0A l60
 refine D2.left (QdG (parts:=k) (X.le l60) (Q37.le (Hp.le_trans X.le0 l60)) B Z (by omega) (by omega) h40 (T.le l060).p (T.le l060).e (TM.le l060) fun g' h' l' X2=>⟨Hp.le_trans (Hp.le_trans X.le0 l60) l',fun h3 D3=>⟨some ⟨g',0,none⟩,none,rfl,_,fun _=>Qlw (e:=68) (by kernel_rfl),fun e=>(by cases e),fun _=>?_⟩⟩)
 exact hJ70 h3 g' h' hM D3 (X2.base (Hp.le_trans X.le0 l60)) Y
end Go.Proofs.YtgmplfdecikgoaaGreatDoor
namespace Go.Vc
open Go Go.RowKit
theorem Qoo {W:World}{b o:Nat}{v:Value}(h:W.cell? ⟨b,o,none⟩=some v):Hp.cell (Nf W) b o=some v:=by
 unfold World.cell? at h
 unfold Hp.cell Nf
 cases hb:W.heap[b]? with
 | none=>rw [hb] at h;cases h
 | some ob=>rw [hb] at h;cases ob<;>simp_all
section
variable {H:Type}{enc:TypeId × Value→H}
theorem Qls {a:Assume}{C:Checked}{os:Os}{f:FuncId}{fn:Func}{s:ChangeSpec}{conds:List PathCond}{apart fresh handsOn again:Bool}{X:World→Array Value→Prop}
  (hX:∀(w w':World) (args:Array Value),w.heap=w'.heap→X w args→X w' args)
  (own:ownKnob C.prog.godebug=none) (started:os.Started) (noInit:C.prog.inits.idxOf? f=none) (hfn:C.prog.funcs[f]?=some fn)
  (witness:∃(w:World) (tape:Tape) (i:Input),w.os=os∧(w.forCall tape i).Shaped C.prog∧i.vars=[]∧Input.okWide C.prog (w.forCall tape i) .any w.heap.size f i ∧
   ((s.pre enc C.prog fn conds apart (w.forCall tape i).memory i.args∧X (w.forCall tape i).memory i.args)∧sizedMet enc C.prog fn (OpenSpec.ofChange s) apart (w.forCall tape i).memory i.args)∧a.holds C.prog (lone (Frame.enter C.prog f i.args .normal) [] (w.forCall tape i)))
  (contract:∀(W:World) (base:Nat) (args:Array Value) (ds gs:List (DataW H)) (before:List MemPlace),
   (∀(j:Nat) t v,fn.params[j]?=some t→args[j]?=some v→Value.okWide C.prog W .any base t v) →
   DataW.Whole enc C.prog fn.params.toList s.vars apart W args.toList ds gs before →
   conds.all (PathCond.test C.prog ⟨fn.params.toList,ds,s.plain.varTypes C.prog,gs⟩)=true→X W args→W.ShapedOpen C.prog →
   Calls C.prog f args W fun e W'=>∃ v,e=.returned v∧s.post enc C.prog fn apart fresh handsOn again W args v W') :
  ReturnsInHanded a C os f .any (fun w args=>(s.pre enc C.prog fn conds apart w args∧X w args)∧sizedMet enc C.prog fn (OpenSpec.ofChange s) apart w args) (s.post enc C.prog fn apart fresh handsOn again):=by
 refine returnsInHanded_of_calls own started noInit witness ?_
 intro w tape i _ hsh _ hok hpre _
 obtain⟨_,_,_,fn2,hfn2,_,_,_,_,hval⟩:=hok
 have e:fn2=fn:=Option.some.inj (hfn2.symm.trans hfn)
 subst e
 obtain⟨⟨⟨ds,gs,before,hw,hc⟩,hx⟩,_⟩:=hpre
 have hw2:=DataW.Whole.of_heap (w':=w.forCall tape i) (by rfl) hw
 refine(contract (w.forCall tape i) w.heap.size i.args ds gs before hval hw2 hc (hX _ _ _ (by rfl) hx) hsh).mono fun e W' ⟨v,he,hp⟩=>?_
 subst he
 exact ChangeSpec.post_blind hp
end
end Go.Vc
namespace Go.Proofs.YtgmplfdecikgoaaGreatDoor.shotSays
open Go.ChangeShapes Go.WideShapes Go.ChangeAt Go.RowKit Go.Vc
theorem own:ownKnob Tryz.prog.godebug=none:=by kernel_rfl
theorem open0 {H:Type}{enc:TypeId × Value→H}{W:World}{cs:List Value}(L:Qel Tryz.prog enc W (fun _=>True) (Mv Tryz.prog 4 46) cs):∃(x0:Int) (x1:Int) (x2:Int) (x3:Int) (x4:Int) (x5:Int) (x6:Int) (x7:Int),cs=QlJ (x0,(x1,(x2,x3),(x4,x5),(x6,x7)))∧InR x0∧InR x1∧InR x2∧InR x3∧InR x4∧InR x5∧InR x6∧InR x7:=by
 have e:Mv Tryz.prog 4 46=[3,3,3,3,3,3,3,3]:=by kernel_rfl
 rw [e] at L
 match cs,L with
 | [v0,v1,v2,v3,v4,v5,v6,v7],L=>
  obtain⟨x0,h0,g0⟩:=X6 Tryz.underlying3 (L.1)
  cases h0
  obtain⟨x1,h1,g1⟩:=X6 Tryz.underlying3 (L.2.1)
  cases h1
  obtain⟨x2,h2,g2⟩:=X6 Tryz.underlying3 (L.2.2.1)
  cases h2
  obtain⟨x3,h3,g3⟩:=X6 Tryz.underlying3 (L.2.2.2.1)
  cases h3
  obtain⟨x4,h4,g4⟩:=X6 Tryz.underlying3 (L.2.2.2.2.1)
  cases h4
  obtain⟨x5,h5,g5⟩:=X6 Tryz.underlying3 (L.2.2.2.2.2.1)
  cases h5
  obtain⟨x6,h6,g6⟩:=X6 Tryz.underlying3 (L.2.2.2.2.2.2.1)
  cases h6
  obtain⟨x7,h7,g7⟩:=X6 Tryz.underlying3 (L.2.2.2.2.2.2.2.1)
  cases h7
  exact⟨x0,x1,x2,x3,x4,x5,x6,x7,rfl,g0,g1,g2,g3,g4,g5,g6,g7⟩
abbrev lay:=Rows.shotSaysRow.laid
theorem tabs {W:World}(hL:laidMetH Tryz.prog lay W):VF (Nf W):=by
 rw [MakeChecks.laidMetH_plain _ _ _ (by kernel_rfl)] at hL
 have h3:laidMet Tryz.prog (("internal/strconv.uint64pow10",Lib.tabData .u64 Lib.pow10Tab) :: lay.drop 3) W:=hL.tail.tail
 have hT:=Lib.tabIs_of_head (g:=4) (n:=20) (by kernel_rfl) (t:=258) (by kernel_rfl) (e:=233) (by kernel_rfl) (by kernel_rfl) (by kernel_rfl) (by kernel_rfl) h3
 intro w hs
 exact Qod hT hs
theorem star: "*"++ "errors.errorString"= "*errors.errorString":=by decide
theorem rowE (u:TypeId)(h:Tryz.prog.typeName? 3 u=some "*errors.errorString"):u=269:=
 typeName_ptr_named (nm:= "errors.errorString") (by rw [star];kernel_rfl) (by kernel_rfl) (by decide) u (by rw [star];exact h)
theorem errs {W:World}(hL:laidMetH Tryz.prog lay W):Qbt (Nf W):=by
 rw [MakeChecks.laidMetH_plain _ _ _ (by kernel_rfl)] at hL
 have h4:laidMet Tryz.prog (("strconv.ErrRange",_) :: ("strconv.ErrSyntax",_) :: lay.drop 6) W:=hL.tail.tail.tail.tail
 obtain⟨a0,s0,hv0,_⟩:=laid_sentinel (g:=3) (ti:=33) h4 (by kernel_rfl) (by kernel_rfl) Tryz.underlying33 rowE Tryz.underlying269 Tryz.underlying271 rfl rfl Tryz.underlying9 (by kernel_rfl) (by kernel_rfl)
 obtain⟨a1,s1,hv1,_⟩:=laid_sentinel (g:=2) (ti:=33) h4.tail (by kernel_rfl) (by kernel_rfl) Tryz.underlying33 rowE Tryz.underlying269 Tryz.underlying271 rfl rfl Tryz.underlying9 (by kernel_rfl) (by kernel_rfl)
 exact⟨⟨_,_,fun w hs=>QeX hv1 hs⟩,⟨_,_,fun w hs=>QeX hv0 hs⟩⟩
theorem names {W:World}(hL:laidMetH Tryz.prog lay W):QgF (Nf W):=by
 have T:=tabs hL
 have E:=errs hL
 rw [MakeChecks.laidMetH_plain _ _ _ (by kernel_rfl)] at hL
 have h6:laidMet Tryz.prog (("penstock/query.fields",_) :: ("penstock/query.aggs",_) :: lay.drop 8) W:=hL.tail.tail.tail.tail.tail.tail
 exact⟨T,E,QeV (texts:=Q5) (g:=9) (t:=75) (e:=9) h6 (by kernel_rfl) (by kernel_rfl) (by kernel_rfl) (by kernel_rfl) (by kernel_rfl) (by decide),QeV (texts:=QkF) (g:=0) (t:=75) (e:=9) h6.tail (by kernel_rfl) (by kernel_rfl) (by kernel_rfl) (by kernel_rfl) (by kernel_rfl) (by decide)⟩
theorem lens {W:World}(hsh:W.ShapedOpen Tryz.prog):Qfp (Nf W):=by
 obtain⟨m,hm⟩:=Tryz.laysM146.s1_3 W hsh
 exact⟨m,Qoo hm⟩
theorem door_met (os:Os)(args:Array Value):laidMetH Tryz.prog lay ((World.laidAll Tryz.prog os lay).forCall (fun _ _=>0) ⟨#[],args,[]⟩).memory:=by
 rw [MakeChecks.laidMetH_plain _ _ _ (by kernel_rfl)]
 exact laidMet_laidAll _ (by kernel_rfl) (by kernel_rfl)
set_option maxRecDepth 100000 in
theorem lifted (os:Os)(started:os.Started)(H:Type)(enc:TypeId × Value→H) :
  ReturnsInHanded {} Tryz.checked os 3 .any (fun w args=>(Rows.shotSaysSpec.pre enc Tryz.prog Tryz.f3 Rows.shotSaysRow.domain false w args∧laidMetH Tryz.prog lay w)∧sizedMet enc Tryz.prog Tryz.f3 (OpenSpec.ofChange Rows.shotSaysSpec) false w args) (Rows.shotSaysSpec.post enc Tryz.prog Tryz.f3 false true false false):=by
 refine Qls (C:=Tryz.checked) (X:=fun w _=>laidMetH Tryz.prog lay w) (fun _ _ _ hh h=>h.of_heap hh) own started (by kernel_rfl) Tryz.func3
  (ChangeSpec.witness_shaped (enc:=enc) (C:=Tryz.checked) (os:=os) (X:=fun w _=>laidMetH Tryz.prog lay w) false (World.laidAll Tryz.prog os lay) #[.string ⟨#[]⟩,.int .i64 0,.slice none 0 0,.slice none 0 0,.string ⟨#[]⟩] 8 (World.laidAll_os _ _ _) (World.shaped_of_ZipB (by kernel_rfl) (by kernel_rfl)) (by kernel_rfl) (by kernel_rfl) (by kernel_rfl) (door_met os _)) ?_
 intro W base args ds gs before hval0 hW hcnd hL hsh
 have T:=tabs hL
 have TM:=lens hsh
 have E:=errs hL
 have TQ:=names hL
 have hval:∀(j:Nat) t v,Tryz.f3.params[j]?=some t→args[j]?=some v→Value.okWide Tryz.prog W .any base t v:=hval0
 have hW':=hW
 obtain⟨p,q,hA0,hV,rfl,hfz,hnd⟩:=hW
 have hA:DataW.TrodAll enc Tryz.prog W 0 (fun _=>true) true Tryz.f3.params.toList args.toList ds p:=hA0
 rw [Tryz.params3] at hA hval
 obtain⟨v0,vs0,d0,ds0,p0,q0,hargs,rfl,rfl,h0,r0⟩:=trodAll_cons hA
 obtain⟨v1,vs1,d1,ds1,p1,q1,rfl,rfl,rfl,h1,r1⟩:=trodAll_cons r0
 obtain⟨v2,vs2,d2,ds2,p2,q2,rfl,rfl,rfl,h2,r2⟩:=trodAll_cons r1
 obtain⟨v3,vs3,d3,ds3,p3,q3,rfl,rfl,rfl,h3,r3⟩:=trodAll_cons r2
 obtain⟨v4,vs4,d4,ds4,p4,q4,rfl,rfl,rfl,h4,r4⟩:=trodAll_cons r3
 obtain⟨rfl,rfl,rfl⟩:=trodAll_nil r4
 obtain rfl:args=#[v0,v1,v2,v3,v4]:=by cases args;simp_all
 obtain⟨rfl,rfl⟩:=trodVars_none hV
 obtain⟨s0,rfl⟩:=okWide_string Tryz.underlying9 (hval 0 9 v0 rfl rfl)
 obtain⟨b0,e0,_,z0⟩:=QcQ QbZ Tryz.underlying9 (VL (Sm:=fun _=>True) h0 trivial)
 cases e0
 obtain⟨a1,rfl⟩:=okWide_int Tryz.underlying3 (hval 1 3 v1 rfl rfl)
 obtain⟨b1,e1,ga1⟩:=X6 Tryz.underlying3 (VL (Sm:=fun _=>True) h1 trivial)
 cases e1
 obtain⟨w1,w2,w3,rfl⟩:=okWide_slice (e:=46) (by kernel_rfl) (hval 2 22 v2 rfl rfl)
 obtain⟨p2,n2,c2,l2,e2,S2,hc2,hm2,_,g2⟩:=QeZ (enc:=QlJ) (sz:=8) (good:=fun y=>True) QbZ (e:=46) (by kernel_rfl) (by kernel_rfl) (by decide) (fun _=>rfl)
  (fun cs L=>by
   have hf:=Qb4 QbZ 4 (by kernel_rfl) L
   obtain⟨x0,x1,x2,x3,x4,x5,x6,x7,hy,hg⟩:=open0 hf
   exact⟨(x0,(x1,(x2,x3),(x4,x5),(x6,x7))),hy,trivial⟩) (VL (Sm:=fun _=>True) h2 trivial)
 cases e2
 obtain⟨w1,w2,w3,rfl⟩:=okWide_slice (e:=46) (by kernel_rfl) (hval 3 22 v3 rfl rfl)
 obtain⟨p3,n3,c3,l3,e3,S3,hc3,hm3,_,g3⟩:=QeZ (enc:=QlJ) (sz:=8) (good:=fun y=>True) QbZ (e:=46) (by kernel_rfl) (by kernel_rfl) (by decide) (fun _=>rfl)
  (fun cs L=>by
   have hf:=Qb4 QbZ 4 (by kernel_rfl) L
   obtain⟨x0,x1,x2,x3,x4,x5,x6,x7,hy,hg⟩:=open0 hf
   exact⟨(x0,(x1,(x2,x3),(x4,x5),(x6,x7))),hy,trivial⟩) (VL (Sm:=fun _=>True) h3 trivial)
 cases e3
 obtain⟨s4,rfl⟩:=okWide_string Tryz.underlying9 (hval 4 9 v4 rfl rfl)
 obtain⟨b4,e4,_,z4⟩:=QcQ QbZ Tryz.underlying9 (VL (Sm:=fun _=>True) h4 trivial)
 cases e4
 refine(QlQ (QcW (s:=s0.data.toList) (t:=s4.data.toList) S2 S3 TQ TM)).mono fun e W' ⟨he,hg⟩=>?_
 subst he
 exact⟨_,rfl,Qm2 big hW' hg (by kernel_rfl) (tb:=4) (by kernel_rfl) (by kernel_rfl) rfl⟩
theorem over:Rows.shotSaysRow.holds Tryz.pinned (OpenSpec.ofChange Rows.shotSaysSpec):=
 OpenClaim.holds_of_wide 3 Tryz.f3 rfl rfl rfl rfl rfl rfl rfl ⟨rfl,rfl,rfl,rfl,rfl⟩ rfl rfl rfl rfl rfl (by kernel_rfl) Tryz.func3 (by kernel_rfl)
  (of_decide_eq_true (by kernel_rfl)) (by unfold Func.isWrapper;first|(rw [if_pos (by decide +kernel)];kernel_rfl)|(rw [if_neg (by decide +kernel)];exact⟨rfl,rfl⟩))
  (fun os started H enc _=>lifted os started H enc)
theorem proved:Rows.ShotSaysCardSaid:=
 Claim7.holds_tied_plain_at .later [] _ true _ true
  over (fun _ h=>by cases h) (by kernel_rfl) (fun _ h=>by cases h) shotSays_row_tie rfl ⟨rfl,rfl⟩ (by kernel_rfl) rfl
  (fun f fn hf hfn=>by
   obtain rfl:f=3:=Option.some.inj ((show Tryz.prog.funcNamed "penstock/penstocklaw.ShotSays"=some 3 by kernel_rfl).symm.trans hf) |>.symm
   obtain rfl:fn=Tryz.f3:=(Option.some.inj (Tryz.func3.symm.trans hfn)).symm
   exact⟨by kernel_rfl,fun j t ht=>by
    rw [Tryz.params3] at ht
    have hm:t ∈ [9,3,22,22,9]:=by simpa using Array.mem_of_getElem? ht
    have hall:([9,3,22,22,9].all fun u=>!Tryz.prog.wantsStandIn u)=true:=by kernel_rfl
    exact(show Tryz.prog.wantsStandIn t=false by simpa using List.all_eq_true.1 hall t hm)⟩)
  (by kernel_rfl)
end Go.Proofs.YtgmplfdecikgoaaGreatDoor.shotSays
