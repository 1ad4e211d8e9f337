/-
  The statement that the last part names, proved; and all that it stands on that is not in the parts ahead. Conditions: those stated at each.
-/
import Derived.SizedLaws
import Derived.Handed
import Derived.Test.YthicpjafcpfjoaaGreatDoorRows
import Derived.Test.YthicpjafcpfjoaaGreatDoorCards
import Derived.Test.YthicpjafcpfjoaaGreatDoorTie
import Derived.WalkKit
import Derived.ProofKit
import Derived.OpenShut
import Derived.LaidMore
import Derived.Stop.Joined
import Derived.Stop.LaidErr
import Derived.SevenTiedAt
import Derived.Lay
import Derived.Test.YthicpjafcpfjoaaGreatDoorSy5
set_option linter.unusedVariables false
set_option maxRecDepth 100000
namespace Go.Proofs.YthicpjafcpfjoaaGreatDoor
open Go Go.Vc
theorem GH {c:UInt8}:ZD c=97↔isL c=true:=by
 unfold ZD;cases isL c<;>cases Wu c<;>cases isS c<;>simp
theorem Qac {c:UInt8}:ZD c=48↔isL c=false/\Wu c=true:=by
 unfold ZD;cases isL c<;>cases Wu c<;>cases isS c<;>simp
theorem Qmc {c:UInt8}:ZD c=40↔isL c=false/\Wu c=false/\isS c=true:=by
 unfold ZD;cases isL c<;>cases Wu c<;>cases isS c<;>simp
theorem QmL {c:UInt8}:ZD c=32↔isL c=false/\Wu c=false/\isS c=false:=by
 unfold ZD;cases isL c<;>cases Wu c<;>cases isS c<;>simp
theorem QnS {c:UInt8}(h:Wu c=true):isL c=false:=by
 unfold Wu at h;unfold isL;simp at h ⊢;omega
theorem Qkf:(fun c=>ZD c == 97)=isL:=by
 funext c
 cases h:isL c with
 | true=>simp [GH.2 h]
 | false=>simp only [kH,ne_eq];intro h';rw [GH.1 h'] at h;cases h
theorem QmF:(fun c=>ZD c == 48)=Wu:=by
 funext c
 cases h:Wu c with
 | true=>simp [Qac.2 ⟨QnS h,h⟩]
 | false=>simp only [kH,ne_eq];intro h';rw [(Qac.1 h').2] at h;cases h
theorem Qpw (c:UInt8):(decide (((c.toNat:Nat):Int)>=97)&&decide (((c.toNat:Nat):Int)<=122))=isL c:=by
 unfold isL;congr 1<;>exact d9.2 (by omega)
theorem Qnu (c:UInt8):(decide (((c.toNat:Nat):Int)>=48)&&decide (((c.toNat:Nat):Int)<=57))=Wu c:=by
 unfold Wu;congr 1<;>exact d9.2 (by omega)
theorem Nl (c d:UInt8):decide (((c.toNat:Nat):Int)=((d.toNat:Nat):Int))=(c == d):=by
 by_cases h:c=d
 ·subst h;simp
 ·have:¬((c.toNat:Nat):Int)=(d.toNat:Nat):=fun e=>h (Qgo.1 e)
  rw [cE this];symm
  simpa using h
theorem QlO {l:LuT}{i:Nat}(h:i+1<l.length):(l.drop i).take 2=[l.getD i 0,l.getD (i+1) 0]:=by
 rw [Mk (by omega),Mk (n:=i+1) h]
 rfl
theorem QhT {l:LuT}{h:Hp}{R:RtT}(hK:∀ a n c h',Qg h h' 9 1 a n c ((Zo l).1.flatMap YF)->R (Qe [vsl a n c,vi (Zo l).2]) h') :
  Qa Pg 90 [vs (bs l)] h R:=by
 refine Qha ?_
 rw [Zp];refine⟨fun e=>?_,fun e=>?_⟩
 ·have:Zo l=([],2):=by unfold Zo;rw [bH (by simp at e;omega)]
  rw [this] at hK;exact hK none 0 0 h (Qg.nil (Hp.le_refl h) _ _)
 have hl:l.length<=240:=by simp at e;omega
 have hw:Zo l=JI l (l.length+1) 0 []:=by unfold Zo;rw [bE (by omega)]
 refine⟨fun vs hh=>∃(k i:Nat) (acc:List (LuT)) (a:OaT) (n c:Nat),vs=[vsl a n c,vi i]/\l.length<i+k/\i<=l.length/\JI l k i acc=Zo l/\Qg h hh 9 1 a n c (acc.flatMap YF)/\acc.length<=80,
  fun vs hh=>l.length-(Qm vs 1).toNat,⟨l.length+1,0,[],none,0,0,rfl,by omega,by omega,hw.symm,Qg.nil (Hp.le_refl h) _ _,by simp⟩,?_⟩
 rintro vs hh ⟨k,i,acc,a,n,c,rfl,hk,hi,hf,O,hacc⟩;have hn:n=acc.length:=(O.slp ZM (by decide)).1
 refine⟨a,n,c,i,rfl,fun e=>?_,fun e=>?_⟩
 ·have hlt:i<l.length:=by simpa using e
  obtain⟨k,rfl⟩:∃ k',k=k'+1:=⟨k-1,by omega⟩
  rw [JI,bE (by omega)] at hf
  refine⟨_,YW (by kernel_rfl) (by omega) (by omega),?_⟩
  rw [bG];generalize hc0:l.getD i 0=c0 at *
  have h32:decide (((c0.toNat:Nat):Int)=32)=(c0 == 32):=Nl c0 32;rw [h32];refine⟨fun e=>?_,fun e=>?_⟩
  ·rw [bH (by simpa using e)] at hf
   exact⟨_,iW,⟨k,i+1,acc,a,n,c,rfl,by omega,by omega,hf,O,hacc⟩,by simp [Qm];omega⟩
  rw [bE (by simpa using e)] at hf
  have gidx:∀{h':Hp} (m:Nat),m<l.length->Rd Pg (Instr.index 9 (vs (bs l)) (vi (m:Nat))) h' (vk .u8 ((l.getD m 0).toNat:Nat)):=by
   intro h' m hm;have:=YW (P:=Pg) (h:=h') (t:=9) (by kernel_rfl) (l:=l) (i:=(m:Nat)) (by omega) (by omega)
   rwa [bG] at this
  have g1:=Qln l i;have g2:=Qlv hlt;refine⟨fun vs h'=>h'=hh/\∃ m:Nat,vs=[vi m]/\i<=m/\m<=l.length/\m+US isL (l.drop m)=i+US isL (l.drop i),fun vs hh=>l.length-(Qm vs 0).toNat,⟨rfl,i,rfl,cJ _,hi,rfl⟩,?_⟩
  rintro vs hh2 ⟨rfl,m,rfl,him,hml,hrun⟩; -- what is read at m
  refine⟨m,rfl,((l.getD m 0).toNat:Nat),fun e=>gidx m (by have:=bC e;omega),((l.getD m 0).toNat:Nat),fun e=>gidx m (by
   by_cases q:m<l.length
   ·exact q
   ·have:decide (((m:Nat):Int)<(l.length:Nat))=false:=cE (by omega)
    rw [this] at e;simp at e),?_⟩
  have hcond:(bif (bif (decide (((m:Nat):Int)<(l.length:Nat))) then(decide ((((l.getD m 0).toNat:Nat):Int)>=97)) else false) then(decide ((((l.getD m 0).toNat:Nat):Int)<=122)) else false)=(decide (m<l.length)&&isL (l.getD m 0)):=by
   rw [<-Qpw];by_cases q:m<l.length
   ·rw [cC (show ((m:Nat):Int)<(l.length:Nat) by omega),cC q,dH,mZ,Bool.and_eq_decide,bT]
    by_cases q2:((l.getD m 0).toNat:Int)>=97<;>by_cases q3:((l.getD m 0).toNat:Int)<=122<;>simp only [cC,cE,q2,q3,pM,jS,mT,qE,mC,kI,false_and,and_false,decide_true,decide_false,jE]
   ·rw [cE (show ¬((m:Nat):Int)<(l.length:Nat) by omega),cE q]
    rfl
  rw [hcond];refine⟨fun e=>?_,fun e=>?_⟩
  ·have hm:m<l.length/\isL (l.getD m 0)=true:=by rw [cY,gR] at e;exact e
   rw [GM hm.1 hm.2] at hrun;exact⟨_,iW,⟨rfl,m+1,rfl,by omega,by omega,by omega⟩,by simp [Qm];omega⟩
  have hrun0:US isL (l.drop m)=0:=Mo fun q=>by rw [cC q,mZ] at e;exact e
  rw [hrun0] at hrun;clear hcond e;intro J37; -- the end, where the word's end is known
  have tail:∀ J59:Int->Prop,(J59=fun(x60:Int)=>(((decide ((x60:Int)=(i:Nat)))=true->R (Qe [(vsl none 0 0),(vi 4)]) hh2)/\((decide ((x60:Int)=(i:Nat)))=false->(∃(s62:ByteArray),(Rd Pg (Instr.sliceAt 9 (vs (bs l)) (some (vi (i:Nat))) (some (vi x60)) none) hh2 (vs s62))/\(∀(b63:Nat),hh2 b63=none->let h64:Hp:=Hp.set hh2 b63 (Qb [(vs s62)] 9);(Qh Pg (Builtin.append_ #[162,162] 162 #[(vsl a n c),(vsl (some (⟨b63,0,none⟩:Addr)) 1 1)]) h64 fun v65 h66=>∃(a67:OaT) (n67 c67:Nat),v65=(vsl a67 n67 c67)/\(((decide ((((n67:Nat):Int):Int)>80))=true->R (Qe [(vsl none 0 0),(vi 2)]) h66)/\((decide ((((n67:Nat):Int):Int)>80))=false->((∃(k i:Nat) (acc:List (LuT)) (a:OaT) (n c:Nat),[(vsl a67 n67 c67),(vi x60)]=[vsl a n c,vi i]/\l.length<i+k/\i<=l.length/\JI l k i acc=Zo l/\Qg h h66 9 1 a n c (acc.flatMap YF)/\acc.length<=80)/\l.length-(Qm [(vsl a67 n67 c67),(vi x60)] 1).toNat<l.length-(Qm [vsl a n c,vi (i:Nat)] 1).toNat))))))))) ->
    (ZD c0=32->J59 ((i:Nat):Int))/\(ZD c0≠32->J59 ((Ka l i:Nat):Int)):=by
   rintro J59 rfl;refine⟨fun hk32=>⟨fun _=>?_,fun e=>by simp at e⟩,fun hk32=>⟨fun e=>?_,fun _=>?_⟩⟩
   ·rw [bH hk32] at hf;rw [<-hf] at hK;exact hK none 0 0 hh2 (Qg.nil O.le _ _)
   ·have:=bC e;omega
   ·rw [bE hk32] at hf;refine⟨_,Qez (by kernel_rfl) (by omega) (by omega) (by omega),?_⟩
    rw [bG,bG];intro b hb h24;refine Qg.append QoB (Qg.set hb _ O) (Qf.new _ _ [vs (bs ((l.drop i).take (Ka l i-i)))] _) (m:=1) rfl (by simp [Value.oneCell']) (by omega) (by omega) fun a' c' h' O' _ _=>⟨_,_,_,rfl,fun e=>?_,fun e=>?_⟩
    ·rw [bH (by simp at e;omega)] at hf
     rw [<-hf] at hK;exact hK none 0 0 h' (Qg.nil O'.le _ _)
    ·have h80:¬ acc.length+1>80:=by simp at e;omega
     rw [bE h80] at hf;refine⟨⟨k,Ka l i,acc++[(l.drop i).take (Ka l i-i)],a',_,c',rfl,by omega,g2,hf,?_,by simp;omega⟩,by simp [Qm];omega⟩
     rw [cX];exact O'
  have big:∀ m':Nat,i<m'->m'=Ka l i->ZD c0≠32->J37 (m':Nat) hh2:=by
   intro m' h1 h2 h3;have hd:decide (((m':Nat):Int)=(i:Nat))=false:=cE (by omega)
   refine⟨0,fun e=>by simp [hd] at e,0,fun e=>by simp [hd] at e,bs [],fun e=>by simp [hd] at e,false,fun e=>by simp [hd] at e,0,fun e=>by simp [hd] at e,bs [],fun e=>by simp [hd] at e,false,fun e=>by simp [hd] at e,0,fun e=>by simp [hd] at e,bs [],fun e=>by simp [hd] at e,false,fun e=>by simp [hd] at e,?_⟩
   intro J54;refine⟨fun e=>by simp [hd] at e,fun _=>?_⟩
   refine⟨fun e=>by simp [hd] at e,fun _=>?_⟩
   rw [h2];exact(tail _ rfl).2 h3
  have small:isL c0=false->Wu c0=false->J37 (i:Nat) hh2:=by
   intro hL hD;have hd:decide (((i:Nat):Int)=(i:Nat))=true:=cC rfl;have e1:((i:Nat):Int)+1=((i+1:Nat):Int):=by omega
   have e2:((i:Nat):Int)+2=((i+2:Nat):Int):=by omega
   have cut:∀{b:Prop},(b->i+1<l.length)->b->Rd Pg (Instr.sliceAt 9 (vs (bs l)) (some (vi (i:Nat))) (some (vi ((i+2:Nat):Int))) none) hh2 (vs (bs [c0,l.getD (i+1) 0])):=by
    intro b hb hb';have q:=hb hb';have:=Qez (P:=Pg) (h:=hh2) (t:=9) (by kernel_rfl) (l:=l) (i:=(i:Nat)) (j:=((i+2:Nat):Int)) (by omega) (by omega) (by omega)
    rw [bG,bG,show i+2-i=2 by omega,QlO q,hc0] at this
    exact this
   have lt:∀{e:Bool},(bif decide (((i:Nat):Int)=(i:Nat)) then decide (((i+1:Nat):Int)<(l.length:Nat)) else false)=true->i+1<l.length:=by intro _ e;rw [hd,dH] at e;have:=bC e;omega
   have w2:IsW ((i+2:Nat):Int) (((i:Nat):Int)+2):=by rw [e2];exact iW
   refine⟨((i+1:Nat):Int),fun _=>by rw [e1];exact iW,((i+2:Nat):Int),fun _=>w2,_,cut (lt (e:=true)),_,fun _=>QH (b:=[60,61]),((i+2:Nat):Int),fun _=>w2,_,cut (fun e=>lt (e:=true) e.1),_,fun _=>QH (b:=[62,61]),
    ((i+2:Nat):Int),fun _=>w2,_,cut (fun e=>lt (e:=true) e.1),_,fun _=>QH (b:=[60,62]),?_⟩
   intro J54;have hlen:decide (((i+1:Nat):Int)<(l.length:Nat))=decide (i+1<l.length):=d9.2 (by omega)
   rw [hd,dH,hlen];have d40:decide (((c0.toNat:Nat):Int)=40)=(c0 == 40):=Nl c0 40;have d41:decide (((c0.toNat:Nat):Int)=41)=(c0 == 41):=Nl c0 41;have d44:decide (((c0.toNat:Nat):Int)=44)=(c0 == 44):=Nl c0 44;have d42:decide (((c0.toNat:Nat):Int)=42)=(c0 == 42):=Nl c0 42;have d43:decide (((c0.toNat:Nat):Int)=43)=(c0 == 43):=Nl c0 43;have d45:decide (((c0.toNat:Nat):Int)=45)=(c0 == 45):=Nl c0 45;have d60:decide (((c0.toNat:Nat):Int)=60)=(c0 == 60):=Nl c0 60;have d62:decide (((c0.toNat:Nat):Int)=62)=(c0 == 62):=Nl c0 62;have d61:decide (((c0.toNat:Nat):Int)=61)=(c0 == 61):=Nl c0 61;have hsign:(bif (bif (bif (bif (bif (bif (bif (bif (c0 == 40) then true else(c0 == 41)) then true else(c0 == 44)) then true else(c0 == 42)) then true else(c0 == 43)) then true else(c0 == 45)) then true else(c0 == 60)) then true else(c0 == 62)) then true else(c0 == 61))=isS c0:=by
    unfold isS;cases c0 == 40<;>cases c0 == 41<;>cases c0 == 44<;>cases c0 == 42<;>cases c0 == 43<;>cases c0 == 45<;>cases c0 == 60<;>cases c0 == 62<;>cases c0 == 61<;>rfl
   by_cases hS:isS c0=true
   ·have hk40:ZD c0=40:=Qmc.2 ⟨hL,hD,hS⟩;have hne:ZD c0≠32:=by omega
    refine⟨fun e=>?_,fun e=>?_⟩
    ·have he:Ka l i=i+2:=by
      unfold Ka;rw [hc0,bH hk40,bH ?_]
      by_cases q:i+1<l.length
      ·refine⟨q,?_⟩
       generalize l.getD (i+1) 0=c1 at e ⊢;by_cases q1:c0=60<;>by_cases q2:c1=61<;>by_cases q3:c1=62<;>by_cases q4:c0=62<;>simp [q,q1,q2,q3,q4] at e ⊢
      ·simp [q] at e
     refine⟨((i+2:Nat):Int),w2,?_⟩
     have hd2:decide (((i+2:Nat):Int)=(i:Nat))=false:=cE (by omega)
     refine⟨fun e=>absurd e (by rw [hd2,d6];simp),fun _=>?_⟩
     have:=(tail _ rfl).2 hne;rw [he] at this;exact this
    ·have he:Ka l i=i+1:=by
      unfold Ka;rw [hc0,bH hk40,bE ?_]
      rintro⟨q,q0⟩;generalize l.getD (i+1) 0=c1 at e q0;by_cases q1:c0=60<;>by_cases q2:c1=61<;>by_cases q3:c1=62<;>by_cases q4:c0=62<;>simp [q,q1,q2,q3,q4] at e q0
     refine⟨fun _=>⟨((i+1:Nat):Int),by rw [e1];exact iW,?_⟩,fun e=>?_⟩
     ·have:=(tail _ rfl).2 hne;rw [he] at this;exact this
     ·rw [hd,dH,d40,d41,d44,d42,d43,d45,d60,d62,d61,hsign,hS] at e;cases e
   ·have hS':isS c0=false:=by simpa using hS
    have hk32:ZD c0=32:=QmL.2 ⟨hL,hD,hS'⟩;refine⟨fun e=>?_,fun e=>?_⟩
    ·exfalso;have h60:¬ c0=60:=fun h=>by rw [h] at hS';revert hS';decide
     have h62:¬ c0=62:=fun h=>by rw [h] at hS';revert hS';decide
     simp [h60,h62] at e
    ·refine⟨fun e=>?_,fun e=>(tail _ rfl).1 hk32⟩
     rw [hd,dH,d40,d41,d44,d42,d43,d45,d60,d62,d61,hsign,hS'] at e;cases e
  -- letters, digits, or neither
  by_cases hL:isL c0=true
  ·have hk97:ZD c0=97:=GH.2 hL;have he:Ka l i=i+US isL (l.drop i):=by
    unfold Ka;rw [hc0,hk97,bE (by decide),Qkf,GM hlt (by rw [hc0];exact hL)]
    omega
   have hme:m=Ka l i:=by omega
   have hd:decide (((m:Nat):Int)=(i:Nat))=false:=cE (by omega)
   refine⟨fun e=>?_,fun _=>big m (by omega) hme (by omega)⟩
   rw [hd] at e;cases e
  ·have hL':isL c0=false:=by simpa using hL
   have hr0:US isL (l.drop i)=0:=Mo fun _=>by rw [hc0];exact hL'
   have hmi:m=i:=by omega
   subst hmi;have hd:decide (((m:Nat):Int)=(m:Nat))=true:=cC rfl;refine⟨fun _=>?_,fun e=>by rw [hd] at e;cases e⟩
   refine⟨fun vs h'=>h'=hh2/\∃ d:Nat,vs=[vi d]/\m<=d/\d<=l.length/\d+US Wu (l.drop d)=m+US Wu (l.drop m),fun vs hh=>l.length-(Qm vs 0).toNat,⟨rfl,m,rfl,cJ _,hi,rfl⟩,?_⟩
   rintro vs hh3 ⟨rfl,d,rfl,hmd,hdl,hrund⟩;refine⟨d,rfl,((l.getD d 0).toNat:Nat),fun e=>gidx d (by have:=bC e;omega),((l.getD d 0).toNat:Nat),fun e=>gidx d (by
    by_cases q:d<l.length
    ·exact q
    ·have:decide (((d:Nat):Int)<(l.length:Nat))=false:=cE (by omega)
     rw [this] at e;simp at e),?_⟩
   have hcond:(bif (bif (decide (((d:Nat):Int)<(l.length:Nat))) then(decide ((((l.getD d 0).toNat:Nat):Int)>=48)) else false) then(decide ((((l.getD d 0).toNat:Nat):Int)<=57)) else false)=(decide (d<l.length)&&Wu (l.getD d 0)):=by
    rw [<-Qnu];by_cases q:d<l.length
    ·rw [cC (show ((d:Nat):Int)<(l.length:Nat) by omega),cC q,dH,mZ,Bool.and_eq_decide,bT]
     by_cases q2:((l.getD d 0).toNat:Int)>=48<;>by_cases q3:((l.getD d 0).toNat:Int)<=57<;>simp only [cC,cE,q2,q3,pM,jS,mT,qE,mC,kI,false_and,and_false,decide_true,decide_false,jE]
    ·rw [cE (show ¬((d:Nat):Int)<(l.length:Nat) by omega),cE q]
     rfl
   rw [hcond];refine⟨fun e=>?_,fun e=>?_⟩
   ·have hm:d<l.length/\Wu (l.getD d 0)=true:=by rw [cY,gR] at e;exact e
    rw [GM hm.1 hm.2] at hrund;exact⟨_,iW,⟨rfl,d+1,rfl,by omega,by omega,by omega⟩,by simp [Qm];omega⟩
   have hrund0:US Wu (l.drop d)=0:=Mo fun q=>by rw [cC q,mZ] at e;exact e
   rw [hrund0] at hrund;by_cases hD:Wu c0=true
   ·have hk48:ZD c0=48:=Qac.2 ⟨hL',hD⟩;have he:Ka l m=m+US Wu (l.drop m):=by
     unfold Ka;rw [hc0,hk48,bE (by decide),QmF,GM hlt (by rw [hc0];exact hD)]
     omega
    exact big d (by omega) (by omega) (by omega)
   ·have hD':Wu c0=false:=by simpa using hD
    have hr1:US Wu (l.drop m)=0:=Mo fun _=>by rw [hc0];exact hD'
    have hdm:d=m:=by omega
    subst hdm;exact small hL' hD'
 ·have hge:i=l.length:=by simp at e;omega
  have:JI l k i acc=(acc,0):=by
   cases k with
   | zero=>rfl
   | succ k=>rw [JI,bH (by omega)]
  rw [this] at hf;rw [<-hf] at hK;exact hK a n c hh O
open Go.Txt
def YT:List Wd:=[QW,UF,UO,Ut]
def QhK (w:Wd):Int:=if w=QW then 2 else Qc0 w
theorem QpW {i:Nat}(hi:i<4):YT.getD i [] ∈ YT/\YT.getD i []≠[]/\QhK (YT.getD i [])=(i:Int)+2:=by
 match i,hi with
 | 0,_=>decide
 | 1,_=>decide
 | 2,_=>decide
 | 3,_=>decide
theorem QpY (h:Hp)(b:Nat){i:Nat}(hi:i<4):(h.set b (Qb [vi 2,vi 3,vi 4,vi 5] 3)).cell b (0+(i:Int).toNat*1)=some (vi ((i:Int)+2)):=by
 match i,hi with
 | 0,_=>exact Qc (Hp.set_same _ _ _) rfl
 | 1,_=>exact Qc (Hp.set_same _ _ _) rfl
 | 2,_=>exact Qc (Hp.set_same _ _ _) rfl
 | 3,_=>exact Qc (Hp.set_same _ _ _) rfl
theorem QY.keep {h0 h h':Hp}{g:Nat}{W:List Wd}{s:RS}(D:QY h0 h g W s)(hb:h' g=h g)(l:h0.le h'):QY h0 h' g W s:=by
 obtain⟨a,c,i,hb',hS,hi,hw⟩:=D.b;exact⟨⟨a,c,i,hb.trans hb',hS,hi,hw⟩,l,D.z,D.f0,D.n,D.w⟩
structure AgW (h0 h:Hp)(g:Nat)(a:OaT)(m c:Nat)(s:RS)(L:List Ag):Prop where
 own:∃ xs,Qg h0 h 153 2 a m c xs
 ne:a≠some ⟨g,0,none⟩
 ok:s.f=0->Qnm (At g) h0 h a c L/\m=L.length
theorem AgW.mut {h0 h h':Hp}{g:Nat}{a:OaT}{m c:Nat}{s:RS}{L:List Ag}(A:AgW h0 h g a m c s L)(hg:h0 g=none)(M:Mut (At g) h (At g) h'):AgW h0 h' g a m c s L:=by
 have hG2:∀ b,At g b->h0 b=none:=fun b e=>by rw [show b=g from e];exact hg
 obtain⟨xs,O⟩:=A.own;refine⟨⟨xs,⟨fun b o hb=>M.keep b o (fun q=>by rw [hG2 b q] at hb;cases hb) (O.le b o hb),O.own.keep fun b o ha hb=>M.keep b o (fun q=>A.ne (by rw [ha,show b=g from q])) hb,O.new⟩⟩,A.ne,fun hf=>⟨(A.ok hf).1.keep hG2 M.keep,(A.ok hf).2⟩⟩
theorem AgW.state {h0 h:Hp}{g:Nat}{a:OaT}{m c:Nat}{s t:RS}{L:List Ag}(A:AgW h0 h g a m c s L)(hh:t.f=0->s.f=0):AgW h0 h g a m c t L:=⟨A.own,A.ne,fun hf=>A.ok (hh hf)⟩
theorem AgW.al {h0 h:Hp}{g:Nat}{a:OaT}{m c:Nat}{s:RS}{L:List Ag}(A:AgW h0 h g a m c s L){b:Nat}(ha:a=some ⟨b,0,none⟩):h b≠none:=by
 obtain⟨xs,O⟩:=A.own;rcases O.own.2 with ⟨q1,_⟩|⟨g',cur,q1,q2,_⟩
 ·rw [q1] at ha;cases ha
 ·rw [q1] at ha;cases ha;rw [q2];simp
theorem Qpp {h0 hB h1:Hp}{g:Nat}{a:OaT}{m c:Nat}{L:List Ag}{W:List Wd}{s:RS}(A:AgW h0 h1 g a m c s L)(D:QY h0 h1 g W s)(hBg:hB g≠none)(hBa:∀ b,a=some ⟨b,0,none⟩->hB b≠none){k:Int}{a2:OaT}{m2 c2:Nat}{l:List Nd}(N:s.f=0->KV hB h1 a2 m2 l)(hL:m<=1000)
  {b:Nat} (hb:h1 b=none) {K:RtT} (hK:∀ a' c' h',AgW h0 h' g a' (m+1) c' s (L++[(k,l)])->QY h0 h' g W s->K (vsl a' (m+1) c') h') :
  Qh Pg (Builtin.append_ #[27,27] 27 #[vsl a m c,vsl (some ⟨b,0,none⟩) 1 1]) (h1.set b (Qb [vi k,vsl a2 m2 c2] 153)) K:=by
 obtain⟨o,ho⟩:∃ o,h1 g=some o:=by
  cases e:h1 g with
  | none=>exact absurd e D.al
  | some o=>exact⟨o,rfl⟩
 by_cases hf:s.f=0
 ·obtain⟨B,hm⟩:=A.ok hf;have N:=N hf;obtain rfl:=N.s.1;subst hm;refine B.app (x:=k) (c2:=c2) Qog (Hp.le_refl h1) (fun b' e=>by rw [show b'=g from e];exact hBg) hBa N.s.2 N.nw ?_ rfl (fun b' e=>by rw [show b'=g from e];exact D.al) (by omega) (by omega) hb fun a' c' h' B' hk=>hK a' c' h' ⟨?_,B'.ne rfl,fun _=>⟨B',by simp⟩⟩ (D.keep ((hk g o ho (B.ne rfl)).trans ho.symm) B'.le0)
  ·intro u hu;have:u=vi k\/u=vsl a2 l.length c2:=by simpa [Nc] using hu
   rcases this with rfl|rfl<;>rfl
  ·have:=B'.own;simpa using this
 ·obtain⟨xs,O⟩:=A.own;have l2:h1.le (h1.set b (Qb [vi k,vsl a2 m2 c2] 153)):=Hp.le_set (Hp.le_refl h1) hb _;refine Qg.append Qog (O.mono l2) (Qf.new _ _ [vi k,vsl a2 m2 c2] _) (m:=1) rfl (by simp [Value.oneCell']) (by omega) (by omega) fun a' c' h' O' k1 k2=>hK a' c' h' ⟨⟨_,O'⟩,fun e=>?_,fun q=>absurd q hf⟩ (D.keep ((k1 g o (l2 g o ho) A.ne).trans ho.symm) O'.le)
  rcases k2 g e with q|q
  ·exact A.ne (q.trans e)
  ·rw [l2 g o ho] at q;cases q
theorem QbH {h0 h h2:Hp}{g:Nat}{W:List Wd}{s:RS}{w:Wd}(hw:w≠[]){d:Int}{J:Int->Hp->Prop}(hJ:∀ h',QY h0 h' g W (Vt w d s).2->Mut (At g) h (At g) h'->J (Vt w d s).1 h')(D:QY h0 h2 g W (s.is [w]).2)(M:Mut (At g) h (At g) h2) :
  (decide ((s.is [w]).1≠[])=true->Qa Pg 95 [vhp g 0,vi 1000] h2 fun v1 h3=>∃(x:Int),v1=vi x/\J x h3)/\(decide ((s.is [w]).1≠[])=false->J d h2):=by
 unfold Vt at hJ;refine⟨fun e=>?_,fun e=>?_⟩
 ·have e:(s.is [w]).1≠[]:=bC e;rw [bE e] at hJ;exact Uy D (by decide) (by decide) fun h3 D3 M3=>⟨_,rfl,hJ h3 D3 (M.trans M3)⟩
 ·have e:(s.is [w]).1=[]:=by simpa using e
  rw [bH e] at hJ;rw [Mf hw e] at D;exact hJ h2 D M
theorem QY.c01 {h0 h:Hp}{g:Nat}{W:List Wd}{s:RS}(D:QY h0 h g W s):∃(a:OaT) (c i:Nat),h.cell g 0=some (vsl a W.length c)/\h.cell g (0+1)=some (vi i)/\(s.f=0->(i<W.length↔s.ws≠[])):=by
 obtain⟨a,c,i,hb,hS,hi,hw⟩:=D.b;refine⟨a,c,i,Qc hb rfl,Qc hb rfl,fun hf=>?_⟩
 rw [hw,bH hf,ne_eq,Wh,dO];omega
theorem QY.put3 {h0 h:Hp}{g:Nat}{W:List Wd}{s:RS}(D:QY h0 h g W s){f:Int}(hf:0<=f){K:HpT}(hK:∀ h' t,t.f=f->QY h0 h' g W t->Mut (At g) h (At g) h'->K h'):h.store g (0+3) [vi f] K:=by
 obtain⟨a,c,i,hb,hS,hi,hw⟩:=D.b;exact QR hb (by simp) (hK _ ⟨if f=0 then W.drop i else [],s.deep,f⟩ rfl ⟨⟨a,c,i,Hp.set_same _ _ _,hS,hi,rfl⟩,Jz D.l D.z _,D.z,hf,D.n,D.w⟩ (WT _ _ _))
theorem QeO:∀(l:List Int),(∀ x ∈ l,0<=x)->0<=Q5 l
 | [],_=>fW _
 | x :: l,h=>by
  rw [Q5];split
  ·exact h x (bS ..)
  ·exact QeO l fun y hy=>h y (bY _ hy)
theorem QjV (q:Qy):0<=UD q:=by
 unfold UD;split
 ·decide
 ·have h1:=QeO (q.aggs.map Xw) (fun x hx=>by
   obtain⟨y,_,rfl⟩:=dI.1 hx;unfold Xw;split
   ·decide
   ·split
    ·decide
    ·exact JW _ _)
  split
  ·exact h1
  ·refine QeO _ fun x hx=>?_
   have h2:x=(if q.wh=[] then 0 else Zs q.wh 2)\/x=(if q.by_=[] then 0 else Zs q.by_ 0)\/x=Ww q:=by simpa using hx
   rcases h2 with rfl|rfl|rfl
   ·split
    ·decide
    ·exact JW _ _
   ·split
    ·decide
    ·exact JW _ _
   ·unfold Ww;split
    ·decide
    ·split<;>decide
theorem QgA:Qmy noQ:=⟨cH _,cH _,(fun a ha=>by cases ha),cH _⟩
def Qly (l:List Value)(i:Nat):Bool:=match l[i]? with|some (.bool x)=>x|_=>false
set_option maxHeartbeats 1000000 in
theorem QgB {l:LuT}{h:Hp}{R:RtT}(hK:∀ a1 n1 c1 a2 n2 c2 a3 n3 c3 h',h.le h'->0<=(ZO l).2->Qmy (ZO l).1->QAt h' (ZO l).1 a1 n1 a2 n2 a3 n3->R (Qe [qV a1 n1 c1 a2 n2 c2 a3 n3 c3 (ZO l).1,vi (ZO l).2]) h'):Qa Pg 40 [vs (bs l)] h R:=by
 refine QhD ?_
 refine QhT fun wa wn wc h2 O=>⟨_,_,_,_,rfl,?_⟩
 have lw:=QaC l;have lf:=Qnq l;have l02:=O.le;unfold ZO at hK;generalize Zo l=WW at *
 obtain⟨W,fw⟩:=WW;simp only at hK lw O lf;refine⟨fun e=>?_,fun e=>?_⟩
 ·have e2:fw≠0:=by have:=bC e;omega
  rw [bH e2] at hK;exact hK none 0 0 none 0 0 none 0 0 h2 l02 (by show 0<=fw;omega) QgA (Qkc h2)
 have e2:¬ fw≠0:=by have:¬ fw>0:=bB e;omega
 rw [bE e2] at hK;clear e e2;have hS:=O.slp ZM (by decide)
 obtain rfl:=hS.1;intro b6 hb6 h7;have l7:h2.le h7:=Hp.le_set (Hp.le_refl h2) hb6 _;have D7:QY h2 h7 b6 W ⟨W,0,0⟩:=⟨⟨wa,wc,0,Hp.set_same _ _ _,hS,cH _,rfl⟩,l7,hb6,fW _,by omega,fun x hx=>dJ (lw.2 x hx) (by decide)⟩
 have F:QI 0 (WB (W.length+1)).o (W.length+1):=(QjK (W.length+1)).1;have kp:=(Qbz (W.length+1)).1;have g0:(⟨W,0,0⟩:RS).good:=fun h=>absurd rfl h
 have S7:SOk (W.length+1) ⟨W,0,0⟩:=⟨g0,jG _,by show W.length<=1000;omega,fW _,by show (0:Int)+(W.length:Int)<=1000000;omega⟩
 have hAll:=Qpx W;unfold Qkj at hK;rw [Qib] at hK;unfold Qpu QbF at hK hAll;generalize (WB (W.length+1)).o=o at *
 have G1:=Zw g0 Wa;refine YA (w:=Wa) D7 (by decide) fun h9 D9 M9=>⟨rfl,?_⟩
 generalize (⟨W,0,0⟩:RS).must Wa=s1 at *
 have S9:=S7.goes G1;have hs1:s1.ws.length<=80:=dJ G1.len lw.1;intro J145; -- the rest, behind what is gathered
 have hRest:∀(L:List Ag) (t:RS) (a:OaT) (m c:Nat) (hE:Hp),AgW h2 hE b6 a m c t L->QY h2 hE b6 W t->SOk (W.length+1) t->KS o ((X7 o s1).2.ws.length+1) [(X7 o s1).1] (X7 o s1).2=(L,t)->L.length<=1000->J145 a m c none 0 0 none 0 0 0 0 hE:=by
  intro L t a m c hE AE DE SE hL hLn;rw [hL] at hK hAll;simp only at hK hAll;have hgE:=DE.al;have G3:=Zw SE.good U2;refine YA (w:=U2) DE (by decide) fun h867 D867 M867=>⟨rfl,?_⟩
  have S867:=SE.goes G3;have G4:=G3.trans (Zw G3.ok Y7);refine YA (w:=Y7) D867 (by decide) fun h869 D869 M869=>⟨rfl,?_⟩
  have ME:=M867.trans M869;have S869:=SE.goes G4;unfold Qqe at hK;generalize (t.must U2).must Y7=t2 at *
  have gi:=Zk S869.good [Kn];have io:=@Mf t2 Kn (by decide)
  refine ZH (w:=Kn) D869 (by decide) fun h871 D871 M871=>⟨_,rfl,?_⟩
  have M871':=ME.trans M871;intro J878;have h878:∀(wh:List Nd) (aw:OaT) (mw cw:Nat) (u:RS) (hX:Hp),Mv Kn o t2=(wh,u)->QY h2 hX b6 W u->SOk (W.length+1) u->YS u t->(u.f=0->KV hE hX aw mw wh)->Qcs wh->Mut (At b6) hE (At b6) hX->J878 aw mw cw hX:=by
   intro wh aw mw cw u hX hw DX SX GX NX Kw MX;rw [hw] at hK;simp only at hK;unfold byQ at hK;have gi:=Zk SX.good [Kq];have io:=@Mf u Kq (by decide)
   refine ZH (w:=Kq) DX (by decide) fun h939 D939 M939=>⟨_,rfl,?_⟩
   have M939':=MX.trans M939;intro J948;have h948:∀(by_:List Nd) (ab:OaT) (mb cb:Nat) (v:RS) (hY:Hp),Mv Kq (fun s=>o (s.must wBy)) u=(by_,v)->QY h2 hY b6 W v->SOk (W.length+1) v->YS v t->(v.f=0->KV hE hY aw mw wh)->(v.f=0->KV hE hY ab mb by_)->Qcs by_->Mut (At b6) hE (At b6) hY->J948 ab mb cb hY:=by
    intro by_ ab mb cb v hY hv DY SY GY Nw Nb Kb MY;rw [hv] at hK;simp only at hK;unfold Qq4 at hK;simp only at hK;have Ga:=Zw SY.good YO;refine YA (w:=YO) DY (by decide) fun h997 D997 M997=>⟨rfl,?_⟩
    have Sa:=SY.goes Ga;generalize v.must YO=v1 at *
    have Gb:=GF Sa.good 1000;refine Uy D997 (by decide) (by decide) fun h999 D999 M999=>⟨_,rfl,?_⟩
    have Sb:=Sa.goes Gb;generalize v1.number 1000=Z at *
    obtain⟨z,v2⟩:=Z;simp -zeta only at hK D999 Sb Gb ⊢;have M2:=(M997.trans M999);refine ZH (w:=QbM) D999 (by decide) fun h1002 D1002 M1002=>⟨_,rfl,?_⟩
    intro J1009;have Gc:=QbI Sb.good QbM z;refine QbH (h:=hY) (d:=z) (by decide) (fun hA DA MA=>?_) D1002 (M2.trans M1002)
    have Sc:=Sb.goes Gc;generalize Vt QbM z v2=Z at *
    obtain⟨sl,v3⟩:=Z;simp -zeta only at hK DA Sc Gc ⊢;unfold J1009;refine ZH (w:=QbB) DA (by decide) fun h1043 D1043 M1043=>⟨_,rfl,?_⟩
    intro J1050;have Gd:=QbI Sc.good QbB 0;refine QbH (h:=hY) (d:=0) (by decide) (fun hB DB MB=>?_) D1043 (MA.trans M1043)
    have Sd:=Sc.goes Gd;generalize Vt QbB 0 v3=Z at *
    obtain⟨d,v4⟩:=Z;simp -zeta only at hK DB Sd Gd ⊢;unfold J1050;refine ZH (w:=Qgc) DB (by decide) fun h1074 D1074 M1074=>⟨_,rfl,?_⟩
    intro J1081;have Ge:=QbI Sd.good Qgc 0;refine QbH (h:=hY) (d:=0) (by decide) (fun hC DC MC=>?_) D1074 (MB.trans M1074)
    have Se:=Sd.goes Ge;generalize Vt Qgc 0 v4=Z at *
    obtain⟨lt,v5⟩:=Z;simp -zeta only at hK DC Se Ge ⊢;unfold J1081;have GZ:YS v5 v:=((((Ga.trans Gb).trans Gc).trans Gd).trans Ge);have GT:YS v5 t:=GY.trans GZ;have MC':=MY.trans MC;obtain⟨qa,qc,qi,hq0,hq1,hqw⟩:=DC.c01;refine⟨_,DC.c3,_,fun _=>hq1,_,_,_,fun _=>hq0,?_⟩
    intro J1100;have h1100:∀(hD:Hp) (y:RS),y.f=(if v5.f=0/\v5.ws≠[] then v5.fail 4 else v5).f->(y.f=0->v5.f=0)->QY h2 hD b6 W y->Mut (At b6) hC (At b6) hD->J1100 hD:=by
     intro hD y hy hy0 DD MD;rw [<-hy] at hK;have MD':=MC'.trans MD;refine⟨_,DD.c3,?_⟩
     intro J1109;have h1109:∀(hF:Hp) (f:Int),0<=f->hF.cell b6 (0+3)=some (vi f)->h.le hF->(f≠0->∀ h',h.le h'->R (Qe [qV none 0 0 none 0 0 none 0 0 noQ,vi f]) h')->(f=0->R (Qe [qV a m c aw mw cw ab mb cb ⟨L,wh,by_,z,sl,d,lt⟩,vi 0]) hF)->J1109 hF:=by
      intro hF f hf hc lh hb hg;refine⟨_,hc,fun e=>⟨_,hc,hc,?_⟩,fun e=>?_⟩
      ·have e:=bC e;exact hb (by omega) hF lh
      ·have e:=bB e;exact hg (by omega)
     clear_value J1109;refine⟨fun e=>?_,fun e=>?_⟩
     ·have e:y.f=0:=bC e;have hv5:=hy0 e;rw [e,bE (fun h=>h rfl)] at hK
      have hvf:v.f=0:=d5 fun q=>q ((GZ.fst q).symm.trans hv5)
      have htf:t.f=0:=d5 fun q=>q ((GT.fst q).symm.trans hv5)
      have AD:=AE.mut hb6 MD';obtain⟨BE,hm⟩:=AD.ok htf;have Nw2:=(Nw hvf).mut hgE (MC.trans MD);have Nb2:=(Nb hvf).mut hgE (MC.trans MD);subst hm;have QE:QAt hD ⟨L,wh,by_,z,sl,d,lt⟩ a L.length aw mw ab mb:=⟨BE.tab,Nw2.s,Nb2.s⟩;have hbig:Qmy ⟨L,wh,by_,z,sl,d,lt⟩:=⟨dJ Kw.1 (by decide),dJ Kb.1 (by decide),fun x hx=>dJ (hAll x hx).1 (by decide),by show L.length<=1000000;omega⟩
      refine QcO (q:=⟨L,wh,by_,z,sl,d,lt⟩) (c1:=c) (c2:=cw) (c3:=cb) QE hbig fun hG lG=>⟨UD ⟨L,wh,by_,z,sl,d,lt⟩,rfl,?_⟩
      refine(DD.le lG).put3 (QjV _) fun hH y2 hy2 DH MH=>?_
      have lh:h.le hH:=Hp.le_trans l02 DH.l;have hc3:=DH.c3;rw [hy2] at hc3;refine h1109 hH _ (QjV _) hc3 lh (fun hf h' l'=>?_) fun hf=>?_
      ·rw [bH hf] at hK;exact hK none 0 0 none 0 0 none 0 0 h' l' (QjV _) QgA (Qkc h')
      ·rw [bE (fun h=>h hf)] at hK
       have M2:=(Mut.of_le lG).trans MH;have AD2:=(AD.mut hb6 M2).ok htf;exact hK _ _ c _ _ cw _ _ cb hH lh (fW _) hbig ⟨AD2.1.tab,(Nw2.mut hgE M2).s,(Nb2.mut hgE M2).s⟩
     ·have e:y.f≠0:=bB e;rw [bH e] at hK;refine h1109 hD y.f DD.f0 DD.c3 (Hp.le_trans l02 DD.l) (fun hf h' l'=>?_) fun hf=>absurd hf e
      exact hK none 0 0 none 0 0 none 0 0 h' l' DD.f0 QgA (Qkc h')
    clear_value J1100;rw [ZP];refine⟨fun e=>?_,fun e=>?_⟩
    ·have e:=bC e;have e2:v5.f=0/\v5.ws≠[]:=⟨e.1,(hqw e.1).1 (by omega)⟩
     refine DC.put3 (f:=4) (by decide) fun hD y hy DD MD=>h1100 hD y ?_ (fun q=>by rw [hy] at q;cases q) DD MD
     rw [bH e2,hy];unfold RS.fail;rw [bH e2.1]
    ·have e:=bB e;refine h1100 hC v5 ?_ id DC (Mut.of_le (Hp.le_refl _))
     rw [bE];rintro⟨q1,q2⟩;exact e ⟨q1,by have:=(hqw q1).2 q2;omega⟩
   clear_value J948;refine⟨fun e=>?_,fun e=>?_⟩
   ·have e:(u.is [Kq]).1≠[]:=bC e;have hop:Mv Kq (fun s=>o (s.must wBy)) u=o ((u.is [Kq]).2.must wBy):=by unfold Mv;rw [bE e]
    rw [hop] at h948;have Su:=SX.goes gi;have Gy:=Zw Su.good wBy;refine YA (w:=wBy) D939 (by decide) fun h942 D942 M942=>⟨rfl,?_⟩
    have S942:=Su.goes Gy;have k2:=kp _ S942.good (gG S942.len);have M942':=M939'.trans M942;refine F D942 S942 fun a m c hY DY NY MY=>⟨_,_,_,rfl,?_⟩
    have Gall:=(gi.trans Gy).trans k2.goes;refine h948 _ _ _ _ _ hY rfl DY (S942.goes k2.goes) (GX.trans Gall) (fun q=>?_) (fun q=>(NY q).base (M942'.up D942.al)) k2.nds (M942'.trans MY)
    have huf:u.f=0:=d5 fun q2=>q2 ((Gall.fst q2).symm.trans q)
    exact(((NX huf).mut hgE M939).mut hgE M942).mut hgE MY
   ·have e:(u.is [Kq]).1=[]:=by simpa using e
    have hop:Mv Kq (fun s=>o (s.must wBy)) u=([],u):=by unfold Mv;rw [bH e]
    rw [io e] at D939;exact h948 [] none 0 0 u h939 hop D939 SX GX (fun q=>(NX q).mut hgE M939) (fun _=>Jv _ _) Qhe M939'
  clear_value J878;refine⟨fun e=>?_,fun e=>?_⟩
  ·have e:(t2.is [Kn]).1≠[]:=bC e;have hop:Mv Kn o t2=o (t2.is [Kn]).2:=by unfold Mv;rw [bE e]
   rw [hop] at h878;have Su:=S869.goes gi;have k2:=kp _ Su.good (gG Su.len);refine F D871 Su fun a m c hX DX NX MX=>⟨_,_,_,rfl,?_⟩
   exact h878 _ _ _ _ _ hX rfl DX (Su.goes k2.goes) ((G4.trans gi).trans k2.goes) (fun q=>(NX q).base (M871'.up D871.al)) k2.nds (M871'.trans MX)
  ·have e:(t2.is [Kn]).1=[]:=by simpa using e
   have hop:Mv Kn o t2=([],t2):=by unfold Mv;rw [bH e]
   rw [io e] at D871;exact h878 [] none 0 0 t2 h871 hop D871 S869 G4 (fun _=>Jv _ _) Qhe M871'
 clear_value J145; -- what is gathered, one behind the other
 refine⟨fun vs' hh=>∃(p:Bool) (k:Nat) (L:List Ag) (t:RS) (a:OaT) (m c:Nat),vs'=[vb p,vsl a m c,vsl none 0 0,vsl none 0 0,vi 0,vi 0,vi 0,vi 0]/\AgW h2 hh b6 a m c t L/\QY h2 hh b6 W t/\SOk (W.length+1) t/\KS o ((X7 o s1).2.ws.length+1) [(X7 o s1).1] (X7 o s1).2=(if p=true then KS o k (L++[(X7 o t).1]) (X7 o t).2 else(L,t))/\(p=true->(X7 o t).2.ws.length<k)/\L.length+t.ws.length<=100+(if p=true then 0 else 1)/\m+t.ws.length<=100+(if p=true then 0 else 1),fun vs' hh=>(if Qly vs' 0=true then 1 else 0)+rrN hh b6,⟨true,_,[],s1,none,0,0,rfl,⟨⟨[],Qg.nil D9.l _ _⟩,(fun e=>by cases e),fun _=>⟨Xg.nil D9.l,rfl⟩⟩,D9,S9,rfl,fun _=>jG _,by show 0+s1.ws.length<=100;omega,by show 0+s1.ws.length<=100;omega⟩,?_⟩
 rintro vs' h14 ⟨p,k,L,t,a,m,c,rfl,A,D,S,hrow,hk,hL,hm⟩;refine⟨_,_,_,_,_,_,_,_,_,_,_,_,_,_,rfl,fun e=>?_,fun e=>?_⟩
 ·rw [e] at hrow hk hm;rw [e] at hL;rw [bH rfl] at hrow hm hL;have hk:=hk rfl;have hrn:=D.rn;have Ga:=Qa0 kp S.good (gG S.len);intro b25 hb25 h26 b27 hb27 h28;have l26:h14.le h26:=Hp.le_set (Hp.le_refl h14) hb25 _;have l28:h26.le h28:=Hp.le_set (Hp.le_refl h26) hb27 _;have l14:=Hp.le_trans l26 l28;have hg:=D.al;have W25:QpE YF h28 b6 (some ⟨b25,0,none⟩) 4 YT:=⟨SlP.le l28 (Qhg h14 b25 YT (by decide)),fun b o q=>by cases q;exact fun q2=>hg (by rw [<-q2];exact hb25)⟩
  have I27:∀{i:Nat},i<4->∀ hh,Mut (At b6) h28 (At b6) hh->hh.cell b27 (0+(i:Int).toNat*1)=some (vi ((i:Int)+2)):=by
   intro i hi hh M;have hne:b27≠b6:=fun q=>hg (by rw [<-q];exact Hp.none_of_le l26 hb27)
   have:=QpY h26 b27 hi;unfold Hp.cell at this ⊢;rw [Hp.set_same] at this;rw [M.keep b27 _ (fun q=>hne q) (Hp.set_same _ _ _)]
   exact this
  have D28:=D.le l14;intro J56; -- one that is gathered
  have h56:∀(x95:Int) (hh:Hp),x95=(if (t.is YT).1=[] then 0 else QhK (t.is YT).1)->QY h2 hh b6 W (t.is YT).2->Mut (At b6) h14 (At b6) hh->J56 x95 none 0 0 hh:=by
   intro x95 hh hx DD MM;have hcw:[QW,UF,UO,Ut]=YT:=rfl;have hagg:X7 o t=(if (t.is YT).1=QW/\((((if (t.is YT).1=[] then(t.is YT).2.fail 4 else(t.is YT).2).must ZR).is [Yt]).1≠[]) then((1,[]),((((if (t.is YT).1=[] then(t.is YT).2.fail 4 else(t.is YT).2).must ZR).is [Yt]).2.must Za)) else((if (t.is YT).1=QW then 2 else Qc0 (t.is YT).1,(o ((if (t.is YT).1=[] then(t.is YT).2.fail 4 else(t.is YT).2).must ZR)).1),(o ((if (t.is YT).1=[] then(t.is YT).2.fail 4 else(t.is YT).2).must ZR)).2.must Za)):=rfl
   have gi:=Zk S.good YT;have hwm:(t.is YT).1 ∈ [[],QW,UF,UO,Ut]:=by
    by_cases q:(t.is YT).1=[]
    ·rw [q];simp
    ·exact bY _ (Qns q)
   generalize t.is YT=B at *
   obtain⟨w,u⟩:=B;simp -zeta only at hx DD hagg gi hwm;have hkind:x95=0↔w=[]:=by
    have h5:w=[]\/w=QW\/w=UF\/w=UO\/w=Ut:=by simpa using hwm
    rw [hx];rcases h5 with rfl|rfl|rfl|rfl|rfl<;>decide
   have hkind2:x95=2↔w=QW:=by
    have h5:w=[]\/w=QW\/w=UF\/w=UO\/w=Ut:=by simpa using hwm
    rw [hx];rcases h5 with rfl|rfl|rfl|rfl|rfl<;>decide
   have hkind3:x95=(if w=QW then 2 else Qc0 w):=by
    have h5:w=[]\/w=QW\/w=UF\/w=UO\/w=Ut:=by simpa using hwm
    rw [hx];rcases h5 with rfl|rfl|rfl|rfl|rfl<;>decide
   clear hx hwm;unfold J56;intro J102;have h102:∀(hA:Hp) (u2:RS),u2=(if w=[] then u.fail 4 else u)->QY h2 hA b6 W u2->YS u2 t->Mut (At b6) h14 (At b6) hA->J102 hA:=by
    intro hA u2 hu DA GA MA;rw [<-hu] at hagg;clear hu;have Sa:=S.goes GA;refine YA (w:=ZR) DA (by decide) fun h105 D105 M105=>⟨rfl,?_⟩
    have G5:=GA.trans (Zw GA.ok ZR);have M105':=MA.trans M105;generalize u2.must ZR=s2 at *
    have S2:=S.goes G5;intro J111; -- behind what it is gathered of
    have fin:∀(x132:Int) (a133:OaT) (m133 c133:Nat) (nl:List Nd) (v:RS) (hB:Hp),X7 o t=((x132,nl),v.must Za)->QY h2 hB b6 W v->YS v t->(v.f=0->KV h14 hB a133 m133 nl)->Mut (At b6) h14 (At b6) hB ->
      Qa Pg 91 [vhp b6 0,vs ⟨#[41]⟩] hB fun v135 h136=>v135=(Qe [])/\(∀(b137:Nat),h136 b137=none->let h138:Hp:=Hp.set h136 b137 (Qb [(vi x132),(vsl a133 m133 c133)] 153);(Qh Pg (Builtin.append_ #[27,27] 27 #[(vsl a m c),(vsl (some (⟨b137,0,none⟩:Addr)) 1 1)]) h138 fun v139 h140=>∃(a141:OaT) (n141 c141:Nat),v139=(vsl a141 n141 c141)/\(Qa Pg 92 [(vhp b6 0),(vs ⟨#[44]⟩)] h140 fun v142 h143=>∃(p144:Bool),v142=(vb p144)/\((∃(p:Bool) (k:Nat) (L:List Ag) (t:RS) (a:OaT) (m c:Nat),[(vb p144),(vsl a141 n141 c141),(vsl none 0 0),(vsl none 0 0),(vi 0),(vi 0),(vi 0),(vi 0)]=[vb p,vsl a m c,vsl none 0 0,vsl none 0 0,vi 0,vi 0,vi 0,vi 0]/\AgW h2 h143 b6 a m c t L/\QY h2 h143 b6 W t/\SOk (W.length+1) t/\KS o ((X7 o s1).2.ws.length+1) [(X7 o s1).1] (X7 o s1).2=(if p=true then KS o k (L++[(X7 o t).1]) (X7 o t).2 else(L,t))/\(p=true->(X7 o t).2.ws.length<k)/\L.length+t.ws.length<=100+(if p=true then 0 else 1)/\m+t.ws.length<=100+(if p=true then 0 else 1))/\(if Qly [(vb p144),(vsl a141 n141 c141),(vsl none 0 0),(vsl none 0 0),(vi 0),(vi 0),(vi 0),(vi 0)] 0=true then 1 else 0)+rrN h143 b6<(if Qly [vb p,vsl a m c,vsl none 0 0,vsl none 0 0,vi 0,vi 0,vi 0,vi 0] 0=true then 1 else 0)+rrN h14 b6)))):=by
     intro x132 a133 m133 c133 nl v hB hag DB GB NB MB;have Gv:=Zw GB.ok Za;have GV:=GB.trans Gv;refine YA (w:=Za) DB (by decide) fun h136 D136 M136=>⟨rfl,?_⟩
     have M136':=MB.trans M136;rw [hag] at hrow hk;simp only at hrow hk;intro b137 hb137 h138;have A136:AgW h2 h136 b6 a m c (v.must Za) L:=(A.mut hb6 M136').state fun q=>d5 fun q2=>q2 ((GV.fst q2).symm.trans q)
     refine Qpp (hB:=h14) (k:=x132) A136 D136 hg (fun b q=>A.al q) (fun q=>(NB (d5 fun q2=>q2 ((Gv.fst q2).symm.trans q))).mut hg M136) (by omega) hb137 fun a141 c141 h140 A140 D140=>⟨_,_,_,rfl,?_⟩
     have S140:=S.goes GV;have hlen:=GV.len;have hfm:v.must Za=v.must Za:=rfl;have hmono:(v.must Za).f=0->t.f=0:=fun q=>d5 fun q2=>q2 ((GV.fst q2).symm.trans q)
     generalize v.must Za=t2 at *
     obtain⟨k,rfl⟩:∃ j,k=j+1:=⟨k-1,by omega⟩
     have hst:KS o (k+1) (L++[(x132,nl)]) t2=if (t2.is [Xq]).1=[] then(L++[(x132,nl)],t2) else KS o k (L++[(x132,nl)]++[(X7 o (t2.is [Xq]).2).1]) (X7 o (t2.is [Xq]).2).2:=rfl
     rw [hst] at hrow;clear hst;have gi2:=Zk S140.good [Xq];have io2:=@Mf t2 Xq (by decide)
     have tk2:=@Qja t2 [Xq];obtain⟨nx1,nx2,nx3⟩:=V9 (s:=t2) (w:=Xq) (by decide)
     refine ZH (w:=Xq) D140 (by decide) fun h143 D143 M143=>⟨_,rfl,?_⟩
     have A143:=A140.mut hb6 M143;have hrn3:=D143.rn;have hv1:Qly [vb p,vsl a m c,vsl none 0 0,vsl none 0 0,vi 0,vi 0,vi 0,vi 0] 0=true:=e;rw [bH hv1,hrn];by_cases q:(t2.is [Xq]).1=[]
     ·rw [bH q] at hrow;rw [io2 q] at D143 hrn3;rw [cE (fun h=>h q)]
      refine⟨⟨false,0,_,t2,a141,m+1,c141,rfl,A143,D143,S140,by rw [hrow];rfl,(fun q=>by cases q),by rw [bO,bE (by decide)];show L.length+1+_<=100+1;omega,by rw [bE (by decide)];omega⟩,?_⟩
      show 0+rrN h143 b6<_;rw [hrn3];split
      ·rename_i q3;rw [bH (hmono q3)];omega
      ·split<;>omega
     ·rw [bE q] at hrow;have tk2:=tk2 q;have hf2:t2.f=0:=d5 fun q2=>by
       have:=S140.good q2;rw [this] at tk2;simp at tk2
      rw [cC q];have St:=S140.goes gi2;have Gn:=Qa0 kp St.good (gG St.len);have hgn:=Gn.1.len;refine⟨⟨true,k,L++[(x132,nl)],(t2.is [Xq]).2,a141,m+1,c141,rfl,A143.state (fun _=>hf2),D143,St,by rw [hrow];rfl,fun _=>by omega,by rw [bO,bH rfl];show L.length+1+_<=100;omega,by rw [bH rfl];omega⟩,?_⟩
      show 1+rrN h143 b6<_;rw [hrn3,bH (hmono hf2)];split<;>omega
    have h111:∀(p113:Bool) (hB:Hp) (v:RS),X7 o t=(if p113=true then((1,[]),v.must Za) else((x95,(o v).1),(o v).2.must Za))->QY h2 hB b6 W v->YS v t->Mut (At b6) h14 (At b6) hB->J111 p113 hB:=by
     intro p113 hB v hag DB GB MB;have Sv:=S.goes GB;unfold J111;intro J120;refine⟨fun q=>?_,fun q=>?_⟩
     ·rw [bH q] at hag;exact fin 1 none 0 0 [] v hB hag DB GB (fun _=>Jv _ _) MB
     ·rw [bE (by rw [q];decide)] at hag
      have k2:=kp v Sv.good (gG Sv.len);refine F DB Sv fun a118 m118 c118 h117 D117 N117 M117=>⟨_,_,_,rfl,?_⟩
      exact fin x95 a118 m118 c118 _ _ h117 hag D117 (GB.trans k2.goes) (fun q=>(N117 q).base (MB.up DB.al)) (MB.trans M117)
    clear_value J111;have gs:=Zk S2.good [Yt];have ios:=@Mf s2 Yt (by decide)
    refine⟨fun q=>?_,fun q=>?_⟩
    ·have hw:w=QW:=hkind2.1 (bC q);refine ZH (w:=Yt) D105 (by decide) fun h107 D107 M107=>⟨_,rfl,?_⟩
     by_cases q2:(s2.is [Yt]).1=[]
     ·rw [bE (fun h=>h.2 q2)] at hagg
      rw [ios q2] at D107;rw [cE (fun h=>h q2)]
      refine h111 false h107 s2 ?_ D107 G5 (M105'.trans M107)
      rw [bE (by decide),hagg,<-hkind3]
     ·rw [bH ⟨hw,q2⟩] at hagg;rw [cC q2];refine h111 true h107 _ ?_ D107 (G5.trans gs) (M105'.trans M107)
      rw [bH rfl,hagg]
    ·have hw:¬ w=QW:=fun h=>bB q (hkind2.2 h)
     rw [bE (fun h=>hw h.1)] at hagg
     refine h111 false h105 s2 ?_ D105 G5 M105'
     rw [bE (by decide),hagg,<-hkind3]
   clear_value J102;refine⟨fun q=>?_,fun q=>?_⟩
   ·have q:=hkind.1 (bC q);exact KR DD (by decide) fun hA DA MA=>⟨rfl,h102 hA _ (by rw [bH q]) DA (gi.trans (WH _ _)) (MM.trans MA)⟩
   ·have q:¬ w=[]:=fun h=>bB q (hkind.2 h)
    exact h102 hh u (by rw [bE q]) DD gi MM
  clear_value J56; -- which it is
  have hnil:([]:Wd) ∉ YT:=by decide
  obtain⟨ny,nn⟩:=QaJ (s:=t) hnil;refine⟨fun vs' hh=>∃(i:Nat) (x:Int),vs'=[vi i,vi x,vsl none 0 0]/\i<=4/\Mut (At b6) h28 (At b6) hh/\((x=0/\(∀ j,j<i->Qt t≠YT.getD j [])/\QY h2 hh b6 W t)\/(Qt t ∈ YT/\x=QhK (Qt t)/\x≠0/\QY h2 hh b6 W (t.is YT).2)),fun vs' hh=>4-(Qm vs' 0).toNat,⟨0,0,rfl,by omega,Mut.of_le (Hp.le_refl _),.inl ⟨rfl,(fun j hj=>by omega),D28⟩⟩,?_⟩
  rintro vs' hh ⟨i,x,rfl,hi,Mi,hst⟩;refine⟨_,_,_,_,_,rfl,fun q=>?_,fun q=>?_⟩
  ·rw [ZP] at q;obtain⟨q1,q2⟩:=bC q;have hlt:i<4:=by omega
   rcases hst with ⟨hx0,hno,Di⟩|⟨_,_,hx,_⟩
   ·intro J50;obtain⟨b,o',ha,hc⟩:=SlP.get1 (W25.mut Mi).s hlt;refine⟨b,o',⟨ha,by omega,by omega⟩,_,hc,?_⟩
    obtain⟨ha1,ha2,ha3⟩:=QpW hlt;obtain⟨o1,o2,o3⟩:=V9 (s:=t) ha2;refine ZH Di ha2 fun h43 D43 M43=>⟨_,rfl,fun q3=>?_,fun q3=>?_⟩
    ·have q3:=o1.1 (bC q3);obtain⟨r',hr1,hr2⟩:=o2 q3;rw [<-q3] at ha1 ha3;obtain⟨r,hr3,hr4⟩:=ny ha1;have er:r'=r:=by rw [hr3,q3] at hr1;exact((qC hr1).2).symm
     refine⟨b27,0,⟨rfl,by omega,by omega⟩,_,I27 hlt h43 (Mi.trans M43),_,iW,⟨i+1,(i:Int)+2,rfl,by omega,Mi.trans M43,.inr ⟨ha1,ha3.symm,by omega,?_⟩⟩,by simp [Qm];omega⟩
     rw [hr4];rw [hr2,er] at D43;exact D43
    ·have q3:Qt t≠YT.getD i []:=fun h=>bB q3 (o1.2 h)
     rw [o3 q3] at D43;refine⟨_,iW,⟨i+1,x,rfl,by omega,Mi.trans M43,.inl ⟨hx0,fun j hj=>?_,D43⟩⟩,by simp [Qm];omega⟩
     rcases g8 j i with h1|h1
     ·exact hno j h1
     ·have:j=i:=by omega
      rw [this];exact q3
   ·exact absurd q2 hx
  ·rw [ZP] at q;have q:=bB q;have ML:=(Mut.of_le l14:Mut (At b6) h14 (At b6) h28).trans Mi;rcases hst with ⟨hx0,hno,Di⟩|⟨hmm,hx,hx0,Di⟩
   ·have hge:i=4:=by omega
    subst hge;have hmm:Qt t ∉ YT:=by
     intro hm;have h1:Qt t=QW\/Qt t=UF\/Qt t=UO\/Qt t=Ut:=by simpa [YT] using hm
     rcases h1 with h1|h1|h1|h1
     ·exact hno 0 (by omega) h1
     ·exact hno 1 (by omega) h1
     ·exact hno 2 (by omega) h1
     ·exact hno 3 (by omega) h1
    refine h56 x hh ?_ (by rw [nn hmm];exact Di) ML
    rw [nn hmm,bH rfl,hx0]
   ·obtain⟨r,hr3,hr4⟩:=ny hmm;refine h56 x hh ?_ Di ML
    rw [hr4];simp only;rw [bE (fun h=>hnil (by rw [<-h];exact hmm)),hx]
 ·rw [e] at hrow hL;rw [bE (by decide)] at hrow hL
  exact hRest L t a m c h14 A D S hrow (by omega)
def Ju (l:List Nd):Prop:=∀ n ∈ l,0<=n.v.2
def PP (P:Ps):Prop:=∀ s,Ju (P s).1
theorem QaA {n:Nd}(h:0<=n.v.2):Ju [n]:=fun m hm=>by rw [cB.1 hm];exact h
theorem Qnl {op:Int}{x y:List Nd}(hx:Ju x)(hy:Ju y):Ju (Z6 op x y):=by
 intro n hn;unfold Z6 at hn;rcases cP.1 hn with h|h
 ·rcases cP.1 h with h|h
  ·exact hx n h
  ·obtain⟨m,hm,rfl⟩:=dI.1 h;exact hy m hm
 ·rw [cB.1 h];exact fW _
theorem Zu {op:Int}{x y:List Nd}{s:RS}(hx:Ju x)(hy:Ju y):Ju (Zd op x y s).1:=by
 unfold Zd;split
 ·exact QaA (by decide)
 ·exact Qnl hx hy
theorem WR:Ju []:=fun n h=>by cases h
theorem QkE (s:RS)(m:Int):0<=(s.number m).1:=by
 unfold RS.number;split
 ·exact fW _
 ·split
  ·exact fW _
  ·rename_i h;simp only;omega
theorem Qh3 {P:Ps}(h:PP P):PP (K7 P):=by
 intro s;unfold K7;exact h _
theorem QpT {o:Ps}(h:PP o):PP (WA o):=by
 intro s;unfold WA;simp only;split
 ·exact Qh3 h _
 ·split
  ·refine QaA ?_
   simp only;unfold Qds;split
   ·decide
   ·simp only;split<;>decide
  ·split
   ·exact QaA (QkE _ _)
   ·exact QaA (fW _)
theorem QnE {u a:Ps}(hu:PP u)(ha:PP a):PP (QdW u a):=by
 intro s;unfold QdW;split
 ·exact ha s
 ·exact Zu (Qh3 hu _) WR
theorem Qqq {u a:Ps}(hu:PP u)(ha:PP a):PP (QoM u a):=by
 intro s;unfold QoM;split
 ·exact ha s
 ·exact Zu (Qh3 hu _) WR
theorem Qld {P:Ps}(h:PP P){ops:List (Wd × Int)}:∀(k:Nat) (x:List Nd) (s:RS),Ju x->Ju (Qfr P ops k x s).1
 | 0,x,s,hx=>hx
 | k+1,x,s,hx=>by
  rw [Qfr];split
  ·exact hx
  ·simp only;split
   ·exact hx
   ·exact Qld h k _ _ (Zu hx (h _))
theorem QgI {P:Ps}(h:PP P){ops:List (Wd × Int)}:PP (Qfq P ops):=fun s=>Qld h _ _ _ (h s)
theorem QqV {P:Ps}(h:PP P):PP (QgH P):=by
 intro s;unfold QgH;simp only;split
 ·exact Zu (h _) (h _)
 ·split
  ·exact Zu (h _) (h _)
  ·split
   ·exact Zu (Zu (h _) (h _)) WR
   ·split
    ·exact Zu (Zu (h _) (h _)) WR
    ·split
     ·exact Zu (h _) (h _)
     ·split
      ·exact Zu (Zu (h _) (h _)) WR
      ·split
       ·split
        ·exact Zu (Zu (h _) WR) WR
        ·exact Zu (h _) WR
       ·exact h _
theorem Qrp {t:VB}(ho:PP t.o)(hn:PP t.n)(hu:PP t.u):PP (orS t)/\PP (QfA t)/\PP (unS t):=by
 have h1:PP (unS t):=QnE hu (QpT ho);have h3:PP (QnV t):=QgI (QgI h1);have h5:PP (QfA t):=Qqq hn (QqV h3);exact⟨QgI (QgI h5),h5,h1⟩
theorem Qku:PP noP:=fun s=>QaA (by decide)
theorem QqI (n:Nat):PP (WB n).o/\PP (WB n).n/\PP (WB n).u:=by
 induction n with
 | zero=>exact⟨Qku,Qku,Qku⟩
 | succ n ih=>
  rw [QbX];exact Qrp ih.1 ih.2.1 ih.2.2
structure Qra (q:Qy):Prop where
 g:∀ a ∈ q.aggs,Ju a.2
 w:Ju q.wh
 b:Ju q.by_
theorem QpS {c:Prop}[Decidable c]{x y:Ag × RS}(hx:Ju x.1.2)(hy:Ju y.1.2):Ju (if c then x else y).1.2:=by
 split
 ·exact hx
 ·exact hy
theorem Qoa {o:Ps}(h:PP o)(s:RS):Ju (X7 o s).1.2:=by
 unfold X7;exact QpS WR (h _)
theorem Qlz {o:Ps}(h:PP o):∀(k:Nat) (l:List Ag) (s:RS),(∀ a ∈ l,Ju a.2)->∀ a ∈ (KS o k l s).1,Ju a.2
 | 0,l,s,hl=>hl
 | k+1,l,s,hl=>by
  rw [KS];split
  ·exact hl
  ·refine Qlz h k _ _ fun a ha=>?_
   rcases cP.1 ha with h1|h1
   ·exact hl a h1
   ·rw [cB.1 h1];exact Qoa h _
theorem Qnh {P:Ps}(h:PP P){w:Wd}{s:RS}:Ju (Mv w P s).1:=by
 unfold Mv;split
 ·exact WR
 ·exact h _
theorem Qmr (ws:List Wd):Qra (Qcd ws).1:=by
 have ho:=(QqI (ws.length+1)).1;rw [Qib];generalize (WB (ws.length+1)).o=o at ho ⊢;refine⟨Qlz ho _ _ _ fun a ha=>?_,Qnh ho,Qnh (fun s=>ho _)⟩
 rw [cB.1 ha];exact Qoa ho _
theorem QdJ {s:LuT}(h:(ZO s).2=0):QOk (ZO s).1/\Qra (ZO s).1:=by
 unfold ZO at h ⊢;split at h
 ·rename_i h1;exact absurd h h1
 ·rename_i h1;rw [bE h1];unfold Qkj at h ⊢;split at h
  ·rename_i h2;exact absurd h h2
  ·rename_i h2;rw [bE h2];split at h
   ·rename_i h3;exact absurd h h3
   ·rename_i h3;rw [bE h3];exact⟨QqE (fS.1 h3),Qmr _⟩
end Go.Proofs.YthicpjafcpfjoaaGreatDoor
namespace Go.Proofs.YthicpjafcpfjoaaGreatDoor
open Go Go.Vc
theorem Qg3 {u0:ByteArray}{h:Hp}{R:RtT}(H:((decide ((((ByteArray.size u0:Nat):Int):Int)>400))=true->R (Qe [vag [vsl none 0 0,vsl none 0 0,vsl none 0 0,vi 0,vi 0,vi 0,vi 0],vb false]) h)/\((decide ((((ByteArray.size u0:Nat):Int):Int)>400))=false->Qa Pg 40 [vs u0] h fun v2 h3=>∃ a4 n4 c4 a5 n5 c5 a6 n6 c6 x7 x8 x9 x10 x11,v2=Qe [vag [vsl a4 n4 c4,vsl a5 n5 c5,vsl a6 n6 c6,vi x7,vi x8,vi x9,vi x10],vi x11]/\R (Qe [vag [vsl a4 n4 c4,vsl a5 n5 c5,vsl a6 n6 c6,vi x7,vi x8,vi x9,vi x10],(vb (decide (x11=0)))]) h3)):Qa Pg 9 [vs u0] h R:=callO Tryz.func9 [.one (.v (vs u0))] H
open Go.RowKit Go.Txt
def QqH:Wd:=[115,101,108,101,99,116,32,99,111,117,110,116,40,42,41,32,102,114,111,109,32,101,118,101,110,116,115,32,119,105,110,100,111,119,32,49,48]
def evE (t:Int):EvL:=(t,(0,0),(0,0),(0,0))
theorem Qm0:(ZO QqH).2=0/\(Yl (ZO QqH).1 0 (evE 12) (Yl (ZO QqH).1 0 (evE 3) (YZ 1))).rows=[(false,(0,(0,0)),[(1,1)])]:=by decide +kernel
theorem QfP {s:Wd}{h:Hp}{R:RtT}(hK:∀ a1 n1 c1 a2 n2 c2 a3 n3 c3 x4 x5 x6 x7 (p:Bool) h',h.le h'->(p=true->∃ q,QOk q/\QAt h' q a1 n1 a2 n2 a3 n3/\x4=q.size/\x5=q.slide/\x6=q.delay/\x7=q.late)->R (Qe [vag [vsl a1 n1 c1,vsl a2 n2 c2,vsl a3 n3 c3,vi x4,vi x5,vi x6,vi x7],vb p]) h'):Qa Pg 9 [vs (bs s)] h R:=by
 refine Qg3 ?_
 refine⟨fun e=>hK none 0 0 none 0 0 none 0 0 0 0 0 0 false h (Hp.le_refl h) (fun q=>by cases q),fun _=>?_⟩
 refine QgB fun b1 m1 d1 b2 m2 d2 b3 m3 d3 h' l' hpf hpb Q=>⟨_,_,_,_,_,_,_,_,_,_,_,_,_,_,rfl,?_⟩
 refine hK b1 m1 d1 b2 m2 d2 b3 m3 d3 _ _ _ _ _ h' l' fun q=>⟨(ZO s).1,(QdJ (bC q)).1,Q,rfl,rfl,rfl,rfl⟩
end Go.Proofs.YthicpjafcpfjoaaGreatDoor
namespace Go.Proofs.YthicpjafcpfjoaaGreatDoor
open Go Go.Vc
theorem Qbd {u0:OaT}{u1 u2:Nat}{u3:Int}{h:Hp}{R:RtT}(H:((decide ((u1:Int)>u3))=true->R (vb false) h)/\((decide ((u1:Int)>u3))=false->∃(I3:LtT) (m4:LmT),I3 [vi 0] h/\∀ vs5 h6,I3 vs5 h6->∃ x7,vs5=[vi x7]/\((decide (x7<(u1:Int)))=true->∃ b10 o11,Ix u0 b10 o11 x7 u1/\∃ s12,Hp.cell h6 b10 ((o11+x7.toNat*4)+2)=some (vs s12)/\((decide ((((ByteArray.size s12:Nat):Int):Int)>3000))=true->R (vb false) h6)/\((decide ((((ByteArray.size s12:Nat):Int):Int)>3000))=false->∃ x14,IsW x14 (x7+1)/\I3 [vi x14] h6/\m4 [vi x14] h6<m4 vs5 h6))/\((decide (x7<(u1:Int)))=false->R (vb true) h6))):Qa Pg 8 [vsl u0 u1 u2,vi u3] h R:=callC ⟨[],[(4,([5],[.one (.int .i64)],[]))],[]⟩ Tryz.func8 [.one (.v (vsl u0 u1 u2)),.one (.v (vi u3))] H
abbrev Qni:=LuT × Int × LuT × Int
def Qd1 (y:Qni):List Value:=[vs (bs y.1),vi y.2.1,vs (bs y.2.2.1),vk .u64 y.2.2.2]
theorem QdM (y:Qni):(Qd1 y).length=4:=rfl
def Jt (l:List Qni)(most:Int):Bool:=decide ((l.length:Int)<=most/\∀ y ∈ l,y.2.2.1.length<=3000)
theorem Qbq {a:OaT}{n c:Nat}{l:List Qni}{h:Hp}(S:SlP Qd1 h a n l){most:Int}(hm:most<=1000000){R:RtT}(hK:R (vb (Jt l most)) h):Qa Pg 8 [vsl a n c,vi most] h R:=by
 refine Qbd ?_
 have hn:=S.1;refine⟨fun e=>?_,fun e=>?_⟩
 ·have e2:(n:Int)>most:=bC e;have:Jt l most=false:=by unfold Jt;rw [gD];rintro⟨q,_⟩;omega
  rw [this] at hK;exact hK
 have e2:¬(n:Int)>most:=bB e;refine⟨fun vs hh=>hh=h/\∃ i:Nat,vs=[vi i]/\i<=n/\∀ y ∈ l.take i,y.2.2.1.length<=3000,fun vs hh=>n-(Qm vs 0).toNat,⟨rfl,0,rfl,cH _,by simp⟩,?_⟩
 rintro vs hh ⟨rfl,i,rfl,hi,ht⟩;refine⟨i,rfl,fun e=>?_,fun e=>?_⟩
 ·have hlt:i<n:=by have:=bC e;omega
  have hlt2:i<l.length:=by omega
  have hx:l[i]?=some l[i]:=bD hlt2
  obtain⟨b,o,ha,hc⟩:=S.cell (j:=2) (v:=vs (bs l[i].2.2.1)) QdM (by decide) hx rfl
  refine⟨b,o,⟨ha,by omega,by omega⟩,_,hc,fun e3=>?_,fun e3=>?_⟩
  ·rw [Zp] at e3;have e4:((l[i].2.2.1.length:Nat):Int)>3000:=bC e3;have:Jt l most=false:=by
    unfold Jt;rw [gD];rintro⟨_,q⟩;have:=q l[i] (cM hlt2);omega
   rw [this] at hK;exact hK
  ·rw [Zp] at e3;have e4:¬((l[i].2.2.1.length:Nat):Int)>3000:=bB e3;have tk:l.take (i+1)=l.take i++[l[i]]:=bJ hlt2;refine⟨_,iW,⟨rfl,i+1,rfl,by omega,?_⟩,by simp [Qm];omega⟩
   intro y hy;rw [tk] at hy;rcases cP.1 hy with h1|h1
   ·exact ht y h1
   ·simp at h1;subst h1;omega
 ·have hge:i=n:=by have:=bB e;omega
  subst hge;rw [cQ (by omega)] at ht
  have:Jt l most=true:=by unfold Jt;exact cC ⟨by omega,ht⟩
  rw [this] at hK;exact hK
open Go.RowKit Go.Txt
theorem Qlo {w:Wd}{W l:List Wd}{d f:Int}(h:w ∈ l):(⟨w :: W,d,f⟩:RS).is l=(w,⟨W,d,f⟩):=bH h
theorem QkJ {w:Wd}{W l:List Wd}{d f:Int}(h:w ∉ l):(⟨w :: W,d,f⟩:RS).is l=([],⟨w :: W,d,f⟩):=bE h
theorem Mq {w:Wd}{W:List Wd}{d f:Int}(h:w≠[]):(⟨w :: W,d,f⟩:RS).must w=⟨W,d,f⟩:=by
 unfold RS.must;rw [Qlo (cB.2 rfl),bE h]
theorem Qe1 {h0 h:Hp}{g:Nat}{W:List Wd}(D:Yc h0 h g ⟨QW :: ZR :: Yt :: Za :: W,0,0⟩)(E:QfL h0 h g)(hW:W.length<=100){R:RtT}(hK:∀ h',Yc h0 h' g ⟨W,0,0⟩->Mut (At g) h (At g) h'->R (vag [vi 1,vsl none 0 0]) h'):Qa Pg 84 [vhp g 0] h R:=by
 refine Mu ?_
 intro b1 hb1 h2;have hl:h.le h2:=Hp.le_set (Hp.le_refl h) hb1 _;have n1:(ZR :: Yt :: Za :: W).length<=1000000:=by simp only [cO];omega
 have n2:(Yt :: Za :: W).length<=1000000:=by simp only [cO];omega
 have n3:(Za :: W).length<=1000000:=by simp only [cO];omega
 refine YH (D.le hl) (Qhg h b1 [QW,UF,UO,Ut] (by decide)) (by decide) (by simp only [cO] at n1 ⊢;omega) fun h4 D4 M4=>⟨_,rfl,?_⟩
 have M04:Mut (At g) h (At g) h4:=(Mut.of_le hl).trans M4;rw [Qlo (by decide)] at D4 ⊢
 simp -zeta only at D4 ⊢;refine⟨_,QH (b:=[]),?_⟩
 intro J11;have hJ:J11 h4:=by
  refine Yv D4 n1 fun h14 D14 M14=>⟨rfl,?_⟩
  have D14:Yc h0 h14 g ((⟨ZR :: Yt :: Za :: W,0,0⟩:RS).must ZR):=D14;rw [Mq (by decide)] at D14
  have M014:=M04.trans M14;obtain⟨qa,qc,hq,hqs⟩:=(E.mut M014).now.a;refine⟨_,_,_,hq,U6 hqs (by decide) ⟨_,rfl,?_⟩⟩
  rw [show (if QW ∈ Qll then(Qll.idxOf QW:Int) else -1)=1 by decide]
  intro J56;have fin:∀ h66,Yc h0 h66 g ⟨Za :: W,0,0⟩->Mut (At g) h (At g) h66->J56 1 none 0 0 h66:=fun h66 D66 M66=>Yv D66 n3 fun h68 D68 M68=>⟨rfl,hK h68 (by
   have D68:Yc h0 h68 g ((⟨Za :: W,0,0⟩:RS).must Za):=D68;rw [Mq (by decide)] at D68
   exact D68) (M66.trans M68)⟩
  clear_value J56;refine⟨_,QH (b:=QW),fun e=>?_,fun e=>absurd (cC rfl) e⟩
  intro b20 hb20 h21;have l21:h14.le h21:=Hp.le_set (Hp.le_refl h14) hb20 _;refine⟨fun x hh=>x=.t (.one (.v (vs (bs Yt))))/\Yc h0 hh g ⟨Za :: W,0,0⟩/\Mut (At g) h (At g) hh,fun _=>YH (D14.le l21) (Ms h14 b20 Yt) (by decide) n2 fun h24 D24 M24=>?_,fun q=>absurd e q,?_⟩
  ·rw [Qlo (by decide)] at D24
   have e9:((⟨Yt :: Za :: W,0,0⟩:RS).is [Yt]).1=Yt:=by rw [Qlo (by decide)]
   rw [e9];exact⟨_,rfl,rfl,D24,(M014.trans (Mut.of_le l21)).trans M24⟩
  rintro h26 s27 ⟨e27,D26,M26⟩;cases e27;refine⟨_,fun _=>YE (b:=[]),fun q=>fin h26 D26 M26,fun q=>absurd q (by decide)⟩
 exact⟨fun e=>absurd e (by decide),fun _=>hJ⟩
theorem QcC {q:Qy}{a1:OaT}{n1 c1:Nat}{a2:OaT}{n2 c2:Nat}{a3:OaT}{n3 c3:Nat}{h:Hp}{R:RtT}(Q:QAt h q a1 n1 a2 n2 a3 n3)(h1:1<=q.aggs.length/\q.aggs.length<=4)(hA:∀ y ∈ q.aggs,y=(1,[]))(hw:q.wh=[])(hb:q.by_=[])(hz:Ww q=0)(hK:∀ h',h.le h'->R (ifv (QG 0)) h'):Qa Pg 89 [qV a1 n1 c1 a2 n2 c2 a3 n3 c3 q] h R:=by
 refine Gr ?_
 have hn1:=Q.g.len;have hn2:n2=0:=by have:=Q.w.1;rw [hw] at this;exact this
 have hn3:n3=0:=by have:=Q.b.1;rw [hb] at this;exact this
 rw [cor];refine⟨fun e=>(by have e:=bC e;omega),fun e=>?_⟩
 refine⟨fun vs' hh=>h.le hh/\∃ i:Nat,vs'=[vi i]/\i<=n1,fun vs' hh=>n1-(Qm vs' 0).toNat,⟨Hp.le_refl h,0,rfl,cH _⟩,?_⟩
 rintro vs' hh ⟨lh,i,rfl,hi⟩;refine⟨i,rfl,fun g=>?_,fun g=>?_⟩
 ·have hlt:i<n1:=by have:=bC g;omega
  have hlt2:i<q.aggs.length:=by omega
  have hx:q.aggs[i]?=some (1,[]):=by rw [bD hlt2,hA _ (cM hlt2)]
  obtain⟨b,o,a',c',ha,hrow,hS⟩:=(Q.g.le lh).row XX (by decide) hx
  intro J25;refine⟨b,o,⟨ha,by omega,by omega⟩,1,a',0,c',by rw [bG];exact hrow,?_⟩
  have good:J25 hh:=⟨_,iW,⟨lh,i+1,rfl,by omega⟩,by simp [Qm];omega⟩
  exact⟨fun g2=>absurd g2 (by decide),fun _=>⟨fun _=>good,fun g3=>absurd g3 (by decide)⟩⟩
 ·intro J33;refine⟨fun g2=>(by rw [hn2] at g2;cases g2),fun _=>?_⟩
  unfold J33;intro J40;refine⟨fun g2=>(by rw [hn3] at g2;cases g2),fun _=>?_⟩
  exact Um (q:=q) fun h3 l3=>⟨_,rfl,by rw [hz];exact hK h3 (Hp.le_trans lh l3)⟩
def Qa7:Wd:=[115,101,108,101,99,116,32,99,111,117,110,116,40,42,41,32,102,114,111,109,32,101,118,101,110,116,115,32,119,105,110,100,111,119,32,49,48]
theorem QkN:Zo Qa7=([Wa,QW,ZR,Yt,Za,U2,Y7,YO,[49,48]],0):=by kernel_rfl
theorem Ql5:ZO Qa7=(⟨[(1,[])],[],[],10,10,0,0⟩,0):=by kernel_rfl
theorem Qnt:(⟨[[49,48]],0,0⟩:RS).number 1000=(10,⟨[],0,0⟩):=by kernel_rfl
set_option maxHeartbeats 1000000 in
theorem QcP {h:Hp}(T:QgC h){R:RtT}(hK:∀ a1 n1 c1 a2 n2 c2 a3 n3 c3 h',h.le h'->QAt h' (ZO Qa7).1 a1 n1 a2 n2 a3 n3->R (Qe [qV a1 n1 c1 a2 n2 c2 a3 n3 c3 (ZO Qa7).1,ifv none]) h'):Qa Pg 39 [vs (bs Qa7)] h R:=by
 have eW:=QkN;have eN:=Qnt;have eZ:Ww ⟨[(1,[])],[],[],10,10,0,0⟩=0:=by decide
 rw [Ql5] at hK;refine QeB ?_
 refine Qej fun wa wn wc h2 O=>⟨_,_,_,_,rfl,?_⟩
 have l02:=O.le;have lw:=(QaC Qa7).2;rw [eW] at O lw ⊢;refine⟨fun e=>(by cases e),fun _=>?_⟩
 have hS:=O.slp ZM (by decide)
 obtain rfl:=hS.1;intro b6 hb6 h7;have l7:h2.le h7:=Hp.le_set (Hp.le_refl h2) hb6 _;have D7:Yc h2 h7 b6 ⟨[Wa,QW,ZR,Yt,Za,U2,Y7,YO,[49,48]],0,0⟩:=⟨⟨wa,wc,Hp.set_same _ _ _,hS,O.own.cap⟩,l7,hb6,fun x hx=>dJ (lw x hx) (by decide)⟩
 have E7:QfL h2 h7 b6:=⟨T.le l02,l7,hb6⟩;refine Yv D7 (by decide) fun h9 D9 M9=>⟨rfl,?_⟩
 have D9:Yc h2 h9 b6 ((⟨Wa :: [QW,ZR,Yt,Za,U2,Y7,YO,[49,48]],0,0⟩:RS).must Wa):=D9;rw [Mq (by decide)] at D9
 refine Qe1 D9 (E7.mut M9) (by decide) fun h11 D11 M11=>⟨_,_,_,_,rfl,?_⟩
 intro b14 hb14 h15;refine Qo5 (L:=[]) (a:=none) (c:=0) (hB:=h9) (k:=1) (l:=[]) (Xg.nil D11.l) D11 D9.al (fun b e=>by cases e) (Jv _ _) (by decide) hb14 fun a18 c18 h17 B17 D17=>⟨_,_,_,rfl,?_⟩
 intro J48;have hRest:∀(a:OaT) (c:Nat) (hE:Hp),Qnm (At b6) h2 hE a c [(1,[])]->Yc h2 hE b6 ⟨[U2,Y7,YO,[49,48]],0,0⟩->J48 a 1 c none 0 0 none 0 0 hE:=by
  intro a c hE BE DE;have hG2:∀ b,At b6 b->h2 b=none:=fun b e=>by rw [show b=b6 from e];exact hb6
  refine Yv DE (by decide) fun h261 D261 M261=>⟨rfl,?_⟩
  have D261:Yc h2 h261 b6 ((⟨U2 :: [Y7,YO,[49,48]],0,0⟩:RS).must U2):=D261;rw [Mq (by decide)] at D261
  refine Yv D261 (by decide) fun h263 D263 M263=>⟨rfl,?_⟩
  have D263:Yc h2 h263 b6 ((⟨Y7 :: [YO,[49,48]],0,0⟩:RS).must Y7):=D263;rw [Mq (by decide)] at D263
  intro b264 hb264 h265;have l265:h263.le h265:=Hp.le_set (Hp.le_refl h263) hb264 _;refine YH (D263.le l265) (Ms h263 b264 Kn) (by decide) (by decide) fun h267 D267 M267=>⟨_,rfl,_,YE (b:=[]),?_⟩
  rw [QkJ (by decide)] at D267 ⊢
  have M267':=((M261.trans M263).trans (Mut.of_le l265)).trans M267;clear M261 M263 M267 D261 D263;intro J275;refine⟨fun e=>absurd e (by decide),fun _=>?_⟩
  intro b316 hb316 h317;have l317:h267.le h317:=Hp.le_set (Hp.le_refl h267) hb316 _;refine YH (D267.le l317) (Ms h267 b316 Kq) (by decide) (by decide) fun h319 D319 M319=>⟨_,rfl,_,YE (b:=[]),?_⟩
  rw [QkJ (by decide)] at D319 ⊢
  have M319':=(M267'.trans (Mut.of_le l317)).trans M319;intro J329;refine⟨fun e=>absurd e (by decide),fun _=>?_⟩
  have EE:QfL h2 hE b6:=⟨E7.t,DE.l,hb6⟩;refine Yv D319 (by decide) fun h356 D356 M356=>⟨rfl,?_⟩
  have D356:Yc h2 h356 b6 ((⟨YO :: [[49,48]],0,0⟩:RS).must YO):=D356;rw [Mq (by decide)] at D356
  have M356':=M319'.trans M356;refine Uk D356 (EE.mut M356') (by decide) (by decide) (by decide) fun h358 D358 M358=>⟨_,rfl,?_⟩
  rw [eN] at D358 ⊢;have M358':=M356'.trans M358;have S0:SOk 1 ⟨[],0,0⟩:=⟨fun h=>absurd rfl h,by decide,by decide,fW _,by decide⟩
  refine XP (w:=QbM) D358 (EE.mut M358') S0 (by decide) fun h361 D361 M361=>⟨_,rfl,?_⟩
  have D361:Yc h2 h361 b6 ⟨[],0,0⟩:=D361;have M361':=M358'.trans M361;refine XP (w:=QbB) D361 (EE.mut M361') S0 (by decide) fun h364 D364 M364=>⟨_,rfl,?_⟩
  have D364:Yc h2 h364 b6 ⟨[],0,0⟩:=D364;have M364':=M361'.trans M364;refine XP (w:=Qgc) D364 (EE.mut M364') S0 (by decide) fun h367 D367 M367=>⟨_,rfl,?_⟩
  have D367:Yc h2 h367 b6 ⟨[],0,0⟩:=D367;have M367':=M364'.trans M367;obtain⟨qa,qc,hq⟩:=D367.c0;refine⟨_,D367.c2,_,_,_,fun _=>hq,?_⟩
  intro J374;refine⟨fun e=>absurd e (by decide),fun _=>?_⟩
  refine⟨_,D367.c2,?_⟩
  intro J383;refine⟨fun _=>?_,fun e=>absurd e (by decide)⟩
  have B367:=BE.keep hG2 M367'.keep;have QE:QAt h367 ⟨[(1,[])],[],[],10,10,0,0⟩ a 1 none 0 none 0:=⟨B367.tab,⟨rfl,.inl rfl⟩,⟨rfl,.inl rfl⟩⟩;refine QcC (q:=⟨[(1,[])],[],[],10,10,0,0⟩) (c1:=c) (c2:=0) (c3:=0) QE (by decide) (fun y hy=>cB.1 hy) rfl rfl eZ fun h378 l378=>⟨QG 0,rfl,?_⟩
  refine(D367.le l378).put2 fun h380 D380 M380=>?_
  have M2:=(Mut.of_le l378).trans M380;refine⟨_,D380.c2,fun e=>absurd e (by decide),fun _=>?_⟩
  exact hK a 1 c none 0 0 none 0 0 h380 (Hp.le_trans l02 D380.l) ⟨(B367.keep hG2 M2.keep).tab,⟨rfl,.inl rfl⟩,⟨rfl,.inl rfl⟩⟩
 clear_value J48;refine⟨fun vs' hh=>∃(a:OaT) (c:Nat),vs'=[vsl a 1 c,vsl none 0 0,vsl none 0 0,vi 0,vi 0,vi 0,vi 0]/\Qnm (At b6) h2 hh a c [(1,[])]/\Yc h2 hh b6 ⟨[U2,Y7,YO,[49,48]],0,0⟩,fun _ hh=>0,⟨a18,c18,rfl,B17,D17⟩,?_⟩
 rintro vs' hh ⟨a,c,rfl,B,D⟩;refine⟨_,_,_,_,_,_,_,_,_,_,_,_,_,rfl,?_⟩
 intro b31 hb31 h32;have l32:hh.le h32:=Hp.le_set (Hp.le_refl hh) hb31 _;have hG2:∀ b,At b6 b->h2 b=none:=fun b e=>by rw [show b=b6 from e];exact hb6
 refine YH (D.le l32) (Ms hh b31 Xq) (by decide) (by decide) fun h34 D34 M34=>⟨_,rfl,_,YE (b:=[]),?_⟩
 rw [QkJ (by decide)] at D34 ⊢
 exact⟨fun e=>absurd e (by decide),fun _=>hRest a c h34 ((B.grow l32).keep hG2 M34.keep) D34⟩
end Go.Proofs.YthicpjafcpfjoaaGreatDoor
namespace Go.Proofs.YthicpjafcpfjoaaGreatDoor
open Go Go.Vc
theorem Qmi (ks:List Int)(st:En):Kh ks st≠[]:=by
 intro e;have h1:=Qis ks st;rw [e] at h1;have h0:(Yw ([]:Wds)).length=1:=by decide
 rw [h1] at h0;unfold Xt hdW at h0;simp at h0
theorem Qmf {l:List Nat}{p p' x:Nat}(hp:p<l.length):(l.set p x).getD p' 0=if p=p' then x else l.getD p' 0:=by
 by_cases e:p=p'
 ·subst e;rw [bH rfl,bK,fC hp]
  rfl
 ·rw [bE e,bK,gU e,<-bK]
structure Got (q:Qy)(L:List (List EvL))(st:En):Prop where
 z:EnZ q L.length st
 cb:∀ p,p<L.length->st.rd.getD p 0<=(L.getD p []).length
theorem Got.new (q:Qy)(L:List (List EvL)):Got q L (YZ L.length):=⟨EnZ.new q _,fun p hp=>by
 have:(YZ L.length).rd.getD p 0=0:=by
  show (List.replicate L.length 0).getD p 0=0;rw [bK,kQ,bH hp]
  rfl
 omega⟩
theorem Got.r {q:Qy}{L:List (List EvL)}{st:En}(N:Got q L st)(h:∀ x ∈ L,x.length<=40):∀ x ∈ st.rd,x<=40:=by
 intro x hx;obtain⟨i,hi,rfl⟩:=jP.1 hx;have hl:=N.z.b.rl;have hb:=N.cb i (by omega)
 have h2:=h _ (JS (l:=L) (i:=i) (d:=[]) (by omega))
 rw [bK,bD hi] at hb
 exact dJ hb h2
theorem Got.step {q:Qy}{L:List (List EvL)}{st:En}(N:Got q L st)(B:QOk q){p:Nat}(hp:p<L.length){e:EvL}(E:YM e)(hlt:st.rd.getD p 0<(L.getD p []).length):Got q L (Yl q p e st):=by
 refine⟨N.z.step B hp E,fun i hi=>?_⟩
 rw [Qa5,Qmf (by rw [N.z.b.rl];exact hp)]
 split
 ·rename_i q1;subst q1;exact hlt
 ·exact N.cb i hi
theorem Qj2 {A:List Rw}{a b:OaT}{c d:Nat}{h:Hp}{R:RtT}(GA:Ky Qq QT h a A.length (A.map ZI))(GB:Ky Qq QT h b A.length (A.map ZI))(hn:A.length<=4000000)(hl:∀ x ∈ A.map ZI,x.2.length<=1000000)(hK:R (vb true) h):Qa Pg 21 [vsl a A.length c,vsl b A.length d] h R:=by
 have hAl:(A.map ZI).length=A.length:=bU _;rw [<-hAl] at GA GB ⊢;exact QfS GA GB (by omega) hl hK
def QgY (q:Qy)(B p:Hp)(m w:Nat)(st su:En):Prop:=∃ hW,Kl q B hW w su/\Kl q hW p m st
theorem QgY.le0 {q:Qy}{B p:Hp}{m w:Nat}{st su:En}(D:QgY q B p m w st su):B.le p:=by
 obtain⟨hW,X,Y⟩:=D;exact Hp.le_trans X.le0 Y.le0
theorem QgY.m {q:Qy}{B p:Hp}{m w:Nat}{st su:En}(D:QgY q B p m w st su):Kl q B p m st:=by
 obtain⟨hW,X,Y⟩:=D;exact Y.base X.le0
theorem QgY.w {q:Qy}{B p:Hp}{m w:Nat}{st su:En}(D:QgY q B p m w st su):Kl q B p w su:=by
 obtain⟨hW,X,Y⟩:=D;exact X.le Y.le0
section
variable {q:Qy}{B h:Hp}{s:QS}{gs gd gt ge:Nat}{D:HpT}{st:En}{sv:List Rw}
theorem QdB {R:RtT}(X:Kc q B h s gs gd gt ge D st sv)(hK:R (vi (st.pn.length:Nat)) h):Qa Pg 27 [vhp gt 0] h R:=by
 refine U9 ?_
 obtain⟨ar,cr,k,G,X⟩:=X.see;obtain⟨a1,n1,c1,a2,n2,c2,a3,n3,c3,qf,ak,nk,ck,ar',cr',ac,cc,tb,tc,aw,cw,k1,s1,s2,g1⟩:=X.see;exact⟨_,Qc k rfl,ge,0,rfl,_,_,_,Qc k1 rfl,hK⟩
theorem QeR {R:RtT}(X:Kc q B h s gs gd gt ge D st sv)(hn:st.rd.length<=1000)(hK:∀ a c h',h.le h'->SlI h' a st.rd.length (st.rd.map fun n:Nat=>(n:Int))->R (vsl a st.rd.length c) h'):Qa Pg 25 [vhp gt 0] h R:=by
 refine Vb ?_
 obtain⟨ar,cr,k,G,X⟩:=X.see;obtain⟨a1,n1,c1,a2,n2,c2,a3,n3,c3,qf,ak,nk,ck,ar',cr',ac,cc,tb,tc,aw,cw,k1,s1,s2,g1⟩:=X.see;refine⟨_,Qc k rfl,ge,0,rfl,_,_,_,Qc k1 rfl,?_⟩
 have hl:(st.rd.map fun n:Nat=>(n:Int)).length=st.rd.length:=bU _
 generalize (st.rd.map fun n:Nat=>(n:Int))=l at *
 have S:Qf h ar' (l.map vi):=s1.2;refine Ug ?_
 refine⟨_,XS (e:=3) (by kernel_rfl),fun e=>?_,fun e=>?_⟩
 ·have h0:l.map vi=[]:=by
   rcases S with h1|⟨b,o,ha,_⟩
   ·exact h1
   ·rw [ha] at e;cases e
  have hn0:l=[]:=List.map_eq_nil_iff.1 h0;subst hn0;have hz:st.rd.length=0:=by simpa using hl.symm
  rw [hz] at hK;exact⟨_,_,_,rfl,hK none 0 h (Hp.le_refl h) ⟨rfl,.inl rfl⟩⟩
 ·intro b3 hb3 h4;have O0:Qg h h4 3 1 (some ⟨b3,0,none⟩) 0 0 []:=Qg.mk_new (Hp.le_refl h) hb3 _ [] rfl (by simp [maxLen])
  refine Qg.append KQ O0 (S.le (Hp.le_set (Hp.le_refl h) hb3 _)) (m:=st.rd.length) (by rw [bU];omega) (JT l) (by omega) (by omega) fun a' c' h' O' _ _=>⟨_,_,_,rfl,?_⟩
  rw [dY,dC] at *
  exact⟨_,_,_,rfl,hK a' c' h' O'.le ⟨hl.symm,O'.row⟩⟩
end
theorem Ql0:(Kh (Qd (ZO Qa7).1) (Yl (ZO Qa7).1 0 (evE 12) (Yl (ZO Qa7).1 0 (evE 3) (YZ 1)))).length<=(160-2) / 2*256/\K4 (List.replicate 1 []) [(0,evE 3),(0,evE 12)]=[[evE 3,evE 12]]:=by decide +kernel
set_option maxHeartbeats 1000000 in
theorem QeQ {h:Hp}(T:QgC h)(M:Qd4 h){R:RtT}(hK:∀ h',h.le h'->R (vb true) h'):Qa Pg 6 [] h R:=by
 refine Qdy ?_
 obtain⟨e0,e1⟩:(ZO Qa7).2=0/\(Yl (ZO Qa7).1 0 (evE 12) (Yl (ZO Qa7).1 0 (evE 3) (YZ 1))).rows=[(false,(0,(0,0)),[(1,1)])]:=Qm0;obtain⟨e2,eL⟩:=Ql0;have Qk:=(QdJ e0).1;refine QcP T fun a1 n1 c1 a2 n2 c2 a3 n3 c3 h2 l2 Q=>⟨_,_,_,_,_,_,_,_,_,_,_,_,_,_,rfl,?_⟩
 refine⟨fun e=>(by cases e),fun _=>?_⟩
 generalize (ZO Qa7).1=q at *
 intro b12 hb12 h13;have l13:h2.le h13:=Hp.le_set (Hp.le_refl h2) hb12 _;have S:SlP QjU h13 (some ⟨b12,0,none⟩) 2 [((0:Int),evE 3),((0:Int),evE 12)]:=⟨rfl,Qf.new _ _ _ _⟩;clear_value h13;have l013:=Hp.le_trans l2 l13;refine U8 (s:=⟨a1,n1,c1,a2,n2,c2,a3,n3,c3⟩) (n:=1) (Q.le l13) Qk (T.le l013).p (T.le l013).e (M.le l013) S (by decide) (by decide) (by decide) fun B h15 gs gd gt ge F F0S sd lB Sr X hf=>⟨some ⟨gs,0,none⟩,some ⟨gd,0,none⟩,some ⟨gt,0,none⟩,true,rfl,?_⟩
 rw [eL] at Sr;have TB:=(T.le l013).le lB;have E1:YM (evE 3):=QcX (by decide)
 have E2:YM (evE 12):=QcX (by decide)
 have hE:∀ l ∈ [[evE 3,evE 12]],∀ e ∈ l,YM e:=by
  intro l hl e he;rw [cB.1 hl] at he;rcases bX.1 he with rfl|he
  ·exact E1
  ·rw [cB.1 he];exact E2
 have Z0:=EnZ.new q 1;have r0:(YZ 1).rd=[0]:=rfl;refine⟨fun x hh=>x=.t (.one (.ifc none))/\Kc q B hh ⟨a1,n1,c1,a2,n2,c2,a3,n3,c3⟩ gs gd gt ge (fun p=>W7 B p F gd sd 160 2 []) (Yl q 0 (evE 3) (YZ 1)) [],fun _=>?_,fun e=>absurd rfl e,?_⟩
 ·refine Y0 (p:=0) X Qk Sr rfl (by decide) Z0 (by rw [r0];simp) hE (fun hno=>absurd ⟨by decide,by decide⟩ hno) (fun _ _ hend=>absurd (by decide) hend) fun h' _ _ _ X'=>⟨none,rfl,rfl,X'⟩
 rintro h24 e25 ⟨q1,X1⟩;cases q1;have Z1:=Z0.step Qk (p:=0) (by decide) E1
 have r1:(Yl q 0 (evE 3) (YZ 1)).rd=[1]:=by rw [Qa5];rfl
 generalize Yl q 0 (evE 3) (YZ 1)=s1 at *
 refine⟨fun x hh=>x=.t (.one (.ifc none))/\Kc q B hh ⟨a1,n1,c1,a2,n2,c2,a3,n3,c3⟩ gs gd gt ge (fun p=>W7 B p F gd sd 160 2 []) (Yl q 0 (evE 12) s1) [],fun _=>?_,fun e=>absurd rfl e,?_⟩
 ·refine Y0 (p:=0) X1 Qk Sr rfl (by decide) Z1 (by rw [r1];simp) hE (fun hno=>absurd ⟨by decide,by decide⟩ hno) (fun _ _ hend=>absurd (by rw [r1];decide) hend) fun h' _ _ _ X'=>⟨none,rfl,rfl,?_⟩
  rw [r1] at X';exact X'
 rintro h30 e31 ⟨q1,X2⟩;cases q1;have Z2:=Z1.step Qk (p:=0) (by decide) E2
 have r2:(Yl q 0 (evE 12) s1).rd=[2]:=by rw [Qa5,r1];rfl
 generalize Yl q 0 (evE 12) s1=s2 at *
 have h40:∀ x ∈ s2.rd,x<=40:=by rw [r2];simp
 have hw:s2.rows.length=1:=by rw [e1];rfl
 refine⟨fun x hh=>hh=h30/\x=.t (.one (.v (vi 1))),fun _=>Jn X2 (by omega) (by decide) ⟨_,rfl,rfl,by rw [hw];rfl⟩,fun e=>absurd rfl e,?_⟩
 rintro h36 x37 ⟨rfl,q1⟩;cases q1;refine⟨fun x hh=>x=.t (.one (.ifc none))/\∃(F':NpT) (sd':DK),Kc q B hh ⟨a1,n1,c1,a2,n2,c2,a3,n3,c3⟩ gs gd gt ge (fun p=>W7 B p F' gd sd' 160 3 (Kh (Qd q) s2)) s2 s2.rows,fun _=>?_,fun e=>absurd rfl e,?_⟩
 ·exact Gj X2 Qk TB.p (by decide) (by decide) Z2 h40 (by decide) (fun hb=>absurd e2 hb) (fun h' F' sd' X' _=>⟨none,rfl,rfl,F',sd',X'⟩) fun h' F' sd' V' _ hn=>absurd hf hn
 rintro h42 e43 ⟨q1,F',sd',X3⟩;cases q1;refine⟨fun e=>(by cases e),fun _=>?_⟩
 obtain⟨w2,w3⟩:=Ux Z2 (by decide) h40 Qk
 refine VI X3 (Par.one X3.le0) w2 w3 fun aw cw h46 hN pW l46 P46 lN hcap G=>⟨_,_,_,rfl,?_⟩
 have G46:=G.le (Hp.le_trans lN (P46.last (i:=0) rfl));rw [e1] at G46 ⊢;obtain⟨b,o,a',c',ea,hr,hS⟩:=G46.row JM (by decide) (j:=0) (x:=(false,(0,(0,0)))) (l:=[(1,1)]) rfl
 refine⟨b,o,fun _=>⟨ea,by decide,by decide⟩,0,fun _=>Hp.row_cell hr (i:=1) rfl,?_⟩
 exact hK h46 (Hp.le_trans l013 (Hp.le_trans lB P46.z))
theorem QlH {d:Int}{l:List Int}(hl:l≠[]):(if ∀ x ∈ l,0<=x then Qe [vi (Jh l-d),vb true] else Qe [vi 0,vb false])=Qe [vi (Wo d l).1,vb (Wo d l).2]:=by
 unfold Wo;split
 ·first|rfl|(rw [bE hl])
 ·rfl
set_option maxHeartbeats 4000000 in
theorem Qay {s:Wd}{parts:Int}{a:OaT}{n c:Nat}{l:List (Int × EvL)}{acts:List Qni}{aa:OaT}{an ac:Nat}{h:Hp}(S:SlP QjU h a n l)(SA:SlP Qd1 h aa an acts)(T:QgC h)(TM:Qd4 h):Qa Pg 3 [vs (bs s),vi parts,vsl a n c,vsl aa an ac] h fun v h'=>v=vb true/\h.le h':=by
 refine Qa1 ?_
 have hn:=S.1;obtain rfl:=SA.1;refine QeQ T TM fun h2 l2=>⟨_,rfl,?_⟩
 refine⟨fun x h'=>h'=h2/\x=.t (.one (.v (vb (bif (decide ((((n:Nat):Int):Int)<=130)) then true else false)))),fun _=>?_,fun e=>absurd rfl e,?_⟩
 ·refine QhY ?_
  exact⟨_,rfl,rfl,rfl⟩
 rintro h8 p9 ⟨rfl,e9⟩;cases e9;refine⟨fun x h'=>h'=h8/\((bif (!true) then true else(!(bif (decide ((((n:Nat):Int):Int)<=130)) then true else false)))=false->x=.t (.one (.v (vb (Jt acts 150))))),fun _=>Qbq (SA.le l2) (by decide) ⟨_,rfl,rfl,fun _=>rfl⟩,fun e=>⟨rfl,fun q=>absurd q e⟩,?_⟩
 rintro h14 p15 ⟨rfl,e15⟩;refine⟨fun _=>⟨rfl,l2⟩,fun e=>?_⟩
 obtain⟨en,ep⟩:=ZV e;have hn130:n<=130:=by
  by_cases q:((n:Nat):Int)<=130
  ·omega
  ·rw [cE q] at en;cases en
 have:=e15 en;cases this;have hli:acts.length<=150:=by
  have e3:Jt acts 150=true:=by simpa using ep
  unfold Jt at e3;have:=(bC e3).1;omega
 clear e en ep e15;refine QfP fun a1 n1 c1 a2 n2 c2 a3 n3 c3 x4 x5 x6 x7 p0 h18 l18 hq=>⟨_,_,_,_,_,_,_,_,_,_,_,_,_,_,rfl,?_⟩
 have l018:=Hp.le_trans l2 l18;refine⟨fun _=>⟨rfl,l018⟩,fun e=>?_⟩
 obtain⟨e,eq3⟩:=ZV e;obtain⟨e,eq1⟩:=ZV e;have hpt:p0=true:=by simpa using e
 obtain⟨q,Bq,Q,rfl,rfl,rfl,rfl⟩:=hq hpt;have hp1:=bB eq1;have hp3:=bB eq3;clear hq e hpt eq1 eq3;obtain⟨k,rfl⟩:=kO (show 0<=parts by omega)
 have T18:=T.le l018;have M18:=TM.le l018;refine U8 (s:=⟨a1,n1,c1,a2,n2,c2,a3,n3,c3⟩) (n:=k) Q Bq T18.p T18.e M18 (S.le l018) (by omega) (by omega) (by omega) fun B h29 gs gd gt ge F F0S sd lB Sr X hf=>⟨some ⟨gs,0,none⟩,some ⟨gd,0,none⟩,some ⟨gt,0,none⟩,true,rfl,fun e=>(by cases e),fun _=>?_⟩
 have QB:QS.At ⟨a1,n1,c1,a2,n2,c2,a3,n3,c3⟩ B q:=Q.le lB;have TB:=T18.le lB;have MB:=M18.le lB;have l0B:=Hp.le_trans l018 lB;have SAB:=SA.le l0B;obtain⟨L1,L2,L3⟩:=Qb2 (L:=List.replicate k []) (fun x hx=>by rw [fH hx];exact cH _) (fun x hx e he=>by rw [fH hx] at he;cases he) l
 generalize K4 (List.replicate k []) l=L at *
 rw [dK] at L1;subst L1;clear S SA T TM Q T18 M18 l018 l2 l18 lB;refine(Par.one X.le0).fresh.call (i:=0) rfl (Qe8 Sr (fun x hx=>dJ (L2 x hx) (by decide)) (by omega) fun aA nA cA hA lA TA=>⟨lA,fun h36 P36=>⟨_,_,_,rfl,?_⟩⟩)
 refine P36.fresh.call (i:=0) rfl (Qcy QB (by omega) fun m hM lM Y=>⟨lM,fun h39 P39=>⟨some ⟨m,0,none⟩,rfl,?_⟩⟩)
 refine P39.call (i:=0) rfl (Qbu Y Bq (EnZ.new q L.length).b (by
  have:(YZ L.length).rd.sum=0:=QlC L.length;rw [this];decide) (by omega) fun w hC pW lC C1 lBW lW CW MW=>⟨Hp.le_trans Y.le0 lC,fun h42 P42=>⟨some ⟨w,0,none⟩,rfl,?_⟩⟩)
 intro J223;have hJ223:∀ h',B.le h'->J223 h':=fun h' l'=>⟨rfl,Hp.le_trans l0B l'⟩
 clear_value J223;have P42':Par B h42 [hC,hA,h29]:=P42;have hnA:nA=L.length:=by obtain⟨_,_,h1,_⟩:=TA;exact h1
 subst hnA;refine⟨fun vs hh=>∃(i gt ge m w e:Nat) (st su:En) (t:LuT) (F:NpT) (sd:DK) (pD pS:Hp),vs=[vhp gt 0,vhp m 0,vhp w 0,vi i]/\i<=acts.length/\e<=2+i/\Par B hh [pD,hA,pS]/\Kc q B pS ⟨a1,n1,c1,a2,n2,c2,a3,n3,c3⟩ gs gd gt ge (fun p=>W7 B p F gd sd 160 e t) st su.rows/\sd.fuse=-1/\((t=[]/\su=YZ L.length)\/(t≠[]/\t=Kh (Qd q) su))/\Got q L su/\Got q L st/\QgY q B pD m w st su,fun vs hh=>acts.length-(Qm vs 3).toNat,
  ⟨0,gt,ge,m,w,2,YZ L.length,YZ L.length,[],F,sd,hC,h29,rfl,cH _,cJ _,P42',X,hf,.inl ⟨rfl,rfl⟩,Got.new q L,Got.new q L,⟨pW,CW,MW⟩⟩,?_⟩
 clear P42 P42' P39 P36 X CW MW C1 lC lBW lW Y lM hf;clear h42 h39 h36 hM hC pW m w gt ge F sd h29;rintro vs hh ⟨i,gt,ge,m,w,e,st,su,t,F,sd,pD,pS,rfl,hi,he,P,X,hf,TX,Nu,Ns,DD⟩;refine⟨some ⟨gt,0,none⟩,some ⟨m,0,none⟩,some ⟨w,0,none⟩,i,rfl,fun e0=>?_,fun _=>hJ223 hh P.z⟩
 have hlt:i<acts.length:=by have:=bC e0;omega
 have hxa:acts[i]?=some acts[i]:=bD hlt
 generalize acts[i]=y at hxa;have r40s:=Ns.r L2;have r40u:=Nu.r L2;have h3:L.length<=3:=by omega
 have h1:1<=L.length:=by omega
 obtain⟨w2,w3⟩:=Ux Ns.z h3 r40s Bq;obtain⟨u2,u3⟩:=Ux Nu.z h3 r40u Bq;obtain⟨ba,oa,ea,hra⟩:=(SAB.le P.z).get QdM (by decide) hxa
 have hba:aa=some ⟨ba,oa,none⟩/\(0:Int)<=i/\(i:Int)<((acts.length:Nat):Int):=⟨ea,by omega,by omega⟩
 refine⟨ba,oa,hba,bs y.1,y.2.1,bs y.2.2.1,y.2.2.2,by rw [bG];exact hra,?_⟩
 intro J131;have hJ:∀(h':Hp) (gt' ge' m' w' e':Nat) (st' su':En) (t':LuT) (F':NpT) (sd':DK) (pD' pS':Hp),e'<=e+1->Par B h' [pD',hA,pS']->Kc q B pS' ⟨a1,n1,c1,a2,n2,c2,a3,n3,c3⟩ gs gd gt' ge' (fun p=>W7 B p F' gd sd' 160 e' t') st' su'.rows->sd'.fuse=-1->((t'=[]/\su'=YZ L.length)\/(t'≠[]/\t'=Kh (Qd q) su'))->Got q L su'->Got q L st'->QgY q B pD' m' w' st' su'->J131 (some ⟨gt',0,none⟩) (some ⟨m',0,none⟩) (some ⟨w',0,none⟩) h':=by
  clear w2 w3 u2 u3 r40s r40u DD Nu Ns TX hf X P hra hba ea;intro h' gt' ge' m' w' e' st' su' t' F' sd' pD' pS' he' P' X' hf' TX' Nu' Ns' DD';obtain⟨w2,w3⟩:=Ux Ns'.z h3 (Ns'.r L2) Bq;obtain⟨u2,u3⟩:=Ux Nu'.z h3 (Nu'.r L2) Bq;have w1:st'.rows.length<=1000000:=by rw [bU] at w2;exact w2
  have u1:su'.rows.length<=1000000:=by rw [bU] at u2;exact u2
  have Xh:=X'.le (P'.last (i:=2) rfl);have hrl:=Ns'.z.b.rl;have hfl:=Ns'.z.b.fl;have hd:=Bq.d;obtain⟨_,_,_,_,_,_,_,_,_,arM,crM,afM,cfM,apM,cpM,awM,cwM,kM,sM1,sM2,gM⟩:=(DD'.m.le (P'.last (i:=0) rfl)).see;obtain⟨_,_,_,_,_,_,_,_,_,arW,crW,afW,cfW,apW,cpW,awW,cwW,kW,sW1,sW2,gW⟩:=(DD'.w.le (P'.last (i:=0) rfl)).see;have hAl:(su'.rows.map ZI).length=su'.rows.length:=bU _;have hAm:(st'.rows.map ZI).length=st'.rows.length:=bU _;rw [hAl] at kW gW;rw [hAm] at kM gM;refine QdT Xh (by omega) Ns'.z.b.fb hd ⟨_,_,rfl,?_⟩
  refine Qf9 kM rfl rfl sM2 (by omega) Ns'.z.b.fb hd ?_
  rw [QlH (fun q1=>by rw [q1] at hfl;simp at hfl;omega)]
  refine⟨_,_,rfl,w',0,rfl,_,_,_,Qc kW rfl,?_⟩
  refine VI Xh P' u2 u3 fun a2 c2 h166 hN pN l166 P166 lN hcap G'=>⟨_,_,_,rfl,Qc (l166 _ _ kW) rfl,?_⟩
  have kM6:=l166 _ _ kM;have kW6:=l166 _ _ kW;have X6:=Xh.le l166;refine Qj2 (G'.le (Hp.le_trans lN (P166.last (i:=0) rfl))) (gW.le l166) (by omega) (fun x hx=>dJ (u3 x hx) (by decide)) ⟨true,rfl,?_⟩
  refine⟨m',0,fun _=>rfl,_,_,_,fun _=>Qc kM6 rfl,w',0,fun _=>rfl,_,_,_,fun _=>Qc kW6 rfl,(st'.rows.length:Int)-su'.rows.length,fun _=>iW,?_⟩
  refine⟨fun x hh=>hh=h166/\x=.t (.one (.v (vi ((st'.rows.length:Int)-su'.rows.length)))),fun _=>Jn X6 w1 u1 ⟨_,rfl,rfl,rfl⟩,fun e=>absurd rfl e,?_⟩
  rintro h182 x183 ⟨rfl,q1⟩;cases q1;refine⟨fun _=>Qc kW6 rfl,fun _=>Qc kM6 rfl,m',0,fun _=>rfl,_,_,_,fun _=>Qc kM6 rfl,?_⟩
  refine⟨fun x hh=>∃(aR:OaT) (cR:Nat),x=.t (.one (.v (vsl aR st'.rd.length cR)))/\h182.le hh/\SlI hh aR st'.rd.length (st'.rd.map fun n:Nat=>(n:Int)),fun _=>QeR X6 (by omega) fun aR cR hR lR sR=>⟨_,_,_,rfl,aR,cR,rfl,lR,sR⟩,fun e=>absurd (by simp) e,?_⟩
  rintro h191 a192 n192 c192 ⟨aR,cR,q1,l191,sR⟩;cases q1;have kM9:=l191 _ _ kM6;have X9:=X6.le l191;refine⟨fun _=>Qc kM9 rfl,?_⟩
  refine⟨fun x hh=>hh=h191/\x=.t (.one (.v (vb true))),fun _=>Qbv sR (sM1.le (Hp.le_trans l166 l191)) (by omega) (by omega) ⟨_,rfl,rfl,by rw [cC rfl]⟩,fun e=>absurd (by simp) e,?_⟩
  rintro h197 p198 ⟨rfl,q1⟩;cases q1;refine⟨m',0,fun _=>rfl,_,fun _=>Qc kM9 rfl,?_⟩
  refine⟨fun x hh=>hh=h197/\x=.t (.one (.v (vi (st'.late:Nat)))),fun _=>QdZ X9 ⟨_,rfl,rfl,rfl⟩,fun e=>absurd (by simp) e,?_⟩
  rintro h206 x207 ⟨rfl,q1⟩;cases q1;refine⟨fun _=>Qc kM9 rfl,_,fun _=>QnJ (by kernel_rfl),?_⟩
  refine⟨fun x hh=>hh=h206/\x=.t (.one (.v (vi (st'.pn.length:Nat)))),fun _=>QdB X9 ⟨_,rfl,rfl,rfl⟩,fun e=>absurd (by simp) e,?_⟩
  rintro h213 x214 ⟨rfl,q1⟩;cases q1;refine⟨fun x hh=>hh=h213/\x=.t (.one (.v (vi (st'.pn.length:Nat)))),fun _=>QlL ((DD'.m.le (P'.last (i:=0) rfl)).le (Hp.le_trans l166 l191)) ⟨_,rfl,rfl,rfl⟩,fun e=>absurd (by simp) e,?_⟩
  rintro h219 x220 ⟨rfl,q1⟩;cases q1;refine⟨fun e=>?_,fun _=>?_⟩
  ·simp at e
  exact⟨_,iW,⟨i+1,gt',ge',m',w',e',st',su',t',F',sd',pD',pS',rfl,hlt,by omega,(P166.sub (List.Sublist.cons _ (gY _))).grow l191,X',hf',TX',Nu',Ns',DD'⟩,by simp [Qm];omega⟩
 clear_value J131;have hstep:(⟨#[115,116,101,112]⟩:ByteArray)=bs [115,116,101,112]:=rfl;have hsave:(⟨#[115,97,118,101]⟩:ByteArray)=bs [115,97,118,101]:=rfl;rw [hstep,hsave];refine⟨_,QH,fun _=>?_,fun _=>?_⟩
 · -- a step
  generalize y.2.1=pp;intro J94;have hend:∀(f:Int) (h100:Hp) (st':En) (pD' pS':Hp),0<=f->Par B h100 [pD',hA,pS']->Kc q B pS' ⟨a1,n1,c1,a2,n2,c2,a3,n3,c3⟩ gs gd gt ge (fun p=>W7 B p F gd sd 160 e t) st' su.rows->Got q L st'->QgY q B pD' m w st' su->Qa Pg 15 [ifv (QG f),vi f] h100 fun v104 h105=>∃ p106:Bool,v104=vb p106/\((!p106)=true->(vb false=vb true/\h.le h105))/\((!p106)=false->J131 (some ⟨gt,0,none⟩) (some ⟨m,0,none⟩) (some ⟨w,0,none⟩) h105):=by
   intro f h100 st' pD' pS' h0f P' X' N' D';refine VR h0f ⟨_,rfl,fun e1=>?_,fun _=>hJ h100 gt ge m w e st' su t F sd pD' pS' (by omega) P' X' hf TX Nu N' D'⟩
   rw [cC rfl] at e1;cases e1
  have kM:=(DD.m.le (P.last (i:=0) rfl)).see;obtain⟨_,_,_,_,_,_,_,_,_,arM,crM,afM,cfM,apM,cpM,awM,cwM,kM,sM1,sM2,gM⟩:=kM;have hrl:=Ns.z.b.rl;refine⟨fun e1=>?_,fun e1=>?_⟩
  ·have hno:¬(0<=pp/\pp<(L.length:Nat)):=by
    rintro⟨q1,q2⟩;rw [cE (by omega),cE (by omega)] at e1
    cases e1
   refine P.call (i:=2) rfl (Y0 (p:=pp) X Bq Sr rfl h3 Ns.z r40s L3 (fun _=>⟨X.le0,fun h63 P63=>⟨_,rfl,hend 5 h63 st pD pS (by decide) P63 X Ns DD⟩⟩) (fun q1 q2 _=>absurd ⟨q1,q2⟩ hno) fun _ q1 q2 _ _=>absurd ⟨q1,q2⟩ hno)
  ·obtain⟨e2,e3⟩:=ZV e1;have e2:=bB e2;have e3:=bB e3;obtain⟨p,rfl⟩:=kO (show 0<=pp by omega)
   have hp:p<L.length:=by omega
   obtain⟨b,o,eb,hc⟩:=sM1.get (i:=p) (by omega)
   have hg:(st.rd.map fun n:Nat=>(n:Int)).getD p 0=((st.rd.getD p 0:Nat):Int):=Qk5 (by omega)
   rw [hg] at hc;obtain⟨bL,oL,aL,cL,eL,hcL,SL⟩:=(TA.le (P.last (i:=1) rfl)).cell (QhN hp);have hb1:arM=some ⟨b,o,none⟩/\(0:Int)<=(p:Int)/\(p:Int)<((st.rd.length:Nat):Int):=⟨eb,by omega,by omega⟩
   have hb2:aA=some ⟨bL,oL,none⟩/\(0:Int)<=(p:Int)/\(p:Int)<((L.length:Nat):Int):=⟨eL,by omega,by omega⟩
   have hc':hh.cell b (o+((p:Nat):Int).toNat*1)=some (vi ((st.rd.getD p 0:Nat):Int)):=by rw [bG];exact hc
   have hcL':hh.cell bL (oL+((p:Nat):Int).toNat*1)=some (vsl aL (L.getD p []).length cL):=by rw [bG];exact hcL
   refine⟨m,0,rfl,_,_,_,Qc kM rfl,b,o,hb1,_,hc',bL,oL,hb2,_,_,_,hcL',fun e4=>?_,fun e4=>?_⟩
   ·have e4:=bC e4;refine P.call (i:=2) rfl (Y0 (p:=(p:Int)) X Bq Sr rfl h3 Ns.z r40s L3 (fun hno=>absurd ⟨by omega,by omega⟩ hno) (fun _ _ _=>⟨X.le0,fun h63 P63=>⟨_,rfl,hend 8 h63 st pD pS (by decide) P63 X Ns DD⟩⟩) fun _ _ _ hl _=>absurd hl (by rw [bG];omega))
   ·have e4:=bB e4;have hcb:=Ns.cb p hp;have hltp:st.rd.getD p 0<(L.getD p []).length:=by omega
    have hev:(L.getD p [])[st.rd.getD p 0]?=some ((L.getD p []).getD (st.rd.getD p 0) (0,(0,0),(0,0),(0,0))):=Qn4 hltp;have hE:YM ((L.getD p []).getD (st.rd.getD p 0) (0,(0,0),(0,0),(0,0))):=L3 _ (JS hp) _ (JS hltp);have N':=Ns.step Bq hp hE hltp;obtain⟨b5,o5,e5,hr5⟩:=SL.get (sz:=7) (fun _=>rfl) (by decide) hev
    refine⟨bL,oL,hb2,_,_,_,hcL',m,0,rfl,_,_,_,Qc kM rfl,b,o,hb1,_,hc',b5,o5,⟨e5,by omega,by omega⟩,_,_,_,_,_,_,_,by rw [bG];exact hr5,?_⟩
    obtain⟨hW,XW,XM⟩:=DD;have hsum:st.rd.sum<=120:=by
     have:=U0 st.rd r40s;rw [Ns.z.b.rl] at this;omega
    refine P.call (i:=0) rfl (Qmj (p:=p) XM Bq hE Ns.z.b (by omega) hp (by omega) fun p2 lp2 XM'=>⟨Hp.le_trans XW.le0 lp2,fun h92 P92=>⟨rfl,?_⟩⟩)
    refine P92.call (i:=2) rfl (Y0 (p:=(p:Int)) X Bq Sr rfl h3 Ns.z r40s L3 (fun hno=>absurd ⟨by omega,by omega⟩ hno) (fun _ _ hend2=>absurd hltp (by rw [bG] at hend2;exact hend2)) fun p3 _ _ _ X'=>⟨X'.le0,fun h63 P63=>⟨_,rfl,?_⟩⟩)
    rw [bG] at X';exact hend 0 h63 _ p2 p3 (by decide) P63 X' N' ⟨hW,XW,XM'⟩
 refine⟨_,QH,fun _=>?_,fun _=>?_⟩
 · -- saved
  refine P.call (i:=2) rfl (Gj X Bq TB.p h1 h3 Ns.z r40s (by omega) (fun _ p' F' X'=>⟨X'.le0,fun h74 P74=>⟨_,rfl,VR (f:=6) (by decide) ⟨true,rfl,fun _=>⟨rfl,Hp.le_trans l0B P74.z⟩,fun q1=>by cases q1⟩⟩⟩) (fun p' F' sd' X' hf2=>⟨X'.le0,fun h74 P74=>⟨none,rfl,VR (f:=0) (by decide) ⟨false,rfl,fun q1=>(by cases q1),fun _=>⟨fun q1=>(by cases q1),fun _=>?_⟩⟩⟩⟩) fun p' F' sd' V' hw hnf=>absurd hf hnf)
  have hsum:st.rd.sum<=120:=by have:=U0 st.rd r40s;rw [Ns.z.b.rl] at this;omega
  refine P74.call (i:=0) rfl (Qbu DD.m Bq Ns.z.b (by omega) (by omega) fun w' hC pW lC C1 lBW lW CW MW=>⟨Hp.le_trans DD.le0 lC,fun h118 P118=>⟨some ⟨w',0,none⟩,rfl,?_⟩⟩)
  exact hJ h118 gt ge m w' (e+1) st st _ F' sd' hC p' (by omega) P118 X' (hf2 hf) (.inr ⟨Qmi _ _,rfl⟩) Ns Ns ⟨pW,CW,MW⟩
 · -- begun anew
  have X0:=X;obtain⟨pT,pE,pK,PI,S',XE,V⟩:=X0;have V2:=V.grow (PI.last (i:=2) rfl);refine P.call (i:=2) rfl (VX (q:=q) (s:=⟨a1,n1,c1,a2,n2,c2,a3,n3,c3⟩) (st:=su) V2 QB Bq Sr TB.p TB.e MB h1 h3 Nu.z r40u TX fun gt' ge' p' X'=>⟨X'.le0,fun h122 P122=>⟨some ⟨gt',0,none⟩,none,rfl,_,fun _=>Mb (e:=123) (by kernel_rfl),fun q1=>(by cases q1),fun _=>?_⟩⟩)
  have husum:su.rd.sum<=120:=by have:=U0 su.rd r40u;rw [Nu.z.b.rl] at this;omega
  obtain⟨hW,XW,XM⟩:=DD;have lWD:=XM.le0;refine P122.call (i:=0) rfl (Qbu (XW.le lWD) Bq Nu.z.b (by omega) (by omega) fun m' hC pW lC C1 lBW lW CW MW=>⟨Hp.le_trans (Hp.le_trans XW.le0 lWD) lC,fun h128 P128=>⟨some ⟨m',0,none⟩,rfl,?_⟩⟩)
  exact hJ h128 gt' ge' m' w e su su t F sd hC p' (by omega) P128 X' hf TX Nu Nu ⟨hW,XW,C1.base lWD⟩
end Go.Proofs.YthicpjafcpfjoaaGreatDoor
namespace Go.Vc
open Go Go.RowKit
theorem Qo3 {W:World}{b o:Nat}{v:Value}(h:W.cell? ⟨b,o,none⟩=some v):Hp.cell (MJ W) b o=some v:=by
 unfold World.cell? at h;unfold Hp.cell MJ;cases hb:W.heap[b]? with
 | none=>rw [hb] at h;cases h
 | some ob=>rw [hb] at h;cases ob<;>simp_all
section
variable {H:Type}{enc:TypeId × Value->H}
theorem Qml {a:Assume}{C:Checked}{os:Os}{f:FuncId}{fn:Func}{s:ChangeSpec}{conds:List PathCond}{apart fresh handsOn again:Bool}{X:World->Array Value->Prop}
  (hX:∀(w w':World) (args:Array Value),w.heap=w'.heap->X w args->X w' args)
  (own:ownKnob C.prog.godebug=none) (started:os.Started) (noInit:C.prog.inits.idxOf? f=none) (hfn:C.prog.funcs[f]?=some fn)
  (witness:∃(w:World) (tape:Tape) (i:Input),w.os=os/\(w.forCall tape i).Shaped C.prog/\i.vars=[]/\Input.okWide C.prog (w.forCall tape i) .any w.heap.size f i /\
   ((s.pre enc C.prog fn conds apart (w.forCall tape i).memory i.args/\X (w.forCall tape i).memory i.args)/\sizedMet enc C.prog fn (OpenSpec.ofChange s) apart (w.forCall tape i).memory i.args)/\a.holds C.prog (lone (Frame.enter C.prog f i.args .normal) [] (w.forCall tape i)))
  (contract:∀(W:World) (base:Nat) (args:Array Value) (ds gs:List (DataW H)) (before:List MemPlace),
   (∀(j:Nat) t v,fn.params[j]?=some t->args[j]?=some v->Value.okWide C.prog W .any base t v) ->
   DataW.Whole enc C.prog fn.params.toList s.vars apart W args.toList ds gs before ->
   conds.all (PathCond.test C.prog ⟨fn.params.toList,ds,s.plain.varTypes C.prog,gs⟩)=true->X W args->W.ShapedOpen C.prog ->
   Calls C.prog f args W fun e W'=>∃ v,e=.returned v/\s.post enc C.prog fn apart fresh handsOn again W args v W') :
  ReturnsInHanded a C os f .any (fun w args=>(s.pre enc C.prog fn conds apart w args/\X w args)/\sizedMet enc C.prog fn (OpenSpec.ofChange s) apart w args) (s.post enc C.prog fn apart fresh handsOn again):=by
 refine returnsInHanded_of_calls own started noInit witness ?_
 intro w tape i _ hsh _ hok hpre _;obtain⟨_,_,_,fn2,hfn2,_,_,_,_,hval⟩:=hok;have e:fn2=fn:=dL (hfn2.symm.trans hfn);subst e;obtain⟨⟨⟨ds,gs,before,hw,hc⟩,hx⟩,_⟩:=hpre;have hw2:=DataW.Whole.of_heap (w':=w.forCall tape i) (by rfl) hw
 refine(contract (w.forCall tape i) w.heap.size i.args ds gs before hval hw2 hc (hX _ _ _ (by rfl) hx) hsh).mono fun e W' ⟨v,he,hp⟩=>?_
 subst he;exact ChangeSpec.post_blind hp
end
end Go.Vc
namespace Go.Proofs.YthicpjafcpfjoaaGreatDoor.streamSays
open Go.ChangeShapes Go.WideShapes Go.ChangeAt Go.RowKit Go.Vc
theorem own:ownKnob Tryz.prog.godebug=none:=by kernel_rfl
theorem open0 {H:Type}{enc:TypeId × Value->H}{W:World}{cs:List Value}(L:Qcm Tryz.prog enc W (fun _=>True) (Jr Tryz.prog 4 90) cs):∃(x0:Int) (x1:Int) (x2:Int) (x3:Int) (x4:Int) (x5:Int) (x6:Int) (x7:Int),cs=QjU (x0,(x1,(x2,x3),(x4,x5),(x6,x7)))/\InR x0/\InR x1/\InR x2/\InR x3/\InR x4/\InR x5/\InR x6/\InR x7:=by
 have e:Jr Tryz.prog 4 90=[3,3,3,3,3,3,3,3]:=by kernel_rfl
 rw [e] at L;match cs,L with
 | [v0,v1,v2,v3,v4,v5,v6,v7],L=>
  obtain⟨x0,h0,g0⟩:=Xv Tryz.underlying3 (L.1);cases h0;obtain⟨x1,h1,g1⟩:=Xv Tryz.underlying3 (L.2.1);cases h1;obtain⟨x2,h2,g2⟩:=Xv Tryz.underlying3 (L.2.2.1);cases h2;obtain⟨x3,h3,g3⟩:=Xv Tryz.underlying3 (L.2.2.2.1);cases h3;obtain⟨x4,h4,g4⟩:=Xv Tryz.underlying3 (L.2.2.2.2.1);cases h4;obtain⟨x5,h5,g5⟩:=Xv Tryz.underlying3 (L.2.2.2.2.2.1);cases h5;obtain⟨x6,h6,g6⟩:=Xv Tryz.underlying3 (L.2.2.2.2.2.2.1);cases h6;obtain⟨x7,h7,g7⟩:=Xv Tryz.underlying3 (L.2.2.2.2.2.2.2.1);cases h7;exact⟨x0,x1,x2,x3,x4,x5,x6,x7,rfl,g0,g1,g2,g3,g4,g5,g6,g7⟩
theorem open1 {H:Type}{enc:TypeId × Value->H}{W:World}{cs:List Value}(L:Qcm Tryz.prog enc W (fun _=>True) (Jr Tryz.prog 4 45) cs):∃(x0:ByteArray) (x1:Int) (x2:ByteArray) (x3:Int),cs=Qd1 (x0.data.toList,x1,x2.data.toList,x3)/\x0.size<=maxLen/\InR x1/\x2.size<=maxLen/\0<=x3/\x3<=18446744073709551615:=by
 have e:Jr Tryz.prog 4 45=[9,3,9,43]:=by kernel_rfl
 rw [e] at L;match cs,L with
 | [v0,v1,v2,v3],L=>
  obtain⟨x0,h0,_,g0⟩:=Gh NL Tryz.underlying9 (L.1);cases h0;obtain⟨x1,h1,g1⟩:=Xv Tryz.underlying3 (L.2.1);cases h1;obtain⟨x2,h2,_,g2⟩:=Gh NL Tryz.underlying9 (L.2.2.1);cases h2;obtain⟨x3,h3,g3⟩:=Qi9 Tryz.underlying43 (L.2.2.2.1);have g3:=QqU g3;cases h3;exact⟨x0,x1,x2,x3,rfl,g0,g1,g2,g3⟩
abbrev lay:=Rows.streamSaysRow.laid
theorem tabs {W:World}(hL:laidMetH Tryz.prog lay W):UV (MJ W):=by
 rw [MakeChecks.laidMetH_plain _ _ _ (by kernel_rfl)] at hL
 have h3:laidMet Tryz.prog (("internal/strconv.uint64pow10",Lib.tabData .u64 Lib.pow10Tab) :: lay.drop 3) W:=hL.tail.tail;have hT:=Lib.tabIs_of_head (g:=3) (n:=20) (by kernel_rfl) (t:=349) (by kernel_rfl) (e:=43) (by kernel_rfl) (by kernel_rfl) (by kernel_rfl) (by kernel_rfl) h3
 intro w hs;exact Qo2 hT hs
theorem star: "*"++ "errors.errorString"= "*errors.errorString":=by decide
theorem rowE (u:TypeId)(h:Tryz.prog.typeName? 3 u=some "*errors.errorString"):u=351:=
 typeName_ptr_named (nm:= "errors.errorString") (by rw [star];kernel_rfl) (by kernel_rfl) (by decide) u (by rw [star];exact h)
theorem errs {W:World}(hL:laidMetH Tryz.prog lay W):N9 (MJ W):=by
 rw [MakeChecks.laidMetH_plain _ _ _ (by kernel_rfl)] at hL
 have h4:laidMet Tryz.prog (("strconv.ErrRange",_) :: ("strconv.ErrSyntax",_) :: lay.drop 6) W:=hL.tail.tail.tail.tail;obtain⟨a0,s0,hv0,_⟩:=laid_sentinel (g:=2) (ti:=59) h4 (by kernel_rfl) (by kernel_rfl) Tryz.underlying59 rowE Tryz.underlying351 Tryz.underlying353 rfl rfl Tryz.underlying9 (by kernel_rfl) (by kernel_rfl)
 obtain⟨a1,s1,hv1,_⟩:=laid_sentinel (g:=1) (ti:=59) h4.tail (by kernel_rfl) (by kernel_rfl) Tryz.underlying59 rowE Tryz.underlying351 Tryz.underlying353 rfl rfl Tryz.underlying9 (by kernel_rfl) (by kernel_rfl)
 exact⟨⟨_,_,fun w hs=>QeG hv1 hs⟩,⟨_,_,fun w hs=>QeG hv0 hs⟩⟩
theorem names {W:World}(hL:laidMetH Tryz.prog lay W):QgC (MJ W):=by
 have T:=tabs hL;have E:=errs hL;rw [MakeChecks.laidMetH_plain _ _ _ (by kernel_rfl)] at hL
 have h6:laidMet Tryz.prog (("penstock/query.fields",_) :: ("penstock/query.aggs",_) :: lay.drop 8) W:=hL.tail.tail.tail.tail.tail.tail;exact⟨T,E,Qdo (texts:=ZF) (g:=9) (t:=162) (e:=9) h6 (by kernel_rfl) (by kernel_rfl) (by kernel_rfl) (by kernel_rfl) (by kernel_rfl) (by decide),Qdo (texts:=Qll) (g:=0) (t:=162) (e:=9) h6.tail (by kernel_rfl) (by kernel_rfl) (by kernel_rfl) (by kernel_rfl) (by kernel_rfl) (by decide)⟩
theorem lens {W:World}(hsh:W.ShapedOpen Tryz.prog):Qd4 (MJ W):=by
 obtain⟨m,hm⟩:=Tryz.laysM146.s1_3 W hsh;exact⟨m,Qo3 hm⟩
theorem door_met (os:Os)(args:Array Value):laidMetH Tryz.prog lay ((World.laidAll Tryz.prog os lay).forCall (fun _ _=>0) ⟨#[],args,[]⟩).memory:=by
 rw [MakeChecks.laidMetH_plain _ _ _ (by kernel_rfl)]
 exact laidMet_laidAll _ (by kernel_rfl) (by kernel_rfl)
set_option maxRecDepth 100000 in
theorem lifted (os:Os)(started:os.Started)(H:Type)(enc:TypeId × Value->H) :
  ReturnsInHanded {} Tryz.checked os 3 .any (fun w args=>(Rows.streamSaysSpec.pre enc Tryz.prog Tryz.f3 Rows.streamSaysRow.domain false w args/\laidMetH Tryz.prog lay w)/\sizedMet enc Tryz.prog Tryz.f3 (OpenSpec.ofChange Rows.streamSaysSpec) false w args) (Rows.streamSaysSpec.post enc Tryz.prog Tryz.f3 false true false false):=by
 refine Qml (C:=Tryz.checked) (X:=fun w _=>laidMetH Tryz.prog lay w) (fun _ _ _ hh h=>h.of_heap hh) own started (by kernel_rfl) Tryz.func3
  (ChangeSpec.witness_shaped (enc:=enc) (C:=Tryz.checked) (os:=os) (X:=fun w _=>laidMetH Tryz.prog lay w) false (World.laidAll Tryz.prog os lay) #[.string ⟨#[]⟩,.int .i64 0,.slice none 0 0,.slice none 0 0] 8 (World.laidAll_os _ _ _) (World.shaped_of_ZipB (by kernel_rfl) (by kernel_rfl)) (by kernel_rfl) (by kernel_rfl) (by kernel_rfl) (door_met os _)) ?_
 intro W base args ds gs before hval0 hW hcnd hL hsh;have T:=tabs hL;have TM:=lens hsh;have E:=errs hL;have TQ:=names hL;have hval:∀(j:Nat) t v,Tryz.f3.params[j]?=some t->args[j]?=some v->Value.okWide Tryz.prog W .any base t v:=hval0
 have hW':=hW;obtain⟨p,q,hA0,hV,rfl,hfz,hnd⟩:=hW;have hA:DataW.TrodAll enc Tryz.prog W 0 (fun _=>true) true Tryz.f3.params.toList args.toList ds p:=hA0
 rw [Tryz.params3] at hA hval;obtain⟨v0,vs0,d0,ds0,p0,q0,hargs,rfl,rfl,h0,r0⟩:=trodAll_cons hA;obtain⟨v1,vs1,d1,ds1,p1,q1,rfl,rfl,rfl,h1,r1⟩:=trodAll_cons r0;obtain⟨v2,vs2,d2,ds2,p2,q2,rfl,rfl,rfl,h2,r2⟩:=trodAll_cons r1;obtain⟨v3,vs3,d3,ds3,p3,q3,rfl,rfl,rfl,h3,r3⟩:=trodAll_cons r2;obtain⟨rfl,rfl,rfl⟩:=trodAll_nil r3;obtain rfl:args=#[v0,v1,v2,v3]:=by cases args;simp_all
 obtain⟨rfl,rfl⟩:=trodVars_none hV;obtain⟨s0,rfl⟩:=okWide_string Tryz.underlying9 (hval 0 9 v0 rfl rfl);obtain⟨b0,e0,_,z0⟩:=Gh NL Tryz.underlying9 (QaW (Sm:=fun _=>True) h0 trivial)
 cases e0;obtain⟨a1,rfl⟩:=okWide_int Tryz.underlying3 (hval 1 3 v1 rfl rfl);obtain⟨b1,e1,ga1⟩:=Xv Tryz.underlying3 (QaW (Sm:=fun _=>True) h1 trivial)
 cases e1;obtain⟨w1,w2,w3,rfl⟩:=okWide_slice (e:=90) (by kernel_rfl) (hval 2 22 v2 rfl rfl)
 obtain⟨p2,n2,c2,l2,e2,S2,hc2,hm2,_,g2⟩:=QdS (enc:=QjU) (sz:=8) (good:=fun y=>True) NL (e:=90) (by kernel_rfl) (by kernel_rfl) (by decide) (fun _=>rfl)
  (fun cs L=>by
   have hf:=QbP NL 4 (by kernel_rfl) L
   obtain⟨x0,x1,x2,x3,x4,x5,x6,x7,hy,hg⟩:=open0 hf;exact⟨(x0,(x1,(x2,x3),(x4,x5),(x6,x7))),hy,trivial⟩) (QaW (Sm:=fun _=>True) h2 trivial)
 cases e2;obtain⟨w1,w2,w3,rfl⟩:=okWide_slice (e:=45) (by kernel_rfl) (hval 3 23 v3 rfl rfl)
 obtain⟨p3,n3,c3,l3,e3,S3,hc3,hm3,_,g3⟩:=QdS (enc:=Qd1) (sz:=4) (good:=fun y=>True) NL (e:=45) (by kernel_rfl) (by kernel_rfl) (by decide) (fun _=>rfl)
  (fun cs L=>by
   have hf:=QbP NL 4 (by kernel_rfl) L
   obtain⟨x0,x1,x2,x3,hy,hg⟩:=open1 hf;exact⟨(x0.data.toList,x1,x2.data.toList,x3),hy,trivial⟩) (QaW (Sm:=fun _=>True) h3 trivial)
 cases e3;refine(Qm6 (Qay (s:=s0.data.toList) S2 S3 TQ TM)).mono fun e W' ⟨he,hg⟩=>?_
 subst he;exact⟨_,rfl,QoY big hW' hg (by kernel_rfl) (tb:=4) (by kernel_rfl) (by kernel_rfl) rfl⟩
set_option maxHeartbeats 2000000 in
theorem closed:joinedFacts Tryz.prog 3 Tryz.f3 Rows.streamSaysSpec Rows.streamSaysRow=true:=by
 simp only [joinedFacts,Bool.and_eq_true];repeat' apply And.intro
 all_goals as_aux_lemma=>kernel_rfl
theorem inst:Tryz.f3.isInstance Tryz.prog Rows.streamSaysRow.origin Rows.streamSaysRow.targs:=of_decide_eq_true (by kernel_rfl)
theorem wrap:Tryz.f3.isWrapper Tryz.prog Rows.streamSaysRow.wrapper Rows.streamSaysRow.mainSum:=by unfold Func.isWrapper;first|(rw [if_pos (by decide +kernel)];kernel_rfl)|(rw [if_neg (by decide +kernel)];exact⟨rfl,rfl⟩)
theorem over:Rows.streamSaysRow.holds Tryz.pinned (OpenSpec.ofChange Rows.streamSaysSpec):=
 OpenClaim.holds_of_wide 3 Tryz.f3 rfl rfl rfl rfl rfl rfl rfl ⟨rfl,rfl,rfl,rfl,rfl⟩ rfl rfl rfl rfl rfl (by kernel_rfl) Tryz.func3 closed
  inst wrap (fun os started H enc _=>lifted os started H enc)
theorem proved:Rows.StreamSaysCardSaid:=
 Claim7.holds_tied_plain_at .later [] _ true _ true
  over (fun _ h=>by cases h) (by kernel_rfl) (fun _ h=>by cases h) streamSays_row_tie rfl ⟨rfl,rfl⟩ (by kernel_rfl) rfl
  (fun f fn hf hfn=>by
   obtain rfl:f=3:=Option.some.inj ((show Tryz.prog.funcNamed "penstock/penstocklaw.StreamSays"=some 3 by kernel_rfl).symm.trans hf) |>.symm
   obtain rfl:fn=Tryz.f3:=(Option.some.inj (Tryz.func3.symm.trans hfn)).symm;exact⟨by kernel_rfl,fun j t ht=>by
    rw [Tryz.params3] at ht;have hm:t ∈ [9,3,22,23]:=by simpa using Array.mem_of_getElem? ht
    have hall:([9,3,22,23].all fun u=>!Tryz.prog.wantsStandIn u)=true:=by kernel_rfl
    exact(show Tryz.prog.wantsStandIn t=false by simpa using List.all_eq_true.1 hall t hm)⟩)
  (by kernel_rfl)
end Go.Proofs.YthicpjafcpfjoaaGreatDoor.streamSays
