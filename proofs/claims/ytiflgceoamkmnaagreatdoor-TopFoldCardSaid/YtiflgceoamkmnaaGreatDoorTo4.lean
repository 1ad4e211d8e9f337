/-
  The statement that the last part names, proved; and all that it stands on that is not in the parts ahead. Conditions: those stated at each.
-/
import Derived.Test.YtiflgceoamkmnaaGreatDoorRows
import Derived.Test.YtiflgceoamkmnaaGreatDoorCards
import Derived.Test.YtiflgceoamkmnaaGreatDoorTie
import Derived.WalkKit
import Derived.ProofKit
import Derived.OpenShut
import Derived.LaidMore
import Derived.Stop.Joined
import Derived.Stop.LaidErr
import Derived.SevenTiedAt
import Derived.Test.YtiflgceoamkmnaaGreatDoorTo3
set_option linter.unusedVariables false
set_option maxRecDepth 100000
namespace Go.Vc
open Go
structure Ow where
 e:TypeId
 sz:Nat
 a:Option Addr
 n:Nat
 c:Nat
 xs:List Value
def Ow.own (s:Ow)(h:Hp):Prop:=OwnS h s.e s.sz s.a s.n s.c s.xs
def Ow.at (s:Ow)(b:Nat):Prop:=s.a=some ⟨b,0,none⟩
structure Owns (hi h:Hp)(L:List Ow):Prop where
 le:hi.le h
 own:∀ s ∈ L,s.own h
 new:∀ s ∈ L,∀ b,s.at b→hi b=none
 dj:L.Pairwise fun s t=>∀ b,s.at b→¬ t.at b
theorem Ow.al {s:Ow}{h:Hp}(O:s.own h){b:Nat}(hb:s.at b):h b≠none:=by
 rcases O.2 with ⟨h1,_⟩|⟨g,cur,h1,h2,_⟩
 ·unfold Ow.at at hb;rw [h1] at hb;cases hb
 ·unfold Ow.at at hb;rw [h1] at hb;cases hb;rw [h2];simp
theorem Ow.keep {s:Ow}{h h':Hp}(O:s.own h)(hk:∀ b,s.at b→∀ o,h b=some o→h' b=some o):s.own h':=OwnS.keep O fun g o hg ho=>hk g hg o ho
section
variable {hi h:Hp}{L:List Ow}
theorem Owns.nil (l:hi.le h):Owns hi h []:=⟨l,fun s hs=>(by cases hs),fun s hs=>(by cases hs),List.Pairwise.nil⟩
theorem Owns.grow {h':Hp}(O:Owns hi h L)(l:h.le h'):Owns hi h' L:=⟨Hp.le_trans O.le l,fun s hs=>Ow.keep (O.own s hs) fun b _ o ho=>l b o ho,O.new,O.dj⟩
theorem Owns.ownV (O:Owns hi h L){s:Ow}(hs:s ∈ L):OwnV hi h s.e s.sz s.a s.n s.c s.xs:=⟨O.le,O.own s hs,fun b hb=>O.new s hs b hb⟩
theorem Owns.apart (O:Owns hi h L){i j:Nat}{s t:Ow}(hs:L[i]?=some s)(ht:L[j]?=some t)(hne:i≠j){b:Nat}(hb:s.at b):¬ t.at b:=by
 obtain⟨hi',es⟩:=List.getElem?_eq_some_iff.1 hs
 obtain⟨hj',et⟩:=List.getElem?_eq_some_iff.1 ht
 have:=List.pairwise_iff_getElem.1 O.dj
 rcases Nat.lt_or_gt_of_ne hne with q|q
 ·have:=this i j hi' hj' q b
  rw [es,et] at this
  exact this hb
 ·have:=this j i hj' hi' q b
  rw [es,et] at this
  exact fun q2=>this q2 hb
theorem Owns.upd {h':Hp}(O:Owns hi h L){j:Nat}{s s':Ow}(hs:L[j]?=some s)(hk:∀ b o,h b=some o→¬ s.at b→h' b=some o)(O':s'.own h')(hn:∀ b,s'.at b→s.at b∨h b=none):Owns hi h' (L.set j s'):=by
 have hsm:=List.mem_of_getElem? hs
 have hj:=(List.getElem?_eq_some_iff.1 hs).1
 have key:∀{k:Nat} {t:Ow},(L.set j s')[k]?=some t→(k=j∧t=s')∨(k≠j∧L[k]?=some t):=by
  intro k t h1
  by_cases hkj:k=j
  ·subst hkj
   rw [List.getElem?_set_self hj] at h1
   exact .inl ⟨rfl,(Option.some.inj h1).symm⟩
  ·rw [List.getElem?_set_ne (fun e=>hkj e.symm)] at h1
   exact .inr ⟨hkj,h1⟩
 have out:∀{k:Nat} {t:Ow},k≠j→L[k]?=some t→∀ b,t.at b→¬ s'.at b:=by
  intro k t hkj ht b hb hb'
  rcases hn b hb' with q|q
  ·exact O.apart ht hs hkj hb q
  ·exact Ow.al (O.own t (List.mem_of_getElem? ht)) hb q
 refine⟨fun b o ho=>hk b o (O.le b o ho) fun q=>(by rw [O.new s hsm b q] at ho;cases ho),fun t ht=>?_,fun t ht b hb=>?_,?_⟩
 ·obtain⟨k,hk'⟩:=List.getElem?_of_mem ht
  rcases key hk' with ⟨_,rfl⟩|⟨hkj,h1⟩
  ·exact O'
  ·exact Ow.keep (O.own t (List.mem_of_getElem? h1)) fun b hb o ho=>hk b o ho (O.apart h1 hs hkj hb)
 ·obtain⟨k,hk'⟩:=List.getElem?_of_mem ht
  rcases key hk' with ⟨_,rfl⟩|⟨hkj,h1⟩
  ·rcases hn b hb with q|q
   ·exact O.new s hsm b q
   ·exact Hp.none_of_le O.le q
  ·exact O.new t (List.mem_of_getElem? h1) b hb
 ·rw [List.pairwise_iff_getElem]
  intro i k hi' hk' hik b hb hb'
  have e1:=List.getElem?_eq_getElem hi'
  have e2:=List.getElem?_eq_getElem hk'
  rcases key e1 with ⟨q1,q2⟩|⟨q1,q2⟩
  ·rcases key e2 with ⟨q3,q4⟩|⟨q3,q4⟩
   ·omega
   ·rw [q2] at hb
    exact out q3 q4 b hb' hb
  ·rcases key e2 with ⟨q3,q4⟩|⟨q3,q4⟩
   ·rw [q4] at hb'
    exact out q1 q2 b hb hb'
   ·exact O.apart q2 q4 (by omega) hb hb'
theorem Owns.push {h':Hp}(O:Owns hi h L)(l:h.le h'){s:Ow}(O':s.own h')(hn:∀ b,s.at b→h b=none):Owns hi h' (L++[s]):=by
 have O2:=O.grow l
 refine⟨O2.le,fun t ht=>?_,fun t ht b hb=>?_,List.pairwise_append.2 ⟨O.dj,by simp,fun x hx y hy b hb hb'=>?_⟩⟩
 ·rcases List.mem_append.1 ht with q|q
  ·exact O2.own t q
  ·rw [List.mem_singleton.1 q];exact O'
 ·rcases List.mem_append.1 ht with q|q
  ·exact O.new t q b hb
  ·rw [List.mem_singleton.1 q] at hb;exact Hp.none_of_le O.le (hn b hb)
 ·rw [List.mem_singleton.1 hy] at hb'
  exact Ow.al (O.own x hx) hb (hn b hb')
variable {P:Program}
theorem Owns.app (O:Owns hi h L){j:Nat}{s:Ow}(hs:L[j]?=some s){tS ty:TypeId}{bytes:Nat}(T:ElT P tS s.e s.sz bytes){b m:Nat}{news:List Value}{tn:TypeId}(hb:h b=none)(hl:news.length=m*s.sz)(h1:∀ u ∈ news,u.oneCell'=true)
  (hn:(s.n+m)*bytes≤140737488355328) (hn2:s.n+m≤140737488355328) {K:Value→Hp→Prop}
  (hK:∀ a' c' h',Owns hi h' (L.set j { s with a:=a',n:=s.n+m,c:=c',xs:=s.xs++news })→(∀ b' o,h b'=some o→¬ s.at b'→h' b'=some o)→K (vsl a' (s.n+m) c') h') :
  SemOK P (Builtin.append_ #[tS,tS] ty #[vsl s.a s.n s.c,vsl (some ⟨b,0,none⟩) m m]) (h.set b (cellsO news tn)) K:=by
 have l:h.le (h.set b (cellsO news tn)):=Hp.le_set (Hp.le_refl h) hb _
 have O1:=O.grow l
 refine OwnV.append T (O1.ownV (List.mem_of_getElem? hs)) (HasRow.new _ _ news _) hl h1 hn hn2 fun a' c' h' O' k1 k2=>hK a' c' h' (O1.upd hs (fun b' o ho hn=>k1 b' o ho hn) O'.own fun b' hb'=>?_) fun b' o ho hn=>k1 b' o (l b' o ho) hn
 rcases k2 b' hb' with q|q
 ·exact .inl (show s.a=_ from q.trans hb')
 ·exact .inr q
theorem CallOK.frame {f:FuncId}{args:List Value}{hA h:Hp}{K:Value→Hp→Prop}(l:hA.le h)(H:CallOK P f args hA K):CallOK P f args h fun v h2=>∃ h1,h1.le h2∧(∀ b o,h b=some o→hA b=none→h2 b=some o∧h1 b=none)∧K v h1:=by
 intro w hs
 refine(H w fun b o ho=>hs b o (l b o ho)).mono ?_
 rintro e w' ⟨v,h1,rfl,s1,F,k⟩
 have out:∀ b o,h b=some o→hA b=none→w'.heap[b]?=some o∧h1 b=none:=by
  intro b o ho hn
  have hb:=(Array.getElem?_eq_some_iff.1 (hs b o ho)).1
  obtain⟨q1,q2⟩:=F.keep b hb hn
  exact⟨q1.trans (hs b o ho),q2⟩
 have e1:∀ b,(h b≠none∧hA b=none)→(fun b=>if h b≠none∧hA b=none then h b else h1 b:Hp) b=h b:=fun b hb=>if_pos hb
 have e2:∀ b,¬(h b≠none∧hA b=none)→(fun b=>if h b≠none∧hA b=none then h b else h1 b:Hp) b=h1 b:=fun b hb=>if_neg hb
 generalize (fun b=>if h b≠none∧hA b=none then h b else h1 b:Hp)=h2 at e1 e2
 refine⟨v,h2,rfl,fun b o ho=>?_,⟨F.os,F.tape,F.output,F.size,fun b hb hn=>?_⟩,h1,fun b o ho=>?_,fun b o ho hn=>?_,k⟩
 ·by_cases q:h b≠none∧hA b=none
  ·rw [e1 b q] at ho
   exact(out b o ho q.2).1
  ·rw [e2 b q] at ho
   exact s1 b o ho
 ·have hna:hA b=none:=Hp.none_of_le l hn
  obtain⟨q1,q2⟩:=F.keep b hb hna
  exact⟨q1,(e2 b (fun q=>q.1 hn)).trans q2⟩
 ·refine(e2 b fun q=>?_).trans ho
  cases hq:h b with
  | none=>exact q.1 hq
  | some o2=>
   have:=(out b o2 hq q.2).2
   rw [this] at ho;cases ho
 ·exact⟨(e1 b ⟨by rw [ho];simp,hn⟩).trans ho,(out b o ho hn).2⟩
theorem Owns.frame (O:Owns hi h L){f:FuncId}{args:List Value}{R':Value→Hp→Prop}(H:CallOK P f args hi fun v hk=>∀ h2,hk.le h2→Owns hk h2 L→R' v h2):CallOK P f args h R':=by
 intro w hs
 refine(CallOK.frame O.le H w hs).mono ?_
 rintro e w' ⟨v,h2,rfl,s2,F,h1,l1,kp,k⟩
 refine⟨v,h2,rfl,s2,F,k h2 l1 ⟨l1,fun s hs'=>Ow.keep (O.own s hs') fun b hb o ho=>(kp b o ho (O.new s hs' b hb)).1,fun s hs' b hb=>?_,O.dj⟩⟩
 cases hq:h b with
 | none=>exact absurd hq (Ow.al (O.own s hs') hb)
 | some o=>exact(kp b o hq (O.new s hs' b hb)).2
end
end Go.Vc
namespace Go.Proofs.YtiflgceoamkmnaaGreatDoor
open Go Go.Vc Go.Txt
structure AdOK (q:Qy)(x:Ad):Prop where
 l:x.2.length=q.aggs.length
 v:∀ v ∈ x.2,smallV v
 s:-1000≤x.1.1∧x.1.1≤9999
theorem addS_ok {q:Qy}(B:QOk q){far:Int}{e:EvL}(E:EvOK e){ss:List Int}(hs:∀ s ∈ ss,-1000≤s∧s≤9999):∀ x ∈ addS q far e ss,AdOK q x:=by
 intro x hx
 refine⟨addS_len x hx,?_,?_⟩
 ·unfold addS at hx
  obtain⟨s,h1,rfl⟩:=List.mem_map.1 hx
  exact valsQ_small B E
 ·unfold addS at hx
  obtain⟨s,h1,rfl⟩:=List.mem_map.1 hx
  exact hs s ((List.mem_filter.1 h1).1)
theorem starts_ok {q:Qy}(B:QOk q){e:EvL}(E:EvOK e):∀ s ∈ startsOf e.1 q.size q.slide,-1000≤s∧s≤9999:=by
 intro s hs
 have h1:=B.s
 have h2:=E.t
 have:=starts_mem (by omega) hs
 omega
theorem addE_ok {q:Qy}(B:QOk q){far:Int}{e:EvL}(E:EvOK e):∀ x ∈ addE q far e,AdOK q x:=by
 intro x hx
 unfold addE at hx
 split at hx
 ·exact addS_ok B E (starts_ok B E) x hx
 ·cases hx
theorem addP_ok {q:Qy}(B:QOk q):∀(l:List EvL) (far:Int),(∀ e ∈ l,EvOK e)→∀ x ∈ addP q far l,AdOK q x
 | [],far,_,x,hx=>by cases hx
 | e :: l,far,hl,x,hx=>by
  rw [addP] at hx
  rcases List.mem_append.1 hx with h|h
  ·exact addE_ok B (hl e (List.mem_cons_self ..)) x h
  ·exact addP_ok B l _ (fun y hy=>hl y (List.mem_cons_of_mem _ hy)) x h
theorem addA_ok {q:Qy}(B:QOk q){ps:List (List EvL)}(hp:∀ p ∈ ps,∀ e ∈ p,EvOK e):∀ x ∈ addA q ps,AdOK q x:=by
 intro x hx
 unfold addA at hx
 obtain⟨p,h1,h2⟩:=List.mem_flatMap.1 hx
 exact addP_ok B p (-1) (hp p h1) x h2
theorem addS_many {q:Qy}{far:Int}{e:EvL}{ss:List Int}:(addS q far e ss).length≤ss.length:=by
 unfold addS
 rw [List.length_map]
 exact List.length_filter_le _ _
theorem lateS_many {q:Qy}{far:Int}{ss:List Int}:lateS q far ss≤ss.length:=List.length_filter_le _ _
theorem starts_many {q:Qy}(B:QOk q){e:EvL}:(startsOf e.1 q.size q.slide).length≤1000:=by
 have h1:=B.s
 have:=starts_len (t:=e.1) (size:=q.size) (slide:=q.slide)
 omega
theorem addP_many {q:Qy}(B:QOk q):∀(l:List EvL) (far:Int),(addP q far l).length≤1000*l.length∧lateP q far l≤1000*l.length
 | [],far=>⟨Nat.le_refl _,Nat.le_refl _⟩
 | e :: l,far=>by
  obtain⟨h1,h2⟩:=addP_many B l (max far e.1)
  rw [addP,lateP,List.length_append,List.length_cons]
  have h3:=starts_many B (e:=e)
  have h4:(addE q far e).length≤1000:=by
   unfold addE
   split
   ·exact Nat.le_trans addS_many h3
   ·exact Nat.zero_le _
  have h5:lateE q far e≤1000:=by
   unfold lateE
   split
   ·exact Nat.le_trans lateS_many h3
   ·exact Nat.zero_le _
  omega
theorem addA_many {q:Qy}(B:QOk q)(ps:List (List EvL))(hp:∀ p ∈ ps,p.length≤100):(addA q ps).length≤100000*ps.length∧lateA q ps≤100000*ps.length:=by
 induction ps using snocInd with
 | h0=>exact⟨Nat.le_refl _,Nat.le_refl _⟩
 | h1 ps p ih=>
  obtain⟨h1,h2⟩:=ih fun x hx=>hp x (List.mem_append_left _ hx)
  obtain⟨h3,h4⟩:=addP_many B p (-1)
  have h5:=hp p (by simp)
  rw [addA_snoc,lateA_snoc,List.length_append,List.length_append,List.length_singleton]
  omega
theorem keysU_many (A:List Ad):(keysU A).length≤A.length:=by
 induction A using snocInd with
 | h0=>exact Nat.le_refl _
 | h1 A a ih=>
  rw [keysU_snoc,List.length_append,List.length_singleton]
  split
  ·omega
  ·rw [List.length_append,List.length_singleton];omega
theorem kindsQ_len (q:Qy):(kindsQ q).length=q.aggs.length:=by unfold kindsQ;rw [List.length_map]
theorem accsOf_kinds {ks:List Int}{rs:List (List Vl)}(hl:∀ r ∈ rs,r.length=ks.length):(accsOf ks rs).map (·.1)=ks:=by
 rw [acc_cols ks hl,List.map_zipWith]
 have hc:=colsOf_len (n:=ks.length) hl
 generalize colsOf ks.length rs=cs at hc
 clear hl
 induction ks generalizing cs with
 | nil=>rfl
 | cons k ks ih=>
  match cs,hc with
  | c :: cs,hc=>
   rw [List.zipWith_cons_cons,ih cs (by simpa using hc)]
   rfl
theorem rowsOf_ok {q:Qy}{A:List Ad}(hA:∀ x ∈ A,AdOK q x)(k:PK):(∀ r ∈ rowsOf A k,r.length=(kindsQ q).length)∧(∀ r ∈ rowsOf A k,∀ v ∈ r,smallV v)∧(rowsOf A k).length≤A.length:=by
 have key:∀ r ∈ rowsOf A k,∃ x ∈ A,x.2=r:=by
  intro r hr
  unfold rowsOf at hr
  obtain⟨x,h1,h2⟩:=List.mem_map.1 hr
  exact⟨x,(List.mem_filter.1 h1).1,h2⟩
 refine⟨fun r hr=>?_,fun r hr=>?_,?_⟩
 ·obtain⟨x,h1,rfl⟩:=key r hr
  rw [kindsQ_len];exact(hA x h1).l
 ·obtain⟨x,h1,rfl⟩:=key r hr
  exact(hA x h1).v
 ·unfold rowsOf
  rw [List.length_map]
  exact List.length_filter_le _ _
theorem StA.facts {q:Qy}{A:List Ad}{R:List PR}(H:StA (kindsQ q) A R)(hA:∀ x ∈ A,AdOK q x)(hn:A.length≤1000000){i:Nat}{r:PR}(hr:R[i]?=some r):r.acs.map (·.1)=kindsQ q∧(∀ a ∈ r.acs,AcB a)∧-1000≤r.k.1∧r.k.1≤9999∧r.t=false:=by
 obtain⟨h1,h2,h3⟩:=H.at hr
 obtain⟨r1,r2,r3⟩:=rowsOf_ok hA r.k
 rw [h2]
 obtain⟨x,hx,e⟩:=(keysU_mem A r.k).1 (List.mem_of_getElem? h1)
 have hs:=(hA x hx).s
 rw [e] at hs
 exact⟨accsOf_kinds r1,accsOf_small r1 r2 (by omega),hs.1,hs.2,h3⟩
theorem StA.len {ks:List Int}{A:List Ad}{R:List PR}(H:StA ks A R):R.length=(keysU A).length:=by
 have:=congrArg List.length H.keys
 rw [List.length_map] at this
 exact this
theorem acc0_small (q:Qy):(acc0 (kindsQ q)).map (·.1)=kindsQ q∧∀ a ∈ acc0 (kindsQ q),AcB a:=by
 constructor
 ·unfold acc0
  rw [List.map_map]
  exact List.map_id _
 ·intro a ha
  unfold acc0 at ha
  obtain⟨k,_,rfl⟩:=List.mem_map.1 ha
  unfold AcB
  simp
end Go.Proofs.YtiflgceoamkmnaaGreatDoor
namespace Go.Proofs.YtiflgceoamkmnaaGreatDoor
open Go Go.Vc
def VC_fold_constant (u0:Option Addr)(u1 u2:Nat)(h:Hp)(R:Value→Hp→Prop):Prop:=
 (∃ b1 o2,((decide ((u1:Int)=1))=true→(u0=some ⟨b1,o2,none⟩∧(0:Int)≤0∧0 < (u1:Int)))∧(∃ x3,((decide ((u1:Int)=1))=true→Hp.cell h b1 (o2+(0:Int).toNat*6)=some (vi x3))∧(((bif (decide ((u1:Int)=1)) then(decide (x3=1)) else false)=true→(∃ b4 o5,(u0=some ⟨b4,o5,none⟩∧(0:Int)≤0∧0 < (u1:Int))∧(∃ x6 x7,(Hp.row h b4 ((o5+(0:Int).toNat*6)+4) 2=some [vi x6,vi x7])∧R (vtup [vag [vi x6,vi x7],vb true]) h)))∧((bif (decide ((u1:Int)=1)) then(decide (x3=1)) else false)=false→R (vtup [vag [vi 0,vi 0],vb false]) h))))
theorem ok_fold_constant {u0 u1 u2 h R}(H:VC_fold_constant u0 u1 u2 h R):CallOK Tryz.prog 110 [vsl u0 u1 u2] h R:=
 call_of (cfg:=⟨[],[],[]⟩) noNG mixed Tryz.func110 [.one (.v (vsl u0 u1 u2))] (by kernel_rfl) rfl (by kernel_rfl) H
def VC_fold_of (u0:Int)(u1:Int)(h:Hp)(R:Value→Hp→Prop):Prop:=
 (∀ b1,h b1=none→let h2:= Hp.set h b1 (cellsO [vi 1,vi 0,vi 0,vi 0,vi u0,vi u1] 83);R (vsl (some (⟨b1,0,none⟩:Addr)) 1 1) h2)
theorem ok_fold_of {u0 u1 h R}(H:VC_fold_of u0 u1 h R):CallOK Tryz.prog 111 [vag [vi u0,vi u1]] h R:=
 call_of (cfg:=⟨[],[],[]⟩) noNG mixed Tryz.func111 [.ag [.v (vi u0),.v (vi u1)]] (by kernel_rfl) rfl (by kernel_rfl) H
def VC_fold_truths (u0:Option Addr)(u1 u2:Nat)(h:Hp)(R:Value→Hp→Prop):Prop:=
 (CallOK Tryz.prog 119 [vsl u0 u1 u2] h fun v1 h2=>∃ x3 e4,v1=(vtup [vi x3,ifv e4])∧R (vb (bif (Option.isNone e4) then(decide (x3≠1)) else false)) h2)
theorem ok_fold_truths {u0 u1 u2 h R}(H:VC_fold_truths u0 u1 u2 h R):CallOK Tryz.prog 113 [vsl u0 u1 u2] h R:=
 call_of (cfg:=⟨[],[],[]⟩) noNG mixed Tryz.func113 [.one (.v (vsl u0 u1 u2))] (by kernel_rfl) rfl (by kernel_rfl) H
def VC_fold_numbers (u0:Option Addr)(u1 u2:Nat)(h:Hp)(R:Value→Hp→Prop):Prop:=
 (CallOK Tryz.prog 119 [vsl u0 u1 u2] h fun v1 h2=>∃ x3 e4,v1=(vtup [vi x3,ifv e4])∧R (vb (bif (Option.isNone e4) then(decide (x3≠2)) else false)) h2)
theorem ok_fold_numbers {u0 u1 u2 h R}(H:VC_fold_numbers u0 u1 u2 h R):CallOK Tryz.prog 115 [vsl u0 u1 u2] h R:=
 call_of (cfg:=⟨[],[],[]⟩) noNG mixed Tryz.func115 [.one (.v (vsl u0 u1 u2))] (by kernel_rfl) rfl (by kernel_rfl) H
def VC_fold_single (u0:Int)(u1:Option Addr)(u2 u3:Nat)(h:Hp)(R:Value→Hp→Prop):Prop:=
 (CallOK Tryz.prog 110 [vsl u1 u2 u3] h fun v1 h2=>∃ x3 x4 p5,v1=(vtup [vag [vi x3,vi x4],vb p5])∧((p5=true→(CallOK Tryz.prog 111 [vag [vi x3,vi x4]] h2 fun v6 h7=>∃ a8 n8 c8,v6=(vsl a8 n8 c8)∧(CallOK Tryz.prog 112 [vi u0,vsl a8 n8 c8,vsl none 0 0] h7 fun v9 h10=>∃ a11 n11 c11,v9=(vsl a11 n11 c11)∧(CallOK Tryz.prog 45 [vsl a11 n11 c11,vag [vi 0,vi 0,vi 0,vi 0,vi 0,vi 0,vi 0]] h10 fun v12 h13=>∃ x14 x15,v12=(vag [vi x14,vi x15])∧(CallOK Tryz.prog 111 [vag [vi x14,vi x15]] h13 fun v16 h17=>∃ a18 n18 c18,v16=(vsl a18 n18 c18)∧R (vsl a18 n18 c18) h17)))))∧(p5=false→(∃ x20,(IsW x20 ((u2:Int) - 1))∧(∃ b21 o22,(u1=some ⟨b21,o22,none⟩∧(0:Int)≤x20∧x20 < (u2:Int))∧(∃ x23 x24 x25 x26 x27 x28,(Hp.row h2 b21 (o22+x20.toNat*6) 6=some [vi x23,vi x24,vi x25,vi x26,vi x27,vi x28])∧(∃(J29:SV→Hp→Prop),((bif (decide (u0=4)) then(decide (x23=4)) else false)=true→(CallOK Tryz.prog 114 [vsl u1 u2 u3,vi x24] h2 fun v30 h31=>∃ a32 n32 c32,v30=(vsl a32 n32 c32)∧J29 (.t (.one (.v (vsl a32 n32 c32)))) h31))∧(¬((bif (decide (u0=4)) then(decide (x23=4)) else false)=true)→J29 (.t (.one (.v (vsl none 0 0)))) h2)∧∀ h33 a34 n34 c34,J29 (.t (.one (.v (vsl a34 n34 c34)))) h33→(∃(J35:SV→Hp→Prop),((bif (decide (u0=4)) then(decide (x23=4)) else false)=true→(CallOK Tryz.prog 113 [vsl a34 n34 c34] h33 fun v36 h37=>∃ p38,v36=(vb p38)∧J35 (.t (.one (.v (vb p38)))) h37))∧(¬((bif (decide (u0=4)) then(decide (x23=4)) else false)=true)→J35 (.t (.one (.v (vb false)))) h33)∧∀ h39 p40,J35 (.t (.one (.v (vb p40)))) h39→(let J55:Bool→Hp→Prop:=fun p57 h58=>((p57=true→(CallOK Tryz.prog 114 [vsl u1 u2 u3,vi x24] h58 fun v59 h60=>∃ a61 n61 c61,v59=(vsl a61 n61 c61)∧R (vsl a61 n61 c61) h60))∧(p57=false→(CallOK Tryz.prog 112 [vi u0,vsl u1 u2 u3,vsl none 0 0] h58 fun v63 h64=>∃ a65 n65 c65,v63=(vsl a65 n65 c65)∧R (vsl a65 n65 c65) h64)));(((bif (bif (decide (u0=4)) then(decide (x23=4)) else false) then p40 else false)=true→(J55 (bif (bif (decide (u0=4)) then(decide (x23=4)) else false) then p40 else false) h39))∧((bif (bif (decide (u0=4)) then(decide (x23=4)) else false) then p40 else false)=false→(∃(J42:SV→Hp→Prop),((bif (decide (u0=3)) then(decide (x23=3)) else false)=true→(CallOK Tryz.prog 114 [vsl u1 u2 u3,vi x24] h39 fun v43 h44=>∃ a45 n45 c45,v43=(vsl a45 n45 c45)∧J42 (.t (.one (.v (vsl a45 n45 c45)))) h44))∧(¬((bif (decide (u0=3)) then(decide (x23=3)) else false)=true)→J42 (.t (.one (.v (vsl none 0 0)))) h39)∧∀ h46 a47 n47 c47,J42 (.t (.one (.v (vsl a47 n47 c47)))) h46→(∃(J48:SV→Hp→Prop),((bif (decide (u0=3)) then(decide (x23=3)) else false)=true→(CallOK Tryz.prog 115 [vsl a47 n47 c47] h46 fun v49 h50=>∃ p51,v49=(vb p51)∧J48 (.t (.one (.v (vb p51)))) h50))∧(¬((bif (decide (u0=3)) then(decide (x23=3)) else false)=true)→J48 (.t (.one (.v (vb false)))) h46)∧∀ h52 p53,J48 (.t (.one (.v (vb p53)))) h52→(J55 (bif (bif (decide (u0=3)) then(decide (x23=3)) else false) then p53 else false) h52))))))))))))))
theorem ok_fold_single {u0 u1 u2 u3 h R}(H:VC_fold_single u0 u1 u2 u3 h R):CallOK Tryz.prog 65 [vi u0,vsl u1 u2 u3] h R:=
 call_of (cfg:=⟨[],[],[]⟩) noNG mixed Tryz.func65 [.one (.v (vi u0)),.one (.v (vsl u1 u2 u3))] (by kernel_rfl) rfl (by kernel_rfl) H
def VC_fold_beside (u0:Int)(u1:Option Addr)(u2 u3:Nat)(u4:Int)(u5:Int)(u6:Bool)(h:Hp)(R:Value→Hp→Prop):Prop:=
 (∃(J1:SV→Hp→Prop),((decide (u0=9))=true→(CallOK Tryz.prog 32 [vb true] h fun v2 h3=>∃ x4 x5,v2=(vag [vi x4,vi x5])∧J1 (.t (.ag [.v (vi x4),.v (vi x5)])) h3))∧(¬((decide (u0=9))=true)→J1 (.t (.ag [.v (vi 0),.v (vi 0)])) h)∧∀ h6 x7 x8,J1 (.t (.ag [.v (vi x7),.v (vi x8)])) h6→(∃ p9,((decide (u0=9))=true→Rd Tryz.prog ((eqGuard .eql 41 (.tmp 14) (.tmp 15) (vag [vi u4,vi u5]) (vag [vi x7,vi x8]) >>= fun _=>binOp .eql 41 (vag [vi u4,vi u5]) (vag [vi x7,vi x8]))) h6 (vb p9))∧(∃(J10:SV→Hp→Prop),(((bif (decide (u0=9)) then p9 else false)=false∧(decide (u0=10))=true)→(CallOK Tryz.prog 32 [vb false] h6 fun v11 h12=>∃ x13 x14,v11=(vag [vi x13,vi x14])∧J10 (.t (.ag [.v (vi x13),.v (vi x14)])) h12))∧(¬((bif (decide (u0=9)) then p9 else false)=false∧(decide (u0=10))=true)→J10 (.t (.ag [.v (vi 0),.v (vi 0)])) h6)∧∀ h15 x16 x17,J10 (.t (.ag [.v (vi x16),.v (vi x17)])) h15→(∃ p18,(((bif (decide (u0=9)) then p9 else false)=false∧(decide (u0=10))=true)→Rd Tryz.prog ((eqGuard .eql 41 (.tmp 22) (.tmp 23) (vag [vi u4,vi u5]) (vag [vi x16,vi x17]) >>= fun _=>binOp .eql 41 (vag [vi u4,vi u5]) (vag [vi x16,vi x17]))) h15 (vb p18))∧(∃(J19:SV→Hp→Prop),((bif (bif (decide (u0=9)) then p9 else false) then true else(bif (decide (u0=10)) then p18 else false))=true→(CallOK Tryz.prog 113 [vsl u1 u2 u3] h15 fun v20 h21=>∃ p22,v20=(vb p22)∧J19 (.t (.one (.v (vb p22)))) h21))∧(¬((bif (bif (decide (u0=9)) then p9 else false) then true else(bif (decide (u0=10)) then p18 else false))=true)→J19 (.t (.one (.v (vb false)))) h15)∧∀ h23 p24,J19 (.t (.one (.v (vb p24)))) h23→(((bif (bif (bif (decide (u0=9)) then p9 else false) then true else(bif (decide (u0=10)) then p18 else false)) then p24 else false)=true→R (vtup [vsl u1 u2 u3,vb true]) h23)∧((bif (bif (bif (decide (u0=9)) then p9 else false) then true else(bif (decide (u0=10)) then p18 else false)) then p24 else false)=false→(∃(J25:SV→Hp→Prop),((decide (u0=9))=true→(CallOK Tryz.prog 32 [vb false] h23 fun v26 h27=>∃ x28 x29,v26=(vag [vi x28,vi x29])∧J25 (.t (.ag [.v (vi x28),.v (vi x29)])) h27))∧(¬((decide (u0=9))=true)→J25 (.t (.ag [.v (vi 0),.v (vi 0)])) h23)∧∀ h30 x31 x32,J25 (.t (.ag [.v (vi x31),.v (vi x32)])) h30→(∃ p33,((decide (u0=9))=true→Rd Tryz.prog ((eqGuard .eql 41 (.tmp 36) (.tmp 37) (vag [vi u4,vi u5]) (vag [vi x31,vi x32]) >>= fun _=>binOp .eql 41 (vag [vi u4,vi u5]) (vag [vi x31,vi x32]))) h30 (vb p33))∧(let J45:Bool→Hp→Prop:=fun p47 h48=>((p47=true→(CallOK Tryz.prog 111 [vag [vi u4,vi u5]] h48 fun v49 h50=>∃ a51 n51 c51,v49=(vsl a51 n51 c51)∧R (vtup [vsl a51 n51 c51,vb true]) h50))∧(p47=false→(∃(J52:SV→Hp→Prop),((decide (u0=6))=true→(CallOK Tryz.prog 142 [vi 0] h48 fun v53 h54=>∃ x55 x56,v53=(vag [vi x55,vi x56])∧J52 (.t (.ag [.v (vi x55),.v (vi x56)])) h54))∧(¬((decide (u0=6))=true)→J52 (.t (.ag [.v (vi 0),.v (vi 0)])) h48)∧∀ h57 x58 x59,J52 (.t (.ag [.v (vi x58),.v (vi x59)])) h57→(∃ p60,((decide (u0=6))=true→Rd Tryz.prog ((eqGuard .eql 41 (.tmp 53) (.tmp 54) (vag [vi u4,vi u5]) (vag [vi x58,vi x59]) >>= fun _=>binOp .eql 41 (vag [vi u4,vi u5]) (vag [vi x58,vi x59]))) h57 (vb p60))∧(∃(J61:SV→Hp→Prop),(((bif (decide (u0=6)) then p60 else false)=false∧(decide (u0=8))=true)→(CallOK Tryz.prog 142 [vi 1] h57 fun v62 h63=>∃ x64 x65,v62=(vag [vi x64,vi x65])∧J61 (.t (.ag [.v (vi x64),.v (vi x65)])) h63))∧(¬((bif (decide (u0=6)) then p60 else false)=false∧(decide (u0=8))=true)→J61 (.t (.ag [.v (vi 0),.v (vi 0)])) h57)∧∀ h66 x67 x68,J61 (.t (.ag [.v (vi x67),.v (vi x68)])) h66→(∃ p69,(((bif (decide (u0=6)) then p60 else false)=false∧(decide (u0=8))=true)→Rd Tryz.prog ((eqGuard .eql 41 (.tmp 61) (.tmp 62) (vag [vi u4,vi u5]) (vag [vi x67,vi x68]) >>= fun _=>binOp .eql 41 (vag [vi u4,vi u5]) (vag [vi x67,vi x68]))) h66 (vb p69))∧(∃(J70:SV→Hp→Prop),(((bif (bif (decide (u0=6)) then p60 else false) then true else(bif (decide (u0=8)) then p69 else false))=false∧(bif (decide (u0=7)) then u6 else false)=true)→(CallOK Tryz.prog 142 [vi 0] h66 fun v71 h72=>∃ x73 x74,v71=(vag [vi x73,vi x74])∧J70 (.t (.ag [.v (vi x73),.v (vi x74)])) h72))∧(¬((bif (bif (decide (u0=6)) then p60 else false) then true else(bif (decide (u0=8)) then p69 else false))=false∧(bif (decide (u0=7)) then u6 else false)=true)→J70 (.t (.ag [.v (vi 0),.v (vi 0)])) h66)∧∀ h75 x76 x77,J70 (.t (.ag [.v (vi x76),.v (vi x77)])) h75→(∃ p78,(((bif (bif (decide (u0=6)) then p60 else false) then true else(bif (decide (u0=8)) then p69 else false))=false∧(bif (decide (u0=7)) then u6 else false)=true)→Rd Tryz.prog ((eqGuard .eql 41 (.tmp 73) (.tmp 74) (vag [vi u4,vi u5]) (vag [vi x76,vi x77]) >>= fun _=>binOp .eql 41 (vag [vi u4,vi u5]) (vag [vi x76,vi x77]))) h75 (vb p78))∧(∃(J79:SV→Hp→Prop),((bif (bif (bif (decide (u0=6)) then p60 else false) then true else(bif (decide (u0=8)) then p69 else false)) then true else(bif (bif (decide (u0=7)) then u6 else false) then p78 else false))=true→(CallOK Tryz.prog 115 [vsl u1 u2 u3] h75 fun v80 h81=>∃ p82,v80=(vb p82)∧J79 (.t (.one (.v (vb p82)))) h81))∧(¬((bif (bif (bif (decide (u0=6)) then p60 else false) then true else(bif (decide (u0=8)) then p69 else false)) then true else(bif (bif (decide (u0=7)) then u6 else false) then p78 else false))=true)→J79 (.t (.one (.v (vb false)))) h75)∧∀ h83 p84,J79 (.t (.one (.v (vb p84)))) h83→(((bif (bif (bif (bif (decide (u0=6)) then p60 else false) then true else(bif (decide (u0=8)) then p69 else false)) then true else(bif (bif (decide (u0=7)) then u6 else false) then p78 else false)) then p84 else false)=true→R (vtup [vsl u1 u2 u3,vb true]) h83)∧((bif (bif (bif (bif (decide (u0=6)) then p60 else false) then true else(bif (decide (u0=8)) then p69 else false)) then true else(bif (bif (decide (u0=7)) then u6 else false) then p78 else false)) then p84 else false)=false→(((bif (bif (decide (u0≠9)) then(decide (u0≠10)) else false) then(decide (u4=0)) else false)=true→(CallOK Tryz.prog 111 [vag [vi u4,vi u5]] h83 fun v85 h86=>∃ a87 n87 c87,v85=(vsl a87 n87 c87)∧R (vtup [vsl a87 n87 c87,vb true]) h86))∧((bif (bif (decide (u0≠9)) then(decide (u0≠10)) else false) then(decide (u4=0)) else false)=false→R (vtup [vsl none 0 0,vb false]) h83)))))))))))));(((bif (decide (u0=9)) then p33 else false)=true→(J45 (bif (decide (u0=9)) then p33 else false) h30))∧((bif (decide (u0=9)) then p33 else false)=false→(∃(J35:SV→Hp→Prop),((decide (u0=10))=true→(CallOK Tryz.prog 32 [vb true] h30 fun v36 h37=>∃ x38 x39,v36=(vag [vi x38,vi x39])∧J35 (.t (.ag [.v (vi x38),.v (vi x39)])) h37))∧(¬((decide (u0=10))=true)→J35 (.t (.ag [.v (vi 0),.v (vi 0)])) h30)∧∀ h40 x41 x42,J35 (.t (.ag [.v (vi x41),.v (vi x42)])) h40→(∃ p43,((decide (u0=10))=true→Rd Tryz.prog ((eqGuard .eql 41 (.tmp 43) (.tmp 44) (vag [vi u4,vi u5]) (vag [vi x41,vi x42]) >>= fun _=>binOp .eql 41 (vag [vi u4,vi u5]) (vag [vi x41,vi x42]))) h40 (vb p43))∧(J45 (bif (decide (u0=10)) then p43 else false) h40)))))))))))))))
theorem ok_fold_beside {u0 u1 u2 u3 u4 u5 u6 h R}(H:VC_fold_beside u0 u1 u2 u3 u4 u5 u6 h R):CallOK Tryz.prog 116 [vi u0,vsl u1 u2 u3,vag [vi u4,vi u5],vb u6] h R:=
 call_of (cfg:=⟨[],[],[(1,[0,1,2,3,4,5,6,7,8,9,10,11,12,13,14,15,16,17,18,19,20]),(3,[0,1,2,3,4,5,6,7]),(4,[0,1,2,3,4,5,6,7]),(6,[0,1,2,3,4,5,6,7,8,9,10,11,12,13,14,15,16,17,18,19,20,21,22,23,24,25,26,27,28,29,30,31,32])]⟩) noNG mixed Tryz.func116 [.one (.v (vi u0)),.one (.v (vsl u1 u2 u3)),.ag [.v (vi u4),.v (vi u5)],.one (.v (vb u6))] (by kernel_rfl) rfl (by kernel_rfl) H
def VC_fold_double (u0:Int)(u1:Option Addr)(u2 u3:Nat)(u4:Option Addr)(u5 u6:Nat)(h:Hp)(R:Value→Hp→Prop):Prop:=
 (CallOK Tryz.prog 110 [vsl u1 u2 u3] h fun v1 h2=>∃ x3 x4 p5,v1=(vtup [vag [vi x3,vi x4],vb p5])∧(CallOK Tryz.prog 110 [vsl u4 u5 u6] h2 fun v6 h7=>∃ x8 x9 p10,v6=(vtup [vag [vi x8,vi x9],vb p10])∧(((bif p5 then p10 else false)=true→(CallOK Tryz.prog 97 [vi u0,vag [vi x3,vi x4],vag [vi x8,vi x9]] h7 fun v11 h12=>∃ x13 x14,v11=(vag [vi x13,vi x14])∧(CallOK Tryz.prog 111 [vag [vi x13,vi x14]] h12 fun v15 h16=>∃ a17 n17 c17,v15=(vsl a17 n17 c17)∧R (vsl a17 n17 c17) h16)))∧((bif p5 then p10 else false)=false→(let J25:Hp→Prop:=fun h26=>(let J33:Hp→Prop:=fun h34=>(CallOK Tryz.prog 112 [vi u0,vsl u1 u2 u3,vsl u4 u5 u6] h34 fun v35 h36=>∃ a37 n37 c37,v35=(vsl a37 n37 c37)∧R (vsl a37 n37 c37) h36);((p10=true→(CallOK Tryz.prog 116 [vi u0,vsl u1 u2 u3,vag [vi x8,vi x9],vb true] h26 fun v27 h28=>∃ a29 n29 c29 p30,v27=(vtup [vsl a29 n29 c29,vb p30])∧((p30=true→R (vsl a29 n29 c29) h28)∧(p30=false→(J33 h28)))))∧(p10=false→(J33 h26))));((p5=true→(CallOK Tryz.prog 116 [vi u0,vsl u4 u5 u6,vag [vi x3,vi x4],vb false] h7 fun v19 h20=>∃ a21 n21 c21 p22,v19=(vtup [vsl a21 n21 c21,vb p22])∧((p22=true→R (vsl a21 n21 c21) h20)∧(p22=false→(J25 h20)))))∧(p5=false→(J25 h7))))))))
theorem ok_fold_double {u0 u1 u2 u3 u4 u5 u6 h R}(H:VC_fold_double u0 u1 u2 u3 u4 u5 u6 h R):CallOK Tryz.prog 66 [vi u0,vsl u1 u2 u3,vsl u4 u5 u6] h R:=
 call_of (cfg:=⟨[],[],[]⟩) noNG mixed Tryz.func66 [.one (.v (vi u0)),.one (.v (vsl u1 u2 u3)),.one (.v (vsl u4 u5 u6))] (by kernel_rfl) rfl (by kernel_rfl) H
def VC_fold_Fold (u0:Option Addr)(u1 u2:Nat)(h:Hp)(R:Value→Hp→Prop):Prop:=
 (∃(I2:List Value→Hp→Prop) (m3:List Value→Hp→Nat),I2 [vsl none 0 0,vi 0] h∧∀ vs4 h5,I2 vs4 h5→∃ a6 n6 c6 x7,vs4=[vsl a6 n6 c6,vi x7]∧(((decide (x7 < (u1:Int)))=true→(∃ b10 o11,(u0=some ⟨b10,o11,none⟩∧(0:Int)≤x7∧x7 < (u1:Int))∧(∃ x12 x13 x14 x15 x16 x17,(Hp.row h5 b10 (o11+x7.toNat*6) 6=some [vi x12,vi x13,vi x14,vi x15,vi x16,vi x17])∧(CallOK Tryz.prog 64 [vi x12] h5 fun v18 h19=>∃ x20,v18=(vi x20)∧(∃ x21,(IsW x21 ((n6:Int) - x20))∧(∃ a22 n22 c22,(Rd Tryz.prog (Instr.sliceAt 129 (vsl a6 n6 c6) (some (vi x21)) none none) h19 (vsl a22 n22 c22))∧(let J43:Option Addr→Nat→Nat→Hp→Prop:=fun a46 n46 c46 h47=>(∃ a48 n48 c48,(Rd Tryz.prog (Instr.sliceAt 129 (vsl a6 n6 c6) none (some (vi x21)) (some (vi x21))) h47 (vsl a48 n48 c48))∧(∀ b49,h47 b49=none→let h50:= Hp.set h47 b49 (cellsO [vsl a46 n46 c46] 26);(SemOK Tryz.prog (Builtin.append_ #[129,129] 129 #[vsl a48 n48 c48,(vsl (some (⟨b49,0,none⟩:Addr)) 1 1)]) h50 fun v51 h52=>∃ a53 n53 c53,v51=(vsl a53 n53 c53)∧(∃ x55,(IsW x55 (x7+1))∧(I2 [vsl a53 n53 c53,vi x55] h52∧m3 [vsl a53 n53 c53,vi x55] h52 < m3 vs4 h5)))));(((decide ((n22:Int)=0))=true→(∀ b23,h19 b23=none→let h24:= Hp.set h19 b23 (cellsO [vi x12,vi x13,vi x14,vi x15,vi x16,vi x17] 83);(J43 (some (⟨b23,0,none⟩:Addr)) 1 1 h24)))∧((decide ((n22:Int)=0))=false→(((decide ((n22:Int)=1))=true→(∃ b26 o27,(a22=some ⟨b26,o27,none⟩∧(0:Int)≤0∧0 < (n22:Int))∧(∃ a28 n28 c28,(Hp.cell h19 b26 (o27+(0:Int).toNat*1)=some (vsl a28 n28 c28))∧(CallOK Tryz.prog 65 [vi x12,vsl a28 n28 c28] h19 fun v29 h30=>∃ a31 n31 c31,v29=(vsl a31 n31 c31)∧(J43 a31 n31 c31 h30)))))∧((decide ((n22:Int)=1))=false→(∃ b33 o34,(a22=some ⟨b33,o34,none⟩∧(0:Int)≤0∧0 < (n22:Int))∧(∃ a35 n35 c35,(Hp.cell h19 b33 (o34+(0:Int).toNat*1)=some (vsl a35 n35 c35))∧(∃ b36 o37,(a22=some ⟨b36,o37,none⟩∧(0:Int)≤1∧1 < (n22:Int))∧(∃ a38 n38 c38,(Hp.cell h19 b36 (o37+(1:Int).toNat*1)=some (vsl a38 n38 c38))∧(CallOK Tryz.prog 66 [vi x12,vsl a35 n35 c35,vsl a38 n38 c38] h19 fun v39 h40=>∃ a41 n41 c41,v39=(vsl a41 n41 c41)∧(J43 a41 n41 c41 h40)))))))))))))))))∧((decide (x7 < (u1:Int)))=false→(∃ b56 o57,(a6=some ⟨b56,o57,none⟩∧(0:Int)≤0∧0 < (n6:Int))∧(∃ a58 n58 c58,(Hp.cell h5 b56 (o57+(0:Int).toNat*1)=some (vsl a58 n58 c58))∧R (vsl a58 n58 c58) h5)))))
theorem ok_fold_Fold {u0 u1 u2 h R}(H:VC_fold_Fold u0 u1 u2 h R):CallOK Tryz.prog 31 [vsl u0 u1 u2] h R:=
 call_of (cfg:=⟨[],[(3,([3,11],[.one (.slice),.one (.int .i64)],[]))],[(13,[0,1,2,3,4,5,6]),(9,[0,1,2,3,4,5,6,7,8,9])]⟩) noNG mixed Tryz.func31 [.one (.v (vsl u0 u1 u2))] (by kernel_rfl) rfl (by kernel_rfl) H
theorem fAt_join {β:Type}{d:β}{F:Nd→β→β→β}(hF:Own2 F)(hS:∀(k:Int) n a b,F (shN k n) a b=F n a b){op:Int}(ho:1≤arI op){l m:List Nd}(W:WfL l)(W':WfL m)(hl:0 < l.length)(hm:2≤arI op→0 < m.length) :
  ∃ y,fAt d F (joinL op l m) (l.length+m.length)=F ⟨op,(l.length:Int) - 1,y,0,(0,0)⟩ (fAt d F l (l.length - 1)) (if arI op=2 then fAt d F m (m.length - 1) else fAt d F l (l.length - 1)):=by
 have ha:=ar0 (op:=op) (by omega)
 have WJ:=WfL.join (op:=op) (by omega) W W' hl hm (by omega)
 have hj:(joinL op l m)[l.length+m.length]?=some ⟨op,(l.length:Int) - 1,if 1 < arI op then((l.length+m.length:Nat):Int) - 1 else 0,0,(0,0)⟩:=by
  unfold joinL
  rw [List.getElem?_append_right (by simp)]
  simp
 refine⟨if 1 < arI op then((l.length+m.length:Nat):Int) - 1 else 0,(fAt_wf hF hj (WJ _ _ hj)).trans ?_⟩
 refine hF _ _ _ _ _ (by simp only;omega) (fun _=>?_) fun h2=>?_
 ·simp only
  rw [show ((l.length:Int) - 1).toNat=l.length - 1 by omega]
  unfold joinL
  rw [List.append_assoc]
  exact fAt_pre _ _ (by omega)
 ·simp only at h2 ⊢
  have h2':arI op=2:=by rcases arI_range (op:=op) (by omega) with q|q|q<;>omega
  rw [if_pos (by omega:1 < arI op),if_pos h2']
  have:=hm h2
  rw [show (((l.length+m.length:Nat):Int) - 1).toNat=l.length+(m.length - 1) by omega]
  exact fAt_sh hF hS W' l _ _ (by omega)
theorem okE_nil_wf:WfL ([]:List Nd):=by intro i n hn;cases hn
theorem Rep.pos {P:EvL→Int × Int}{T:Option Int}{k:Nat}{z:List Nd}(R:Rep P T k z):0 < z.length:=R.ok.pos
theorem tyG_some2 {op:Int}{a b:Option Int}{t:Int}(h:tyG op a b=some t):∃ x y,a=some x∧b=some y:=by
 cases a with
 | none=>cases b<;>cases h
 | some x=>
  cases b with
  | none=>cases h
  | some y=>exact⟨x,y,rfl,rfl⟩
theorem tyG_less {op x y x' y' t:Int}(h:tyG op (some x) (some y)=some t)(hx:x'=0∨x'=x)(hy:y'=0∨y'=y):tyG op (some x') (some y')=some t:=by
 unfold tyG at h ⊢
 simp only at h ⊢
 split at h
 ·rename_i h1;rw [if_pos h1];exact h
 ·rename_i h1
  rw [if_neg h1]
  split at h
  ·cases h
  ·rename_i h2
   rw [if_neg (by omega)]
   exact h
theorem Rep.join2 {P Q:EvL→Int × Int}{T U:Option Int}{k j:Nat}{x y:List Nd}{op:Int}(ho:arI op=2)(A:Rep P T k x)(B:Rep Q U j y):Rep (fun e=>opV op (P e) (Q e)) (tyG op T U) (k+j+1) (joinL op x y):=by
 have ar:=ar0 (op:=op) (by omega)
 have hp:=A.pos
 have hq:=B.pos
 have hA:=A.len
 have hB:=B.len
 refine⟨chkGo_okE (joinL_chk2 ho A.ok B.ok),by rw [joinL_length];omega,fun e E=>?_,fun t ht=>?_⟩
 ·rw [valE_join2 e ho A.ok.wf B.ok.wf hp hq,A.val e E,B.val e E]
  unfold opV
  rw [if_neg (by omega),if_neg (by omega),if_neg (by omega)]
 ·obtain⟨tx,ty,rfl,rfl⟩:=tyG_some2 ht
  obtain⟨tx',e1,h1⟩:=A.ty tx rfl
  obtain⟨ty',e2,h2⟩:=B.ty ty rfl
  obtain⟨y',hy⟩:=fAt_join (d:=none) (F:=tyF) own_tyF (fun _ _ _ _=>rfl) (op:=op) (by omega) A.ok.wf B.ok.wf hp (fun _=>hq)
  rw [joinL_length,show x.length+y.length+1 - 1=x.length+y.length by omega]
  refine⟨t,?_,.inr rfl⟩
  rw [tAt,hy,tyF_op (by simp only;omega) (by simp only;omega)]
  simp only
  rw [if_pos ho,if_pos ho,show fAt none tyF x (x.length - 1)=some tx' from e1,show fAt none tyF y (y.length - 1)=some ty' from e2]
  exact tyG_less ht h1 h2
theorem Rep.join1 {P:EvL→Int × Int}{T:Option Int}{k:Nat}{x:List Nd}{op:Int}(ho:arI op=1)(A:Rep P T k x):Rep (fun e=>opV op (P e) (P e)) (tyG op T T) (k+1) (joinL op x []):=by
 have ar:=ar0 (op:=op) (by omega)
 have hp:=A.pos
 have hA:=A.len
 refine⟨chkGo_okE (joinL_chk1 ho A.ok),by rw [joinL_length];simp;omega,fun e E=>?_,fun t ht=>?_⟩
 ·obtain⟨y',hy⟩:=fAt_join (d:=(0,0)) (F:=stepF e) (own_stepF e) (stepF_sh e) (op:=op) (by omega) A.ok.wf okE_nil_wf hp (fun h=>by omega)
  unfold valE
  rw [joinL_length,show x.length+([]:List Nd).length+1 - 1=x.length+([]:List Nd).length by omega,vAt,hy,stepF_op e (by simp only;omega) (by simp only;omega),if_neg (by omega)]
  have:=A.val e E
  unfold valE vAt at this
  rw [this]
 ·obtain⟨tx,ty,rfl,h2⟩:=tyG_some2 ht
  obtain⟨tx',e1,h1⟩:=A.ty tx rfl
  obtain⟨y',hy⟩:=fAt_join (d:=none) (F:=tyF) own_tyF (fun _ _ _ _=>rfl) (op:=op) (by omega) A.ok.wf okE_nil_wf hp (fun h=>by omega)
  rw [joinL_length,show x.length+([]:List Nd).length+1 - 1=x.length+([]:List Nd).length by omega]
  refine⟨t,?_,.inr rfl⟩
  rw [tAt,hy,tyF_op (by simp only;omega) (by simp only;omega)]
  simp only
  rw [show fAt none tyF x (x.length - 1)=some tx' from e1]
  simp only [ho,show ¬(1:Int)=2 by decide,if_false]
  exact tyG_less ht h1 h1
theorem notV_notV {v:Int × Int}(h:goodV v)(h1:v.1≠1):notV (notV v)=v:=by
 obtain⟨a,b⟩:=v
 have:(a=0∧b=0)∨(a=2∧b=0)∨(a=2∧b=1):=by
  unfold goodV at h
  simp only at h h1
  omega
 rcases this with ⟨rfl,rfl⟩|⟨rfl,rfl⟩|⟨rfl,rfl⟩<;>decide
theorem num_in {n:Int}(h:-1000000000≤n∧n≤1000000000):numV (w64 n)=(1,n):=by
 rw [w64_in (by unfold InR;omega)]
 unfold numV
 rw [if_neg (by omega)]
theorem neg_neg {v:Int × Int}(h:goodV v)(h1:v.1≠2):negV (negV v)=v:=by
 obtain⟨a,b⟩:=v
 have:(a=0∧b=0)∨(a=1∧-1000000000≤b∧b≤1000000000):=by
  unfold goodV at h
  simp only at h h1
  omega
 rcases this with ⟨rfl,rfl⟩|⟨rfl,hb⟩
 ·decide
 ·have e1:negV (1,b)=(1,-b):=by
   unfold negV
   rw [if_pos rfl]
   exact num_in (by simp only;omega)
  rw [e1]
  unfold negV
  rw [if_pos rfl]
  have:=num_in (n:=- -b) (by omega)
  simp only
  rw [this]
  simp
theorem tri3 {v:Int × Int}(h:goodV v)(h1:v.1≠1):v=(0,0)∨v=(2,0)∨v=(2,1):=by
 obtain⟨a,b⟩:=v
 unfold goodV at h
 simp only [Prod.mk.injEq] at *
 omega
theorem and_yes {v:Int × Int}(h:goodV v)(h1:v.1≠1):doV 9 v (2,1)=v∧doV 9 (2,1) v=v:=by
 rcases tri3 h h1 with rfl|rfl|rfl<;>decide
theorem or_no {v:Int × Int}(h:goodV v)(h1:v.1≠1):doV 10 v (2,0)=v∧doV 10 (2,0) v=v:=by
 rcases tri3 h h1 with rfl|rfl|rfl<;>decide
theorem and_no (v:Int × Int):doV 9 v (2,0)=(2,0)∧doV 9 (2,0) v=(2,0):=by
 unfold doV andV
 simp
theorem or_yes10 (a b:Int × Int):doV 10 a b=notV (andV (notV a) (notV b)):=by
 unfold doV
 rw [if_neg (by decide),if_pos rfl]
theorem or_yes (v:Int × Int):doV 10 v (2,1)=(2,1)∧doV 10 (2,1) v=(2,1):=by
 rw [or_yes10,or_yes10]
 have e:notV (2,1)=(2,0):=by decide
 rw [e]
 unfold andV
 constructor
 ·rw [if_pos (.inr rfl)];decide
 ·rw [if_pos (.inl rfl)];decide
theorem doV_num {op:Int}(h9:op≠9)(h10:op≠10){a b:Int × Int}(h:a.1=0∨b.1=0):doV op a b=(0,0):=by
 unfold doV
 rw [if_neg h9,if_neg h10,if_neg (by omega)]
theorem num_cases {v:Int × Int}(h:goodV v)(h1:v.1≠2):v=(0,0)∨∃ n,v=(1,n)∧-1000000000≤n∧n≤1000000000:=by
 obtain⟨a,b⟩:=v
 unfold goodV at h
 simp only at h h1
 rcases h with ⟨rfl,rfl⟩|⟨rfl,hb⟩|⟨h2,_⟩
 ·exact .inl rfl
 ·exact .inr ⟨b,rfl,hb⟩
 ·exact absurd h2 h1
theorem add_0 {v:Int × Int}(h:goodV v)(h1:v.1≠2):doV 6 v (1,0)=v∧doV 6 (1,0) v=v:=by
 rcases num_cases h h1 with rfl|⟨n,rfl,hn⟩
 ·decide
 ·unfold doV
  simp only [show ¬(6:Int)=9 by decide,show ¬(6:Int)=10 by decide,if_false,and_self,if_true,Int.add_zero,Int.zero_add]
  exact num_in hn
theorem mul_1 {v:Int × Int}(h:goodV v)(h1:v.1≠2):doV 8 v (1,1)=v∧doV 8 (1,1) v=v:=by
 rcases num_cases h h1 with rfl|⟨n,rfl,hn⟩
 ·decide
 ·unfold doV
  simp only [show ¬(8:Int)=9 by decide,show ¬(8:Int)=10 by decide,show ¬(8:Int)=6 by decide,show ¬(8:Int)=7 by decide,if_false,and_self,if_true,Int.mul_one,Int.one_mul]
  exact num_in hn
theorem sub_0 {v:Int × Int}(h:goodV v)(h1:v.1≠2):doV 7 v (1,0)=v:=by
 rcases num_cases h h1 with rfl|⟨n,rfl,hn⟩
 ·decide
 ·unfold doV
  simp only [show ¬(7:Int)=9 by decide,show ¬(7:Int)=10 by decide,show ¬(7:Int)=6 by decide,if_false,and_self,if_true,Int.sub_zero]
  exact num_in hn
theorem below {x:List Nd}(O:OkE x){n:Nd}(hx:x[x.length - 1]?=some n)(ha:arI n.op=1) :
  2≤x.length∧n.x=(x.length:Int) - 2∧Blk x 0 (x.length - 1)∧OkE (cutL x 0 (x.length - 1))∧(∀ e,valE e x=opV n.op (valE e (cutL x 0 (x.length - 1))) (valE e (cutL x 0 (x.length - 1))))∧tAt x (x.length - 1)=tyG n.op (tAt x (x.length - 2)) (tAt x (x.length - 2))∧tAt (cutL x 0 (x.length - 1)) ((cutL x 0 (x.length - 1)).length - 1)=tAt x (x.length - 2):=by
 have hp:=O.pos
 have W:=O.wf _ _ hx
 have ar:=ar0 W.a
 have key:∀{e:Nat},Blk x 0 e→e=x.length→Blk x 0 (x.length - 1)∧n.x=(x.length:Int) - 2:=by
  intro e B he
  cases B with
  | @leaf i m h h0=>
   rw [show x.length - 1=0 by omega,h] at hx
   cases hx
   omega
  | @one f i m B h h0 hxx=>
   obtain rfl:i=x.length - 1:=by omega
   rw [h] at hx
   cases hx
   exact⟨B,by omega⟩
  | @two f g i m B B' h h0 hxx hyy=>
   obtain rfl:i=x.length - 1:=by omega
   rw [h] at hx
   cases hx
   omega
 obtain⟨B,hnx⟩:=key O.b rfl
 have hB:=B.lt
 have ec:cutL x 0 (x.length - 1)=x.take (x.length - 1):=by
  unfold cutL seg
  rw [List.drop_zero,Nat.sub_zero]
  exact map_sh0 _
 have OC:=chkGo_okE (cutL_chk O.n B)
 have lc:(cutL x 0 (x.length - 1)).length - 1=x.length - 2:=by rw [cutL_length B];omega
 have pre:∀{β:Type} (d:β) (F:Nd→β→β→β),fAt d F (cutL x 0 (x.length - 1)) (x.length - 2)=fAt d F x (x.length - 2):=by
  intro β d F
  rw [ec]
  exact fAt_take x (by omega) (by omega)
 refine⟨by omega,hnx,B,OC,fun e=>?_,?_,?_⟩
 ·have h1:vAt e x (x.length - 1)=_:=fAt_wf (own_stepF e) hx W
  unfold valE
  rw [h1,lc,stepF_op e (by omega) (by omega),vAt,pre,show n.x.toNat=x.length - 2 by omega]
  have:∀ a b b',opV n.op a b=opV n.op a b':=by
   intro a b b'
   unfold opV
   split
   ·rfl
   ·split
    ·rfl
    ·split
     ·rfl
     ·omega
  exact this _ _ _
 ·have h1:tAt x (x.length - 1)=_:=fAt_wf own_tyF hx W
  rw [h1,tyF_op (by omega) (by omega),if_neg (by omega),show n.x.toNat=x.length - 2 by omega]
 ·rw [lc]
  exact pre _ _
theorem Rep.twice {P:EvL→Int × Int}{T:Option Int}{k:Nat}{x:List Nd}{n:Nd}(A:Rep P T k x)(hx:x[x.length - 1]?=some n)(h:(n.op=4∧(typE (cutL x 0 (x.length - 1))).1≠1)∨(n.op=3∧(typE (cutL x 0 (x.length - 1))).1≠2))(h0:(typE (cutL x 0 (x.length - 1))).2=0) :
  Rep (fun e=>opV n.op (P e) (P e)) (tyG n.op T T) (k+1) (cutL x 0 (x.length - 1)):=by
 have ha:arI n.op=1:=by rcases h with ⟨h,_⟩|⟨h,_⟩<;>rw [h]<;>decide
 obtain⟨hl,hnx,B,OC,hv,ht,hc⟩:=below A.ok hx ha
 have hp:=OC.pos
 have hty:∃ t,tAt (cutL x 0 (x.length - 1)) ((cutL x 0 (x.length - 1)).length - 1)=some t∧(typE (cutL x 0 (x.length - 1))).1=t:=by
  unfold typE at h0 ⊢
  cases hq:tAt (cutL x 0 (x.length - 1)) ((cutL x 0 (x.length - 1)).length - 1) with
  | none=>rw [hq] at h0;cases h0
  | some t=>exact⟨t,rfl,rfl⟩
 obtain⟨t,e1,e2⟩:=hty
 rw [e2] at h
 have tr:=ty_range OC (by omega) e1
 refine⟨OC,by rw [cutL_length B];have:=A.len;omega,fun e E=>?_,fun u hu=>⟨t,e1,?_⟩⟩
 ·have g:=val_good OC E (i:=(cutL x 0 (x.length - 1)).length - 1) (by omega)
  have g2:=g.2 t e1
  have n1:t≠1→(vAt e (cutL x 0 (x.length - 1)) ((cutL x 0 (x.length - 1)).length - 1)).1≠1:=fun h q=>by rcases g2 with g2|g2<;>rw [g2] at q<;>omega
  have n2:t≠2→(vAt e (cutL x 0 (x.length - 1)) ((cutL x 0 (x.length - 1)).length - 1)).1≠2:=fun h q=>by rcases g2 with g2|g2<;>rw [g2] at q<;>omega
  rw [←A.val e E,hv e]
  show _=opV n.op _ _
  rcases h with ⟨h,h1⟩|⟨h,h1⟩
  ·rw [h]
   exact(notV_notV g.1 (n1 h1)).symm
  ·rw [h]
   exact(neg_neg g.1 (n2 h1)).symm
 ·have:=tyG_out hu
  unfold outT wantT at this
  rcases h with ⟨h,h1⟩|⟨h,h1⟩
  ·rw [h] at this;simp at this;omega
  ·rw [h] at this;simp at this;omega
structure RepO (P:EvL→Int × Int)(op:Int)(k:Nat)(z:List Nd):Prop where
 ok:OkE z
 len:z.length≤k
 val:∀ e,EvOK e→valE e z=P e
 ty:∃ t',tAt z (z.length - 1)=some t'∧(t'=0∨t'=outT op)
theorem RepO.rep {P:EvL→Int × Int}{op:Int}{k j:Nat}{z:List Nd}(A:RepO P op k z)(hj:k≤j)(T U:Option Int):Rep P (tyG op T U) j z:=
 ⟨A.ok,Nat.le_trans A.len hj,A.val,fun t ht=>by rw [tyG_out ht];exact A.ty⟩
theorem RepO.cst {P:EvL→Int × Int}{op:Int}{k:Nat}{v:Int × Int}(h:goodV v)(hk:1≤k)(hP:∀ e,EvOK e→v=P e)(hT:v.1=0∨v.1=outT op):RepO P op k (cst v):=
 ⟨cst_ok h,hk,hP,v.1,rfl,hT⟩
def besV (right:Bool)(op:Int)(a v:Int × Int):Int × Int:=if right then doV op a v else doV op v a
theorem typE_some {x:List Nd}(h:(typE x).2=0):tAt x (x.length - 1)=some (typE x).1:=by
 unfold typE at h ⊢
 cases hq:tAt x (x.length - 1) with
 | none=>rw [hq] at h;cases h
 | some t=>rfl
theorem bes_truths {x:List Nd}(O:OkE x){op:Int}{v:Int × Int}{right:Bool}(h:(op=9∧v=(2,1))∨(op=10∧v=(2,0)))(h0:(typE x).2=0)(h1:(typE x).1≠1):RepO (fun e=>besV right op (valE e x) v) op x.length x:=by
 have hp:=O.pos
 have e1:=typE_some h0
 have tr:=ty_range O (by omega) e1
 refine⟨O,Nat.le_refl _,fun e E=>?_,_,e1,?_⟩
 ·have g:=val_good O E (i:=x.length - 1) (by omega)
  have g2:=g.2 _ e1
  have n1:(vAt e x (x.length - 1)).1≠1:=fun q=>by rcases g2 with g2|g2<;>rw [g2] at q<;>omega
  unfold besV
  rcases h with ⟨rfl,rfl⟩|⟨rfl,rfl⟩
  ·cases right
   ·exact(and_yes g.1 n1).2.symm
   ·exact(and_yes g.1 n1).1.symm
  ·cases right
   ·exact(or_no g.1 n1).2.symm
   ·exact(or_no g.1 n1).1.symm
 ·have:outT op=2:=by rcases h with ⟨rfl,_⟩|⟨rfl,_⟩<;>decide
  omega
theorem bes_const {x:List Nd}{op:Int}{v:Int × Int}{right:Bool}(h:(op=9∧v=(2,0))∨(op=10∧v=(2,1))):RepO (fun e=>besV right op (valE e x) v) op 1 (cst v):=by
 refine RepO.cst (by rcases h with ⟨_,rfl⟩|⟨_,rfl⟩<;>(unfold goodV;simp)) (Nat.le_refl 1) (fun e E=>?_) (by rcases h with ⟨rfl,rfl⟩|⟨rfl,rfl⟩<;>decide)
 unfold besV
 rcases h with ⟨rfl,rfl⟩|⟨rfl,rfl⟩
 ·cases right
  ·exact(and_no (valE e x)).2.symm
  ·exact(and_no (valE e x)).1.symm
 ·cases right
  ·exact(or_yes (valE e x)).2.symm
  ·exact(or_yes (valE e x)).1.symm
theorem bes_numbers {x:List Nd}(O:OkE x){op:Int}{v:Int × Int}{right:Bool}(h:(op=6∧v=(1,0))∨(op=8∧v=(1,1))∨(op=7∧right=true∧v=(1,0)))(h0:(typE x).2=0)(h1:(typE x).1≠2):RepO (fun e=>besV right op (valE e x) v) op x.length x:=by
 have hp:=O.pos
 have e1:=typE_some h0
 have tr:=ty_range O (by omega) e1
 refine⟨O,Nat.le_refl _,fun e E=>?_,_,e1,?_⟩
 ·have g:=val_good O E (i:=x.length - 1) (by omega)
  have g2:=g.2 _ e1
  have n1:(vAt e x (x.length - 1)).1≠2:=fun q=>by rcases g2 with g2|g2<;>rw [g2] at q<;>omega
  unfold besV
  rcases h with ⟨rfl,rfl⟩|⟨rfl,rfl⟩|⟨rfl,rfl,rfl⟩
  ·cases right
   ·exact(add_0 g.1 n1).2.symm
   ·exact(add_0 g.1 n1).1.symm
  ·cases right
   ·exact(mul_1 g.1 n1).2.symm
   ·exact(mul_1 g.1 n1).1.symm
  ·exact(sub_0 g.1 n1).symm
 ·have:outT op=1:=by rcases h with ⟨rfl,_⟩|⟨rfl,_⟩|⟨rfl,_⟩<;>decide
  omega
theorem bes_null {x:List Nd}{op:Int}{v:Int × Int}(hv:goodV v){right:Bool}(h9:op≠9)(h10:op≠10)(h0:v.1=0):RepO (fun e=>besV right op (valE e x) v) op 1 (cst v):=by
 have ev:v=(0,0):=by
  obtain⟨a,b⟩:=v
  unfold goodV at hv
  simp only [Prod.mk.injEq] at *
  omega
 subst ev
 refine RepO.cst good_null (Nat.le_refl 1) (fun e E=>?_) (.inl rfl)
 unfold besV
 cases right
 ·exact(doV_num h9 h10 (.inl rfl)).symm
 ·exact(doV_num h9 h10 (.inr rfl)).symm
theorem Blk.uniq {l:List Nd}{f e:Nat}(B:Blk l f e):∀{f':Nat},Blk l f' e→f=f':=by
 induction B with
 | @leaf i n h h0=>
  intro f' B'
  cases B' with
  | leaf h' h0'=>rfl
  | one B1 h' h0' _=>rw [h] at h';cases h';omega
  | two B1 B2 h' h0' _ _=>rw [h] at h';cases h';omega
 | @one f i n B h h0 hx ih=>
  intro f' B'
  cases B' with
  | leaf h' h0'=>rw [h] at h';cases h';omega
  | one B1 h' h0' _=>exact ih B1
  | two B1 B2 h' h0' _ _=>rw [h] at h';cases h';omega
 | @two f g i n B B' h h0 hx hy ih1 ih2=>
  intro f' C
  cases C with
  | leaf h' h0'=>rw [h] at h';cases h';omega
  | one B1 h' h0' _=>rw [h] at h';cases h';omega
  | @two _ g' _ n' B1 B2 h' h0' hx' hy'=>
   rw [h] at h'
   cases h'
   obtain rfl:g=g':=by omega
   exact ih1 B1
inductive FStk (l:List Nd):List (List Nd)→Nat→Prop where
 | nil:FStk l [] 0
 | push {s:List (List Nd)} {f e:Nat} {z:List Nd}:FStk l s f→Blk l f e→Rep (fun ev=>vAt ev l (e - 1)) (tAt l (e - 1)) (e - f) z→FStk l (z :: s) e
theorem FStk.len {l:List Nd}{s:List (List Nd)}{e:Nat}(S:FStk l s e):s.length≤e:=by
 induction S with
 | nil=>exact Nat.le_refl _
 | push S B R ih=>have:=B.lt;simp;omega
theorem FStk.all {l:List Nd}{s:List (List Nd)}{e:Nat}(S:FStk l s e):e≤l.length:=by
 cases S with
 | nil=>exact Nat.zero_le _
 | push S B R=>exact B.lt.2
theorem FStk.step {l:List Nd}(O:OkE l){s:List (List Nd)}{i:Nat}{n:Nd}(S:FStk l s i)(hn:l[i]?=some n) :
  (arI n.op=0∧FStk l ([n] :: s) (i+1)) ∨
  (arI n.op=1∧∃ z s' P T k,s=z :: s'∧k≤i∧Rep P T k z∧∀ y,Rep (fun e=>opV n.op (P e) (P e)) (tyG n.op T T) (k+1) y→FStk l (y :: s') (i+1)) ∨
  (arI n.op=2∧∃ z z' s' P T k Q U j,s=z' :: z :: s'∧k+j≤i∧Rep P T k z∧Rep Q U j z'∧∀ y,Rep (fun e=>opV n.op (P e) (Q e)) (tyG n.op T U) (k+j+1) y→FStk l (y :: s') (i+1)):=by
 have hlt:=(List.getElem?_eq_some_iff.1 hn).1
 have W:=O.wf _ _ hn
 have ar:=ar0 W.a
 have h0:=O.n n (List.mem_of_getElem? hn)
 obtain⟨g,_,B⟩:=O.b.sub i (Nat.zero_le _) hlt
 have hv:∀ e,vAt e l i=_:=fun e=>fAt_wf (own_stepF e) hn W
 have ht:tAt l i=_:=fAt_wf own_tyF hn W
 have inv:∀{s:List (List Nd)} {j f:Nat},FStk l s j→Blk l f j→∃ z s',s=z :: s'∧FStk l s' f∧Rep (fun ev=>vAt ev l (j - 1)) (tAt l (j - 1)) (j - f) z:=by
  intro s j f S B
  cases S with
  | nil=>have:=B.lt;omega
  | push S B' R=>
   obtain rfl:=B'.uniq B
   exact⟨_,_,rfl,S,R⟩
 have hB:=B
 cases B with
 | leaf h ha=>
  rw [hn] at h
  cases h
  refine .inl ⟨ha,.push S hB ?_⟩
  have O1:=Rep.leaf h0 ha
  have W1:=O1.wf 0 n rfl
  refine⟨O1,by simp,fun e E=>?_,fun t e=>⟨t,?_,.inr rfl⟩⟩
  ·show valE e [n]=vAt e l (i+1 - 1)
   rw [Nat.add_sub_cancel,hv e]
   have:valE e [n]=_:=fAt_wf (own_stepF e) (l:=[n]) (i:=0) rfl W1
   rw [this]
   exact own_stepF e n _ _ _ _ W.a (fun h=>by omega) (fun h=>by omega)
  ·rw [Nat.add_sub_cancel,ht] at e
   rw [←e]
   have:tAt [n] 0=_:=fAt_wf own_tyF (l:=[n]) (i:=0) rfl W1
   show tAt [n] 0=_
   rw [this]
   exact own_tyF n _ _ _ _ W.a (fun h=>by omega) (fun h=>by omega)
 | @one f _ n' B1 h ha hx=>
  rw [hn] at h
  cases h
  have hlt1:=B1.lt
  obtain⟨z,s',rfl,S',R⟩:=inv S B1
  refine .inr (.inl ⟨ha,z,s',_,_,_,rfl,Nat.sub_le _ _,R,fun y Y=>.push S' hB ?_⟩)
  rw [show i+1 - g=i - g+1 by omega,Nat.add_sub_cancel]
  have ex:n.x.toNat=i - 1:=by omega
  have:tAt l i=tyG n.op (tAt l (i - 1)) (tAt l (i - 1)):=by
   rw [ht,tyF_op (by omega) (by omega),if_neg (by omega),ex]
  rw [this]
  refine⟨Y.ok,Y.len,fun e E=>?_,Y.ty⟩
  rw [Y.val e E,hv e,stepF_op e (by omega) (by omega),ex]
  have:∀ a b b',opV n.op a b=opV n.op a b':=by
   intro a b b'
   unfold opV
   split
   ·rfl
   ·split
    ·rfl
    ·split
     ·rfl
     ·omega
  exact this _ _ _
 | @two f g' _ n' B1 B2 h ha hx hy=>
  rw [hn] at h
  cases h
  have hlt1:=B1.lt
  have hlt2:=B2.lt
  obtain⟨z',s1,rfl,S1,R'⟩:=inv S B2
  obtain⟨z,s',rfl,S',R⟩:=inv S1 B1
  refine .inr (.inr ⟨ha,z,z',s',_,_,_,_,_,_,rfl,?_,R,R',fun y Y=>.push S' hB ?_⟩)
  ·omega
  rw [show i+1 - g=g' - g+(i - g')+1 by omega,Nat.add_sub_cancel]
  have ex:n.x.toNat=g' - 1:=by omega
  have ey:n.y.toNat=i - 1:=by omega
  have:tAt l i=tyG n.op (tAt l (g' - 1)) (tAt l (i - 1)):=by
   rw [ht,tyF_op (by omega) (by omega),if_pos ha,ex,ey]
  rw [this]
  refine⟨Y.ok,Y.len,fun e E=>?_,Y.ty⟩
  rw [Y.val e E,hv e,stepF_op e (by omega) (by omega),ex,ey]
theorem FStk.done {l:List Nd}(O:OkE l){s:List (List Nd)}(S:FStk l s l.length):∃ z,s=[z]∧Rep (fun ev=>valE ev l) (tAt l (l.length - 1)) l.length z:=by
 have hB:=O.b
 have hp:=O.pos
 have key:∀{e:Nat},FStk l s e→e=l.length→∃ z,s=[z]∧Rep (fun ev=>vAt ev l (e - 1)) (tAt l (e - 1)) e z:=by
  intro e S he
  cases S with
  | nil=>omega
  | @push s f e z S' B R=>
   subst he
   obtain rfl:=B.uniq hB
   rw [Nat.sub_zero] at R
   have k2:∀{f:Nat},FStk l s f→f=0→s=[]:=by
    intro f S2 hf
    cases S2 with
    | nil=>rfl
    | push _ B' _=>have:=B'.lt;omega
   rw [k2 S' rfl]
   exact⟨z,rfl,R⟩
 exact key S rfl
theorem RepO.mono {P:EvL→Int × Int}{op:Int}{k j:Nat}{z:List Nd}(A:RepO P op k z)(h:k≤j):RepO P op j z:=⟨A.ok,Nat.le_trans A.len h,A.val,A.ty⟩
theorem cst_of {n:Nd}(h:nodeF n=0)(h1:n.op=1):[n]=cst n.v:=by
 obtain⟨op,x,y,k,v⟩:=n
 simp only at h1
 subst h1
 unfold nodeF at h
 split at h
 ·cases h
 ·split at h
  ·cases h
  ·rename_i h2
   have e:arI 1=0:=by decide
   simp only [e] at h2
   have hx:x=0:=by omega
   have hy:y=0:=by omega
   have hk:k=0:=by omega
   subst hx hy hk
   rfl
theorem Rep.cst_val {P:EvL→Int × Int}{T:Option Int}{k:Nat}{v:Int × Int}(A:Rep P T k (Go.Proofs.YtiflgceoamkmnaaGreatDoor.cst v)):∀ e,EvOK e→P e=v:=fun e E=>(A.val e E).symm
theorem opV_do {op:Int}(h:6≤op)(a b:Int × Int):opV op a b=doV op a b:=by
 unfold opV
 rw [if_neg (by omega),if_neg (by omega),if_neg (by omega)]
structure NS (h:Hp)(a:Option Addr)(n c:Nat)(l:List Nd):Prop where
 s:SlP encN h a n l
 c:n≤c
theorem NS.le {h h':Hp}{a:Option Addr}{n c:Nat}{l:List Nd}(S:NS h a n c l)(hl:h.le h'):NS h' a n c l:=⟨S.s.le hl,S.c⟩
theorem NS.of {h h':Hp}{a:Option Addr}{c:Nat}{l:List Nd}(V:NdVec h h' a c l):NS h' a l.length c l:=⟨V.slp encN_len (by decide),V.own.cap⟩
section
variable {a:Option Addr}{m c:Nat}{l:List Nd}{h:Hp}
theorem fold_constant_ok (S:SlP encN h a m l){R:Value→Hp→Prop}(hY:∀ n,l=[n]→n.op=1→R (vtup [vag (encV n.v),vb true]) h)(hN:R (vtup [vag (encV (0,0)),vb false]) h):CallOK Tryz.prog 110 [vsl a m c] h R:=by
 refine ok_fold_constant ?_
 unfold VC_fold_constant
 obtain rfl:=S.1
 by_cases h1:l.length=1
 ·obtain⟨n,rfl⟩:∃ n,l=[n]:=by
   match l,h1 with
   | [n],_=>exact⟨n,rfl⟩
  obtain⟨b,o,ha,hr⟩:=S.get encN_len (by decide) (i:=0) rfl
  have A:a=some ⟨b,o,none⟩∧(0:Int)≤0∧(0:Int) < (([n]:List Nd).length:Nat):=⟨ha,by decide,by simp⟩
  refine⟨b,o,fun _=>A,n.op,fun _=>Hp.row_cell hr (i:=0) rfl,fun g=>?_,fun g=>hN⟩
  rw [cand] at g
  have g:=of_decide_eq_true g
  refine⟨b,o,A,_,_,?_,hY n rfl g.2⟩
  exact Hp.row_sub hr (i:=4) (k:=2) (by decide)
 ·have e:decide (((l.length:Nat):Int)=1)=false:=decide_eq_false (by omega)
  refine⟨0,0,fun g=>?_,0,fun g=>?_,fun g=>?_,fun _=>hN⟩
  ·rw [e] at g;cases g
  ·rw [e] at g;cases g
  ·rw [e] at g;cases g
theorem fold_of_ok {v:Int × Int}{R:Value→Hp→Prop}(hK:∀ a' c' h',h.le h'→NS h' a' 1 c' (cst v)→R (vsl a' 1 c') h'):CallOK Tryz.prog 111 [vag (encV v)] h R:=by
 refine ok_fold_of ?_
 unfold VC_fold_of
 intro b1 hb1 h2
 exact hK _ _ h2 (Hp.le_set (Hp.le_refl h) hb1 _) ⟨⟨rfl,HasRow.new _ _ ((cst v).flatMap encN) _⟩,Nat.le_refl _⟩
theorem errV_noneF {f:Int}(x:Int)(k:Int):(bif (errV f).isNone then decide (x≠k) else false)=decide (f=0∧x≠k):=by
 rw [errV_none,cand]
theorem fold_truths_ok (S:SlP encN h a m l)(O:OkE l)(hm:l.length≤1000000){R:Value→Hp→Prop}(hK:∀ h',h.le h'→R (vb (decide ((typE l).2=0∧(typE l).1≠1))) h'):CallOK Tryz.prog 113 [vsl a m c] h R:=by
 refine ok_fold_truths ?_
 unfold VC_fold_truths
 refine expr_Type_ok S O hm fun h' l'=>⟨_,_,rfl,?_⟩
 rw [errV_noneF]
 exact hK h' l'
theorem fold_numbers_ok (S:SlP encN h a m l)(O:OkE l)(hm:l.length≤1000000){R:Value→Hp→Prop}(hK:∀ h',h.le h'→R (vb (decide ((typE l).2=0∧(typE l).1≠2))) h'):CallOK Tryz.prog 115 [vsl a m c] h R:=by
 refine ok_fold_numbers ?_
 unfold VC_fold_numbers
 refine expr_Type_ok S O hm fun h' l'=>⟨_,_,rfl,?_⟩
 rw [errV_noneF]
 exact hK h' l'
theorem fold_single_ok {op:Int}(ho:arI op=1)(S:NS h a m c l){P:EvL→Int × Int}{T:Option Int}{k:Nat}(A:Rep P T k l)(hk:k≤1000000){R:Value→Hp→Prop}
  (hK:∀ a' n' c' h' z,h.le h'→NS h' a' n' c' z→Rep (fun e=>opV op (P e) (P e)) (tyG op T T) (k+1) z→R (vsl a' n' c') h'):CallOK Tryz.prog 65 [vi op,vsl a m c] h R:=by
 refine ok_fold_single ?_
 unfold VC_fold_single
 have hm:=S.s.1
 subst hm
 have hl:=A.len
 have hp:=A.pos
 have ar:=ar0 (op:=op) (by omega)
 have WN:WfL ([]:List Nd):=okE_nil_wf
 have J:=A.join1 ho
 have join:∀ h',h.le h'→CallOK Tryz.prog 112 [vi op,vsl a l.length c,vsl none 0 0] h' fun v64 h64=>∃(a65:Option Addr) (n65 c65:Nat),v64=vsl a65 n65 c65∧R (vsl a65 n65 c65) h64:=fun h' l'=>
  expr_Join_ok (S.s.le l') (⟨rfl,.inl rfl⟩:SlP encN h' none 0 []) WN (by omega) (by simp) fun a' c' h'' V=>⟨_,_,_,rfl,hK _ _ _ _ _ (Hp.le_trans l' V.le0) (NS.of V) J⟩
 refine fold_constant_ok S.s (fun n hn h1=>⟨_,_,true,rfl,fun _=>?_,fun g=>by cases g⟩) ⟨_,_,false,rfl,fun g=>by (cases g),fun _=>?_⟩
 ·subst hn
  have hn0:=A.ok.n n (List.mem_singleton.2 rfl)
  have hc:=cst_of hn0 h1
  rw [hc] at A J
  refine fold_of_ok (v:=n.v) fun a8 c8 h7 l7 S8=>⟨_,_,_,rfl,?_⟩
  refine expr_Join_ok S8.s (⟨rfl,.inl rfl⟩:SlP encN h7 none 0 []) WN (by simp) (by simp) fun a11 c11 h10 V=>⟨_,_,_,rfl,?_⟩
  have hjl:(joinL op (cst n.v) []).length=2:=joinL_length _ _ _
  refine expr_Eval_ok (e:=ev0) (V.slp encN_len (by decide)) J.ok.wf (by omega) (by omega) fun h13 l13=>⟨_,_,rfl,?_⟩
  have ev:valE ev0 (joinL op (cst n.v) [])=opV op n.v n.v:=by
   rw [J.val ev0 ev0_ok,A.cst_val ev0 ev0_ok]
  rw [ev]
  refine fold_of_ok (v:=opV op n.v n.v) fun a18 c18 h17 l17 S18=>⟨_,_,_,rfl,hK _ _ _ _ _ (Hp.le_trans (Hp.le_trans (Hp.le_trans l7 V.le0) l13) l17) S18 ?_⟩
  have og:=opV_good (op:=op) (by omega) n.v n.v
  refine Rep.cst og.1 (by omega) (fun e E=>?_) fun t ht=>?_
  ·rw [A.cst_val e E]
  ·rw [tyG_out ht];exact og.2
 ·have hx:l[l.length - 1]?=some (l[l.length - 1]'(by omega)):=List.getElem?_eq_getElem (by omega)
  obtain⟨b,o,ha,hr⟩:=S.s.get encN_len (by decide) hx
  generalize l[l.length - 1]'(by omega)=n at *
  refine⟨_,isW (by unfold InR;omega),b,o,⟨ha,by omega,by omega⟩,n.op,n.x,n.y,n.n,n.v.1,n.v.2,?_,?_⟩
  ·rw [show (((l.length:Nat):Int) - 1).toNat=l.length - 1 by omega]
   exact hr
  have cut:∀(h':Hp),h.le h'→arI n.op=1→∀(K:Value→Hp→Prop),(∀ a' n' c' h'',h'.le h''→NS h'' a' n' c' (cutL l 0 (l.length - 1))→K (vsl a' n' c') h'')→CallOK Tryz.prog 114 [vsl a l.length c,vi n.x] h' K:=by
   intro h' l' h1 K hK
   obtain⟨hl2,hnx,B,OC,_⟩:=below A.ok hx h1
   have e1:l.length - 1=(l.length - 2)+1:=by omega
   rw [e1] at B hK
   exact expr_Cut_ok (S.s.le l') S.c A.ok.wf (by omega) B (by omega) fun a' c' h'' V=>hK _ _ _ _ V.le0 (NS.of V)
  have lc:arI n.op=1→OkE (cutL l 0 (l.length - 1))∧(cutL l 0 (l.length - 1)).length≤1000000:=by
   intro h1
   obtain⟨hl2,hnx,B,OC,_⟩:=below A.ok hx h1
   exact⟨OC,by rw [cutL_length B];omega⟩
  -- what is known of the first test
  refine⟨fun x h'=>h.le h'∧∃ a' n' c',x=.t (.one (.v (vsl a' n' c')))∧((op=4∧n.op=4)→NS h' a' n' c' (cutL l 0 (l.length - 1))),fun g=>?_,fun g=>?_,?_⟩
  ·rw [cand] at g
   have g:=of_decide_eq_true g
   exact cut h (Hp.le_refl h) (by rw [g.2];decide) _ fun a' n' c' h'' l'' S'=>⟨_,_,_,rfl,l'',_,_,_,rfl,fun _=>S'⟩
  ·rw [cand] at g
   exact⟨Hp.le_refl h,none,0,0,rfl,fun q=>absurd (decide_eq_true q) g⟩
  rintro h33 a34 n34 c34 ⟨l33,a',n',c',e,S33⟩
  cases e
  refine⟨fun x h'=>h.le h'∧∃ p,x=.t (.one (.v (vb p)))∧((op=4∧n.op=4)→p=decide ((typE (cutL l 0 (l.length - 1))).2=0∧(typE (cutL l 0 (l.length - 1))).1≠1)),fun g=>?_,fun g=>?_,?_⟩
  ·rw [cand] at g
   have g:=of_decide_eq_true g
   obtain⟨OC,hC⟩:=lc (by rw [g.2];decide)
   exact fold_truths_ok (S33 g).s OC hC fun h' l'=>⟨_,rfl,Hp.le_trans l33 l',_,rfl,fun _=>rfl⟩
  ·rw [cand] at g
   exact⟨l33,false,rfl,fun q=>absurd (decide_eq_true q) g⟩
  rintro h39 p40 ⟨l39,p,e,hp40⟩
  cases e
  intro J55
  have yes:∀ h',h.le h'→((op=4∧n.op=4∧(typE (cutL l 0 (l.length - 1))).2=0∧(typE (cutL l 0 (l.length - 1))).1≠1)∨(op=3∧n.op=3∧(typE (cutL l 0 (l.length - 1))).2=0∧(typE (cutL l 0 (l.length - 1))).1≠2))→J55 true h':=by
   intro h' l' hc
   have eop:n.op=op:=by omega
   refine⟨fun _=>?_,fun g=>by cases g⟩
   refine cut h' l' (by rw [eop];exact ho) _ fun a' n' c' h'' l'' S'=>⟨_,_,_,rfl,hK _ _ _ _ _ (Hp.le_trans l' l'') S' ?_⟩
   have:=A.twice hx (by omega) (by omega)
   rw [eop] at this
   exact this
  have no:∀ h',h.le h'→J55 false h':=fun h' l'=>⟨fun g=>by (cases g),fun _=>join h' l'⟩
  clear_value J55
  rw [cand]
  by_cases hc:op=4∧n.op=4
  ·have hp:=hp40 hc
   subst hp
   have e1:decide (op=4∧n.op=4)=true:=decide_eq_true hc
   rw [e1]
   by_cases ht:(typE (cutL l 0 (l.length - 1))).2=0∧(typE (cutL l 0 (l.length - 1))).1≠1
   ·rw [decide_eq_true ht]
    exact⟨fun _=>yes _ l39 (by omega),fun g=>by cases g⟩
   ·rw [decide_eq_false ht]
    refine⟨fun g=>by (cases g),fun _=>?_⟩
    have n3:(bif decide (op=3) then decide (n.op=3) else false)=false:=by rw [cand];exact decide_eq_false (by omega)
    rw [n3]
    refine⟨fun x h'=>h'=h39∧x=.t (.one (.v (vsl none 0 0))),fun g=>by (cases g),fun _=>⟨rfl,rfl⟩,?_⟩
    rintro h46 a47 n47 c47 ⟨rfl,e⟩
    cases e
    refine⟨fun x h'=>h'=h46∧x=.t (.one (.v (vb false))),fun g=>by (cases g),fun _=>⟨rfl,rfl⟩,?_⟩
    rintro h52 p53 ⟨rfl,e⟩
    cases e
    exact no _ l39
  ·have e1:decide (op=4∧n.op=4)=false:=decide_eq_false hc
   rw [e1]
   refine⟨fun g=>by (cases g),fun _=>?_⟩
   rw [cand]
   refine⟨fun x h'=>h.le h'∧∃ a' n' c',x=.t (.one (.v (vsl a' n' c')))∧((op=3∧n.op=3)→NS h' a' n' c' (cutL l 0 (l.length - 1))),fun g=>?_,fun g=>?_,?_⟩
   ·have g:=of_decide_eq_true g
    exact cut _ l39 (by rw [g.2];decide) _ fun a' n' c' h'' l'' S'=>⟨_,_,_,rfl,Hp.le_trans l39 l'',_,_,_,rfl,fun _=>S'⟩
   ·exact⟨l39,none,0,0,rfl,fun q=>absurd (decide_eq_true q) g⟩
   rintro h46 a47 n47 c47 ⟨l46,a',n',c',e,S46⟩
   cases e
   refine⟨fun x h'=>h.le h'∧∃ p,x=.t (.one (.v (vb p)))∧((op=3∧n.op=3)→p=decide ((typE (cutL l 0 (l.length - 1))).2=0∧(typE (cutL l 0 (l.length - 1))).1≠2)),fun g=>?_,fun g=>?_,?_⟩
   ·have g:=of_decide_eq_true g
    obtain⟨OC,hC⟩:=lc (by rw [g.2];decide)
    exact fold_numbers_ok (S46 g).s OC hC fun h' l'=>⟨_,rfl,Hp.le_trans l46 l',_,rfl,fun _=>rfl⟩
   ·exact⟨l46,false,rfl,fun q=>absurd (decide_eq_true q) g⟩
   rintro h52 p53 ⟨l52,p,e,hp53⟩
   cases e
   by_cases hc3:op=3∧n.op=3
   ·have hp:=hp53 hc3
    subst hp
    rw [decide_eq_true hc3]
    by_cases ht:(typE (cutL l 0 (l.length - 1))).2=0∧(typE (cutL l 0 (l.length - 1))).1≠2
    ·rw [decide_eq_true ht]
     exact yes _ l52 (by omega)
    ·rw [decide_eq_false ht]
     exact no _ l52
   ·rw [decide_eq_false hc3]
    exact no _ l52
end
abbrev svV (v:Int × Int):SV:=.t (.ag [.v (vi v.1),.v (vi v.2)])
theorem gd {p:Prop}[Decidable p]{v b c:Int × Int}(h:p→b=c):(bif decide p then decide (v=b) else false)=decide (p∧v=c):=by
 by_cases hp:p
 ·rw [h hp];simp [hp]
 ·simp [hp]
theorem num0:numV 0=(1,0):=by decide
theorem num1:numV 1=(1,1):=by decide
section
variable {a:Option Addr}{m c:Nat}{l:List Nd}{h:Hp}
theorem fold_beside_ok {op:Int}(S:NS h a m c l)(O:OkE l)(hm:l.length≤1000000){v:Int × Int}(hv:goodV v){right:Bool}{R:Value→Hp→Prop}
  (hY:∀ a' n' c' h' z,h.le h'→NS h' a' n' c' z→RepO (fun e=>besV right op (valE e l) v) op l.length z→R (vtup [vsl a' n' c',vb true]) h') (hN:∀ h',h.le h'→R (vtup [vsl none 0 0,vb false]) h') :
  CallOK Tryz.prog 116 [vi op,vsl a m c,vag (encV v),vb right] h R:=by
 refine ok_fold_beside ?_
 unfold VC_fold_beside
 have hp:=O.pos
 refine⟨fun x h'=>h.le h'∧∃ b,x=svV b∧(op=9→b=(2,1)),fun g=>value_Truth_ok ⟨_,_,rfl,Hp.le_refl h,_,rfl,fun _=>rfl⟩,fun g=>⟨Hp.le_refl h,(0,0),rfl,fun q=>absurd (decide_eq_true q) g⟩,?_⟩
 rintro h6 x7 x8 ⟨l6,b,e,hb⟩
 cases e
 refine⟨_,fun _=>rd_eqV (a:=v) (b:=b),?_⟩
 rw [gd hb]
 refine⟨fun x h'=>h.le h'∧∃ b,x=svV b∧(op=10→b=(2,0)),fun g=>value_Truth_ok ⟨_,_,rfl,l6,_,rfl,fun _=>rfl⟩,fun g=>⟨l6,(0,0),rfl,fun q=>absurd ⟨decide_eq_false (by omega),decide_eq_true q⟩ g⟩,?_⟩
 rintro h15 x16 x17 ⟨l15,b2,e,hb2⟩
 cases e
 refine⟨_,fun _=>rd_eqV (a:=v) (b:=b2),?_⟩
 rw [gd hb2,cor]
 refine⟨fun x h'=>h.le h'∧∃ p,x=.t (.one (.v (vb p)))∧(p=true→(typE l).2=0∧(typE l).1≠1),fun g=>fold_truths_ok (S.s.le l15) O hm fun h' l'=>⟨_,rfl,Hp.le_trans l15 l',_,rfl,fun q=>of_decide_eq_true q⟩,fun g=>⟨l15,false,rfl,fun q=>by cases q⟩,?_⟩
 rintro h23 p24 ⟨l23,p,e,hp24⟩
 cases e
 have e24:∀(q:Prop) [Decidable q],(bif decide q then p24 else false)=true→q∧p24=true:=by
  intro q _ g
  by_cases hq:q
  ·rw [decide_eq_true hq] at g;exact⟨hq,g⟩
  ·rw [decide_eq_false hq] at g;cases g
 refine⟨fun g=>?_,fun _=>?_⟩
 ·obtain⟨g1,g2⟩:=e24 _ g
  have ht:=hp24 g2
  exact hY _ _ _ _ _ l23 (S.le l23) (bes_truths O g1 ht.1 ht.2)
 refine⟨fun x h'=>h.le h'∧∃ b,x=svV b∧(op=9→b=(2,0)),fun g=>value_Truth_ok ⟨_,_,rfl,l23,_,rfl,fun _=>rfl⟩,fun g=>⟨l23,(0,0),rfl,fun q=>absurd (decide_eq_true q) g⟩,?_⟩
 rintro h30 x31 x32 ⟨l30,b3,e,hb3⟩
 cases e
 refine⟨_,fun _=>rd_eqV (a:=v) (b:=b3),?_⟩
 rw [gd hb3]
 intro J45
 have yes:∀ h',h.le h'→(op=9∧v=(2,0))∨(op=10∧v=(2,1))→J45 true h':=by
  intro h' l' hc
  refine⟨fun _=>?_,fun g=>by cases g⟩
  exact fold_of_ok (v:=v) fun a' c' h'' l'' S'=>⟨_,_,_,rfl,hY _ _ _ _ _ (Hp.le_trans l' l'') S' ((bes_const (x:=l) hc).mono hp)⟩
 have no:∀ h',h.le h'→J45 false h':=by
  intro h48 l48
  refine⟨fun g=>by (cases g),fun _=>?_⟩
  refine⟨fun x h'=>h.le h'∧∃ b,x=svV b∧(op=6→b=(1,0)),fun g=>value_Number_ok ⟨_,_,rfl,l48,_,rfl,fun _=>num0⟩,fun g=>⟨l48,(0,0),rfl,fun q=>absurd (decide_eq_true q) g⟩,?_⟩
  rintro h57 x58 x59 ⟨l57,b,e,hb⟩
  cases e
  refine⟨_,fun _=>rd_eqV (a:=v) (b:=b),?_⟩
  rw [gd hb]
  refine⟨fun x h'=>h.le h'∧∃ b,x=svV b∧(op=8→b=(1,1)),fun g=>value_Number_ok ⟨_,_,rfl,l57,_,rfl,fun _=>num1⟩,fun g=>⟨l57,(0,0),rfl,fun q=>absurd ⟨decide_eq_false (by omega),decide_eq_true q⟩ g⟩,?_⟩
  rintro h66 x67 x68 ⟨l66,b2,e,hb2⟩
  cases e
  refine⟨_,fun _=>rd_eqV (a:=v) (b:=b2),?_⟩
  rw [gd hb2,cor]
  have er:(bif decide (op=7) then right else false)=decide (op=7∧right=true):=by
   by_cases h7:op=7<;>cases right<;>simp [h7]
  rw [er]
  refine⟨fun x h'=>h.le h'∧∃ b,x=svV b∧(op=7∧right=true→b=(1,0)),fun g=>value_Number_ok ⟨_,_,rfl,l66,_,rfl,fun _=>num0⟩,fun g=>⟨l66,(0,0),rfl,fun q=>absurd ⟨decide_eq_false (by omega),decide_eq_true q⟩ g⟩,?_⟩
  rintro h75 x76 x77 ⟨l75,b3,e,hb3⟩
  cases e
  refine⟨_,fun _=>rd_eqV (a:=v) (b:=b3),?_⟩
  rw [gd hb3,cor]
  refine⟨fun x h'=>h.le h'∧∃ p,x=.t (.one (.v (vb p)))∧(p=true→(typE l).2=0∧(typE l).1≠2),fun g=>fold_numbers_ok (S.s.le l75) O hm fun h' l'=>⟨_,rfl,Hp.le_trans l75 l',_,rfl,fun q=>of_decide_eq_true q⟩,fun g=>⟨l75,false,rfl,fun q=>by cases q⟩,?_⟩
  rintro h83 p84 ⟨l83,p,e,hp84⟩
  cases e
  refine⟨fun g=>?_,fun _=>⟨fun g=>?_,fun _=>hN _ l83⟩⟩
  ·have e84:∀(q:Prop) [Decidable q],(bif decide q then p84 else false)=true→q∧p84=true:=by
    intro q _ g
    by_cases hq:q
    ·rw [decide_eq_true hq] at g;exact⟨hq,g⟩
    ·rw [decide_eq_false hq] at g;cases g
   obtain⟨g1,g2⟩:=e84 _ g
   have ht:=hp84 g2
   refine hY _ _ _ _ _ l83 (S.le l83) (bes_numbers O ?_ ht.1 ht.2)
   rcases g1 with (g1|g1)|⟨⟨g1,g3⟩,g4⟩
   ·exact .inl g1
   ·exact .inr (.inl g1)
   ·exact .inr (.inr ⟨g1,g3,g4⟩)
  ·simp only [cand] at g
   have g:=of_decide_eq_true g
   exact fold_of_ok (v:=v) fun a' c' h'' l'' S'=>⟨_,_,_,rfl,hY _ _ _ _ _ (Hp.le_trans l83 l'') S' ((bes_null (x:=l) hv g.1.1 g.1.2 g.2).mono hp)⟩
 clear_value J45
 refine⟨fun g=>?_,fun _=>?_⟩
 ·rw [g]
  exact yes _ l30 (.inl (of_decide_eq_true g))
 refine⟨fun x h'=>h.le h'∧∃ b,x=svV b∧(op=10→b=(2,1)),fun g=>value_Truth_ok ⟨_,_,rfl,l30,_,rfl,fun _=>rfl⟩,fun g=>⟨l30,(0,0),rfl,fun q=>absurd (decide_eq_true q) g⟩,?_⟩
 rintro h40 x41 x42 ⟨l40,b4,e,hb4⟩
 cases e
 refine⟨_,fun _=>rd_eqV (a:=v) (b:=b4),?_⟩
 rw [gd hb4]
 by_cases hc:op=10∧v=(2,1)
 ·rw [decide_eq_true hc]
  exact yes _ l40 (.inr hc)
 ·rw [decide_eq_false hc]
  exact no _ l40
theorem fold_double_ok {op:Int}(ho:arI op=2)(S:NS h a m c l){P:EvL→Int × Int}{T:Option Int}{k:Nat}(A:Rep P T k l)(hk:k≤1000000)
  {a2:Option Addr} {m2 c2:Nat} {l2:List Nd} (S2:NS h a2 m2 c2 l2) {Q:EvL→Int × Int} {U:Option Int} {j:Nat} (B:Rep Q U j l2) (hj:j≤1000000) {R:Value→Hp→Prop}
  (hK:∀ a' n' c' h' z,h.le h'→NS h' a' n' c' z→Rep (fun e=>opV op (P e) (Q e)) (tyG op T U) (k+j+1) z→R (vsl a' n' c') h'):CallOK Tryz.prog 66 [vi op,vsl a m c,vsl a2 m2 c2] h R:=by
 refine ok_fold_double ?_
 unfold VC_fold_double
 have hA:=A.len
 have hB:=B.len
 have hpA:=A.pos
 have hpB:=B.pos
 have ar:=ar0 (op:=op) (by omega)
 have m1:=S.s.1
 have mm2:=S2.s.1
 subst m1 mm2
 have cnst:∀{x:List Nd} {n:Nd},OkE x→x=[n]→n.op=1→x=cst n.v∧goodV n.v:=by
  intro x n O e h1
  subst e
  have hn:=O.n n (List.mem_singleton.2 rfl)
  exact⟨cst_of hn h1,nodeF_vF hn⟩
 have Y:∀(p5 p10:Bool) (v w:Int × Int),(p5=true→l=cst v∧goodV v)→(p10=true→l2=cst w∧goodV w) →
   (((bif p5 then p10 else false)=true→(CallOK Tryz.prog 97 [(vi op),(vag [(vi v.1),(vi v.2)]),(vag [(vi w.1),(vi w.2)])] h fun v11 h12=>∃(x13:Int) (x14:Int),v11=(vag [(vi x13),(vi x14)])∧(CallOK Tryz.prog 111 [(vag [(vi x13),(vi x14)])] h12 fun v15 h16=>∃(a17:Option Addr) (n17 c17:Nat),v15=(vsl a17 n17 c17)∧R (vsl a17 n17 c17) h16)))∧((bif p5 then p10 else false)=false→(let J25:Hp→Prop:=fun(h26:Hp)=>(let J33:Hp→Prop:=fun(h34:Hp)=>(CallOK Tryz.prog 112 [(vi op),(vsl a l.length c),(vsl a2 l2.length c2)] h34 fun v35 h36=>∃(a37:Option Addr) (n37 c37:Nat),v35=(vsl a37 n37 c37)∧R (vsl a37 n37 c37) h36);((p10=true→(CallOK Tryz.prog 116 [(vi op),(vsl a l.length c),(vag [(vi w.1),(vi w.2)]),(vb true)] h26 fun v27 h28=>∃(a29:Option Addr) (n29 c29:Nat) (p30:Bool),v27=(vtup [(vsl a29 n29 c29),(vb p30)])∧((p30=true→R (vsl a29 n29 c29) h28)∧(p30=false→(J33 h28)))))∧(p10=false→(J33 h26))));((p5=true→(CallOK Tryz.prog 116 [(vi op),(vsl a2 l2.length c2),(vag [(vi v.1),(vi v.2)]),(vb false)] h fun v19 h20=>∃(a21:Option Addr) (n21 c21:Nat) (p22:Bool),v19=(vtup [(vsl a21 n21 c21),(vb p22)])∧((p22=true→R (vsl a21 n21 c21) h20)∧(p22=false→(J25 h20)))))∧(p5=false→(J25 h)))))):=by
  intro p5 p10 v w hp5 hp10
  refine⟨fun g=>?_,fun _=>?_⟩
  ·have g1:p5=true∧p10=true:=by revert g;cases p5<;>cases p10<;>simp
   obtain⟨hl,hgv⟩:=hp5 g1.1
   obtain⟨hl2,hgw⟩:=hp10 g1.2
   rw [hl] at A
   rw [hl2] at B
   refine value_Do_ok (a:=v) (b:=w) ⟨_,_,rfl,fold_of_ok (v:=doV op v w) fun a' c' h' l' S'=>⟨_,_,_,rfl,hK _ _ _ _ _ l' S' ?_⟩⟩
   have og:=opV_good (op:=op) (by omega) v w
   rw [opV_do (by omega)] at og
   refine Rep.cst og.1 (by omega) (fun e E=>?_) fun t ht=>?_
   ·rw [A.cst_val e E,B.cst_val e E,opV_do (by omega)]
   ·rw [tyG_out ht];exact og.2
  intro J25
  have j25:∀ h',h.le h'→J25 h':=by
   intro h26 l26
   have j33:∀ h',h.le h'→CallOK Tryz.prog 112 [(vi op),(vsl a l.length c),(vsl a2 l2.length c2)] h' fun v35 h36=>∃(a37:Option Addr) (n37 c37:Nat),v35=(vsl a37 n37 c37)∧R (vsl a37 n37 c37) h36:=fun h' l'=>expr_Join_ok (S.s.le l') (S2.s.le l') B.ok.wf (by omega) (by omega) fun a' c' h'' V=>⟨_,_,_,rfl,hK _ _ _ _ _ (Hp.le_trans l' V.le0) (NS.of V) (A.join2 ho B)⟩
   refine⟨fun g=>?_,fun _=>j33 _ l26⟩
   obtain⟨hl2,hgw⟩:=hp10 g
   refine fold_beside_ok (v:=w) (S.le l26) A.ok (by omega) hgw (fun a' n' c' h' z l' S' Z=>⟨_,_,_,true,rfl,fun _=>hK _ _ _ _ _ (Hp.le_trans l26 l') S' ?_,fun g=>by cases g⟩) fun h' l'=>⟨_,_,_,false,rfl,fun g=>by (cases g),fun _=>j33 _ (Hp.le_trans l26 l')⟩
   rw [hl2] at B
   have Z2:=Z.rep (j:=k+j+1) (by omega) T U
   refine⟨Z2.ok,Z2.len,fun e E=>?_,Z2.ty⟩
   rw [Z2.val e E,B.cst_val e E,opV_do (by omega),A.val e E]
   rfl
  clear_value J25
  refine⟨fun g=>?_,fun _=>j25 _ (Hp.le_refl h)⟩
  obtain⟨hl,hgv⟩:=hp5 g
  refine fold_beside_ok (v:=v) S2 B.ok (by omega) hgv (fun a' n' c' h' z l' S' Z=>⟨_,_,_,true,rfl,fun _=>hK _ _ _ _ _ l' S' ?_,fun g=>by cases g⟩) fun h' l'=>⟨_,_,_,false,rfl,fun g=>by (cases g),fun _=>j25 _ l'⟩
  rw [hl] at A
  have Z2:=Z.rep (j:=k+j+1) (by omega) T U
  refine⟨Z2.ok,Z2.len,fun e E=>?_,Z2.ty⟩
  rw [Z2.val e E,A.cst_val e E,opV_do (by omega),B.val e E]
  rfl
 refine fold_constant_ok S.s (fun n hn h1=>⟨_,_,true,rfl,?_⟩) ⟨_,_,false,rfl,?_⟩
 ·refine fold_constant_ok S2.s (fun n2 hn2 h2=>⟨_,_,true,rfl,?_⟩) ⟨_,_,false,rfl,?_⟩
  ·exact Y true true n.v n2.v (fun _=>cnst A.ok hn h1) (fun _=>cnst B.ok hn2 h2)
  ·exact Y true false n.v (0,0) (fun _=>cnst A.ok hn h1) (fun g=>by cases g)
 ·refine fold_constant_ok S2.s (fun n2 hn2 h2=>⟨_,_,true,rfl,?_⟩) ⟨_,_,false,rfl,?_⟩
  ·exact Y false true (0,0) n2.v (fun g=>by cases g) (fun _=>cnst B.ok hn2 h2)
  ·exact Y false false (0,0) (0,0) (fun g=>by cases g) (fun g=>by cases g)
end
theorem elRow:ElT Tryz.prog 129 26 1 24:=.of (by kernel_rfl) (by kernel_rfl) (by decide)
def encR (r:TRow Nd):List Value:=[rowV r]
theorem encR_len (r:TRow Nd):(encR r).length=1:=rfl
structure StkR (h:Hp)(a:Option Addr)(n c:Nat)(R:List (TRow Nd)):Prop where
 s:SlP encR h a n R
 c:n≤c
 r:∀ r ∈ R,NS h r.1.1 r.2.length r.1.2 r.2
theorem rev_top {α β:Type}{f:α→β}{R:List α}{z:β}{s:List β}(h:(R.map f).reverse=z :: s):∃ r,R=R.take (R.length - 1)++[r]∧f r=z∧((R.take (R.length - 1)).map f).reverse=s∧1≤R.length∧R[R.length - 1]?=some r:=by
 have h1:R.map f=s.reverse++[z]:=by rw [←List.reverse_reverse (R.map f),h,List.reverse_cons]
 have hlen:R.length=s.length+1:=by have:=congrArg List.length h1;simpa using this
 have hx:R[R.length - 1]?=some (R[R.length - 1]'(by omega)):=List.getElem?_eq_getElem (by omega)
 refine⟨_,?_,?_,?_,by omega,hx⟩
 ·have:=List.take_append_drop (R.length - 1) R
  rw [List.drop_eq_getElem_cons (by omega),show R.length - 1+1=R.length by omega,List.drop_length] at this
  exact this.symm
 ·have:(R.map f)[R.length - 1]?=some z:=by rw [h1,List.getElem?_append_right (by simp;omega)];simp [hlen]
  rw [List.getElem?_map,hx] at this
  simpa using this
 ·rw [List.map_take,h1,List.take_left' (by simp;omega),List.reverse_reverse]
section
variable {a:Option Addr}{m c:Nat}{l:List Nd}{h:Hp}
theorem fold_constant_c {v:Int × Int}(S:SlP encN h a m (cst v)){R:Value→Hp→Prop}(hY:R (vtup [vag (encV v),vb true]) h):CallOK Tryz.prog 110 [vsl a m c] h R:=by
 refine ok_fold_constant ?_
 unfold VC_fold_constant
 obtain rfl:=S.1
 obtain⟨b,o,ha,hr⟩:=S.get encN_len (by decide) (i:=0) rfl
 have A:a=some ⟨b,o,none⟩∧(0:Int)≤0∧(0:Int) < ((cst v).length:Nat):=⟨ha,by decide,by simp⟩
 refine⟨b,o,fun _=>A,1,fun _=>Hp.row_cell hr (i:=0) rfl,fun g=>?_,fun g=>by simp at g⟩
 exact⟨b,o,A,_,_,Hp.row_sub hr (i:=4) (k:=2) (by decide),hY⟩
structure Stp (l:List Nd)(F:List (List Nd)→Nat→Prop):Prop where
 z:F [] 0
 len:∀ s i,F s i→s.length≤i
 stp:∀ s i n,F s i→l[i]?=some n→(arI n.op=0∧F ([n] :: s) (i+1)) ∨
  (arI n.op=1∧∃ z s',s=z :: s'∧∀(a:Option Addr) (m c:Nat) (h:Hp) (R:Value→Hp→Prop),NS h a m c z→(∀ a' n' c' h' y,h.le h'→NS h' a' n' c' y→F (y :: s') (i+1)→R (vsl a' n' c') h')→CallOK Tryz.prog 65 [vi n.op,vsl a m c] h R) ∨
  (arI n.op=2∧∃ z z' s',s=z' :: z :: s'∧∀(a:Option Addr) (m c:Nat) (a2:Option Addr) (m2 c2:Nat) (h:Hp) (R:Value→Hp→Prop),NS h a m c z→NS h a2 m2 c2 z'→(∀ a' n' c' h' y,h.le h'→NS h' a' n' c' y→F (y :: s') (i+1)→R (vsl a' n' c') h')→CallOK Tryz.prog 66 [vi n.op,vsl a m c,vsl a2 m2 c2] h R)
theorem fold_Fold_gen {F0S:List (List Nd)→Nat→Prop}{Z:List Nd→Prop}(S:SlP encN h a m l)(H:Stp l F0S)(hz:∀ s,F0S s l.length→∃ z,s=[z]∧Z z)(hm:l.length≤100000){R:Value→Hp→Prop}
  (hK:∀ a' n' c' h' z,h.le h'→NS h' a' n' c' z→Z z→R (vsl a' n' c') h'):CallOK Tryz.prog 31 [vsl a m c] h R:=by
 refine ok_fold_Fold ?_
 unfold VC_fold_Fold
 obtain rfl:=S.1
 refine⟨fun vs hh=>∃(i:Nat) (a:Option Addr) (c:Nat) (Q:List (TRow Nd)),vs=[vsl a Q.length c,vi i]∧i≤l.length∧h.le hh∧StkR hh a Q.length c Q∧F0S (Q.map Prod.snd).reverse i,fun vs hh=>l.length - (vint vs 1).toNat,
  ⟨0,none,0,[],rfl,Nat.zero_le _,Hp.le_refl h,⟨⟨rfl,.inl rfl⟩,Nat.le_refl _,fun r hr=>by cases hr⟩,H.z⟩,?_⟩
 rintro vs hh ⟨i,a1,c1,Q,rfl,hi,hle,SQ,F⟩
 refine⟨_,_,_,_,rfl,fun g=>?_,fun g=>?_⟩
 ·have hlt:i < l.length:=by have:=of_decide_eq_true g;omega
  have hx:l[i]?=some l[i]:=List.getElem?_eq_getElem hlt
  obtain⟨b,o,ha,hr⟩:=(S.le hle).get encN_len (by decide) hx
  have st:=H.stp _ _ _ F hx
  have fl:=H.len _ _ F
  rw [List.length_reverse,List.length_map] at fl
  generalize l[i]=n at *
  refine⟨b,o,⟨ha,by omega,by omega⟩,_,_,_,_,_,_,hr,expr_Arity_ok ⟨_,rfl,?_⟩⟩
  have hsz:szT Tryz.prog 26=1:=by kernel_rfl
  have hcap:=SQ.c
  -- what is behind a node's own is put there
  have fin:∀(kk:Nat),kk≤Q.length→∀(z:List Nd) (a46:Option Addr) (n46 c46:Nat) (h47:Hp),hh.le h47→NS h47 a46 n46 c46 z→F0S (z :: ((Q.take kk).map Prod.snd).reverse) (i+1) →
    (∃(a48:Option Addr) (n48 c48:Nat),(Rd Tryz.prog (Instr.sliceAt 129 (vsl a1 Q.length c1) none (some (vi kk)) (some (vi kk))) h47 (vsl a48 n48 c48))∧(∀(b49:Nat),h47 b49=none→let h50:Hp:=Hp.set h47 b49 (cellsO [(vsl a46 n46 c46)] 26);(SemOK Tryz.prog (Builtin.append_ #[129,129] 129 #[(vsl a48 n48 c48),(vsl (some (⟨b49,0,none⟩:Addr)) 1 1)]) h50 fun v51 h52=>∃(a53:Option Addr) (n53 c53:Nat),v51=(vsl a53 n53 c53)∧(∃(x55:Int),(IsW x55 ((i:Int)+1))∧((∃(i:Nat) (a:Option Addr) (c:Nat) (Q:List (TRow Nd)),[(vsl a53 n53 c53),(vi x55)]=[vsl a Q.length c,vi i]∧i≤l.length∧h.le h52∧StkR h52 a Q.length c Q∧F0S (Q.map Prod.snd).reverse i)∧l.length - (vint [(vsl a53 n53 c53),(vi x55)] 1).toNat < l.length - (vint [vsl a1 Q.length c1,vi i] 1).toNat))))):=by
   intro kk hkk z a46 n46 c46 h47 l47 SZ FZ
   obtain rfl:=SZ.s.1
   refine⟨_,_,_,rd_slice_hm (e:=26) (by kernel_rfl) (by kernel_rfl) (by omega) (Int.le_refl _) (by omega),fun b49 hb49=>?_⟩
   intro h50
   rw [Int.toNat_natCast]
   have l50:h47.le h50:=Hp.le_set (Hp.le_refl h47) hb49 _
   have SK:=(SQ.s.le (Hp.le_trans l47 l50)).take encR_len hkk
   have hfl:((Q.take kk).flatMap encR).length=kk*1:=by rw [flatMap_length encR_len,←SK.1]
   refine sem_append_full elRow SK.2 hfl (fun hn=>?_) (HasRow.new _ _ [vsl a46 z.length c46] _) (m:=1) rfl (Nat.succ_pos 0) (by omega) (by omega) fun a' c' h' O'=>⟨_,_,_,rfl,_,isW (by unfold InR;omega),⟨i+1,a',c',Q.take kk++[((a46,c46),z)],?_,by omega,?_,⟨?_,?_,?_⟩,?_⟩,by simp [vint];omega⟩
   ·rcases SK.2 with h1|⟨b',o',h1,_⟩
    ·rw [h1] at hfl;simp at hfl;omega
    ·rw [hn] at h1;cases h1
   ·rw [List.length_append,←SK.1];rfl
   ·exact Hp.le_trans (Hp.le_trans (Hp.le_trans hle l47) l50) O'.le
   ·have:(Q.take kk++[((a46,c46),z)]).flatMap encR=(Q.take kk).flatMap encR++[vsl a46 z.length c46]:=by rw [List.flatMap_append];rfl
    rw [←this] at O'
    have:=OwnV.slp encR_len (by decide) O'
    rw [List.length_append,←SK.1]
    exact this
   ·rw [List.length_append,←SK.1]
    exact O'.own.cap
   ·intro r hr
    rcases List.mem_append.1 hr with h1|h1
    ·exact(SQ.r r (List.mem_of_mem_take h1)).le (Hp.le_trans (Hp.le_trans l47 l50) O'.le)
    ·rw [List.mem_singleton] at h1
     subst h1
     exact SZ.le (Hp.le_trans l50 O'.le)
   ·rw [List.map_append,List.reverse_append]
    exact FZ
  have own:∀(kk:Nat),kk≤Q.length→Rd Tryz.prog (Instr.sliceAt 129 (vsl a1 Q.length c1) (some (vi kk)) none none) hh (vsl (cutA a1 kk c1 1) (Q.length - kk) (c1 - kk))∧SlP encR hh (cutA a1 kk c1 1) (Q.length - kk) (Q.drop kk):=by
   intro kk hkk
   have:=rd_slice_l (P:=Tryz.prog) (h:=hh) (t:=129) (e:=26) (by kernel_rfl) (by kernel_rfl) (a:=a1) (n:=Q.length) (c:=c1) (x:=(kk:Int)) (by omega) (by omega)
   rw [hsz,Int.toNat_natCast] at this
   exact⟨this,SQ.s.drop encR_len hkk hcap⟩
  rcases st with ⟨h0,F0⟩|⟨h1,z,s',hs,C1⟩|⟨h2,z,z',s',hs,C2⟩
  ·rw [h0]
   refine⟨(Q.length:Nat),by have:=isW (e:=((Q.length:Nat):Int) - 0) (by unfold InR;omega);rw [Int.sub_zero] at this ⊢;exact this,_,_,_,(own Q.length (Nat.le_refl _)).1,fun _=>?_,fun g=>?_⟩
   ·intro b23 hb23 h24
    refine fin Q.length (Nat.le_refl _) [n] _ _ _ h24 (Hp.le_set (Hp.le_refl hh) hb23 _) ⟨⟨rfl,HasRow.new _ _ (encN n) _⟩,Nat.le_refl _⟩ ?_
    rw [List.take_length]
    exact F0
   ·exfalso
    have:=of_decide_eq_false g
    omega
  ·obtain⟨r,eQ,er,es,hQ1,hr1⟩:=rev_top hs
   rw [h1]
   refine⟨((Q.length - 1:Nat):Int),by have:=isW (e:=((Q.length:Nat):Int) - 1) (by unfold InR;omega);rw [show ((Q.length:Nat):Int) - 1=((Q.length - 1:Nat):Int) by omega] at this ⊢;exact this,_,_,_,(own (Q.length - 1) (by omega)).1,fun g=>?_,fun g=>⟨fun _=>?_,fun g=>?_⟩⟩
   ·exfalso
    have:=of_decide_eq_true g
    omega
   ·have S1:=(own (Q.length - 1) (by omega)).2
    obtain⟨b1,o1,ha1,hc1⟩:=S1.get encR_len (by decide) (i:=0) (x:=r) (by rw [List.getElem?_drop];exact hr1)
    have NR:=SQ.r r (List.mem_of_getElem? hr1)
    refine⟨b1,o1,⟨ha1,by decide,by omega⟩,_,_,_,Hp.row_cell hc1 (i:=0) rfl,?_⟩
    rw [er] at NR ⊢
    refine C1 _ _ _ _ _ NR fun a' n' c' h' y l' SY Y=>⟨_,_,_,rfl,?_⟩
    refine fin (Q.length - 1) (by omega) y _ _ _ _ l' SY ?_
    rw [es]
    exact Y
   ·exfalso
    have:=of_decide_eq_false g
    omega
  ·obtain⟨r',eQ,er',es',hQ1,hr1⟩:=rev_top hs
   obtain⟨r,eQ2,er,es,hQ2,hr2⟩:=rev_top es'
   rw [List.length_take] at eQ2 es hQ2 hr2
   have e2:min (Q.length - 1) Q.length - 1=Q.length - 2:=by omega
   rw [e2] at eQ2 es hr2
   rw [List.take_take,show min (Q.length - 2) (Q.length - 1)=Q.length - 2 by omega] at es
   rw [List.getElem?_take,if_pos (by omega)] at hr2
   rw [h2]
   refine⟨((Q.length - 2:Nat):Int),by have:=isW (e:=((Q.length:Nat):Int) - 2) (by unfold InR;omega);rw [show ((Q.length:Nat):Int) - 2=((Q.length - 2:Nat):Int) by omega] at this ⊢;exact this,_,_,_,(own (Q.length - 2) (by omega)).1,fun g=>?_,fun g=>⟨fun g=>?_,fun g=>?_⟩⟩
   ·exfalso
    have:=of_decide_eq_true g
    omega
   ·exfalso
    have:=of_decide_eq_true g
    omega
   ·have S1:=(own (Q.length - 2) (by omega)).2
    obtain⟨b1,o1,ha1,hc1⟩:=S1.get encR_len (by decide) (i:=0) (x:=r) (by rw [List.getElem?_drop];exact hr2)
    obtain⟨b2,o2,ha2,hc2⟩:=S1.get encR_len (by decide) (i:=1) (x:=r') (by rw [List.getElem?_drop,show Q.length - 2+1=Q.length - 1 by omega];exact hr1)
    have NR:=SQ.r r (List.mem_of_getElem? hr2)
    have NR':=SQ.r r' (List.mem_of_getElem? hr1)
    refine⟨b1,o1,⟨ha1,by decide,by omega⟩,_,_,_,Hp.row_cell hc1 (i:=0) rfl,b2,o2,⟨ha2,by decide,by omega⟩,_,_,_,Hp.row_cell hc2 (i:=0) rfl,?_⟩
    rw [er] at NR ⊢
    rw [er'] at NR' ⊢
    refine C2 _ _ _ _ _ _ _ _ NR NR' fun a' n' c' h' y l' SY Y=>⟨_,_,_,rfl,?_⟩
    refine fin (Q.length - 2) (by omega) y _ _ _ _ l' SY ?_
    rw [es]
    exact Y
 ·have hge:i=l.length:=by have:=of_decide_eq_false g;omega
  subst hge
  obtain⟨z,hz,A⟩:=hz _ F
  obtain⟨r,eQ,er,es,hQ1,hr1⟩:=rev_top hz
  have hQ:Q.length=1:=by have:=congrArg List.length hz;simpa using this
  rw [hQ] at hr1
  obtain⟨b1,o1,ha1,hc1⟩:=SQ.s.get encR_len (by decide) (i:=0) (x:=r) hr1
  have NR:=SQ.r r (List.mem_of_getElem? hr1)
  refine⟨b1,o1,⟨ha1,by decide,by omega⟩,_,_,_,Hp.row_cell hc1 (i:=0) rfl,?_⟩
  rw [er] at NR ⊢
  exact hK _ _ _ _ _ hle NR A
theorem fold_Fold_ok (S:SlP encN h a m l)(O:OkE l)(hm:l.length≤100000){R:Value→Hp→Prop}
  (hK:∀ a' n' c' h' z,h.le h'→NS h' a' n' c' z→Rep (fun ev=>valE ev l) (tAt l (l.length - 1)) l.length z→R (vsl a' n' c') h'):CallOK Tryz.prog 31 [vsl a m c] h R:=by
 refine fold_Fold_gen (F0S:=FStk l) S ⟨.nil,fun s i F=>F.len,fun s i n F hn=>?_⟩ (fun s F=>F.done O) hm hK
 have hi:=F.all
 rcases F.step O hn with h0|⟨h1,z,s',P,T,k,hs,hk,A,F1⟩|⟨h2,z,z',s',P,T,k,Q2,U,j,hs,hk,A,B,F2⟩
 ·exact .inl h0
 ·exact .inr (.inl ⟨h1,z,s',hs,fun a m c h R N hR=>fold_single_ok h1 N A (by omega) fun a' n' c' h' y l' SY Y=>hR _ _ _ _ _ l' SY (F1 y Y)⟩)
 ·exact .inr (.inr ⟨h2,z,z',s',hs,fun a m c a2 m2 c2 h R N N' hR=>fold_double_ok h2 N A (by omega) N' B (by omega) fun a' n' c' h' y l' SY Y=>hR _ _ _ _ _ l' SY (F2 y Y)⟩)
end
structure FoldQ (q qf:Qy):Prop where
 sz:qf.size=q.size
 sl:qf.slide=q.slide
 de:qf.delay=q.delay
 la:qf.late=q.late
 an:qf.aggs.length=q.aggs.length
 ag:∀(i:Nat) (a b:Ag),q.aggs[i]?=some a→qf.aggs[i]?=some b→b.1=a.1∧(a.1=1→b.2=[])∧(a.1≠1→Rep (fun e=>valE e a.2) (tAt a.2 (a.2.length - 1)) a.2.length b.2)
 w0:q.wh=[]→qf.wh=[]
 w1:q.wh≠[]→Rep (fun e=>valE e q.wh) (tAt q.wh (q.wh.length - 1)) q.wh.length qf.wh
 b0:q.by_=[]→qf.by_=[]
 b1:q.by_≠[]→Rep (fun e=>valE e q.by_) (tAt q.by_ (q.by_.length - 1)) q.by_.length qf.by_
theorem FoldQ.wn {q qf:Qy}(F:FoldQ q qf):qf.wh=[]↔q.wh=[]:=by
 constructor
 ·intro h
  refine Decidable.byContradiction fun q'=>?_
  have:=(F.w1 q').pos
  rw [h] at this
  exact absurd this (Nat.lt_irrefl 0)
 ·exact F.w0
section
variable {hi h:Hp}{g:Nat}{cs:List Value}{ar:Option Addr}{cr:Nat}{rd:List Nat}{aw:Option Addr}{wn cw:Nat}{ws:List Value}
end
theorem qbig_of {q:Qy}(Q:QOk q):QBig q:=by
 have w:q.wh.length≤40:=by
  by_cases h:q.wh=[]
  ·rw [h];exact Nat.zero_le _
  ·exact(exprF_ok (Q.w h)).2
 have b:q.by_.length≤40:=by
  by_cases h:q.by_=[]
  ·rw [h];exact Nat.zero_le _
  ·exact(exprF_ok (Q.b h)).2
 refine⟨by omega,by omega,fun a ha=>?_,by have:=Q.n2;omega⟩
 by_cases h:a.1=1
 ·rw [(Q.g a ha).2.2.2 h];exact Nat.zero_le _
 ·have:=(exprF_ok ((Q.g a ha).2.2.1 h)).2;omega
theorem qryF_ok {q:Qy}(B:QOk q):qryF q=0:=by
 have h1:=B.n1
 have h2:=B.n2
 have hA:firstF (q.aggs.map aggF)=0:=by
  refine firstF_zero fun x hx=>?_
  obtain⟨a,ha,rfl⟩:=List.mem_map.1 hx
  obtain⟨g1,g2,g3,g4⟩:=B.g a ha
  unfold aggF
  rw [if_neg (by
   rintro(q1|q1|⟨q1,q2⟩)
   ·omega
   ·omega
   ·exact q2 (g4 q1))]
  split
  ·rfl
  ·rename_i h;exact B.ga a ha h
 unfold qryF
 rw [if_neg (by omega),if_neg (by rw [hA];simp)]
 unfold tailF
 refine firstF_zero fun x hx=>?_
 simp only [List.mem_cons,List.not_mem_nil,or_false] at hx
 rcases hx with rfl|rfl|rfl
 ·split
  ·rfl
  ·rename_i h;exact B.wa h
 ·split
  ·rfl
  ·rename_i h;exact B.ba h
 ·have h3:=B.s
  have h4:=B.l
  have h5:=B.d
  have h6:=B.t
  have h7:=B.r
  unfold numsF
  rw [if_neg (by omega),if_neg (by omega)]
theorem growL_snocN {α β:Type}(R:List (GRow α β))(r:GRow α β):growL (R++[r])=growL R++[(r.1,r.2.2)]:=by unfold growL;rw [List.map_append];rfl
def AggF (a b:Ag):Prop:=b.1=a.1∧(a.1=1→b.2=[])∧(a.1≠1→Rep (fun e=>valE e a.2) (tAt a.2 (a.2.length - 1)) a.2.length b.2)
theorem elAggN:ElT Tryz.prog 25 86 2 32:=.of (by kernel_rfl) (by kernel_rfl) (by decide)
theorem expr_of {l:List Nd}(O:OkE l)(hl:l.length≤40):exprF l=0:=by
 have:=cutL_ok O.n hl O.b
 have hs:∀ n:Nd,shN 0 n=n:=fun n=>by unfold shN;simp
 have e:cutL l 0 l.length=l:=by
  unfold cutL seg
  rw [show (-((0:Nat):Int))=0 by decide,show shN 0=id from funext hs]
  simp
 rw [e] at this
 exact this
theorem Rep.typed {P:EvL→Int × Int}{x z:List Nd}(R:Rep P (tAt x (x.length - 1)) x.length z){k:Int}(h:typedF x k=0):typedF z k=0:=by
 have hx:=typedF_expr h
 have hz:exprF z=0:=expr_of R.ok (Nat.le_trans R.len (exprF_ok hx).2)
 unfold typedF at h ⊢
 rw [if_neg (by rw [hx];decide)] at h
 rw [if_neg (by rw [hz];decide)]
 by_cases h2:(typE x).2=0
 ·rw [if_neg (by rw [h2];decide)] at h
  have ht:=typE_some h2
  obtain⟨t',e1,e2⟩:=R.ty _ ht
  have hz2:typE z=(t',0):=by unfold typE;rw [e1]
  rw [hz2,if_neg (by simp)]
  rw [if_neg]
  rintro⟨q1,q2,q3⟩
  simp only at q2 q3
  rcases e2 with e2|e2
  ·exact q3 e2
  ·rw [if_pos ⟨q1,by rw [←e2];exact q2,by rw [←e2];exact q3⟩] at h
   cases h
 ·rw [if_pos h2] at h
  exact absurd h h2
theorem FoldQ.kinds {q qf:Qy}(F:FoldQ q qf):kindsQ qf=kindsQ q:=by
 unfold kindsQ
 apply List.ext_getElem?
 intro i
 rw [List.getElem?_map,List.getElem?_map]
 have han:=F.an
 by_cases hi:i < q.aggs.length
 ·rw [List.getElem?_eq_getElem (by omega:i < qf.aggs.length),List.getElem?_eq_getElem hi]
  have:=(F.ag i _ _ (List.getElem?_eq_getElem hi) (List.getElem?_eq_getElem (by omega))).1
  simp only [Option.map_some]
  rw [this]
 ·rw [List.getElem?_eq_none (by omega),List.getElem?_eq_none (by omega)]
theorem FoldQ.ok {q qf:Qy}(F:FoldQ q qf)(B:QOk q):QOk qf:=by
 have han:=F.an
 have at_:∀ b ∈ qf.aggs,∃ a ∈ q.aggs,b.1=a.1∧(a.1=1→b.2=[])∧(a.1≠1→Rep (fun e=>valE e a.2) (tAt a.2 (a.2.length - 1)) a.2.length b.2):=by
  intro b hb
  obtain⟨i,hi,rfl⟩:=List.mem_iff_getElem.1 hb
  exact⟨q.aggs[i]'(by omega),List.getElem_mem _,F.ag i _ _ (List.getElem?_eq_getElem (by omega)) (List.getElem?_eq_getElem hi)⟩
 have hd:∀(z:List Nd) (k:Int),typedF z k=0→exprF z=0:=fun z k h=>typedF_expr h
 refine⟨by rw [han];exact B.n1,by rw [han];exact B.n2,fun b hb=>?_,fun h=>?_,fun h=>?_,by rw [F.sz];exact B.s,by rw [F.sl];exact B.l,by rw [F.de];exact B.d,by rw [F.la];exact B.t,by rw [F.sz,F.sl];exact B.r,fun b hb h=>?_,fun h=>?_,fun h=>?_⟩
 ·obtain⟨a,ha,e1,e2,e3⟩:=at_ b hb
  obtain⟨g1,g2,g3,g4⟩:=B.g a ha
  rw [e1]
  exact⟨g1,g2,fun h=>hd _ _ ((e3 h).typed (B.ga a ha h)),fun h=>e2 h⟩
 ·have hw:q.wh≠[]:=fun e=>h (F.w0 e)
  exact hd _ _ ((F.w1 hw).typed (B.wa hw))
 ·have hw:q.by_≠[]:=fun e=>h (F.b0 e)
  exact hd _ _ ((F.b1 hw).typed (B.ba hw))
 ·obtain⟨a,ha,e1,e2,e3⟩:=at_ b hb
  rw [e1] at h ⊢
  exact(e3 h).typed (B.ga a ha h)
 ·have hw:q.wh≠[]:=fun e=>h (F.w0 e)
  exact(F.w1 hw).typed (B.wa hw)
 ·have hw:q.by_≠[]:=fun e=>h (F.b0 e)
  exact(F.b1 hw).typed (B.ba hw)
theorem FoldQ.asks {q qf:Qy}(F:FoldQ q qf){e:EvL}(E:EvOK e):asksQ qf e=asksQ q e∧keyQ qf e=keyQ q e∧valsQ qf e=valsQ q e:=by
 have hbn:qf.by_=[]↔q.by_=[]:=by
  constructor
  ·intro h
   refine Decidable.byContradiction fun q'=>?_
   have:=(F.b1 q').pos
   rw [h] at this
   simp at this
  ·exact F.b0
 refine⟨?_,?_,?_⟩
 ·unfold asksQ
  by_cases h:q.wh=[]
  ·rw [F.w0 h,h]
  ·rw [(F.w1 h).val e E,decide_eq_false h,decide_eq_false (fun x=>h (F.wn.1 x))]
 ·unfold keyQ
  by_cases h:q.by_=[]
  ·rw [if_pos h,if_pos (F.b0 h)]
  ·rw [if_neg h,if_neg (fun x=>h (hbn.1 x)),(F.b1 h).val e E]
 ·unfold valsQ
  have han:=F.an
  apply List.ext_getElem?
  intro i
  rw [List.getElem?_map,List.getElem?_map]
  by_cases hi:i < q.aggs.length
  ·rw [List.getElem?_eq_getElem (by omega:i < qf.aggs.length),List.getElem?_eq_getElem hi]
   obtain⟨e1,e2,e3⟩:=F.ag i _ _ (List.getElem?_eq_getElem hi) (List.getElem?_eq_getElem (by omega))
   simp only [Option.map_some]
   rw [e1]
   by_cases h1:(q.aggs[i]).1=1
   ·rw [if_pos h1,if_pos h1]
   ·rw [if_neg h1,if_neg h1,(e3 h1).val e E]
  ·rw [List.getElem?_eq_none (by omega),List.getElem?_eq_none (by omega)]
theorem FoldQ.lateF {q qf:Qy}(F:FoldQ q qf)(far s:Int):lateQ qf far s=lateQ q far s:=by
 unfold lateQ
 rw [F.sz,F.la,F.de]
theorem FoldQ.addF {q qf:Qy}(F:FoldQ q qf):∀(l:List EvL) (far:Int),(∀ e ∈ l,EvOK e)→addP qf far l=addP q far l∧lateP qf far l=lateP q far l
 | [],far,_=>⟨rfl,rfl⟩
 | e :: l,far,h=>by
  obtain⟨k1,k2,k3⟩:=F.asks (h e (List.mem_cons_self ..))
  have hl:∀ f,lateQ qf f=lateQ q f:=fun f=>funext fun s=>F.lateF f s
  have hE:addE qf far e=addE q far e∧lateE qf far e=lateE q far e:=by
   unfold addE lateE addS lateS
   rw [k1,k2,k3,F.sz,F.sl,hl]
   exact⟨rfl,rfl⟩
  obtain⟨i1,i2⟩:=FoldQ.addF F l (max far e.1) fun x hx=>h x (List.mem_cons_of_mem _ hx)
  unfold addP lateP
  rw [hE.1,hE.2,i1,i2]
  exact⟨rfl,rfl⟩
theorem FoldQ.ans {q qf:Qy}(F:FoldQ q qf){ps:List (List EvL)}(h:∀ p ∈ ps,∀ e ∈ p,EvOK e):ansQ qf ps=ansQ q ps∧lateA qf ps=lateA q ps:=by
 have h1:∀ p ∈ ps,addP qf (-1) p=addP q (-1) p∧lateP qf (-1) p=lateP q (-1) p:=fun p hp=>FoldQ.addF F p (-1) (h p hp)
 have e1:addA qf ps=addA q ps:=by
  unfold addA
  induction ps with
  | nil=>rfl
  | cons p ps ih=>
   rw [List.flatMap_cons,List.flatMap_cons,(h1 p (List.mem_cons_self ..)).1,ih (fun p hp=>h p (List.mem_cons_of_mem _ hp)) fun p hp=>h1 p (List.mem_cons_of_mem _ hp)]
 have e2:ps.map (lateP qf (-1))=ps.map (lateP q (-1)):=List.map_congr_left fun p hp=>(h1 p hp).2
 refine⟨?_,?_⟩
 ·unfold ansQ ansA
  rw [e1,F.kinds]
 ·unfold lateA
  rw [e2]
open Go.Txt
theorem store_new {h:Hp}{b:Nat}{xs ys:List Value}{t:TypeId}(hl:ys.length=xs.length){K:Hp→Prop}(hK:K (h.set b (cellsO ys t))):Hp.store (h.set b (cellsO xs t)) b 0 ys K:=by
 refine⟨xs.toArray,t,Hp.set_same _ _ _,by simp [hl],?_⟩
 rw [Hp.set_set]
 have e:setL xs.toArray.toList 0 ys=ys:=by
  unfold setL
  rw [List.take_zero,List.nil_append,List.toList_toArray,Nat.zero_add,List.drop_of_length_le (by omega),List.append_nil]
 rw [e]
 exact hK
theorem cell_new {h:Hp}{b i:Nat}{xs:List Value}{t:TypeId}{v:Value}(hv:xs[i]?=some v):Hp.cell (h.set b (cellsO xs t)) b i=some v:=by
 unfold Hp.cell
 rw [Hp.set_same]
 simpa using hv
theorem cell_le {h h':Hp}(l:h.le h'){b i:Nat}{v:Value}(hc:h.cell b i=some v):h'.cell b i=some v:=by
 unfold Hp.cell at hc ⊢
 cases hb:h b with
 | none=>rw [hb] at hc;cases hc
 | some o=>rw [l b o hb];rw [hb] at hc;exact hc
def pkRw (k:PK)(v:Value):List Value:=[vi k.1,vi k.2.1,vi k.2.2,v]
theorem pkRw_len (k:PK)(v:Value):(pkRw k v).length=4:=rfl
theorem elOut:ElT Tryz.prog 54 72 4 48:=.of (by kernel_rfl) (by kernel_rfl) (by decide)
set_option maxHeartbeats 4000000 in
theorem batch_Answer_ok {q:Qy}{a1:Option Addr}{n1 c1:Nat}{a2:Option Addr}{n2 c2:Nat}{a3:Option Addr}{n3 c3:Nat}{h:Hp}{R':Value→Hp→Prop}{ps:List (List EvL)}{pa:Option Addr}{pn pc:Nat}(Q:QAt h q a1 n1 a2 n2 a3 n3)(B:QOk q)(T:TabC encE h pa pn ps)
  (hp:ps.length≤5) (hl:∀ p ∈ ps,p.length≤100) (hE:∀ p ∈ ps,∀ e ∈ p,EvOK e)
  (hK:∀ a c h',h.le h'→GTab encV pkRw h' a (ansQ q ps).length (ansQ q ps)→R' (vtup [vsl a (ansQ q ps).length c,vi (lateA q ps:Nat)]) h'):CallOK Tryz.prog 35 [qV a1 n1 c1 a2 n2 c2 a3 n3 c3 q,vsl pa pn pc] h R':=by
 refine ok_batch_Answer ?_
 unfold VC_batch_Answer
 have hpn:pn=ps.length:=T.r.choose_spec.2.1
 have s1:=B.s
 have s2:=B.l
 have s3:=B.n2
 refine⟨fun vs hh=>∃(i:Nat) (a:Option Addr) (c:Nat) (R:List PR),vs=[vsl a R.length c,vi (lateA q (ps.take i):Nat),vi i]∧i≤ps.length∧Pans h hh a c R∧StA (kindsQ q) (addA q (ps.take i)) R,fun vs hh=>ps.length - (vint vs 2).toNat,⟨0,none,0,[],rfl,Nat.zero_le _,Pans.nil (Hp.le_refl h),StA.nil⟩,?_⟩
 rintro vs hh ⟨i,a,c,R,rfl,hi,N,S⟩
 refine⟨a,R.length,c,_,_,rfl,fun e=>?_,fun e=>?_⟩
 ·have hlt:i < ps.length:=by have:=of_decide_eq_true e;omega
  have hx:ps[i]?=some ps[i]:=List.getElem?_eq_getElem hlt
  have tk:ps.take (i+1)=ps.take i++[ps[i]]:=List.take_succ_eq_append_getElem hlt
  have hmem:ps[i] ∈ ps:=List.getElem_mem hlt
  have hEp:=hE _ hmem
  have hlp:=hl _ hmem
  have hAi:=addA_ok B (ps:=ps.take i) fun p hp'=>hE p (List.mem_of_mem_take hp')
  have hmi:=addA_many B (ps.take i) fun p hp'=>hl p (List.mem_of_mem_take hp')
  have hti:(ps.take i).length=i:=by rw [List.length_take];omega
  generalize ps[i]=part at *
  obtain⟨b,o,a',c',ea,hc,SP,hcap⟩:=T.cell hx
  refine⟨b,o,⟨ea,by omega,by omega⟩,a',part.length,c',by rw [Int.toNat_natCast];exact cell_le N.le0 hc,?_⟩
  clear e
  refine⟨fun vs hh=>∃(j:Nat) (a:Option Addr) (c:Nat) (R:List PR),vs=[vsl a R.length c,vi (lateA q (ps.take i)+lateP q (-1) (part.take j):Nat),vi j]∧j≤part.length∧Pans h hh a c R∧StA (kindsQ q) (addA q (ps.take i)++addP q (-1) (part.take j)) R,fun vs hh=>part.length - (vint vs 2).toNat,⟨0,a,c,R,by simp [lateP],Nat.zero_le _,N,by simpa [addP] using S⟩,?_⟩
  rintro vs hh2 ⟨j,a,c,R,rfl,hj,N,S⟩
  refine⟨a,R.length,c,_,_,rfl,fun e=>?_,fun e=>?_⟩
  ·have hltj:j < part.length:=by have:=of_decide_eq_true e;omega
   have hxj:part[j]?=some part[j]:=List.getElem?_eq_getElem hltj
   have tkj:part.take (j+1)=part.take j++[part[j]]:=List.take_succ_eq_append_getElem hltj
   have hEv:=hEp _ (List.getElem_mem hltj)
   have hAj:=addP_ok B (part.take j) (-1) fun e he=>hEp e (List.mem_of_mem_take he)
   have hmj:=addP_many B (part.take j) (-1)
   have htj:(part.take j).length=j:=by rw [List.length_take];omega
   have hAA:∀ x ∈ addA q (ps.take i)++addP q (-1) (part.take j),AdOK q x:=by
    intro x hx
    rcases List.mem_append.1 hx with h1|h1
    ·exact hAi x h1
    ·exact hAj x h1
   have hAn:(addA q (ps.take i)++addP q (-1) (part.take j)).length≤499000∧lateA q (ps.take i)+lateP q (-1) (part.take j)≤499000:=by
    rw [List.length_append]
    omega
   generalize part[j]=ev at *
   intro J173
   have hJ:∀(a:Option Addr) (c:Nat) (R:List PR) (hh':Hp),Pans h hh' a c R→StA (kindsQ q) ((addA q (ps.take i)++addP q (-1) (part.take j))++addE q (farL (part.take j)) ev) R→J173 a R.length c ((lateA q (ps.take i)+lateP q (-1) (part.take j)+lateE q (farL (part.take j)) ev:Nat):Int) hh':=by
    intro a c R hh' N S
    refine⟨_,isW (by unfold InR;omega),⟨j+1,a,c,R,?_,by omega,N,?_⟩,by simp [vint];omega⟩
    ·rw [tkj,lateP_snoc,←Nat.add_assoc];rfl
    ·rw [tkj,addP_snoc,←List.append_assoc];exact S
   clear_value J173
   have hAi2:=hAn
   generalize addA q (ps.take i)++addP q (-1) (part.take j)=Aj at *
   generalize lateA q (ps.take i)+lateP q (-1) (part.take j)=cj at *
   obtain⟨b2,o2,ea2,hr2⟩:=(SP.le N.le0).get (sz:=7) (fun _=>rfl) (by decide) hxj
   refine⟨b2,o2,⟨ea2,by omega,by omega⟩,_,_,_,_,_,_,_,by rw [Int.toNat_natCast];exact hr2,?_⟩
   refine batch_is_ok (e:=ev) (Q.le N.le0) B fun h34 l34=>⟨_,rfl,fun e1=>?_,fun e1=>?_⟩
   ·have e1:asksQ q ev=false:=by simpa using e1
    have:=hJ a c R h34 (N.le l34) (by unfold addE;rw [e1];simpa using S)
    have e2:lateE q (farL (part.take j)) ev=0:=by unfold lateE;rw [e1];rfl
    rw [e2,Nat.add_zero] at this
    exact this
   ·have e1:asksQ q ev=true:=by simpa using e1
    have eA:addE q (farL (part.take j)) ev=addS q (farL (part.take j)) ev (startsOf ev.1 q.size q.slide):=by unfold addE;rw [if_pos e1]
    have eL:lateE q (farL (part.take j)) ev=lateS q (farL (part.take j)) (startsOf ev.1 q.size q.slide):=by unfold lateE;rw [if_pos e1]
    rw [eA,eL] at hJ
    have ht:=hEv.t
    have hsb:=starts_ok B hEv
    have hsn:=starts_many B (e:=ev)
    refine window_StartsN_ok (by omega) (by omega) (by omega) (by omega) (by omega) (by omega) fun a40 n40 c40 h39 l39 SS hnew=>⟨_,_,_,rfl,?_⟩
    generalize startsOf ev.1 q.size q.slide=ss at *
    have N34:=N.le l34
    obtain⟨hx0,lx,hrow,Nx⟩:=N34.rebase l39 (g:=a40) (fun b o eb=>hnew b o eb)
    have SSx:SlI hx0 a40 n40 ss:=⟨SS.1,hrow SS.2⟩
    have hn40:=SS.1
    refine⟨fun vs hh=>∃(k:Nat) (a:Option Addr) (c:Nat) (R:List PR),vs=[vsl a R.length c,vi (cj+lateS q (farL (part.take j)) (ss.take k):Nat),vi k]∧k≤ss.length∧Pans hx0 hh a c R∧StA (kindsQ q) (Aj++addS q (farL (part.take j)) ev (ss.take k)) R,fun vs hh=>ss.length - (vint vs 2).toNat,⟨0,a,c,R,by simp [lateS],Nat.zero_le _,Nx,by simpa [addS] using S⟩,?_⟩
    clear N34 Nx N S hrow
    rintro vs hh3 ⟨k,a,c,R,rfl,hk,N,S⟩
    refine⟨a,R.length,c,_,_,rfl,fun e=>?_,fun e=>?_⟩
    ·have hltk:k < ss.length:=by have:=of_decide_eq_true e;omega
     have hxk:ss[k]?=some ss[k]:=List.getElem?_eq_getElem hltk
     have tkk:ss.take (k+1)=ss.take k++[ss[k]]:=List.take_succ_eq_append_getElem hltk
     have hsk:=hsb _ (List.getElem_mem hltk)
     have hgd:ss.getD k 0=ss[k]:=by rw [List.getD_eq_getElem?_getD,hxk];rfl
     have hSk:=addS_ok B hEv (far:=farL (part.take j)) (ss:=ss.take k) fun s hs=>hsb s (List.mem_of_mem_take hs)
     have hSm:=addS_many (q:=q) (far:=farL (part.take j)) (e:=ev) (ss:=ss.take k)
     have hSl:=lateS_many (q:=q) (far:=farL (part.take j)) (ss:=ss.take k)
     have htk:(ss.take k).length=k:=by rw [List.length_take];omega
     obtain⟨b51,o51,e51,c51⟩:=SSx.get (i:=k) (by omega)
     rw [hgd] at c51
     generalize ss[k]=sk at *
     have hAk:∀ x ∈ Aj++addS q (farL (part.take j)) ev (ss.take k),AdOK q x:=by
      intro x hx
      rcases List.mem_append.1 hx with h1|h1
      ·exact hAA x h1
      ·exact hSk x h1
     have hAkn:(Aj++addS q (farL (part.take j)) ev (ss.take k)).length≤500000:=by rw [List.length_append];omega
     intro J163
     have hJ2:∀(a:Option Addr) (c:Nat) (R:List PR) (hh':Hp) (x:Int),Pans hx0 hh' a c R→StA (kindsQ q) ((Aj++addS q (farL (part.take j)) ev (ss.take k))++if lateQ q (farL (part.take j)) sk then [] else [((sk,keyQ q ev),valsQ q ev)]) R→x=((cj+lateS q (farL (part.take j)) (ss.take k)+if lateQ q (farL (part.take j)) sk then 1 else 0:Nat):Int)→J163 a R.length c x hh':=by
      intro a c R hh' x N S hx
      refine⟨_,isW (by unfold InR;omega),⟨k+1,a,c,R,?_,by omega,N,?_⟩,by simp [vint];omega⟩
      ·rw [tkk,lateS_snoc,hx,←Nat.add_assoc];rfl
      ·rw [tkk,addS_snoc,←List.append_assoc];exact S
     clear_value J163
     refine⟨b51,o51,⟨e51,by omega,by omega⟩,sk,by rw [Int.toNat_natCast];exact cell_le N.le0 c51,?_⟩
     intro b54 hb54 h55
     show Hp.store (Hp.set hh3 b54 (cellsO [vi 0] 3)) b54 0 [vi sk] _
     refine store_new (xs:=[vi 0]) (by rfl) ?_
     refine⟨sk,cell_new rfl,?_⟩
     have l56:hh3.le (hh3.set b54 (cellsO [vi sk] 3)):=Hp.le_set (Hp.le_refl _) hb54 _
     have c56:Hp.cell (hh3.set b54 (cellsO [vi sk] 3)) b54 0=some (vi sk):=cell_new rfl
     generalize hh3.set b54 (cellsO [vi sk] 3)=h56 at l56 c56
     have N56:=N.le l56
     have lh56:=Hp.le_trans lx N56.le0
     refine batch_late_ok (i:=j) (SP.le lh56) (by omega) hcap (by omega) (fun e he=>(hEp e he).t) (by omega) B ⟨_,rfl,fun e2=>?_,fun e2=>?_⟩
     ·refine⟨_,isW (by unfold InR;omega),hJ2 a c R h56 _ N56 (by rw [if_pos e2,List.append_nil];exact S) ?_⟩
      rw [if_pos e2]
      push_cast
      rfl
     ·have hnl:¬ lateQ q (farL (part.take j)) sk=true:=by rw [e2];decide
      simp only [if_neg hnl,Nat.add_zero] at hJ2
      refine batch_key_ok (e:=ev) (Q.le lh56) B fun h65 l65=>⟨_,_,rfl,?_⟩
      intro b68 hb68 h69
      show Hp.store (Hp.set h65 b68 (cellsO [vi 0,vi 0] 41)) b68 0 [vi (keyQ q ev).1,vi (keyQ q ev).2] _
      refine store_new (xs:=[vi 0,vi 0]) (by rfl) ?_
      have l70:h65.le (h65.set b68 (cellsO [vi (keyQ q ev).1,vi (keyQ q ev).2] 41)):=Hp.le_set (Hp.le_refl _) hb68 _
      have r70:Hp.row (h65.set b68 (cellsO [vi (keyQ q ev).1,vi (keyQ q ev).2] 41)) b68 0 2=some (encV (keyQ q ev)):=row_cells' (Hp.set_same _ _ _) (by simp)
      generalize h65.set b68 (cellsO [vi (keyQ q ev).1,vi (keyQ q ev).2] 41)=h70 at l70 r70
      have l5670:=Hp.le_trans l65 l70
      have N70:=N56.le l5670
      have c70:=cell_le l5670 c56
      have hRl:=S.len
      have hRk:=keysU_many (Aj++addS q (farL (part.take j)) ev (ss.take k))
      -- behind the pane's being there
      have hJ3:∀(J146:Option Addr→Nat→Nat→Int→Hp→Prop),(∀(a150:Option Addr) (n150 c150:Nat) (x151:Int) (h152:Hp),J146 a150 n150 c150 x151 h152=(∃(b153 o154:Nat),(a150=some ⟨b153,o154,none⟩∧(0:Int)≤x151∧x151 < ((n150:Nat):Int))∧(∃(a155:Option Addr) (n155 c155:Nat),(Hp.cell h152 b153 ((o154+x151.toNat*5)+3)=some (vsl a155 n155 c155))∧(CallOK Tryz.prog 76 [(vsl a155 n155 c155),qV a1 n1 c1 a2 n2 c2 a3 n3 c3 q,vag (encE ev)] h152 fun v156 h157=>∃(a158:Option Addr) (n158 c158:Nat),v156=(vsl a158 n158 c158)∧(∃(b159 o160:Nat),(a150=some ⟨b159,o160,none⟩∧(0:Int)≤x151∧x151 < ((n150:Nat):Int))∧(Hp.store h157 b159 ((o160+x151.toNat*5)+3) [(vsl a158 n158 c158)] fun h161=>(J163 a150 n150 c150 ((cj+lateS q (farL (part.take j)) (ss.take k):Nat):Int) h161))))))) →
        ∀(a:Option Addr) (c:Nat) (R:List PR) (m:Nat) (r:PR) (hh':Hp),Pans hx0 hh' a c R→R[m]?=some r→r.acs.map (·.1)=kindsQ q→(∀ x ∈ r.acs,AcB x)→StA (kindsQ q) ((Aj++addS q (farL (part.take j)) ev (ss.take k))++[((sk,keyQ q ev),valsQ q ev)]) (R.set m { r with acs:=accP r.acs (valsQ q ev) })→J146 a R.length c (m:Int) hh':=by
       intro J146 hdef a c R m r hh' N hr hkd hbd S'
       rw [hdef]
       obtain⟨hm,_⟩:=List.getElem?_eq_some_iff.1 hr
       obtain⟨b,o,ea,hrw⟩:=N.row hr
       obtain⟨V,H⟩:=N.inner hr
       have hcl:=Hp.row_cell hrw (i:=3) (x:=vsl r.a r.acs.length r.c) rfl
       refine⟨b,o,⟨ea,by omega,by omega⟩,r.a,r.acs.length,r.c,by rw [Int.toNat_natCast];exact hcl,?_⟩
       refine batch_add_ok (e:=ev) (Q.le lx) B hEv V hkd hbd fun h157 V' F'=>⟨_,_,_,rfl,?_⟩
       have hlen:(valsQ q ev).length=r.acs.length:=by
        have:=congrArg List.length hkd
        rw [List.length_map,kindsQ_len] at this
        unfold valsQ
        rw [List.length_map,this]
       have hpl:=accP_len hlen
       have N':=H h157 _ V'.le0 V' hpl F'
       have hr':(R.set m { r with acs:=accP r.acs (valsQ q ev) })[m]?=some { r with acs:=accP r.acs (valsQ q ev) }:=by rw [List.getElem?_set,if_pos rfl,if_pos hm]
       obtain⟨b',o',ea',HS⟩:=N'.again hr'
       refine⟨b',o',⟨ea',by omega,by omega⟩,?_⟩
       rw [Int.toNat_natCast]
       simp only [hpl] at HS
       refine HS _ fun h161 N161 l161=>?_
       have:=hJ2 a c _ h161 _ N161 S' rfl
       rw [List.length_set] at this
       exact this
      refine pane_IndexFunc_ok N70 (by omega) (K:=(sk,keyQ q ev)) c70 r70 (fun m r hr hkr=>⟨_,rfl,?_⟩) (fun hno=>⟨_,rfl,?_⟩)
      ·intro J146
       have hdef:∀(a150:Option Addr) (n150 c150:Nat) (x151:Int) (h152:Hp),J146 a150 n150 c150 x151 h152=_:=fun _ _ _ _ _=>rfl
       have hJ4:=hJ3 J146 (fun _ _ _ _ _=>rfl)
       clear hdef
       clear_value J146
       refine⟨fun e3=>absurd (of_decide_eq_true e3) (by omega),fun _=>?_⟩
       obtain⟨f1,f2,_⟩:=S.facts hAk (by omega) hr
       refine hJ4 a c R m r h70 N70 hr f1 f2 ?_
       have:=S.put hr (valsQ q ev)
       rw [←hkr]
       exact this
      ·intro J146
       have hJ4:=hJ3 J146 (fun _ _ _ _ _=>rfl)
       clear_value J146
       refine⟨fun _=>?_,fun e3=>absurd (of_decide_eq_false e3) (by omega)⟩
       refine⟨sk,c70,_,_,r70,?_⟩
       intro J107
       have hkn:(sk,keyQ q ev) ∉ keysU (Aj++addS q (farL (part.take j)) ev (ss.take k)):=by
        rw [←S.keys]
        intro hm
        obtain⟨r,hr,e4⟩:=List.mem_map.1 hm
        exact hno r hr e4
       have hJ5:∀(a86:Option Addr) (c86:Nat) (h81:Hp),VecA h70 h81 a86 c86 (acc0 (kindsQ q))→J107 sk (keyQ q ev).1 (keyQ q ev).2 a86 (acc0 (kindsQ q)).length c86 false h81:=by
        intro a86 c86 h81 V b139 hb139 h140
        refine N70.app V.le0 (r:=⟨(sk,keyQ q ev),a86,c86,acc0 (kindsQ q),false⟩) V (by omega) hb139 fun a' c' h' N'=>⟨_,_,_,rfl,?_⟩
        have hr:(R++[(⟨(sk,keyQ q ev),a86,c86,acc0 (kindsQ q),false⟩:PR)])[R.length]?=some ⟨(sk,keyQ q ev),a86,c86,acc0 (kindsQ q),false⟩:=by simp
        obtain⟨g1,g2⟩:=acc0_small q
        have:=hJ4 a' c' _ R.length _ h' N' hr g1 g2 (by
         rw [List.set_append_right _ _ (Nat.le_refl _),Nat.sub_self]
         exact S.new hkn (valsQ q ev) a86 c86)
        rw [List.length_append,List.length_singleton] at this
        exact this
       clear_value J107
       have hna:=Q.g.len
       refine⟨fun vs hh=>∃(m:Nat) (a:Option Addr) (c:Nat),vs=[vi m,vi sk,vi (keyQ q ev).1,vi (keyQ q ev).2,vsl a (acc0 ((kindsQ q).take m)).length c,vb false]∧m≤n1∧VecA h70 hh a c (acc0 ((kindsQ q).take m)),fun vs hh=>n1 - (vint vs 0).toNat,⟨0,none,0,rfl,Nat.zero_le _,OwnV.nil (Hp.le_refl _) _ _⟩,?_⟩
       rintro vs hh4 ⟨m,a86,c86,rfl,hm,V⟩
       refine⟨_,_,_,_,a86,_,c86,false,rfl,fun e5=>?_,fun e5=>?_⟩
       ·have hltm:m < n1:=by have:=of_decide_eq_true e5;omega
        have hxm:q.aggs[m]?=some q.aggs[m]:=List.getElem?_eq_getElem (by omega)
        have hkl:=kindsQ_len q
        have tkm:(kindsQ q).take (m+1)=(kindsQ q).take m++[(q.aggs[m]'(by omega)).1]:=by
         rw [List.take_succ_eq_append_getElem (by omega)]
         congr 2
         unfold kindsQ
         rw [List.getElem_map]
        have hal:(acc0 ((kindsQ q).take m)).length=m:=by unfold acc0;rw [List.length_map,List.length_take];omega
        obtain⟨b,o,a',c',ha,hrow,hS⟩:=(Q.g.le (Hp.le_trans lx (Hp.le_trans N70.le0 V.le0))).row aggRw_len (by decide) hxm
        refine⟨b,o,⟨ha,by omega,by omega⟩,(q.aggs[m]'(by omega)).1,a',(q.aggs[m]'(by omega)).2.length,c',by rw [Int.toNat_natCast];exact hrow,gather_New_ok ⟨_,_,_,_,rfl,?_⟩⟩
        intro b100 hb100 h101
        refine Vec.app elAcc encAc_len one_ac V (by rw [hal];omega) (by rw [hal];omega) (x:=((q.aggs[m]'(by omega)).1,(0,0,0))) hb100 fun a' c' h' V'=>⟨_,_,_,rfl,_,isW (by unfold InR;omega),⟨m+1,a',c',?_,by omega,?_⟩,by simp [vint];omega⟩
        ·rw [tkm];unfold acc0;rw [List.map_append];rfl
        ·rw [tkm];unfold acc0 at V' ⊢;rw [List.map_append];exact V'
       ·have hge:m=n1:=by have:=of_decide_eq_false e5;omega
        rw [List.take_of_length_le (by rw [kindsQ_len];omega)] at V ⊢
        exact hJ5 a86 c86 hh4 V
    ·have hge:k=ss.length:=by have:=of_decide_eq_false e;omega
     rw [hge,List.take_length] at S ⊢
     exact hJ a c R hh3 (N.base lx) S
  ·have hge:j=part.length:=by have:=of_decide_eq_false e;omega
   rw [hge,List.take_length] at S ⊢
   refine⟨_,isW (by unfold InR;omega),⟨i+1,a,c,R,?_,by omega,N,?_⟩,by simp [vint];omega⟩
   ·rw [tk,lateA_snoc];rfl
   ·rw [tk,addA_snoc];exact S
 ·have hge:i=ps.length:=by have:=of_decide_eq_false e;omega
  rw [hge,List.take_length] at S ⊢
  have hA:=addA_ok B hE
  have hm:=addA_many B ps hl
  have hRl:=S.len
  have hRk:=keysU_many (addA q ps)
  refine N.sort S (fun r hr=>?_) (by omega) fun R2 h185 N2 hl2 hR2=>⟨rfl,?_⟩
  ·obtain⟨m,hr⟩:=List.getElem?_of_mem hr
   have:=S.facts hA (by omega) hr
   omega
  have hans:R2.map (fun r=>(r.k,r.acs.map gOut))=ansQ q ps:=by
   have:=congrArg (List.map fun x:PK × List AcS=>(x.1,x.2.map gOut)) hR2
   rw [List.map_map,List.map_map] at this
   exact this
  refine⟨fun vs hh=>∃(m:Nat) (a:Option Addr) (c:Nat),vs=[vsl a ((ansQ q ps).take m).length c,vi m]∧m≤R.length∧GTabB encV pkRw 4 72 (fun _=>False) h185 hh a c ((ansQ q ps).take m),fun vs hh=>R.length - (vint vs 1).toNat,⟨0,none,0,rfl,Nat.zero_le _,GTabB.nil (Hp.le_refl _)⟩,?_⟩
  rintro vs hh5 ⟨m,a5,c5,rfl,hm5,G⟩
  have hal:(ansQ q ps).length=R.length:=by rw [←hans,List.length_map,hl2]
  refine⟨a5,_,c5,_,rfl,fun e=>?_,fun e=>?_⟩
  ·have hltm:m < R.length:=by have:=of_decide_eq_true e;omega
   have hxm:R2[m]?=some R2[m]:=List.getElem?_eq_getElem (by omega)
   have hxa:(ansQ q ps)[m]?=some ((R2[m]'(by omega)).k,(R2[m]'(by omega)).acs.map gOut):=by rw [←hans,List.getElem?_map,hxm];rfl
   have tkm:(ansQ q ps).take (m+1)=(ansQ q ps).take m++[((R2[m]'(by omega)).k,(R2[m]'(by omega)).acs.map gOut)]:=by
    rw [List.take_add_one,hxa];rfl
   have htm:((ansQ q ps).take m).length=m:=by rw [List.length_take];omega
   have N5:=N2.le G.le0
   obtain⟨b,o,ea,hrw⟩:=N5.row hxm
   obtain⟨V,_⟩:=N5.inner hxm
   have hacs:(R2[m]'(by omega)).acs.length≤1000:=by
    have h1:(R2.map fun r=>(r.k,r.acs))[m]?=some ((R2[m]'(by omega)).k,(R2[m]'(by omega)).acs):=by rw [List.getElem?_map,hxm];rfl
    rw [hR2,List.getElem?_map] at h1
    cases hkk:(keysS (addA q ps))[m]? with
    | none=>rw [hkk] at h1;cases h1
    | some kk=>
     rw [hkk] at h1
     simp only [Option.map_some,Option.some.injEq,Prod.mk.injEq] at h1
     have:=congrArg List.length (accsOf_kinds (rowsOf_ok hA kk).1)
     rw [List.length_map,h1.2,kindsQ_len] at this
     omega
   refine⟨b,o,⟨ea,by omega,by omega⟩,_,_,_,_,_,_,_,by rw [Int.toNat_natCast];exact hrw,?_⟩
   refine pane_Out_ok (r:=R2[m]'(by omega)) (V.slp encAc_len (by decide)) hacs fun a2' c2' h203 V2=>⟨_,_,_,_,_,_,rfl,?_⟩
   intro b208 hb208 h209
   refine GTabB.app elOut G (hB:=hh5) (h1:=h203) V2.le0 (fun _ hf=>hf.elim) (fun g hg=>G.al hg) (x:=(R2[m]'(by omega)).k) (a2:=a2') (c2:=c2') (l:=(R2[m]'(by omega)).acs.map gOut) (OwnV.row V2) (fun b o eb=>V2.new b (by rw [eb,OwnS.at0 (OwnV.own V2) b o eb])) ?_ rfl (fun _ hf=>hf.elim) (by rw [htm];omega) (by rw [htm];omega) hb208 fun a' c' h' G' _=>⟨_,_,_,rfl,_,isW (by unfold InR;omega),⟨m+1,a',c',?_,by omega,?_⟩,by simp [vint];omega⟩
   ·intro u hu
    simp only [pkRw,List.mem_cons,List.not_mem_nil,or_false] at hu
    rcases hu with rfl|rfl|rfl|rfl<;>rfl
   ·rw [tkm,List.length_append,List.length_singleton];rfl
   ·rw [tkm];exact G'
  ·have hge5:m=R.length:=by have:=of_decide_eq_false e;omega
   rw [List.take_of_length_le (by omega)] at G ⊢
   exact hK a5 c5 hh5 (Hp.le_trans N2.le0 G.le0) G.tab
end Go.Proofs.YtiflgceoamkmnaaGreatDoor
namespace Go.Proofs.YtiflgceoamkmnaaGreatDoor
open Go Go.Vc
def VC_R_SameValues (u0:Option Addr)(u1 u2:Nat)(u3:Option Addr)(u4 u5:Nat)(h:Hp)(R:Value→Hp→Prop):Prop:=
 (((decide ((u1:Int)≠(u4:Int)))=true→R (vb false) h)∧((decide ((u1:Int)≠(u4:Int)))=false→(∃(I3:List Value→Hp→Prop) (m4:List Value→Hp→Nat),I3 [vi 0] h∧∀ vs5 h6,I3 vs5 h6→∃ x7,vs5=[vi x7]∧(((decide (x7 < (u1:Int)))=true→(∃ b10 o11,(u0=some ⟨b10,o11,none⟩∧(0:Int)≤x7∧x7 < (u1:Int))∧(∃ x12 x13,(Hp.row h6 b10 (o11+x7.toNat*2) 2=some [vi x12,vi x13])∧(∃ b14 o15,(u3=some ⟨b14,o15,none⟩∧(0:Int)≤x7∧x7 < (u4:Int))∧(∃ x16 x17,(Hp.row h6 b14 (o15+x7.toNat*2) 2=some [vi x16,vi x17])∧(∃ p18,(Rd Tryz.prog ((eqGuard .neq 41 (.tmp 20) (.tmp 24) (vag [vi x12,vi x13]) (vag [vi x16,vi x17]) >>= fun _=>binOp .neq 41 (vag [vi x12,vi x13]) (vag [vi x16,vi x17]))) h6 (vb p18))∧((p18=true→R (vb false) h6)∧(p18=false→(∃ x20,(IsW x20 (x7+1))∧(I3 [vi x20] h6∧m4 [vi x20] h6 < m4 vs5 h6))))))))))∧((decide (x7 < (u1:Int)))=false→R (vb true) h6)))))
theorem ok_R_SameValues {u0 u1 u2 u3 u4 u5 h R}(H:VC_R_SameValues u0 u1 u2 u3 u4 u5 h R):CallOK Tryz.prog 58 [vsl u0 u1 u2,vsl u3 u4 u5] h R:=
 call_of (cfg:=⟨[],[(4,([5],[.one (.int .i64)],[]))],[(6,[0,1,2,3,4,5,6,7,8])]⟩) noNG mixed Tryz.func58 [.one (.v (vsl u0 u1 u2)),.one (.v (vsl u3 u4 u5))] (by kernel_rfl) rfl (by kernel_rfl) H
def VC_R_SamePane (u0:Int)(u1:Int)(u2:Int)(u3:Option Addr)(u4 u5:Nat)(u6:Int)(u7:Int)(u8:Int)(u9:Option Addr)(u10 u11:Nat)(h:Hp)(R:Value→Hp→Prop):Prop:=
 (CallOK Tryz.prog 58 [vsl u3 u4 u5,vsl u9 u10 u11] h fun v1 h2=>∃ p3,v1=(vb p3)∧(∃ p4,((decide (u0=u6))=true→Rd Tryz.prog ((eqGuard .eql 41 (.tmp 18) (.tmp 20) (vag [vi u1,vi u2]) (vag [vi u7,vi u8]) >>= fun _=>binOp .eql 41 (vag [vi u1,vi u2]) (vag [vi u7,vi u8]))) h2 (vb p4))∧R (vb (bif (bif (decide (u0=u6)) then p4 else false) then p3 else false)) h2))
theorem ok_R_SamePane {u0 u1 u2 u3 u4 u5 u6 u7 u8 u9 u10 u11 h R}(H:VC_R_SamePane u0 u1 u2 u3 u4 u5 u6 u7 u8 u9 u10 u11 h R):CallOK Tryz.prog 63 [vag [vi u0,vi u1,vi u2,vsl u3 u4 u5],vag [vi u6,vi u7,vi u8,vsl u9 u10 u11]] h R:=
 call_of (cfg:=⟨[],[],[]⟩) noNG mixed Tryz.func63 [.ag [.v (vi u0),.v (vi u1),.v (vi u2),.v (vsl u3 u4 u5)],.ag [.v (vi u6),.v (vi u7),.v (vi u8),.v (vsl u9 u10 u11)]] (by kernel_rfl) rfl (by kernel_rfl) H
def VC_R_SamePanes (u0:Option Addr)(u1 u2:Nat)(u3:Option Addr)(u4 u5:Nat)(h:Hp)(R:Value→Hp→Prop):Prop:=
 (((decide ((u1:Int)≠(u4:Int)))=true→R (vb false) h)∧((decide ((u1:Int)≠(u4:Int)))=false→(∃(I3:List Value→Hp→Prop) (m4:List Value→Hp→Nat),I3 [vi 0] h∧∀ vs5 h6,I3 vs5 h6→∃ x7,vs5=[vi x7]∧(((decide (x7 < (u1:Int)))=true→(∃ b10 o11,(u0=some ⟨b10,o11,none⟩∧(0:Int)≤x7∧x7 < (u1:Int))∧(∃ x12 x13 x14 a15 n15 c15,(Hp.row h6 b10 (o11+x7.toNat*4) 4=some [vi x12,vi x13,vi x14,vsl a15 n15 c15])∧(∃ b16 o17,(u3=some ⟨b16,o17,none⟩∧(0:Int)≤x7∧x7 < (u4:Int))∧(∃ x18 x19 x20 a21 n21 c21,(Hp.row h6 b16 (o17+x7.toNat*4) 4=some [vi x18,vi x19,vi x20,vsl a21 n21 c21])∧(CallOK Tryz.prog 63 [vag [vi x12,vi x13,vi x14,vsl a15 n15 c15],vag [vi x18,vi x19,vi x20,vsl a21 n21 c21]] h6 fun v22 h23=>∃ p24,v22=(vb p24)∧(((!p24)=true→R (vb false) h23)∧((!p24)=false→(∃ x26,(IsW x26 (x7+1))∧(I3 [vi x26] h23∧m4 [vi x26] h23 < m4 vs5 h6))))))))))∧((decide (x7 < (u1:Int)))=false→R (vb true) h6)))))
theorem ok_R_SamePanes {u0 u1 u2 u3 u4 u5 h R}(H:VC_R_SamePanes u0 u1 u2 u3 u4 u5 h R):CallOK Tryz.prog 36 [vsl u0 u1 u2,vsl u3 u4 u5] h R:=
 call_of (cfg:=⟨[],[(4,([5],[.one (.int .i64)],[]))],[(6,[0,1,2,3,4,5,6,7,8,9])]⟩) noNG mixed Tryz.func36 [.one (.v (vsl u0 u1 u2)),.one (.v (vsl u3 u4 u5))] (by kernel_rfl) rfl (by kernel_rfl) H
section
variable {h:Hp}{R':Value→Hp→Prop}
theorem R_SameValues_ok {l:List Vl}{a b:Option Addr}{c d:Nat}(S:SlP encV h a l.length l)(S2:SlP encV h b l.length l)(hn:l.length≤1000000)(hK:R' (vb true) h):CallOK Tryz.prog 58 [vsl a l.length c,vsl b l.length d] h R':=by
 refine ok_R_SameValues ?_
 unfold VC_R_SameValues
 refine⟨fun e=>absurd rfl (of_decide_eq_true e),fun _=>?_⟩
 refine⟨fun vs hh=>hh=h∧∃ i:Nat,vs=[vi i]∧i≤l.length,fun vs hh=>l.length - (vint vs 0).toNat,⟨rfl,0,rfl,Nat.zero_le _⟩,?_⟩
 rintro vs hh ⟨rfl,i,rfl,hi⟩
 refine⟨i,rfl,fun e=>?_,fun _=>hK⟩
 have hlt:i < l.length:=by have:=of_decide_eq_true e;omega
 have hx:l[i]?=some l[i]:=List.getElem?_eq_getElem hlt
 obtain⟨b1,o1,e1,r1⟩:=S.get (sz:=2) (fun _=>rfl) (by decide) hx
 obtain⟨b2,o2,e2,r2⟩:=S2.get (sz:=2) (fun _=>rfl) (by decide) hx
 refine⟨b1,o1,⟨e1,by omega,by omega⟩,_,_,by rw [Int.toNat_natCast];exact r1,b2,o2,⟨e2,by omega,by omega⟩,_,_,by rw [Int.toNat_natCast];exact r2,!decide (l[i]=l[i]),rd_neqV,fun e3=>(by simp at e3),fun _=>⟨_,isW (by unfold InR;omega),⟨rfl,i+1,rfl,by omega⟩,by simp [vint];omega⟩⟩
theorem R_SamePane_ok {k:PK}{l:List Vl}{a b:Option Addr}{c d:Nat}(S:SlP encV h a l.length l)(S2:SlP encV h b l.length l)(hn:l.length≤1000000)(hK:R' (vb true) h):CallOK Tryz.prog 63 [vag (pkRw k (vsl a l.length c)),vag (pkRw k (vsl b l.length d))] h R':=by
 refine ok_R_SamePane ?_
 unfold VC_R_SamePane
 refine R_SameValues_ok S S2 hn ⟨_,rfl,decide (k.2=k.2),fun _=>rd_eqV,?_⟩
 rw [decide_eq_true (rfl:k.1=k.1),decide_eq_true (rfl:k.2=k.2)]
 exact hK
theorem R_SamePanes_ok {L:List (PK × List Vl)}{a b:Option Addr}{c d:Nat}(T:GTab encV pkRw h a L.length L)(T2:GTab encV pkRw h b L.length L)(hn:L.length≤1000000)(hl:∀ x ∈ L,x.2.length≤1000000)(hK:R' (vb true) h):CallOK Tryz.prog 36 [vsl a L.length c,vsl b L.length d] h R':=by
 refine ok_R_SamePanes ?_
 unfold VC_R_SamePanes
 refine⟨fun e=>absurd rfl (of_decide_eq_true e),fun _=>?_⟩
 refine⟨fun vs hh=>hh=h∧∃ i:Nat,vs=[vi i]∧i≤L.length,fun vs hh=>L.length - (vint vs 0).toNat,⟨rfl,0,rfl,Nat.zero_le _⟩,?_⟩
 rintro vs hh ⟨rfl,i,rfl,hi⟩
 refine⟨i,rfl,fun e=>?_,fun _=>hK⟩
 have hlt:i < L.length:=by have:=of_decide_eq_true e;omega
 have hx:L[i]?=some L[i]:=List.getElem?_eq_getElem hlt
 have hm:=hl _ (List.getElem_mem hlt)
 generalize L[i]=x at hx hm
 obtain⟨k,l⟩:=x
 obtain⟨b1,o1,a1,c1,e1,r1,S1⟩:=T.row pkRw_len (by decide) hx
 obtain⟨b2,o2,a2,c2,e2,r2,S2⟩:=T2.row pkRw_len (by decide) hx
 refine⟨b1,o1,⟨e1,by omega,by omega⟩,_,_,_,_,_,_,by rw [Int.toNat_natCast];exact r1,b2,o2,⟨e2,by omega,by omega⟩,_,_,_,_,_,_,by rw [Int.toNat_natCast];exact r2,R_SamePane_ok S1 S2 hm ⟨_,rfl,fun e3=>(by cases e3),fun _=>⟨_,isW (by unfold InR;omega),⟨rfl,i+1,rfl,by omega⟩,by simp [vint];omega⟩⟩⟩
end
theorem outV_len {q:Qy}{A:List Ad}(hA:∀ x ∈ A,AdOK q x)(k:PK):(outV (kindsQ q) (rowsOf A k)).length=q.aggs.length:=by
 unfold outV
 rw [List.length_map,←kindsQ_len]
 have:=congrArg List.length (accsOf_kinds (rowsOf_ok hA k).1)
 rw [List.length_map] at this
 exact this
theorem ansQ_many {q:Qy}(B:QOk q){ps:List (List EvL)}(hp:ps.length≤5)(hl:∀ p ∈ ps,p.length≤100)(hE:∀ p ∈ ps,∀ e ∈ p,EvOK e):(ansQ q ps).length≤500000∧∀ x ∈ ansQ q ps,x.2.length≤1000000:=by
 have h1:=addA_many B ps hl
 have h2:=keysU_many (addA q ps)
 have h3:=(keys_perm (addA q ps)).length_eq
 have h4:=B.n2
 constructor
 ·unfold ansQ ansA
  rw [List.length_map]
  omega
 ·intro x hx
  unfold ansQ ansA at hx
  obtain⟨k,_,rfl⟩:=List.mem_map.1 hx
  simp only
  rw [outV_len (addA_ok B hE)]
  omega
def VC_source_Check (u0:Int)(u1:Int)(u2:Int)(u3:Int)(u4:Int)(u5:Int)(u6:Int)(h:Hp)(R:Value→Hp→Prop):Prop:=
 (((bif (decide (u0 < 0)) then true else(decide (u0 > 9999)))=true→R (ifv (some (99,(vi 1)))) h)∧((bif (decide (u0 < 0)) then true else(decide (u0 > 9999)))=false→(∀ b2,h b2=none→let h3:= Hp.set h b2 (cellsO [vi u1,vi u2,vi u3,vi u4,vi u5,vi u6] 41);(∃(I5:List Value→Hp→Prop) (m6:List Value→Hp→Nat),I5 [vi 0] h3∧∀ vs7 h8,I5 vs7 h8→∃ x9,vs7=[vi x9]∧(((decide (x9 < ((3:Nat):Int)))=true→(∃ b12 o13,((some (⟨b2,0,none⟩:Addr))=some ⟨b12,o13,none⟩∧(0:Int)≤x9∧x9 < ((3:Nat):Int))∧(∃ x14 x15,(Hp.row h8 b12 (o13+x9.toNat*2) 2=some [vi x14,vi x15])∧(CallOK Tryz.prog 117 [vag [vi x14,vi x15]] h8 fun v16 h17=>∃ e18,v16=(ifv e18)∧(((Option.isSome e18)=true→R (ifv e18) h17)∧((Option.isSome e18)=false→(((decide (x14=2))=true→R (ifv (some (99,(vi 3)))) h17)∧((decide (x14=2))=false→(((bif (decide (x15 < (-1000))) then true else(decide (x15 > 1000)))=true→R (ifv (some (99,(vi 1)))) h17)∧((bif (decide (x15 < (-1000))) then true else(decide (x15 > 1000)))=false→(∃ x22,(IsW x22 (x9+1))∧(I5 [vi x22] h17∧m6 [vi x22] h17 < m6 vs7 h8))))))))))))∧((decide (x9 < ((3:Nat):Int)))=false→R (ifv none) h8))))))
theorem ok_source_Check {u0 u1 u2 u3 u4 u5 u6 h R}(H:VC_source_Check u0 u1 u2 u3 u4 u5 u6 h R):CallOK Tryz.prog 67 [vag [vi u0,vi u1,vi u2,vi u3,vi u4,vi u5,vi u6]] h R:=
 call_of (cfg:=⟨[],[(4,([23],[.one (.int .i64)],[]))],[]⟩) noNG mixed Tryz.func67 [.ag [.v (vi u0),.v (vi u1),.v (vi u2),.v (vi u3),.v (vi u4),.v (vi u5),.v (vi u6)]] (by kernel_rfl) rfl (by kernel_rfl) H
theorem source_Check_ok {e:EvL}{h:Hp}{R:Value→Hp→Prop}(hK:∀ h',h.le h'→R (ifv (errV (chkE e))) h'):CallOK Tryz.prog 67 [vag (encE e)] h R:=by
 refine ok_source_Check ?_
 unfold VC_source_Check
 refine⟨fun q=>?_,fun q=>?_⟩
 ·have:chkE e=1:=by unfold chkE;rw [if_pos (by simp [Bool.cond_eq_ite] at q;omega)]
  rw [this] at hK;exact hK h (Hp.le_refl h)
 have e1:chkE e=chkL [e.2.1,e.2.2.1,e.2.2.2]:=by unfold chkE;rw [if_neg (by simp [Bool.cond_eq_ite] at q;omega)]
 rw [e1] at hK
 clear e1 q
 intro b2 hb2 h3
 have l3:h.le h3:=Hp.le_set (Hp.le_refl h) hb2 _
 have S:SlP encV h3 (some ⟨b2,0,none⟩) 3 [e.2.1,e.2.2.1,e.2.2.2]:=⟨rfl,HasRow.new _ _ [vi e.2.1.1,vi e.2.1.2,vi e.2.2.1.1,vi e.2.2.1.2,vi e.2.2.2.1,vi e.2.2.2.2] _⟩
 clear_value h3
 have hl:[e.2.1,e.2.2.1,e.2.2.2].length=3:=rfl
 generalize [e.2.1,e.2.2.1,e.2.2.2]=l at *
 refine⟨fun vs hh=>hh=h3∧∃ i:Nat,vs=[vi i]∧i≤3∧chkL l=chkL (l.drop i),fun vs hh=>3 - (vint vs 0).toNat,⟨rfl,0,rfl,by decide,rfl⟩,?_⟩
 rintro vs hh ⟨rfl,i,rfl,hi,hc⟩
 refine⟨i,rfl,fun q=>?_,fun q=>?_⟩
 ·have hlt:i < 3:=by have:=of_decide_eq_true q;omega
  have hx:l[i]?=some (l[i]'(by omega)):=List.getElem?_eq_getElem (by omega)
  rw [drop_get (by omega:i < l.length),chkL] at hc
  obtain⟨b,o,ha,hr⟩:=S.get encV_len (by decide) hx
  generalize l[i]'(by omega)=v at *
  have A:(some ⟨b2,0,none⟩:Option Addr)=some ⟨b,o,none⟩∧(0:Int)≤i∧(i:Int) < (3:Nat):=⟨ha,by omega,by omega⟩
  refine⟨b,o,A,_,_,hr,value_Check_ok (v:=v) ⟨_,rfl,fun q2=>?_,fun q2=>⟨fun q3=>?_,fun q3=>⟨fun q4=>?_,fun q4=>?_⟩⟩⟩⟩
  ·rw [errV_some] at q2
   have hg:¬ goodV v:=fun hg=>by simp [hg] at q2
   have:chkV v=3:=by unfold chkV;rw [if_pos (.inl hg)]
   rw [this,if_neg (by decide)] at hc
   rw [if_neg hg]
   rw [hc] at hK;exact hK hh l3
  ·have:chkV v=3:=by unfold chkV;rw [if_pos (.inr (of_decide_eq_true q3))]
   rw [this,if_neg (by decide)] at hc
   rw [hc] at hK;exact hK hh l3
  ·rw [errV_some] at q2
   have hg:goodV v:=by
    by_cases hg:goodV v
    ·exact hg
    ·simp [hg] at q2
   have h2:¬ v.1=2:=of_decide_eq_false q3
   have:chkV v=1:=by unfold chkV;rw [if_neg (by simp [hg,h2]),if_pos (by simp [Bool.cond_eq_ite] at q4;omega)]
   rw [this,if_neg (by decide)] at hc
   rw [hc] at hK;exact hK hh l3
  ·rw [errV_some] at q2
   have hg:goodV v:=by
    by_cases hg:goodV v
    ·exact hg
    ·simp [hg] at q2
   have h2:¬ v.1=2:=of_decide_eq_false q3
   have:chkV v=0:=by unfold chkV;rw [if_neg (by simp [hg,h2]),if_neg (by simp [Bool.cond_eq_ite] at q4;omega)]
   rw [this,if_pos rfl] at hc
   exact⟨_,isW (by unfold InR;omega),⟨rfl,i+1,rfl,by omega,hc⟩,by simp [vint];omega⟩
 ·have hge:i=3:=by have:=of_decide_eq_false q;omega
  subst hge
  rw [List.drop_eq_nil_of_le (by omega)] at hc
  rw [hc] at hK;exact hK hh l3
section
variable {h:Hp}{F:Nat→Prop}{g:Nat}{L:List (List EvL)}
end
def VC_top_light (u0:Option Addr)(u1 u2:Nat)(h:Hp)(R:Value→Hp→Prop):Prop:=
 (((decide ((u1:Int) > 3))=true→R (vb false) h)∧((decide ((u1:Int) > 3))=false→(∃(I3:List Value→Hp→Prop) (m4:List Value→Hp→Nat),I3 [vi 0] h∧∀ vs5 h6,I3 vs5 h6→∃ x7,vs5=[vi x7]∧(((decide (x7 < (u1:Int)))=true→(∃ b10 o11,(u0=some ⟨b10,o11,none⟩∧(0:Int)≤x7∧x7 < (u1:Int))∧(∃ a12 n12 c12,(Hp.cell h6 b10 (o11+x7.toNat*1)=some (vsl a12 n12 c12))∧(((decide ((n12:Int) > 40))=true→R (vb false) h6)∧((decide ((n12:Int) > 40))=false→(∃(I15:List Value→Hp→Prop) (m16:List Value→Hp→Nat),I15 [vi 0] h6∧∀ vs17 h18,I15 vs17 h18→∃ x19,vs17=[vi x19]∧(∃ b20 o21,(u0=some ⟨b20,o21,none⟩∧(0:Int)≤x7∧x7 < (u1:Int))∧(∃ a22 n22 c22,(Hp.cell h18 b20 (o21+x7.toNat*1)=some (vsl a22 n22 c22))∧(((decide (x19 < (n22:Int)))=true→(∃ b25 o26,(u0=some ⟨b25,o26,none⟩∧(0:Int)≤x7∧x7 < (u1:Int))∧(∃ a27 n27 c27,(Hp.cell h18 b25 (o26+x7.toNat*1)=some (vsl a27 n27 c27))∧(∃ b28 o29,(a27=some ⟨b28,o29,none⟩∧(0:Int)≤x19∧x19 < (n27:Int))∧(∃ x30 x31 x32 x33 x34 x35 x36,(Hp.row h18 b28 (o29+x19.toNat*7) 7=some [vi x30,vi x31,vi x32,vi x33,vi x34,vi x35,vi x36])∧(CallOK Tryz.prog 67 [vag [vi x30,vi x31,vi x32,vi x33,vi x34,vi x35,vi x36]] h18 fun v37 h38=>∃ e39,v37=(ifv e39)∧(((Option.isSome e39)=true→R (vb false) h38)∧((Option.isSome e39)=false→(∃ x41,(IsW x41 (x19+1))∧(I15 [vi x41] h38∧m16 [vi x41] h38 < m16 vs17 h18))))))))))∧((decide (x19 < (n22:Int)))=false→(∃ x42,(IsW x42 (x7+1))∧(I3 [vi x42] h18∧m4 [vi x42] h18 < m4 vs5 h6))))))))))))∧((decide (x7 < (u1:Int)))=false→R (vb true) h6)))))
theorem ok_top_light {u0 u1 u2 h R}(H:VC_top_light u0 u1 u2 h R):CallOK Tryz.prog 33 [vsl u0 u1 u2] h R:=
 call_of (cfg:=⟨[],[(9,([4],[.one (.int .i64)],[])),(4,([3],[.one (.int .i64)],[]))],[]⟩) noNG mixed Tryz.func33 [.one (.v (vsl u0 u1 u2))] (by kernel_rfl) rfl (by kernel_rfl) H
section
variable {h:Hp}{R':Value→Hp→Prop}
theorem top_light_ok {ps:List (List EvL)}{pa:Option Addr}{pn pc:Nat}(TP:TabC encE h pa pn ps)(hK:∀ p h',h.le h'→(p=true→ps.length≤3∧∀ x ∈ ps,x.length≤40∧∀ e ∈ x,EvOK e)→R' (vb p) h'):CallOK Tryz.prog 33 [vsl pa pn pc] h R':=by
 refine ok_top_light ?_
 unfold VC_top_light
 have hpn:pn=ps.length:=TP.r.choose_spec.2.1
 refine⟨fun e=>hK false h (Hp.le_refl h) (fun q=>by cases q),fun e=>?_⟩
 have h3:ps.length≤3:=by have:=of_decide_eq_false e;omega
 refine⟨fun vs hh=>∃ i:Nat,vs=[vi i]∧i≤ps.length∧h.le hh∧∀ x ∈ ps.take i,x.length≤40∧∀ e ∈ x,EvOK e,fun vs hh=>ps.length - (vint vs 0).toNat,⟨0,rfl,Nat.zero_le _,Hp.le_refl h,by simp⟩,?_⟩
 rintro vs hh ⟨i,rfl,hi,lh,hz⟩
 refine⟨i,rfl,fun e1=>?_,fun e1=>?_⟩
 ·have hlt:i < ps.length:=by have:=of_decide_eq_true e1;omega
  have hx:ps[i]?=some ps[i]:=List.getElem?_eq_getElem hlt
  have tk:ps.take (i+1)=ps.take i++[ps[i]]:=List.take_succ_eq_append_getElem hlt
  generalize ps[i]=part at *
  obtain⟨b,o,a',c',ea,hcl,SP,_⟩:=TP.cell hx
  have hb1:pa=some ⟨b,o,none⟩∧(0:Int)≤i∧(i:Int) < ((pn:Nat):Int):=⟨ea,by omega,by omega⟩
  refine⟨b,o,hb1,a',part.length,c',by rw [Int.toNat_natCast];exact cell_le lh hcl,fun e2=>hK false hh lh (fun q=>by cases q),fun e2=>?_⟩
  have h40:part.length≤40:=by have:=of_decide_eq_false e2;omega
  refine⟨fun vs hh'=>∃ j:Nat,vs=[vi j]∧j≤part.length∧hh.le hh'∧∀ e ∈ part.take j,EvOK e,fun vs hh=>part.length - (vint vs 0).toNat,⟨0,rfl,Nat.zero_le _,Hp.le_refl _,by simp⟩,?_⟩
  rintro vs hh3 ⟨j,rfl,hj,lh3,hc3⟩
  have lh3':=Hp.le_trans lh lh3
  have hc1:=cell_le lh3' hcl
  refine⟨j,rfl,b,o,hb1,a',part.length,c',by rw [Int.toNat_natCast];exact hc1,fun e3=>?_,fun e3=>?_⟩
  ·have hltj:j < part.length:=by have:=of_decide_eq_true e3;omega
   have hxj:part[j]?=some part[j]:=List.getElem?_eq_getElem hltj
   have tkj:part.take (j+1)=part.take j++[part[j]]:=List.take_succ_eq_append_getElem hltj
   obtain⟨b2,o2,ea2,hr2⟩:=(SP.le lh3').get (sz:=7) (fun _=>rfl) (by decide) hxj
   generalize part[j]=ev at *
   refine⟨b,o,hb1,a',part.length,c',by rw [Int.toNat_natCast];exact hc1,b2,o2,⟨ea2,by omega,by omega⟩,_,_,_,_,_,_,_,by rw [Int.toNat_natCast];exact hr2,?_⟩
   refine source_Check_ok (e:=ev) fun h54 l54=>⟨_,rfl,fun e4=>hK false h54 (Hp.le_trans lh3' l54) (fun q=>by cases q),fun e4=>?_⟩
   rw [errV_some] at e4
   have hev:chkE ev=0:=by simpa using e4
   refine⟨_,isW (by unfold InR;omega),⟨j+1,rfl,by omega,Hp.le_trans lh3 l54,fun e he=>?_⟩,by simp [vint];omega⟩
   rw [tkj] at he
   rcases List.mem_append.1 he with h1|h1
   ·exact hc3 e h1
   ·rw [List.mem_singleton.1 h1];exact chkE_ok hev
  ·have hge:j=part.length:=by have:=of_decide_eq_false e3;omega
   rw [hge,List.take_length] at hc3
   refine⟨_,isW (by unfold InR;omega),⟨i+1,rfl,by omega,lh3',fun x hx=>?_⟩,by simp [vint];omega⟩
   rw [tk] at hx
   rcases List.mem_append.1 hx with h1|h1
   ·exact hz x h1
   ·rw [List.mem_singleton.1 h1];exact⟨h40,hc3⟩
 ·have hge:i=ps.length:=by have:=of_decide_eq_false e1;omega
  rw [hge,List.take_length] at hz
  exact hK true hh lh fun _=>⟨h3,hz⟩
end
open Go.Txt
theorem slb_lit (h:Hp)(b:Nat)(l:List Wd)(hl:l.length≤maxLen):SlB (h.set b (cellsO (l.flatMap encB) 9)) (some ⟨b,0,none⟩) l.length l:=⟨rfl,(OwnS.new h b 9 (sz:=1) (n:=l.length) (l.flatMap encB) (by induction l with
 | nil=>rfl
 | cons w l ih=>have:=ih (by simp at hl;omega);simp [encB] at this ⊢;omega) hl).row⟩
theorem number_range {s:RS}{most:Int}(hm:0≤most):0≤(s.number most).1∧(s.number most).1≤most:=by
 unfold RS.number
 split
 ·exact⟨Int.le_refl _,hm⟩
 ·split
  ·exact⟨Int.le_refl _,hm⟩
  ·rename_i h
   exact⟨by omega,(natF_low hm).2⟩
theorem joinP_le (op:Int)(x y:List Nd)(s:RS):(joinP op x y s).1.length≤40:=by
 unfold joinP
 split
 ·simp
 ·rw [joinL_length];omega
theorem read_const {w:Wd}(h:w ∈ constW):(readV w).1=constV w:=by
 have h2:w=wNull∨w=wTrue∨w=wFalse:=by simpa [constW] using h
 rcases h2 with rfl|rfl|rfl<;>rfl
theorem reader_atom_ok {P:Ps}{n:Nat}(F:Reads 84 P n)(kp:KP P n):Reads 209 (atomP P) (n+1):=by
 intro h0 h g s D E S R hK
 refine ok_query_reader_atom ?_
 unfold VC_query_reader_atom
 intro b1 hb1 h2
 have hl:h.le h2:=Hp.le_set (Hp.le_refl h) hb1 _
 have hb:=S.big
 have tk:=@taken s ([wOpen]++constW++fieldW)
 have sp:=s.is_spec ([wOpen]++constW++fieldW)
 have gi:=goes_is S.good ([wOpen]++constW++fieldW)
 have nr:=@number_range
 unfold atomP at hK
 simp only at hK
 refine reader_is_ok (D.le hl) (l:=[wOpen]++constW++fieldW) (slb_lit h b1 ([wOpen]++constW++fieldW) (by decide)) (by decide) (by omega) fun h4 D4 M4=>⟨_,rfl,?_⟩
 have M04:Mut (At g) h (At g) h4:=(Mut.of_le hl).trans M4
 generalize s.is ([wOpen]++constW++fieldW)=A at *
 obtain⟨w,s1⟩:=A
 simp -zeta only at hK D4 tk sp gi ⊢
 have hS1:=S.goes gi
 have E4:=E.mut M04
 refine⟨_,rd_eqBs (b:=wOpen),fun e=>?_,fun e1=>?_⟩
 ·have ew:w=wOpen:=of_decide_eq_true e
  have tk:=tk (by rw [ew];decide)
  rw [if_pos ew] at hK
  have d1:=S.d1
  have hdp:=gi.deep
  have Sn:SOk n s1:=⟨hS1.good,by have:=S.len;omega,hS1.big,hS1.d0,hS1.d1⟩
  have kd:=keeps_down kp (Goes.refl hS1.good) (Nat.le_of_lt Sn.len)
  refine reader_down_ok ⟨_,Tryz.func84,by kernel_rfl,by kernel_rfl⟩ F kp D4 E4 Sn (by omega) fun a c h8 D8 N8 M8=>⟨_,_,_,rfl,?_⟩
  refine reader_must_ok D8 (by have:=kd.len;have:=hS1.big;omega) fun h11 D11 M11=>⟨rfl,?_⟩
  exact hK a c h11 D11 ((N8.base (M04.up D4.al)).mut D.al M11) ((M04.trans M8).trans M11)
 have e1:¬ w=wOpen:=of_decide_eq_false e1
 rw [if_neg e1] at hK
 have hwc:w ∈ constW↔w=wNull∨w=wTrue∨w=wFalse:=by simp [constW]
 refine⟨_,rd_eqBs (b:=wNull),?_⟩
 intro J18
 have yes:w ∈ constW→J18 true:=by
  intro hw
  rw [if_pos hw] at hK
  have hwl:w.length≤1000000:=by
   have:w=wNull∨w=wTrue∨w=wFalse:=hwc.1 hw
   rcases this with rfl|rfl|rfl<;>decide
  refine⟨fun _=>?_,fun e=>by cases e⟩
  refine value_Parse_ok hwl E4.now.p E4.now.e ⟨_,_,_,rfl,?_⟩
  rw [read_const hw]
  refine query_leaf_ok ⟨1,0,0,0,constV w⟩ fun a c h26 N26 _ l26=>⟨_,_,_,rfl,?_⟩
  exact hK a c h26 (D4.le l26) (N26.base (M04.up D4.al)) (M04.trans (Mut.of_le l26))
 have no:¬ w ∈ constW→J18 false:=by
  intro hw
  rw [if_neg hw] at hK
  refine⟨fun e=>by (cases e),fun _=>⟨_,rd_eqBs (b:=[]),fun e=>?_,fun e=>?_⟩⟩
  ·rw [if_pos (of_decide_eq_true e)] at hK
   have nr1:=nr (s:=s1) (most:=1000000000) (by decide)
   refine reader_number_ok D4 E4 (by have:=hS1.big;omega) (by decide) (by decide) fun h30 D30 M30=>⟨_,rfl,value_Number_ok ⟨_,_,rfl,?_⟩⟩
   have en:numV (s1.number 1000000000).1=(1,(s1.number 1000000000).1):=by unfold numV;rw [if_neg (by omega)]
   rw [en]
   refine query_leaf_ok ⟨1,0,0,0,(1,(s1.number 1000000000).1)⟩ fun a c h37 N37 _ l37=>⟨_,_,_,rfl,?_⟩
   exact hK a c h37 (D30.le l37) (N37.base ((M04.trans M30).up D30.al)) ((M04.trans M30).trans (Mut.of_le l37))
  ·have e3:=of_decide_eq_false e
   rw [if_neg e3] at hK
   have hm:w ∈ fieldW:=by
    rcases sp with ⟨q,_⟩|⟨w',r,_,hm,q,_⟩
    ·exact absurd q e3
    ·rw [←q] at hm
     rcases List.mem_append.1 hm with h4|h4
     ·rcases List.mem_append.1 h4 with h5|h5
      ·exact absurd (by simpa using h5) e1
      ·exact absurd h5 hw
     ·exact h4
   obtain⟨fa,fc,hf,hfs⟩:=E4.now.f
   refine⟨_,_,_,hf,slices_Index_ok hfs (by decide) ⟨_,rfl,?_⟩⟩
   rw [if_pos hm]
   refine query_leaf_ok ⟨2,0,0,fieldW.idxOf w,(0,0)⟩ fun a c h44 N44 _ l44=>⟨_,_,_,rfl,?_⟩
   exact hK a c h44 (D4.le l44) (N44.base (M04.up D4.al)) (M04.trans (Mut.of_le l44))
 clear_value J18
 refine⟨fun e=>?_,fun e2=>⟨_,rd_eqBs (b:=wTrue),fun e=>?_,fun e3=>⟨_,rd_eqBs (b:=wFalse),?_⟩⟩⟩
 ·rw [e];exact yes (hwc.2 (.inl (of_decide_eq_true e)))
 ·rw [e];exact yes (hwc.2 (.inr (.inl (of_decide_eq_true e))))
 ·have e2:=of_decide_eq_false e2
  have e3:=of_decide_eq_false e3
  by_cases hf:w=wFalse
  ·rw [decide_eq_true hf];exact yes (hwc.2 (.inr (.inr hf)))
  ·rw [decide_eq_false hf]
   refine no fun h=>?_
   rcases hwc.1 h with h|h|h
   ·exact e2 h
   ·exact e3 h
   ·exact hf h
theorem reader_unary_ok {U A:Ps}{n:Nat}(F:Reads 207 U n)(ku:KP U n)(FA:Reads 209 A (n+1)):Reads 207 (unaryP U A) (n+1):=by
 intro h0 h g s D E S R hK
 refine ok_query_reader_unary ?_
 unfold VC_query_reader_unary
 intro b1 hb1 h2
 have hl:h.le h2:=Hp.le_set (Hp.le_refl h) hb1 _
 have hb:=S.big
 have tk:=@taken s [wMinus]
 have gi:=goes_is S.good [wMinus]
 unfold unaryP at hK
 have hi:=@RS.is_spec s [wMinus]
 refine reader_is_ok (D.le hl) (slb_one h b1 wMinus) (by decide) (by omega) fun h4 D4 M4=>⟨_,rfl,?_⟩
 have M04:Mut (At g) h (At g) h4:=(Mut.of_le hl).trans M4
 generalize s.is [wMinus]=B at *
 obtain⟨w,s1⟩:=B
 simp -zeta only at hK D4 tk gi hi ⊢
 have hS1:=S.goes gi
 have E4:=E.mut M04
 refine⟨_,rd_eqBs (b:=[]),fun e=>?_,fun e=>?_⟩
 ·have ew:=of_decide_eq_true e
  rw [if_pos ew] at hK
  have es:s1=s:=by
   rcases hi with ⟨_,q⟩|⟨w',r,_,hm,q,_⟩
   ·exact q
   ·rw [ew] at q;rw [←q] at hm;exact absurd hm (by decide)
  subst es
  exact FA D4 E4 hS1 fun a c h8 D8 N8 M8=>⟨_,_,_,rfl,hK a c h8 D8 (N8.base (M04.up D4.al)) (M04.trans M8)⟩
 ·have ew:=of_decide_eq_false e
  rw [if_neg ew] at hK
  have tk:=tk ew
  have d1:=S.d1
  have hdp:=gi.deep
  have Sn:SOk n s1:=⟨hS1.good,by have:=S.len;omega,hS1.big,hS1.d0,hS1.d1⟩
  have kd:=keeps_down ku (Goes.refl hS1.good) (Nat.le_of_lt Sn.len)
  refine reader_down_ok ⟨_,Tryz.func207,by kernel_rfl,by kernel_rfl⟩ F ku D4 E4 Sn (by omega) fun a c h8 D8 N8 M8=>⟨_,_,_,rfl,?_⟩
  refine reader_join_ok D8 N8.s (nd_nil h8 h8).s wf_nil (by have:=kd.le;omega) (by simp) fun a c h15 D15 N15 M15=>⟨_,_,_,rfl,?_⟩
  exact hK a c h15 D15 (N15.base ((M04.trans M8).up D8.al)) ((M04.trans M8).trans M15)
theorem reader_not_ok {U A:Ps}{n:Nat}(F:Reads 166 U n)(ku:KP U n)(FA:Reads 186 A (n+1)):Reads 166 (notP U A) (n+1):=by
 intro h0 h g s D E S R hK
 refine ok_query_reader_not ?_
 unfold VC_query_reader_not
 intro b1 hb1 h2
 have hl:h.le h2:=Hp.le_set (Hp.le_refl h) hb1 _
 have hb:=S.big
 have tk:=@taken s [wNot]
 have gi:=goes_is S.good [wNot]
 unfold notP at hK
 have hi:=@RS.is_spec s [wNot]
 refine reader_is_ok (D.le hl) (slb_one h b1 wNot) (by decide) (by omega) fun h4 D4 M4=>⟨_,rfl,?_⟩
 have M04:Mut (At g) h (At g) h4:=(Mut.of_le hl).trans M4
 generalize s.is [wNot]=B at *
 obtain⟨w,s1⟩:=B
 simp -zeta only at hK D4 tk gi hi ⊢
 have hS1:=S.goes gi
 have E4:=E.mut M04
 refine⟨_,rd_eqBs (b:=[]),fun e=>?_,fun e=>?_⟩
 ·have ew:=of_decide_eq_true e
  rw [if_pos ew] at hK
  have es:s1=s:=by
   rcases hi with ⟨_,q⟩|⟨w',r,_,hm,q,_⟩
   ·exact q
   ·rw [ew] at q;rw [←q] at hm;exact absurd hm (by decide)
  subst es
  exact FA D4 E4 hS1 fun a c h8 D8 N8 M8=>⟨_,_,_,rfl,hK a c h8 D8 (N8.base (M04.up D4.al)) (M04.trans M8)⟩
 ·have ew:=of_decide_eq_false e
  rw [if_neg ew] at hK
  have tk:=tk ew
  have d1:=S.d1
  have hdp:=gi.deep
  have Sn:SOk n s1:=⟨hS1.good,by have:=S.len;omega,hS1.big,hS1.d0,hS1.d1⟩
  have kd:=keeps_down ku (Goes.refl hS1.good) (Nat.le_of_lt Sn.len)
  refine reader_down_ok ⟨_,Tryz.func166,by kernel_rfl,by kernel_rfl⟩ F ku D4 E4 Sn (by omega) fun a c h8 D8 N8 M8=>⟨_,_,_,rfl,?_⟩
  refine reader_join_ok D8 N8.s (nd_nil h8 h8).s wf_nil (by have:=kd.le;omega) (by simp) fun a c h15 D15 N15 M15=>⟨_,_,_,rfl,?_⟩
  exact hK a c h15 D15 (N15.base ((M04.trans M8).up D8.al)) ((M04.trans M8).trans M15)
theorem reader_compare_ok {P:Ps}{n:Nat}(F:Reads 197 P n)(kp:KP P n):Reads 186 (cmpP P) n:=by
 intro h0 h g s D E S R hK
 refine ok_query_reader_compare ?_
 unfold VC_query_reader_compare
 have k:=kp s S.good (Nat.le_of_lt S.len)
 unfold cmpP at hK
 simp only at hK
 refine F D E S fun a3 c3 h2 D2 N2 M2=>⟨_,_,_,rfl,?_⟩
 intro b4 hb4 h5
 have l5:h2.le h5:=Hp.le_set (Hp.le_refl h2) hb4 _
 have S2:=S.goes k.goes
 have G0:=k.goes
 have k0:=k.le
 generalize P s=X at *
 obtain⟨x,s0⟩:=X
 simp only at hK D2 N2 S2 G0 k0
 have gi:=goes_is S2.good [wLt,wGt,wLe,wGe,wEq,wNe,wIs]
 refine reader_is_ok (D2.le l5) (slb_lit h2 b4 [wLt,wGt,wLe,wGe,wEq,wNe,wIs] (by decide)) (by decide) (by have:=S2.big;omega) fun h7 D7 M7=>⟨_,rfl,?_⟩
 have M57:Mut (At g) h2 (At g) h7:=(Mut.of_le l5).trans M7
 have M07:Mut (At g) h (At g) h7:=M2.trans M57
 have N7:=N2.mut D.al M57
 generalize s0.is [wLt,wGt,wLe,wGe,wEq,wNe,wIs]=B at *
 obtain⟨w,s1⟩:=B
 simp -zeta only at hK D7 gi ⊢
 have S7:=S2.goes gi
 have k2:=kp s1 S7.good (Nat.le_of_lt S7.len)
 have kw:=k2.wf
 have kl:=k2.le
 have E7:=E.mut M07
 have sumK:∀{R2:Value→Hp→Prop},(∀ a c h',RdAt h0 h' g (P s1).2→NdAt h7 h' a (P s1).1.length (P s1).1→Mut (At g) h7 (At g) h'→R2 (vsl a (P s1).1.length c) h')→CallOK Tryz.prog 197 [vhp g 0] h7 R2:=fun H=>F D7 E7 S7 H
 have kx:=k.wf
 intro J78
 generalize P s1=Y at *
 obtain⟨y,s2⟩:=Y
 simp -zeta only at hK sumK kw kl ⊢
 refine⟨_,rd_eqBs (b:=wLt),fun e=>?_,fun e1=>⟨_,rd_eqBs (b:=wGt),fun e=>?_,fun e2=>⟨_,rd_eqBs (b:=wLe),fun e=>?_,fun e3=>⟨_,rd_eqBs (b:=wGe),fun e=>?_,fun e4=>⟨_,rd_eqBs (b:=wEq),fun e=>?_,fun e5=>⟨_,rd_eqBs (b:=wNe),fun e=>?_,fun e6=>⟨_,rd_eqBs (b:=wIs),fun e=>?_,fun e7=>?_⟩⟩⟩⟩⟩⟩⟩
 ·rw [if_pos (of_decide_eq_true e)] at hK
  exact sumK fun a c h11 D11 N11 M11=>⟨_,_,_,rfl,reader_join_ok D11 (N7.mut D.al M11).s N11.s kw (by omega) (by omega) fun a c h14 D14 N14 M14=>⟨_,_,_,rfl,hK a c h14 D14 (N14.base ((M07.trans M11).up D11.al)) ((M07.trans M11).trans M14)⟩⟩
 ·rw [if_neg (of_decide_eq_false e1),if_pos (of_decide_eq_true e)] at hK
  exact sumK fun a c h11 D11 N11 M11=>⟨_,_,_,rfl,reader_join_ok D11 N11.s (N7.mut D.al M11).s kx (by omega) (by omega) fun a c h14 D14 N14 M14=>⟨_,_,_,rfl,hK a c h14 D14 (N14.base ((M07.trans M11).up D11.al)) ((M07.trans M11).trans M14)⟩⟩
 ·rw [if_neg (of_decide_eq_false e1),if_neg (of_decide_eq_false e2),if_pos (of_decide_eq_true e)] at hK
  have jl:=joinP_le 11 y x s2
  exact sumK fun a c h11 D11 N11 M11=>⟨_,_,_,rfl,reader_join_ok D11 N11.s (N7.mut D.al M11).s kx (by omega) (by omega) fun a c h14 D14 N14 M14=>⟨_,_,_,rfl,reader_join_ok D14 N14.s (nd_nil h14 h14).s wf_nil (by omega) (by simp) fun a c h17 D17 N17 M17=>⟨_,_,_,rfl,hK a c h17 D17 (N17.base (((M07.trans M11).trans M14).up D14.al)) (((M07.trans M11).trans M14).trans M17)⟩⟩⟩
 ·rw [if_neg (of_decide_eq_false e1),if_neg (of_decide_eq_false e2),if_neg (of_decide_eq_false e3),if_pos (of_decide_eq_true e)] at hK
  have jl:=joinP_le 11 x y s2
  exact sumK fun a c h11 D11 N11 M11=>⟨_,_,_,rfl,reader_join_ok D11 (N7.mut D.al M11).s N11.s kw (by omega) (by omega) fun a c h14 D14 N14 M14=>⟨_,_,_,rfl,reader_join_ok D14 N14.s (nd_nil h14 h14).s wf_nil (by omega) (by simp) fun a c h17 D17 N17 M17=>⟨_,_,_,rfl,hK a c h17 D17 (N17.base (((M07.trans M11).trans M14).up D14.al)) (((M07.trans M11).trans M14).trans M17)⟩⟩⟩
 ·rw [if_neg (of_decide_eq_false e1),if_neg (of_decide_eq_false e2),if_neg (of_decide_eq_false e3),if_neg (of_decide_eq_false e4),if_pos (of_decide_eq_true e)] at hK
  exact sumK fun a c h11 D11 N11 M11=>⟨_,_,_,rfl,reader_join_ok D11 (N7.mut D.al M11).s N11.s kw (by omega) (by omega) fun a c h14 D14 N14 M14=>⟨_,_,_,rfl,hK a c h14 D14 (N14.base ((M07.trans M11).up D11.al)) ((M07.trans M11).trans M14)⟩⟩
 ·rw [if_neg (of_decide_eq_false e1),if_neg (of_decide_eq_false e2),if_neg (of_decide_eq_false e3),if_neg (of_decide_eq_false e4),if_neg (of_decide_eq_false e5),if_pos (of_decide_eq_true e)] at hK
  have jl:=joinP_le 12 x y s2
  exact sumK fun a c h11 D11 N11 M11=>⟨_,_,_,rfl,reader_join_ok D11 (N7.mut D.al M11).s N11.s kw (by omega) (by omega) fun a c h14 D14 N14 M14=>⟨_,_,_,rfl,reader_join_ok D14 N14.s (nd_nil h14 h14).s wf_nil (by omega) (by simp) fun a c h17 D17 N17 M17=>⟨_,_,_,rfl,hK a c h17 D17 (N17.base (((M07.trans M11).trans M14).up D14.al)) (((M07.trans M11).trans M14).trans M17)⟩⟩⟩
 ·rw [if_neg (of_decide_eq_false e1),if_neg (of_decide_eq_false e2),if_neg (of_decide_eq_false e3),if_neg (of_decide_eq_false e4),if_neg (of_decide_eq_false e5),if_neg (of_decide_eq_false e6),if_pos (of_decide_eq_true e)] at hK
  intro b61 hb61 h62
  have l62:h7.le h62:=Hp.le_set (Hp.le_refl h7) hb61 _
  have g3:=goes_is S7.good [wNot]
  refine reader_is_ok (D7.le l62) (slb_one h7 b61 wNot) (by decide) (by have:=S7.big;omega) fun h64 D64 M64=>⟨_,rfl,?_⟩
  have M64':Mut (At g) h7 (At g) h64:=(Mut.of_le l62).trans M64
  have S8:=S7.goes g3
  generalize s1.is [wNot]=C at *
  obtain⟨v,s3⟩:=C
  simp -zeta only at hK D64 S8 ⊢
  refine reader_must_ok D64 (by have:=S8.big;omega) fun h67 D67 M67=>⟨rfl,?_⟩
  have M67':=M64'.trans M67
  refine reader_join_ok D67 (N7.mut D.al M67').s (nd_nil h67 h67).s wf_nil (by omega) (by simp) fun a c h69 D69 N69 M69=>⟨_,_,_,rfl,?_⟩
  have jl:=joinP_le 5 x [] (s3.must wNull)
  refine⟨_,rd_neBs (b:=[]),fun q=>?_,fun q=>?_⟩
  ·have q:v≠[]:=by simpa using q
   rw [if_pos q] at hK
   exact reader_join_ok D69 N69.s (nd_nil h69 h69).s wf_nil (Nat.le_trans jl (by decide)) (by simp) fun a c h73 D73 N73 M73=>⟨_,_,_,rfl,hK a c h73 D73 (N73.base (((M07.trans M67').trans M69).up D69.al)) (((M07.trans M67').trans M69).trans M73)⟩
  ·have q:¬ v≠[]:=by simpa using q
   rw [if_neg q] at hK
   exact hK a c h69 D69 (N69.base ((M07.trans M67').up D67.al)) ((M07.trans M67').trans M69)
 ·rw [if_neg (of_decide_eq_false e1),if_neg (of_decide_eq_false e2),if_neg (of_decide_eq_false e3),if_neg (of_decide_eq_false e4),if_neg (of_decide_eq_false e5),if_neg (of_decide_eq_false e6),if_neg (of_decide_eq_false e7)] at hK
  exact hK _ _ h7 D7 N7 M07
def wordsN (h:Hp)(g:Nat):Nat:=match h.cell g 0 with|some (.slice _ n _)=>n|_=>0
theorem RdAt.wn {h0 h:Hp}{g:Nat}{s:RS}(D:RdAt h0 h g s):wordsN h g=s.ws.length:=by
 obtain⟨a,c,e⟩:=D.c0
 unfold wordsN
 rw [e]
theorem reader_row_ok {f:FuncId}{P:Ps}{n:Nat}(B:Bodied f)(F:Reads f P n)(kp:KP P n){ops:List (Wd × Int)}(ho:∀ q ∈ ops,Opr q.2)(hne:∀ q ∈ ops,q.1≠[])(hol:ops.length≤100){h0 h:Hp}{g:Nat}{s:RS}(D:RdAt h0 h g s)(E:EnvQ h0 h g)(S:SOk n s){y:Value}{wa:Option Addr}{wn wc:Nat}(W:ElAt encB h g wa wn (ops.map (·.1)))
  (hop:∀ h',Mut (At g) h (At g) h'→∀ w ∈ ops.map (·.1),Rd Tryz.prog (Instr.lookup 199 y (vs (bs w)) false) h' (vi (opOf ops w)))
  {R:Value→Hp→Prop} (hK:∀ a c h',RdAt h0 h' g (rowP P ops s).2→NdAt h h' a (rowP P ops s).1.length (rowP P ops s).1→Mut (At g) h (At g) h'→R (vsl a (rowP P ops s).1.length c) h'):CallOK Tryz.prog 131 [vhp g 0,.func (.func f) #[vhp g 0] #[],y,vsl wa wn wc] h R:=by
 refine ok_query_reader_row ?_
 unfold VC_query_reader_row
 have k:=kp s S.good (Nat.le_of_lt S.len)
 have Sx:=S.goes k.goes
 have kx:=k.wf
 have kl:=k.le
 have kp1:=k.pos
 unfold rowP at hK
 have hwn:wn=ops.length:=by have:=W.s.1;simpa using this
 refine inv_of B (F D E S fun a3 c3 h2 D2 N2 M2=>⟨_,_,_,rfl,?_⟩)
 generalize P s=X at *
 obtain⟨x0,s0⟩:=X
 simp -zeta only at hK D2 N2 Sx kx kl kp1 ⊢
 intro J26
 refine⟨fun vs' hh=>∃(k:Nat) (x:List Nd) (t:RS) (a:Option Addr) (c:Nat),vs'=[vsl a x.length c]∧RdAt h0 hh g t∧NdAt h hh a x.length x∧Mut (At g) h (At g) hh∧SOk n t∧1≤x.length∧x.length≤40∧WfL x∧t.ws.length < k∧rowL P ops k x t=rowL P ops (s0.ws.length+1) x0 s0,fun _ hh=>wordsN hh g,⟨_,x0,s0,a3,c3,rfl,D2,N2,M2,Sx,kp1,kl,kx,Nat.lt_succ_self _,rfl⟩,?_⟩
 rintro vs' hh ⟨k,x,t,a,c,rfl,Dt,Nt,Mt,St,hx1,hx,Wx,hk,hrow⟩
 obtain⟨k,rfl⟩:∃ j,k=j+1:=⟨k - 1,by omega⟩
 rw [rowL] at hrow
 refine⟨_,_,_,rfl,_,Dt.c2,fun e=>?_,fun e=>?_⟩
 ·have f0:¬ t.f≠0:=by rw [errV_none] at e;simpa using e
  rw [if_neg f0] at hrow
  have gi:=goes_is St.good (ops.map (·.1))
  have gm:=@is_mem t (ops.map (·.1))
  have tk:=@taken t (ops.map (·.1))
  have hDt:=Dt.wn
  refine reader_is_ok Dt (W.mut Mt).s (by omega) (by have:=St.big;omega) fun h14 D14 M14=>⟨_,rfl,?_⟩
  have M014:=Mt.trans M14
  simp only at hrow
  generalize t.is (ops.map (·.1))=A at *
  obtain⟨w,s1⟩:=A
  simp -zeta only at hrow D14 gi gm tk ⊢
  have S1:=St.goes gi
  refine⟨_,rd_eqBs (b:=[]),fun e=>?_,fun e=>?_⟩
  ·rw [if_pos (of_decide_eq_true e)] at hrow
   rw [←hrow] at hK
   exact hK _ _ h14 D14 (Nt.mut D.al M14) M014
  ·have ew:=of_decide_eq_false e
   rw [if_neg ew] at hrow
   have hop':=opOf_opr ho (gm ew)
   have kn:=kp s1 S1.good (Nat.le_of_lt S1.len)
   have tk:=tk ew
   refine⟨_,hop h14 M014 w (gm ew),inv_of B (F D14 (E.mut M014) S1 fun a22 c22 h21 D21 N21 M21=>⟨_,_,_,rfl,hop h21 (M014.trans M21) w (gm ew),?_⟩)⟩
   generalize opOf ops w=op at *
   have kj:Keeps (joinP op x (P s1).1 (P s1).2) t:=keeps_join hop' (gi.trans kn.goes) Wx kn.wf hx1 (fun _=>kn.pos)
   have kn1:=kn.wf
   have kn2:=kn.le
   have kn3:=kn.len
   have kj2:(joinP op x (P s1).1 (P s1).2).2.ws.length≤(P s1).2.ws.length:=by
    unfold joinP
    split
    ·exact Nat.zero_le _
    ·exact Nat.le_refl _
   generalize P s1=Y at *
   obtain⟨y1,s2⟩:=Y
   simp -zeta only at hrow D21 N21 kj kn1 kn2 kn3 kj2 ⊢
   refine reader_join_ok D21 ((Nt.mut D.al M14).mut D.al M21).s N21.s kn1 (by omega) (by omega) fun a25 c25 h24 D24 N24 M24=>⟨_,_,_,rfl,⟨k,_,_,a25,c25,rfl,D24,N24.base ((M014.trans M21).up D21.al),(M014.trans M21).trans M24,St.goes kj.goes,kj.pos,kj.le,kj.wf,by omega,hrow⟩,?_⟩
   have h24n:=D24.wn
   show wordsN h24 g < wordsN hh g
   omega
 ·have f0:t.f≠0:=by rw [errV_none] at e;simpa using e
  rw [if_pos f0] at hrow
  rw [←hrow] at hK
  exact hK _ _ hh Dt Nt Mt
theorem rd_mapS {h:Hp}{b:Nat}{es:Array MapEntry}{clock:Nat}(hb:h b=some (.map es clock)){w:Wd}{x:Int}{i:Nat}(hf:Instr.findNow .string (vs (bs w)) es.toList 0=some (some (i,vi x))):Rd Tryz.prog (Instr.lookup 199 (.map (some b)) (vs (bs w)) false) h (vi x):=
 rd_lookup (k:=9) (e:=3) (d:=.string) (by kernel_rfl) (by kernel_rfl) hb trivial hf
theorem sem_mapS {h:Hp}{b:Nat}{es:Array MapEntry}{clock:Nat}(hb:h b=some (.map es clock)){w:Wd}{x:Int}(hf:Instr.findNow .string (vs (bs w)) es.toList 0=some none){K:Hp→Prop}(hK:K (h.set b (.map (es.push { key:=vs (bs w),val:=vi x,born:=clock }) (clock+1)))):SemOKu Tryz.prog (Instr.mapUpdate 199 (.map (some b)) (vs (bs w)) (vi x)) h K:=
 sem_mapNew (k:=9) (e:=3) (d:=.string) (key:=vs (bs w)) (by kernel_rfl) (by kernel_rfl) hb trivial hf hK
theorem reader_one_ok {f:FuncId}{P:Ps}{n:Nat}(B:Bodied f)(F:Reads f P n)(kp:KP P n){w:Wd}{op:Int}(ho:Opr op)(hw:w≠[]){h0 h:Hp}{g:Nat}{s:RS}(D:RdAt h0 h g s)(E:EnvQ h0 h g)(S:SOk n s){R:Value→Hp→Prop}(hK:∀ a c h',RdAt h0 h' g (rowP P [(w,op)] s).2→NdAt h h' a (rowP P [(w,op)] s).1.length (rowP P [(w,op)] s).1→Mut (At g) h (At g) h'→R (vsl a (rowP P [(w,op)] s).1.length c) h') :
  SemOK Tryz.prog (Instr.makeMap 199 none) h fun v1 h2=>∃(y3:Value),v1=y3∧(SemOKu Tryz.prog (Instr.mapUpdate 199 y3 (vs (bs w)) (vi op)) h2 fun h4=>(∀(b5:Nat),h4 b5=none→let h6:Hp:=Hp.set h4 b5 (cellsO [(vs (bs w))] 9);(CallOK Tryz.prog 131 [(vhp g 0),(Value.func (.func f) #[(vhp g 0)] #[]),y3,(vsl (some (⟨b5,0,none⟩:Addr)) 1 1)] h6 fun v7 h8=>∃(a9:Option Addr) (n9 c9:Nat),v7=(vsl a9 n9 c9)∧R (vsl a9 n9 c9) h8))):=by
 refine sem_makeMap fun b hb=>⟨_,rfl,?_⟩
 refine sem_mapS (Hp.set_same _ _ _) rfl ?_
 intro b5 hb5 h6
 have hbg:b≠g:=fun e=>by rw [e] at hb;exact D.al hb
 have l1:h.le (h.set b (.map #[] 0)):=Hp.le_set (Hp.le_refl h) hb _
 rw [Hp.set_set] at hb5
 have l2:h.le h6:=by
  have:h6=(h.set b (.map (#[].push { key:=vs (bs w),val:=vi op,born:=0 }) (0+1))).set b5 (cellsO [vs (bs w)] 9):=by
   show ((h.set b _).set b _).set b5 _=_
   rw [Hp.set_set]
  rw [this]
  exact Hp.le_trans (Hp.le_set (Hp.le_refl h) hb _) (Hp.le_set (Hp.le_refl _) hb5 _)
 have hb6:h6 b=some (.map (#[].push { key:=vs (bs w),val:=vi op,born:=0 }) (0+1)):=by
  have hne:b≠b5:=fun e=>by rw [e,Hp.set_same] at hb5;cases hb5
  show (((h.set b _).set b _).set b5 _) b=_
  rw [Hp.set_other _ _ hne,Hp.set_same]
 have D6:=D.le l2
 have hb5g:b5≠g:=fun e=>by
  subst e
  have:(h.set b (.map (#[].push { key:=vs (bs w),val:=vi op,born:=0 }) (0+1))) b5≠none:=by rw [Hp.set_other _ _ hbg.symm];exact D.al
  exact this hb5
 refine reader_row_ok B F kp (ops:=[(w,op)]) (by simpa using ho) (by simpa using hw) (by simp) D6 (E.mut (Mut.of_le l2)) S ⟨slb_one _ b5 w,fun b' o e=>by cases e;exact hb5g⟩ (fun h' M w' hw'=>?_) fun a c h' D' N' M'=>⟨_,_,_,rfl,?_⟩
 ·have e:w'=w:=by simpa using hw'
  subst e
  have ho:opOf [(w',op)] w'=op:=by simp [opOf]
  rw [ho]
  have hm:h' b=_:=M.keep b _ (fun e=>hbg e) hb6
  refine rd_mapS hm (i:=0) ?_
  show Instr.findNow .string (vs (bs w')) [{ key:=vs (bs w'),val:=vi op,born:=0 }] 0=_
  simp [Instr.findNow,Instr.sameNow,(Go.MapKept.bytes_beq (bs w') (bs w')).2 rfl]
 ·exact hK a c h' D' (N'.base (le_up l2)) ((Mut.of_le l2).trans M')
theorem reader_product_ok {P:Ps}{n:Nat}(F:Reads 207 P n)(kp:KP P n):Reads 203 (rowP P [(wStar,8)]) n:=by
 intro h0 h g s D E S R hK
 refine ok_query_reader_product ?_
 unfold VC_query_reader_product
 exact reader_one_ok ⟨_,Tryz.func207,by kernel_rfl,by kernel_rfl⟩ F kp (by decide) (by decide) D E S hK
theorem reader_and_ok {P:Ps}{n:Nat}(F:Reads 166 P n)(kp:KP P n):Reads 132 (rowP P [(wAnd,9)]) n:=by
 intro h0 h g s D E S R hK
 refine ok_query_reader_and ?_
 unfold VC_query_reader_and
 exact reader_one_ok ⟨_,Tryz.func166,by kernel_rfl,by kernel_rfl⟩ F kp (by decide) (by decide) D E S hK
theorem reader_or_ok {P:Ps}{n:Nat}(F:Reads 132 P n)(kp:KP P n):Reads 84 (rowP P [(wOr,10)]) n:=by
 intro h0 h g s D E S R hK
 refine ok_query_reader_or ?_
 unfold VC_query_reader_or
 exact reader_one_ok ⟨_,Tryz.func132,by kernel_rfl,by kernel_rfl⟩ F kp (by decide) (by decide) D E S hK
theorem reader_sum_ok {P:Ps}{n:Nat}(F:Reads 203 P n)(kp:KP P n):Reads 197 (rowP P [(wPlus,6),(wMinus,7)]) n:=by
 intro h0 h g s D E S R hK
 refine ok_query_reader_sum ?_
 unfold VC_query_reader_sum
 refine sem_makeMap fun b hb=>⟨_,rfl,?_⟩
 refine sem_mapS (w:=wPlus) (Hp.set_same _ _ _) rfl ?_
 refine sem_mapS (w:=wMinus) (Hp.set_same _ _ _) rfl ?_
 rw [Hp.set_set,Hp.set_set]
 generalize hM:Obj.map _ _=ob
 intro b5 hb5 h6
 have hbg:b≠g:=fun e=>by rw [e] at hb;exact D.al hb
 have l2:h.le h6:=Hp.le_trans (Hp.le_set (Hp.le_refl h) hb _) (Hp.le_set (Hp.le_refl _) hb5 _)
 have hb6:h6 b=some ob:=by
  have hne:b≠b5:=fun e=>by rw [e,Hp.set_same] at hb5;cases hb5
  show ((h.set b _).set b5 _) b=_
  rw [Hp.set_other _ _ hne,Hp.set_same]
 have D6:=D.le l2
 have hb5g:b5≠g:=fun e=>by
  subst e
  have:(h.set b ob) b5≠none:=by rw [Hp.set_other _ _ hbg.symm];exact D.al
  exact this hb5
 refine reader_row_ok ⟨_,Tryz.func203,by kernel_rfl,by kernel_rfl⟩ F kp (ops:=[(wPlus,6),(wMinus,7)]) (by decide) (by decide) (by simp) D6 (E.mut (Mut.of_le l2)) S ⟨slb_lit _ b5 [wPlus,wMinus] (by decide),fun b' o e=>by cases e;exact hb5g⟩ (fun h' M w' hw'=>?_) fun a c h' D' N' M'=>⟨_,_,_,rfl,?_⟩
 ·have hm:h' b=some ob:=M.keep b _ (fun e=>hbg e) hb6
  rw [←hM] at hm
  have e:w'=wPlus∨w'=wMinus:=by simpa using hw'
  rcases e with rfl|rfl
  ·exact rd_mapS hm (i:=0) rfl
  ·exact rd_mapS hm (i:=1) rfl
 ·exact hK a c h' D' (N'.base (le_up l2)) ((Mut.of_le l2).trans M')
theorem reads_step {t:Three}{n:Nat}(h:KP t.o n∧KP t.n n∧KP t.u n)(H:Reads 84 t.o n∧Reads 166 t.n n∧Reads 207 t.u n):Reads 84 (orS t) (n+1)∧Reads 166 (notS t) (n+1)∧Reads 207 (unS t) (n+1):=by
 obtain⟨k1,k2,k3,k4,k5,k6,k7⟩:=keeps_S h
 have h1:Reads 207 (unS t) (n+1):=reader_unary_ok H.2.2 h.2.2 (reader_atom_ok H.1 h.1)
 have h2:Reads 203 (prodS t) (n+1):=reader_product_ok h1 k3
 have h3:Reads 197 (sumS t) (n+1):=reader_sum_ok h2 k4
 have h4:Reads 186 (cmpS t) (n+1):=reader_compare_ok h3 k5
 have h5:Reads 166 (notS t) (n+1):=reader_not_ok H.2.1 h.2.1 h4
 have h6:Reads 132 (andS t) (n+1):=reader_and_ok h5 k2
 exact⟨reader_or_ok h6 k7,h5,h1⟩
theorem reads_none (f:FuncId)(P:Ps):Reads f P 0:=by
 intro h0 h g s D E S R hK
 exact absurd S.len (Nat.not_lt_zero _)
theorem reads_all (n:Nat):Reads 84 (allP n).o n∧Reads 166 (allP n).n n∧Reads 207 (allP n).u n:=by
 induction n with
 | zero=>exact⟨reads_none _ _,reads_none _ _,reads_none _ _⟩
 | succ n ih=>rw [allP_succ];exact reads_step (keeps_all n) ih
theorem is_one {s:RS}{w:Wd}(hw:w≠[])(h:(s.is [w]).1=[]):(s.is [w]).2=s:=by
 rcases s.is_spec [w] with ⟨_,q⟩|⟨w',r,_,hm,q,_⟩
 ·exact q
 ·rw [h] at q
  rw [←q] at hm
  exact absurd (List.mem_singleton.1 hm).symm hw
theorem reader_optional_ok {n:Nat}{h0 h:Hp}{g:Nat}{s:RS}(D:RdAt h0 h g s)(E:EnvQ h0 h g)(S:SOk n s){w:Wd}(hw:w≠[]){d:Int}{R:Value→Hp→Prop}(hK:∀ h',RdAt h0 h' g (optN w d s).2→Mut (At g) h (At g) h'→R (vi (optN w d s).1) h'):CallOK Tryz.prog 86 [vhp g 0,vs (bs w),vi d] h R:=by
 refine ok_query_reader_optional ?_
 unfold VC_query_reader_optional
 intro b1 hb1 h2
 have hl:h.le h2:=Hp.le_set (Hp.le_refl h) hb1 _
 have hb:=S.big
 have io:=@is_one s w hw
 have gi:=goes_is S.good [w]
 unfold optN at hK
 refine reader_is_ok (D.le hl) (slb_one h b1 w) (by decide) (by omega) fun h4 D4 M4=>⟨_,rfl,?_⟩
 have M04:Mut (At g) h (At g) h4:=(Mut.of_le hl).trans M4
 refine⟨_,rd_eqBs (b:=[]),fun e=>?_,fun e=>?_⟩
 ·have e:=of_decide_eq_true e
  rw [if_pos e] at hK
  rw [io e] at D4
  exact hK h4 D4 M04
 ·have e:=of_decide_eq_false e
  rw [if_neg e] at hK
  exact reader_number_ok D4 (E.mut M04) (by have:=gi.len;omega) (by decide) (by decide) fun h9 D9 M9=>⟨_,rfl,hK h9 D9 (M04.trans M9)⟩
theorem idx_aggs {w:Wd}(h:w ∈ [[],wCount,wSum,wMin,wMax]):w ∈ aggsW∧(aggsW.idxOf w:Int)=aggKind w:=by
 have h2:w=[]∨w=wCount∨w=wSum∨w=wMin∨w=wMax:=by simpa using h
 rcases h2 with rfl|rfl|rfl|rfl|rfl<;>exact⟨by decide,by decide⟩
theorem reader_agg_ok {P:Ps}{n:Nat}(F:Reads 84 P n)(kp:KP P n){h0 h:Hp}{g:Nat}{s:RS}(D:RdAt h0 h g s)(E:EnvQ h0 h g)(S:SOk n s){R:Value→Hp→Prop}(hK:∀ a c h',RdAt h0 h' g (aggP P s).2→NdAt h h' a (aggP P s).1.2.length (aggP P s).1.2→Mut (At g) h (At g) h'→R (vag [vi (aggP P s).1.1,vsl a (aggP P s).1.2.length c]) h'):CallOK Tryz.prog 82 [vhp g 0] h R:=by
 refine ok_query_reader_agg ?_
 unfold VC_query_reader_agg
 intro b1 hb1 h2
 have hl:h.le h2:=Hp.le_set (Hp.le_refl h) hb1 _
 have hb:=S.big
 have gi:=goes_is S.good [wCount,wSum,wMin,wMax]
 have gm:=@is_mem s [wCount,wSum,wMin,wMax]
 unfold aggP at hK
 simp only at hK
 refine reader_is_ok (D.le hl) (slb_lit h b1 [wCount,wSum,wMin,wMax] (by decide)) (by decide) (by omega) fun h4 D4 M4=>⟨_,rfl,?_⟩
 have M04:Mut (At g) h (At g) h4:=(Mut.of_le hl).trans M4
 generalize s.is [wCount,wSum,wMin,wMax]=B at *
 obtain⟨w,s1⟩:=B
 simp -zeta only at hK D4 gi gm ⊢
 have S1:=S.goes gi
 have hwm:w ∈ [[],wCount,wSum,wMin,wMax]:=by
  by_cases e:w=[]
  ·rw [e];simp
  ·exact List.mem_cons_of_mem _ (gm e)
 obtain⟨hwa,hwi⟩:=idx_aggs hwm
 refine⟨_,rd_eqBs (b:=[]),?_⟩
 intro J11
 have hJ:∀(h12:Hp) (t:RS),t=(if w=[] then s1.fail 4 else s1)→RdAt h0 h12 g t→Mut (At g) h (At g) h12→Goes t s→J11 h12:=by
  intro h12 t ht D12 M12 Gt
  rw [←ht] at hK
  clear ht
  have St:=S.goes Gt
  refine reader_must_ok D12 (by have:=St.big;omega) fun h14 D14 M14=>⟨rfl,?_⟩
  have M014:=M12.trans M14
  have E14:=E.mut M014
  have G2:=Gt.trans (goes_must Gt.ok wOpen)
  obtain⟨qa,qc,hq,hqs⟩:=E14.now.a
  refine⟨_,_,_,hq,slices_Index_ok hqs (by decide) ⟨_,rfl,?_⟩⟩
  rw [if_pos hwa,hwi]
  have D14:RdAt h0 h14 g (t.must wOpen):=D14
  generalize t.must wOpen=s2 at *
  have S2:=S.goes G2
  intro J56
  have fin:∀(k:Int) (a:Option Addr) (c:Nat) (h66:Hp) (l:List Nd) (u:RS),RdAt h0 h66 g u→NdAt h h66 a l.length l→Mut (At g) h (At g) h66→SOk n u→(∀ a c h',RdAt h0 h' g (u.must wClose)→NdAt h h' a l.length l→Mut (At g) h (At g) h'→R (vag [vi k,vsl a l.length c]) h')→J56 k a l.length c h66:=by
   intro k a c h66 l u D66 N66 M66 Su hR
   exact reader_must_ok D66 (by have:=Su.big;omega) fun h68 D68 M68=>⟨rfl,hR a c h68 D68 (N66.mut D.al M68) (M66.trans M68)⟩
  clear_value J56
  have orK:∀{h26:Hp} (k:Int),RdAt h0 h26 g s2→Mut (At g) h (At g) h26→(∀ a c h',RdAt h0 h' g ((P s2).2.must wClose)→NdAt h h' a (P s2).1.length (P s2).1→Mut (At g) h (At g) h'→R (vag [vi k,vsl a (P s2).1.length c]) h')→CallOK Tryz.prog 84 [vhp g 0] h26 fun v31 h32=>∃(a33:Option Addr) (n33 c33:Nat),v31=vsl a33 n33 c33∧J56 k a33 n33 c33 h32:=by
   intro h26 k D26 M26 hR
   have k2:=kp s2 S2.good (Nat.le_of_lt S2.len)
   exact F D26 (E.mut M26) S2 fun a c h' D' N' M'=>⟨_,_,_,rfl,fin k a c h' _ _ D' (N'.base (M26.up D26.al)) (M26.trans M') (S2.goes k2.goes) hR⟩
  refine⟨_,rd_eqBs (b:=wCount),fun e=>?_,fun e=>?_⟩
  ·have ew:w=wCount:=of_decide_eq_true e
   have hk1:aggKind w=1:=by rw [ew];rfl
   intro b20 hb20 h21
   have l21:h14.le h21:=Hp.le_set (Hp.le_refl h14) hb20 _
   have M21:=M014.trans (Mut.of_le l21)
   have gi2:=goes_is S2.good [wStar]
   have io:=@is_one s2 wStar (by decide)
   refine⟨fun x hh=>x=.t (.one (.v (vs (bs (s2.is [wStar]).1))))∧RdAt h0 hh g (s2.is [wStar]).2∧Mut (At g) h (At g) hh,fun _=>reader_is_ok (D14.le l21) (slb_one h14 b20 wStar) (by decide) (by have:=S2.big;omega) fun h24 D24 M24=>⟨_,rfl,rfl,D24,M21.trans M24⟩,fun q=>absurd e q,?_⟩
   rintro h26 s27 ⟨e27,D26,M26⟩
   cases e27
   generalize s2.is [wStar]=C at *
   obtain⟨v,s3⟩:=C
   simp only at hK D26 gi2 io ⊢
   refine⟨_,fun _=>rd_neBs (b:=[]),fun q=>?_,fun q=>?_⟩
   ·have q2:v≠[]:=by simpa [ew] using q
    rw [if_pos ⟨ew,q2⟩] at hK
    rw [hk1]
    exact fin 1 none 0 h26 [] s3 D26 (nd_nil _ _) M26 (S2.goes gi2) hK
   ·have q2:v=[]:=by simpa [ew] using q
    rw [if_neg (by rintro⟨_,h⟩;exact h q2),if_pos ew] at hK
    rw [io q2] at D26
    refine⟨_,rd_eqBs (b:=wCount),fun q3=>orK 2 D26 M26 hK,fun q3=>absurd ew (of_decide_eq_false q3)⟩
  ·have e0:¬ w=wCount:=fun h=>e (decide_eq_true h)
   rw [if_neg (by rintro⟨h,_⟩;exact e0 h),if_neg e0] at hK
   refine⟨fun x hh=>x=.t (.one (.v (vs ⟨#[]⟩)))∧hh=h14,fun q=>absurd q e,fun _=>⟨rfl,rfl⟩,?_⟩
   rintro h43 s44 ⟨e43,rfl⟩
   cases e43
   refine⟨false,fun q=>absurd q e,fun q=>by simp at q,fun _=>?_⟩
   refine⟨_,rd_eqBs (b:=wCount),fun q3=>absurd (of_decide_eq_true q3) e0,fun q3=>orK (aggKind w) D14 M014 hK⟩
 clear_value J11
 refine⟨fun e=>?_,fun e=>?_⟩
 ·have e:=of_decide_eq_true e
  exact reader_fail_ok D4 (by decide) fun h8 D8 M8=>⟨rfl,hJ h8 _ (by rw [if_pos e]) D8 (M04.trans M8) (gi.trans (goes_fail _ _))⟩
 ·have e:=of_decide_eq_false e
  exact hJ h4 _ (by rw [if_neg e]) D4 M04 gi
theorem elAgg:ElT Tryz.prog 25 86 2 32:=.of (by kernel_rfl) (by kernel_rfl) (by decide)
abbrev AggB (G:Nat→Prop):=GTabB encN aggRw 2 86 G
theorem RdAt.keep {h0 h h':Hp}{g:Nat}{s:RS}(D:RdAt h0 h g s)(hb:h' g=h g)(l:h0.le h'):RdAt h0 h' g s:=by
 obtain⟨a,c,hb',hS,hc⟩:=D.b
 exact⟨⟨a,c,hb.trans hb',hS,hc⟩,l,D.n,D.w⟩
theorem agg_app {h0 hB h1:Hp}{g:Nat}{a:Option Addr}{c:Nat}{L:List Ag}{s:RS}(B:AggB (At g) h0 h1 a c L)(D:RdAt h0 h1 g s)(hBg:hB g≠none)(hBa:∀ b,a=some ⟨b,0,none⟩→hB b≠none){k:Int}{a2:Option Addr}{c2:Nat}{l:List Nd}(N:NdAt hB h1 a2 l.length l)(hL:L.length≤1000)
  {b:Nat} (hb:h1 b=none) {K:Value→Hp→Prop} (hK:∀ a' c' h',AggB (At g) h0 h' a' c' (L++[(k,l)])→RdAt h0 h' g s→K (vsl a' (L.length+1) c') h') :
  SemOK Tryz.prog (Builtin.append_ #[25,25] 25 #[vsl a L.length c,vsl (some ⟨b,0,none⟩) 1 1]) (h1.set b (cellsO [vi k,vsl a2 l.length c2] 86)) K:=by
 refine B.app (x:=k) (c2:=c2) elAgg (Hp.le_refl h1) (fun b' e=>by rw [show b'=g from e];exact hBg) hBa N.s.2 N.nw ?_ rfl (fun b' e=>by rw [show b'=g from e];exact D.al) (by omega) (by omega) hb fun a' c' h' B' hk=>hK a' c' h' B' ?_
 ·intro u hu
  have:u=vi k∨u=vsl a2 l.length c2:=by simpa [aggRw] using hu
  rcases this with rfl|rfl<;>rfl
 ·obtain⟨o,ho⟩:∃ o,h1 g=some o:=by
   cases e:h1 g with
   | none=>exact absurd e D.al
   | some o=>exact⟨o,rfl⟩
  exact D.keep ((hk g o ho (B.ne rfl)).trans ho.symm) B'.le0
theorem noQ_at (h:Hp):QAt h noQ none 0 none 0 none 0:=⟨⟨[],rfl,rfl,.inl rfl,fun r hr=>by cases hr⟩,⟨rfl,.inl rfl⟩,⟨rfl,.inl rfl⟩⟩
set_option maxHeartbeats 1000000 in
theorem query_Parse_ok {l:List UInt8}{h:Hp}(T:TabQ h){R:Value→Hp→Prop}(hK:∀ a1 n1 c1 a2 n2 c2 a3 n3 c3 h',h.le h'→QAt h' (parseQ l).1 a1 n1 a2 n2 a3 n3→R (vtup [qV a1 n1 c1 a2 n2 c2 a3 n3 c3 (parseQ l).1,ifv (errV (parseQ l).2)]) h'):CallOK Tryz.prog 40 [vs (bs l)] h R:=by
 refine ok_query_Parse ?_
 unfold VC_query_Parse
 refine lexer_Words_ok fun wa wn wc h2 O=>⟨_,_,_,_,rfl,?_⟩
 have lw:=wordsL_words l
 have l02:=O.le
 unfold parseQ at hK
 generalize wordsL l=WW at *
 obtain⟨W,fw⟩:=WW
 simp only at hK lw O
 show (Option.isSome (errV fw)=true→R (vtup [qV none 0 0 none 0 0 none 0 0 noQ,ifv (errV fw)]) h2)∧(Option.isSome (errV fw)=false→_)
 rw [errV_some]
 refine⟨fun e=>?_,fun e=>?_⟩
 ·have e2:fw≠0:=by simpa using e
  rw [if_pos e2] at hK
  exact hK none 0 0 none 0 0 none 0 0 h2 l02 (noQ_at h2)
 have e2:¬ fw≠0:=by simpa using e
 rw [if_neg e2] at hK
 clear e e2
 have hS:=O.slp encB_len (by decide)
 obtain rfl:=hS.1
 intro b6 hb6 h7
 have l7:h2.le h7:=Hp.le_set (Hp.le_refl h2) hb6 _
 have D7:RdAt h2 h7 b6 ⟨W,0,0⟩:=⟨⟨wa,wc,Hp.set_same _ _ _,hS,O.own.cap⟩,l7,hb6,fun x hx=>Nat.le_trans (lw.2 x hx) (by decide)⟩
 have E7:EnvQ h2 h7 b6:=⟨T.le l02,l7,hb6⟩
 have F:Reads 84 (allP (W.length+1)).o (W.length+1):=(reads_all (W.length+1)).1
 have kp:=(keeps_all (W.length+1)).1
 have g0:(⟨W,0,0⟩:RS).good:=fun h=>absurd rfl h
 have S7:SOk (W.length+1) ⟨W,0,0⟩:=⟨g0,Nat.lt_succ_self _,by show W.length≤1000;omega,Int.le_refl _,by show (0:Int)+(W.length:Int)≤1000000;omega⟩
 have hAll:=allA_ok W
 unfold parseW at hK
 rw [readQ_eq] at hK
 unfold allA firstA at hK hAll
 generalize (allP (W.length+1)).o=o at *
 have G1:=goes_must g0 wSelect
 refine reader_must_ok D7 (by show W.length≤1000000;omega) fun h9 D9 M9=>⟨rfl,?_⟩
 have D9:RdAt h2 h9 b6 ((⟨W,0,0⟩:RS).must wSelect):=D9
 generalize (⟨W,0,0⟩:RS).must wSelect=s1 at *
 have S9:=S7.goes G1
 have G2:=goes_agg kp S9.good (Nat.le_of_lt S9.len)
 have hs1:s1.ws.length≤80:=Nat.le_trans G1.len lw.1
 refine reader_agg_ok F kp D9 (E7.mut M9) S9 fun a13 c13 h11 D11 N11 M11=>⟨_,_,_,_,rfl,?_⟩
 generalize aggP o s1=A at *
 obtain⟨⟨k1,l1⟩,s2⟩:=A
 simp -zeta only at hK D11 N11 G2 hAll ⊢
 have S11:=S9.goes G2.1
 have l11:h2.le h11:=D11.l
 intro b14 hb14 h15
 refine agg_app (L:=[]) (a:=none) (c:=0) (hB:=h9) (k:=k1) (GTabB.nil l11) D11 D9.al (fun b e=>by cases e) N11 (by decide) hb14 fun a18 c18 h17 B17 D17=>⟨_,_,_,rfl,?_⟩
 intro J48
 -- the rest, behind what is gathered
 have hRest:∀(L:List Ag) (t:RS) (a:Option Addr) (c:Nat) (hE:Hp),AggB (At b6) h2 hE a c L→RdAt h2 hE b6 t→SOk (W.length+1) t→aggsP o (s2.ws.length+1) [(k1,l1)] s2=(L,t)→L.length≤1000→J48 a L.length c none 0 0 none 0 0 hE:=by
  intro L t a c hE BE DE SE hL hLn
  rw [hL] at hK hAll
  simp only at hK hAll
  have EE:EnvQ h2 hE b6:=⟨E7.t,DE.l,hb6⟩
  have hgE:=DE.al
  have hG2:∀ b,At b6 b→h2 b=none:=fun b e=>by rw [show b=b6 from e];exact hb6
  have G3:=goes_must SE.good wFrom
  refine reader_must_ok DE (by have:=SE.big;omega) fun h261 D261 M261=>⟨rfl,?_⟩
  have D261:RdAt h2 h261 b6 (t.must wFrom):=D261
  have S261:=SE.goes G3
  have G4:=G3.trans (goes_must G3.ok wEvents)
  refine reader_must_ok D261 (by have:=S261.big;omega) fun h263 D263 M263=>⟨rfl,?_⟩
  have D263:RdAt h2 h263 b6 ((t.must wFrom).must wEvents):=D263
  have ME:=M261.trans M263
  have S263:=SE.goes G4
  unfold restQ at hK
  generalize (t.must wFrom).must wEvents=t2 at *
  clear G3 D261 S261
  intro b264 hb264 h265
  have l265:h263.le h265:=Hp.le_set (Hp.le_refl h263) hb264 _
  have gi:=goes_is S263.good [wWhere]
  have io:=@is_one t2 wWhere (by decide)
  refine reader_is_ok (D263.le l265) (slb_one h263 b264 wWhere) (by decide) (by have:=S263.big;omega) fun h267 D267 M267=>⟨_,rfl,_,rd_neBs (b:=[]),?_⟩
  have D267:RdAt h2 h267 b6 (t2.is [wWhere]).2:=D267
  have M267':=(ME.trans (Mut.of_le l265)).trans M267
  intro J275
  have h275:∀(wh:List Nd) (aw:Option Addr) (cw:Nat) (u:RS) (h315:Hp),optP wWhere o t2=(wh,u)→RdAt h2 h315 b6 u→SOk (W.length+1) u→NdAt hE h315 aw wh.length wh→NdsOK wh→Mut (At b6) hE (At b6) h315→J275 aw wh.length cw h315:=by
   intro wh aw cw u h315 hw D315 S315 N315 Kw M315
   rw [hw] at hK
   simp only at hK
   unfold byQ at hK
   intro b316 hb316 h317
   have l317:h315.le h317:=Hp.le_set (Hp.le_refl h315) hb316 _
   have gi:=goes_is S315.good [wGroup]
   have io:=@is_one u wGroup (by decide)
   refine reader_is_ok (D315.le l317) (slb_one h315 b316 wGroup) (by decide) (by have:=S315.big;omega) fun h319 D319 M319=>⟨_,rfl,_,rd_neBs (b:=[]),?_⟩
   have D319:RdAt h2 h319 b6 (u.is [wGroup]).2:=D319
   have M319':=(M315.trans (Mut.of_le l317)).trans M319
   intro J329
   have h329:∀(by_:List Nd) (ab:Option Addr) (cb:Nat) (v:RS) (h354:Hp),optP wGroup (fun s=>o (s.must wBy)) u=(by_,v)→RdAt h2 h354 b6 v→SOk (W.length+1) v→NdAt hE h354 aw wh.length wh→NdAt hE h354 ab by_.length by_→NdsOK by_→Mut (At b6) hE (At b6) h354→J329 ab by_.length cb h354:=by
    intro by_ ab cb v h354 hv D354 S354 Nw N354 Kb M354
    rw [hv] at hK
    simp only at hK
    unfold endQ at hK
    simp only at hK
    have Ga:=goes_must S354.good wWindow
    refine reader_must_ok D354 (by have:=S354.big;omega) fun h356 D356 M356=>⟨rfl,?_⟩
    have D356:RdAt h2 h356 b6 (v.must wWindow):=D356
    have Sa:=S354.goes Ga
    generalize v.must wWindow=v1 at *
    have Gb:=goes_number Sa.good 1000
    refine reader_number_ok D356 (EE.mut (M354.trans M356)) (by have:=Sa.big;omega) (by decide) (by decide) fun h358 D358 M358=>⟨_,rfl,?_⟩
    have Sb:=Sa.goes Gb
    generalize v1.number 1000=Z at *
    obtain⟨z,v2⟩:=Z
    simp -zeta only at hK D358 Sb ⊢
    have Gc:=goes_optN Sb.good wSlide z
    refine reader_optional_ok (w:=wSlide) D358 (EE.mut ((M354.trans M356).trans M358)) Sb (by decide) fun h361 D361 M361=>⟨_,rfl,?_⟩
    have Sc:=Sb.goes Gc
    generalize optN wSlide z v2=Z at *
    obtain⟨sl,v3⟩:=Z
    simp -zeta only at hK D361 Sc ⊢
    have Gd:=goes_optN Sc.good wDelay 0
    refine reader_optional_ok (w:=wDelay) D361 (EE.mut (((M354.trans M356).trans M358).trans M361)) Sc (by decide) fun h364 D364 M364=>⟨_,rfl,?_⟩
    have Sd:=Sc.goes Gd
    generalize optN wDelay 0 v3=Z at *
    obtain⟨d,v4⟩:=Z
    simp -zeta only at hK D364 Sd ⊢
    have Ge:=goes_optN Sd.good wLate 0
    refine reader_optional_ok (w:=wLate) D364 (EE.mut ((((M354.trans M356).trans M358).trans M361).trans M364)) Sd (by decide) fun h367 D367 M367=>⟨_,rfl,?_⟩
    have Se:=Sd.goes Ge
    generalize optN wLate 0 v4=Z at *
    obtain⟨lt,v5⟩:=Z
    simp -zeta only at hK D367 Se ⊢
    have M367':=((((M354.trans M356).trans M358).trans M361).trans M364).trans M367
    have M36:=((((M356).trans M358).trans M361).trans M364).trans M367
    obtain⟨qa,qc,hq⟩:=D367.c0
    refine⟨_,D367.c2,_,_,_,fun _=>hq,?_⟩
    intro J374
    have h374:∀(h375:Hp) (y:RS),y.f=(if v5.f=0∧v5.ws≠[] then v5.fail 4 else v5).f→RdAt h2 h375 b6 y→Mut (At b6) h367 (At b6) h375→J374 h375:=by
     intro h375 y hy D375 M375
     rw [←hy] at hK
     have M375':=M367'.trans M375
     have BE2:AggB (At b6) h2 h375 a c L:=BE.keep hG2 M375'.keep
     have Nw2:=Nw.mut hgE (M36.trans M375)
     have N2:=N354.mut hgE (M36.trans M375)
     have QE:QAt h375 ⟨L,wh,by_,z,sl,d,lt⟩ a L.length aw wh.length ab by_.length:=⟨BE2.tab,Nw2.s,N2.s⟩
     refine⟨_,D375.c2,?_⟩
     intro J383
     have h383:∀(h384:Hp) (f:Int),h384.cell b6 (0+2)=some (ifv (errV f))→h.le h384→(f≠0→∀ h',h.le h'→R (vtup [qV none 0 0 none 0 0 none 0 0 noQ,ifv (errV f)]) h')→(f=0→R (vtup [qV a L.length c aw wh.length cw ab by_.length cb ⟨L,wh,by_,z,sl,d,lt⟩,ifv none]) h384)→J383 h384:=by
      intro h384 f hc lh hb hg
      refine⟨_,hc,fun e=>⟨_,hc,hc,?_⟩,fun e=>?_⟩
      ·rw [errV_some] at e
       exact hb (by simpa using e) h384 lh
      ·rw [errV_some] at e
       exact hg (by simpa using e)
     clear_value J383
     refine⟨fun e=>?_,fun e=>?_⟩
     ·rw [errV_none] at e
      have e:y.f=0:=of_decide_eq_true e
      rw [e,if_neg (fun h=>h rfl)] at hK
      have hbig:QBig ⟨L,wh,by_,z,sl,d,lt⟩:=⟨Nat.le_trans Kw.1 (by decide),Nat.le_trans Kb.1 (by decide),fun x hx=>Nat.le_trans (hAll x hx).1 (by decide),by show L.length≤1000000;omega⟩
      refine query_Check_ok (q:=⟨L,wh,by_,z,sl,d,lt⟩) (c1:=c) (c2:=cw) (c3:=cb) QE hbig fun h378 l378=>⟨errV (qryF ⟨L,wh,by_,z,sl,d,lt⟩),rfl,?_⟩
      refine(D375.le l378).put2 fun h380 D380 M380=>?_
      have lh:h.le h380:=Hp.le_trans l02 D380.l
      refine h383 h380 _ D380.c2 lh (fun hf h' l'=>?_) fun hf=>?_
      ·rw [if_pos hf] at hK
       exact hK none 0 0 none 0 0 none 0 0 h' l' (noQ_at h')
      ·rw [if_neg (fun h=>h hf)] at hK
       have M2:=(Mut.of_le l378).trans M380
       exact hK _ _ c _ _ cw _ _ cb h380 lh ⟨(BE2.keep hG2 M2.keep).tab,(Nw2.mut hgE M2).s,(N2.mut hgE M2).s⟩
     ·rw [errV_none] at e
      have e:y.f≠0:=of_decide_eq_false e
      rw [if_pos e] at hK
      refine h383 h375 y.f D375.c2 (Hp.le_trans l02 D375.l) (fun hf h' l'=>?_) fun hf=>absurd hf e
      exact hK none 0 0 none 0 0 none 0 0 h' l' (noQ_at h')
    clear_value J374
    have hcond:(bif Option.isNone (errV v5.f) then decide (((v5.ws.length:Nat):Int) > 0) else false)=decide (v5.f=0∧v5.ws≠[]):=by
     rw [errV_none,cand]
     refine decide_eq_decide.2 ?_
     rw [ne_eq,nil_len]
     constructor
     ·rintro⟨h1,h2⟩;exact⟨h1,by omega⟩
     ·rintro⟨h1,h2⟩;exact⟨h1,by omega⟩
    rw [hcond]
    refine⟨fun e=>?_,fun e=>?_⟩
    ·have e:=of_decide_eq_true e
     refine(D367.put2 (f:=4) fun h371 D371 M371=>h374 h371 _ ?_ D371 M371)
     rw [if_pos e]
     unfold RS.fail
     rw [if_pos e.1]
    ·have e:=of_decide_eq_false e
     exact h374 h367 v5 (by rw [if_neg e]) D367 (Mut.of_le (Hp.le_refl _))
   clear_value J329
   have Nw:=(N315.mut hgE ((Mut.of_le l317).trans M319))
   refine⟨fun e=>?_,fun e=>?_⟩
   ·have e:(u.is [wGroup]).1≠[]:=by simpa using e
    have hop:optP wGroup (fun s=>o (s.must wBy)) u=o ((u.is [wGroup]).2.must wBy):=by unfold optP;rw [if_neg e]
    rw [hop] at h329
    have Su:=S315.goes gi
    have Gy:=goes_must Su.good wBy
    refine reader_must_ok D319 (by have:=Su.big;omega) fun h323 D323 M323=>⟨rfl,?_⟩
    have D323:RdAt h2 h323 b6 ((u.is [wGroup]).2.must wBy):=D323
    have S323:=Su.goes Gy
    have k2:=kp _ S323.good (Nat.le_of_lt S323.len)
    have M323':=M319'.trans M323
    refine F D323 (EE.mut M323') S323 fun a c h325 D325 N325 M325=>⟨_,_,_,rfl,?_⟩
    exact h329 _ _ _ _ h325 rfl D325 (S323.goes k2.goes) ((Nw.mut hgE M323).mut hgE M325) (N325.base (M323'.up D323.al)) k2.nds (M323'.trans M325)
   ·have e:(u.is [wGroup]).1=[]:=by simpa using e
    have hop:optP wGroup (fun s=>o (s.must wBy)) u=([],u):=by unfold optP;rw [if_pos e]
    rw [io e] at D319
    exact h329 [] none 0 u h319 hop D319 S315 Nw (nd_nil _ _) nds_nil M319'
  clear_value J275
  refine⟨fun e=>?_,fun e=>?_⟩
  ·have e:(t2.is [wWhere]).1≠[]:=by simpa using e
   have hop:optP wWhere o t2=o (t2.is [wWhere]).2:=by unfold optP;rw [if_neg e]
   rw [hop] at h275
   have Su:=S263.goes gi
   have k2:=kp _ Su.good (Nat.le_of_lt Su.len)
   refine F D267 (EE.mut M267') Su fun a c h271 D271 N271 M271=>⟨_,_,_,rfl,?_⟩
   exact h275 _ _ _ _ h271 rfl D271 (Su.goes k2.goes) (N271.base (M267'.up D267.al)) k2.nds (M267'.trans M271)
  ·have e:(t2.is [wWhere]).1=[]:=by simpa using e
   have hop:optP wWhere o t2=([],t2):=by unfold optP;rw [if_pos e]
   rw [io e] at D267
   exact h275 [] none 0 t2 h267 hop D267 S263 (nd_nil _ _) nds_nil M267'
 clear_value J48
 -- what is gathered, one behind the other
 refine⟨fun vs' hh=>∃(k:Nat) (L:List Ag) (t:RS) (a:Option Addr) (c:Nat),vs'=[vsl a L.length c,vsl none 0 0,vsl none 0 0,vi 0,vi 0,vi 0,vi 0]∧AggB (At b6) h2 hh a c L∧RdAt h2 hh b6 t∧SOk (W.length+1) t∧t.ws.length < k∧aggsP o (s2.ws.length+1) [(k1,l1)] s2=aggsP o k L t∧L.length+t.ws.length≤100,fun _ hh=>wordsN hh b6,⟨_,[(k1,l1)],s2,a18,c18,rfl,B17,D17,S11,Nat.lt_succ_self _,rfl,?_⟩,?_⟩
 ·have:=G2.1.len
  show 1+s2.ws.length≤100
  omega
 rintro vs' hh ⟨k,L,t,a,c,rfl,B,D,S,hk,hrow,hL⟩
 obtain⟨k,rfl⟩:∃ j,k=j+1:=⟨k - 1,by omega⟩
 have hst:aggsP o (k+1) L t=if (t.is [wComma]).1=[] then(L,t) else aggsP o k (L++[(aggP o (t.is [wComma]).2).1]) (aggP o (t.is [wComma]).2).2:=rfl
 rw [hst] at hrow
 clear hst
 refine⟨_,_,_,_,_,_,_,_,_,_,_,_,_,rfl,?_⟩
 intro b31 hb31 h32
 have l32:hh.le h32:=Hp.le_set (Hp.le_refl hh) hb31 _
 have gi:=goes_is S.good [wComma]
 have io:=@is_one t wComma (by decide)
 have tk:=@taken t [wComma]
 have hG2:∀ b,At b6 b→h2 b=none:=fun b e=>by rw [show b=b6 from e];exact hb6
 have hwn:=D.wn
 refine reader_is_ok (D.le l32) (slb_one hh b31 wComma) (by decide) (by have:=S.big;omega) fun h34 D34 M34=>⟨_,rfl,_,rd_neBs (b:=[]),fun e=>?_,fun e=>?_⟩
 ·have e:(t.is [wComma]).1≠[]:=by simpa using e
  rw [if_neg e] at hrow
  have tk:=tk e
  have D34:RdAt h2 h34 b6 (t.is [wComma]).2:=D34
  have B34:=(B.grow l32).keep hG2 M34.keep
  have St:=S.goes gi
  have Ga:=goes_agg kp St.good (Nat.le_of_lt St.len)
  have E34:EnvQ h2 h34 b6:=⟨E7.t,D34.l,hb6⟩
  refine reader_agg_ok F kp D34 E34 St fun a42 c42 h40 D40 N40 M40=>⟨_,_,_,_,rfl,?_⟩
  generalize aggP o (t.is [wComma]).2=A at *
  obtain⟨⟨k2,l2⟩,t2⟩:=A
  simp -zeta only at hrow D40 N40 Ga ⊢
  have B40:=B34.keep hG2 M40.keep
  intro b43 hb43 h44
  have hlen:=Ga.1.len
  refine agg_app (hB:=h34) (k:=k2) B40 D40 D34.al (fun b e=>B34.al e) N40 (by omega) hb43 fun a47 c47 h46 B46 D46=>⟨_,_,_,rfl,⟨k,L++[(k2,l2)],t2,a47,c47,by simp,B46,D46,St.goes Ga.1,by omega,hrow,by simp;omega⟩,?_⟩
  have h46n:=D46.wn
  show wordsN h46 b6 < wordsN hh b6
  omega
 ·have e:(t.is [wComma]).1=[]:=by simpa using e
  rw [if_pos e] at hrow
  rw [io e] at D34
  exact hRest L t a c h34 ((B.grow l32).keep hG2 M34.keep) D34 S hrow (by omega)
def PosL (l:List Nd):Prop:=∀ n ∈ l,0≤n.v.2
def PP (P:Ps):Prop:=∀ s,PosL (P s).1
theorem pos_one {n:Nd}(h:0≤n.v.2):PosL [n]:=fun m hm=>by rw [List.mem_singleton.1 hm];exact h
theorem pos_join {op:Int}{x y:List Nd}(hx:PosL x)(hy:PosL y):PosL (joinL op x y):=by
 intro n hn
 unfold joinL at hn
 rcases List.mem_append.1 hn with h|h
 ·rcases List.mem_append.1 h with h|h
  ·exact hx n h
  ·obtain⟨m,hm,rfl⟩:=List.mem_map.1 h
   exact hy m hm
 ·rw [List.mem_singleton.1 h]
  exact Int.le_refl _
theorem pos_joinP {op:Int}{x y:List Nd}{s:RS}(hx:PosL x)(hy:PosL y):PosL (joinP op x y s).1:=by
 unfold joinP
 split
 ·exact pos_one (by decide)
 ·exact pos_join hx hy
theorem pos_nil:PosL []:=fun n h=>by cases h
theorem number_pos (s:RS)(m:Int):0≤(s.number m).1:=by
 unfold RS.number
 split
 ·exact Int.le_refl _
 ·split
  ·exact Int.le_refl _
  ·rename_i h;simp only;omega
theorem pp_down {P:Ps}(h:PP P):PP (downP P):=by
 intro s
 unfold downP
 exact h _
theorem pp_atom {o:Ps}(h:PP o):PP (atomP o):=by
 intro s
 unfold atomP
 simp only
 split
 ·exact pp_down h _
 ·split
  ·refine pos_one ?_
   simp only
   unfold constV
   split
   ·decide
   ·simp only
    split<;>decide
  ·split
   ·exact pos_one (number_pos _ _)
   ·exact pos_one (Int.le_refl _)
theorem pp_unary {u a:Ps}(hu:PP u)(ha:PP a):PP (unaryP u a):=by
 intro s
 unfold unaryP
 split
 ·exact ha s
 ·exact pos_joinP (pp_down hu _) pos_nil
theorem pp_not {u a:Ps}(hu:PP u)(ha:PP a):PP (notP u a):=by
 intro s
 unfold notP
 split
 ·exact ha s
 ·exact pos_joinP (pp_down hu _) pos_nil
theorem pp_rowL {P:Ps}(h:PP P){ops:List (Wd × Int)}:∀(k:Nat) (x:List Nd) (s:RS),PosL x→PosL (rowL P ops k x s).1
 | 0,x,s,hx=>hx
 | k+1,x,s,hx=>by
  rw [rowL]
  split
  ·exact hx
  ·simp only
   split
   ·exact hx
   ·exact pp_rowL h k _ _ (pos_joinP hx (h _))
theorem pp_row {P:Ps}(h:PP P){ops:List (Wd × Int)}:PP (rowP P ops):=fun s=>pp_rowL h _ _ _ (h s)
theorem pp_cmp {P:Ps}(h:PP P):PP (cmpP P):=by
 intro s
 unfold cmpP
 simp only
 split
 ·exact pos_joinP (h _) (h _)
 ·split
  ·exact pos_joinP (h _) (h _)
  ·split
   ·exact pos_joinP (pos_joinP (h _) (h _)) pos_nil
   ·split
    ·exact pos_joinP (pos_joinP (h _) (h _)) pos_nil
    ·split
     ·exact pos_joinP (h _) (h _)
     ·split
      ·exact pos_joinP (pos_joinP (h _) (h _)) pos_nil
      ·split
       ·split
        ·exact pos_joinP (pos_joinP (h _) pos_nil) pos_nil
        ·exact pos_joinP (h _) pos_nil
       ·exact h _
theorem pp_S {t:Three}(ho:PP t.o)(hn:PP t.n)(hu:PP t.u):PP (orS t)∧PP (notS t)∧PP (unS t):=by
 have h1:PP (unS t):=pp_unary hu (pp_atom ho)
 have h3:PP (sumS t):=pp_row (pp_row h1)
 have h5:PP (notS t):=pp_not hn (pp_cmp h3)
 exact⟨pp_row (pp_row h5),h5,h1⟩
theorem pp_noP:PP noP:=fun s=>pos_one (by decide)
theorem pp_all (n:Nat):PP (allP n).o∧PP (allP n).n∧PP (allP n).u:=by
 induction n with
 | zero=>exact⟨pp_noP,pp_noP,pp_noP⟩
 | succ n ih=>
  rw [allP_succ]
  exact pp_S ih.1 ih.2.1 ih.2.2
structure PosQ (q:Qy):Prop where
 g:∀ a ∈ q.aggs,PosL a.2
 w:PosL q.wh
 b:PosL q.by_
theorem pos_ite {c:Prop}[Decidable c]{x y:Ag × RS}(hx:PosL x.1.2)(hy:PosL y.1.2):PosL (if c then x else y).1.2:=by
 split
 ·exact hx
 ·exact hy
theorem pp_agg {o:Ps}(h:PP o)(s:RS):PosL (aggP o s).1.2:=by
 unfold aggP
 exact pos_ite pos_nil (h _)
theorem pp_aggs {o:Ps}(h:PP o):∀(k:Nat) (l:List Ag) (s:RS),(∀ a ∈ l,PosL a.2)→∀ a ∈ (aggsP o k l s).1,PosL a.2
 | 0,l,s,hl=>hl
 | k+1,l,s,hl=>by
  rw [aggsP]
  split
  ·exact hl
  ·refine pp_aggs h k _ _ fun a ha=>?_
   rcases List.mem_append.1 ha with h1|h1
   ·exact hl a h1
   ·rw [List.mem_singleton.1 h1];exact pp_agg h _
theorem pp_opt {P:Ps}(h:PP P){w:Wd}{s:RS}:PosL (optP w P s).1:=by
 unfold optP
 split
 ·exact pos_nil
 ·exact h _
theorem posQ_read (ws:List Wd):PosQ (readQ ws).1:=by
 have ho:=(pp_all (ws.length+1)).1
 rw [readQ_eq]
 generalize (allP (ws.length+1)).o=o at ho ⊢
 refine⟨pp_aggs ho _ _ _ fun a ha=>?_,pp_opt ho,pp_opt (fun s=>ho _)⟩
 rw [List.mem_singleton.1 ha];exact pp_agg ho _
theorem posQ_parse {s:List UInt8}(h:(parseQ s).2=0):QOk (parseQ s).1∧PosQ (parseQ s).1:=by
 unfold parseQ at h ⊢
 split at h
 ·rename_i h1;exact absurd h h1
 ·rename_i h1
  rw [if_neg h1]
  unfold parseW at h ⊢
  split at h
  ·rename_i h2;exact absurd h h2
  ·rename_i h2
   rw [if_neg h2]
   split at h
   ·rename_i h3;exact absurd h h3
   ·rename_i h3
    rw [if_neg h3]
    exact⟨qok_of (Decidable.not_not.1 h3),posQ_read _⟩
end Go.Proofs.YtiflgceoamkmnaaGreatDoor
namespace Go.Proofs.YtiflgceoamkmnaaGreatDoor
open Go Go.Vc
def VC_top_asked (u0:ByteArray)(h:Hp)(R:Value→Hp→Prop):Prop:=
 (((decide ((((ByteArray.size u0:Nat):Int):Int) > 400))=true→R (vtup [vag [vsl none 0 0,vsl none 0 0,vsl none 0 0,vi 0,vi 0,vi 0,vi 0],vb false]) h)∧((decide ((((ByteArray.size u0:Nat):Int):Int) > 400))=false→(CallOK Tryz.prog 40 [vs u0] h fun v2 h3=>∃ a4 n4 c4 a5 n5 c5 a6 n6 c6 x7 x8 x9 x10 e11,v2=(vtup [vag [vsl a4 n4 c4,vsl a5 n5 c5,vsl a6 n6 c6,vi x7,vi x8,vi x9,vi x10],ifv e11])∧R (vtup [vag [vsl a4 n4 c4,vsl a5 n5 c5,vsl a6 n6 c6,vi x7,vi x8,vi x9,vi x10],(vb (Option.isNone e11))]) h3)))
theorem ok_top_asked {u0 h R}(H:VC_top_asked u0 h R):CallOK Tryz.prog 21 [vs u0] h R:=
 call_of (cfg:=⟨[],[],[(4,[0,1,2,3,4])]⟩) noNG mixed Tryz.func21 [.one (.v (vs u0))] (by kernel_rfl) rfl (by kernel_rfl) H
open Go.Txt
theorem top_asked_ok {s:Wd}{h:Hp}(T:TabQ h){R:Value→Hp→Prop}(bad:∀ a1 n1 c1 a2 n2 c2 a3 n3 c3 x4 x5 x6 x7 h',h.le h'→R (vtup [vag [vsl a1 n1 c1,vsl a2 n2 c2,vsl a3 n3 c3,vi x4,vi x5,vi x6,vi x7],vb false]) h')
  (hK:(parseQ s).2=0→QOk (parseQ s).1→∀ a1 n1 c1 a2 n2 c2 a3 n3 c3 h',h.le h'→QAt h' (parseQ s).1 a1 n1 a2 n2 a3 n3→R (vtup [qV a1 n1 c1 a2 n2 c2 a3 n3 c3 (parseQ s).1,vb true]) h'):CallOK Tryz.prog 21 [vs (bs s)] h R:=by
 refine ok_top_asked ?_
 unfold VC_top_asked
 refine⟨fun e=>bad _ _ _ _ _ _ _ _ _ _ _ _ _ h (Hp.le_refl _),fun _=>?_⟩
 refine query_Parse_ok T fun a1 n1 c1 a2 n2 c2 a3 n3 c3 h' l' Q=>⟨_,_,_,_,_,_,_,_,_,_,_,_,_,_,rfl,?_⟩
 rw [errV_none]
 by_cases hf:(parseQ s).2=0
 ·rw [decide_eq_true hf]
  exact hK hf (posQ_parse hf).1 a1 n1 c1 a2 n2 c2 a3 n3 c3 h' l' Q
 ·rw [decide_eq_false hf]
  exact bad _ _ _ _ _ _ _ _ _ _ _ _ _ h' l'
end Go.Proofs.YtiflgceoamkmnaaGreatDoor
namespace Go.Proofs.YtiflgceoamkmnaaGreatDoor
open Go Go.Vc
def VC_top_TopFold (u0:ByteArray)(u1:Option Addr)(u2 u3:Nat)(h:Hp)(R:Value→Hp→Prop):Prop:=
 (CallOK Tryz.prog 32 [vb true] h fun v1 h2=>∃ x3 x4,v1=(vag [vi x3,vi x4])∧(∀ b5,h2 b5=none→let h6:= Hp.set h2 b5 (cellsO [vi 1,vi 0,vi 0,vi 0,vi x3,vi x4,vi 4,vi 0,vi 0,vi 0,vi 0,vi 0] 83);(CallOK Tryz.prog 31 [(vsl (some (⟨b5,0,none⟩:Addr)) 2 2)] h6 fun v7 h8=>∃ a9 n9 c9,v7=(vsl a9 n9 c9)∧(∃ b10 o11,((decide ((n9:Int)≠1))=false→(a9=some ⟨b10,o11,none⟩∧(0:Int)≤0∧0 < (n9:Int)))∧(∃ x12 x13,((decide ((n9:Int)≠1))=false→Hp.row h8 b10 ((o11+(0:Int).toNat*6)+4) 2=some [vi x12,vi x13])∧(∃(J14:SV→Hp→Prop),((decide ((n9:Int)≠1))=false→(CallOK Tryz.prog 32 [vb false] h8 fun v15 h16=>∃ x17 x18,v15=(vag [vi x17,vi x18])∧J14 (.t (.ag [.v (vi x17),.v (vi x18)])) h16))∧(¬((decide ((n9:Int)≠1))=false)→J14 (.t (.ag [.v (vi 0),.v (vi 0)])) h8)∧∀ h19 x20 x21,J14 (.t (.ag [.v (vi x20),.v (vi x21)])) h19→(((decide ((n9:Int)≠1))=false→Hp.row h19 b10 ((o11+(0:Int).toNat*6)+4) 2=some [vi x12,vi x13])∧(∃ p22,((decide ((n9:Int)≠1))=false→Rd Tryz.prog ((eqGuard .neq 41 (.tmp 27) (.tmp 28) (vag [vi x12,vi x13]) (vag [vi x20,vi x21]) >>= fun _=>binOp .neq 41 (vag [vi x12,vi x13]) (vag [vi x20,vi x21]))) h19 (vb p22))∧(((bif (decide ((n9:Int)≠1)) then true else p22)=true→R (vb false) h19)∧((bif (decide ((n9:Int)≠1)) then true else p22)=false→(CallOK Tryz.prog 21 [vs u0] h19 fun v24 h25=>∃ a26 n26 c26 a27 n27 c27 a28 n28 c28 x29 x30 x31 x32 p33,v24=(vtup [vag [vsl a26 n26 c26,vsl a27 n27 c27,vsl a28 n28 c28,vi x29,vi x30,vi x31,vi x32],vb p33])∧(∃(J34:SV→Hp→Prop),((!p33)=false→(CallOK Tryz.prog 33 [vsl u1 u2 u3] h25 fun v35 h36=>∃ p37,v35=(vb p37)∧J34 (.t (.one (.v (vb p37)))) h36))∧(¬((!p33)=false)→J34 (.t (.one (.v (vb false)))) h25)∧∀ h38 p39,J34 (.t (.one (.v (vb p39)))) h38→(((bif (!p33) then true else(!p39))=true→R (vb true) h38)∧((bif (!p33) then true else(!p39))=false→(let J78:Option Addr→Nat→Nat→Option Addr→Nat→Nat→Option Addr→Nat→Nat→Int→Int→Int→Int→Hp→Prop:=fun a279 n279 c279 a280 n280 c280 a281 n281 c281 x282 x283 x284 x285 h286=>(let J295:Option Addr→Nat→Nat→Hp→Prop:=fun a304 n304 c304 h305=>(let J311:Option Addr→Nat→Nat→Hp→Prop:=fun a313 n313 c313 h314=>(CallOK Tryz.prog 34 [vag [vsl a279 n279 c279,vsl a304 n304 c304,vsl a313 n313 c313,vi x282,vi x283,vi x284,vi x285]] h314 fun v315 h316=>∃ e317,v315=(ifv e317)∧(((Option.isSome e317)=true→R (vb false) h316)∧((Option.isSome e317)=false→(CallOK Tryz.prog 35 [vag [vsl a26 n26 c26,vsl a27 n27 c27,vsl a28 n28 c28,vi x29,vi x30,vi x31,vi x32],vsl u1 u2 u3] h316 fun v319 h320=>∃ a321 n321 c321 x322,v319=(vtup [vsl a321 n321 c321,vi x322])∧(CallOK Tryz.prog 35 [vag [vsl a279 n279 c279,vsl a304 n304 c304,vsl a313 n313 c313,vi x282,vi x283,vi x284,vi x285],vsl u1 u2 u3] h320 fun v323 h324=>∃ a325 n325 c325 x326,v323=(vtup [vsl a325 n325 c325,vi x326])∧(∃(J327:SV→Hp→Prop),((decide (x322=x326))=true→(CallOK Tryz.prog 36 [vsl a321 n321 c321,vsl a325 n325 c325] h324 fun v328 h329=>∃ p330,v328=(vb p330)∧J327 (.t (.one (.v (vb p330)))) h329))∧(¬((decide (x322=x326))=true)→J327 (.t (.one (.v (vb false)))) h324)∧∀ h331 p332,J327 (.t (.one (.v (vb p332)))) h331→R (vb (bif (decide (x322=x326)) then p332 else false)) h331))))));(((decide ((n28:Int) > 0))=true→(CallOK Tryz.prog 31 [vsl a28 n28 c28] h305 fun v306 h307=>∃ a308 n308 c308,v306=(vsl a308 n308 c308)∧(J311 a308 n308 c308 h307)))∧((decide ((n28:Int) > 0))=false→(J311 a281 n281 c281 h305))));(((decide ((n27:Int) > 0))=true→(CallOK Tryz.prog 31 [vsl a27 n27 c27] h286 fun v287 h288=>∃ a289 n289 c289,v287=(vsl a289 n289 c289)∧(CallOK Tryz.prog 31 [vsl a289 n289 c289] h288 fun v290 h291=>∃ a292 n292 c292,v290=(vsl a292 n292 c292)∧(((bif (decide ((n292:Int) > (n289:Int))) then true else(decide ((n289:Int) > (n27:Int))))=true→R (vb false) h291)∧((bif (decide ((n292:Int) > (n289:Int))) then true else(decide ((n289:Int) > (n27:Int))))=false→(J295 a289 n289 c289 h291))))))∧((decide ((n27:Int) > 0))=false→(J295 a280 n280 c280 h286))));(∃(I42:List Value→Hp→Prop) (m43:List Value→Hp→Nat),I42 [vi 0,vsl none 0 0,vsl a27 n27 c27,vsl a28 n28 c28,vi x29,vi x30,vi x31,vi x32] h38∧∀ vs44 h45,I42 vs44 h45→∃ x46 a47 n47 c47 a48 n48 c48 a49 n49 c49 x50 x51 x52 x53,vs44=[vi x46,vsl a47 n47 c47,vsl a48 n48 c48,vsl a49 n49 c49,vi x50,vi x51,vi x52,vi x53]∧(((decide (x46 < (n26:Int)))=true→(∃ b56 o57,(a26=some ⟨b56,o57,none⟩∧(0:Int)≤x46∧x46 < (n26:Int))∧(∃ x58 a59 n59 c59,(Hp.row h45 b56 (o57+x46.toNat*2) 2=some [vi x58,vsl a59 n59 c59])∧(let J65:Option Addr→Nat→Nat→Hp→Prop:=fun a69 n69 c69 h70=>(∀ b71,h70 b71=none→let h72:= Hp.set h70 b71 (cellsO [vi x58,vsl a69 n69 c69] 86);(SemOK Tryz.prog (Builtin.append_ #[25,25] 25 #[vsl a47 n47 c47,(vsl (some (⟨b71,0,none⟩:Addr)) 1 1)]) h72 fun v73 h74=>∃ a75 n75 c75,v73=(vsl a75 n75 c75)∧(∃ x77,(IsW x77 (x46+1))∧(I42 [vi x77,vsl a75 n75 c75,vsl a48 n48 c48,vsl a49 n49 c49,vi x50,vi x51,vi x52,vi x53] h74∧m43 [vi x77,vsl a75 n75 c75,vsl a48 n48 c48,vsl a49 n49 c49,vi x50,vi x51,vi x52,vi x53] h74 < m43 vs44 h45))));(((decide (x58≠1))=true→(CallOK Tryz.prog 31 [vsl a59 n59 c59] h45 fun v60 h61=>∃ a62 n62 c62,v60=(vsl a62 n62 c62)∧(J65 a62 n62 c62 h61)))∧((decide (x58≠1))=false→(J65 a59 n59 c59 h45)))))))∧((decide (x46 < (n26:Int)))=false→(J78 a47 n47 c47 a48 n48 c48 a49 n49 c49 x50 x51 x52 x53 h45)))))))))))))))))))
theorem ok_top_TopFold {u0 u1 u2 u3 h R}(H:VC_top_TopFold u0 u1 u2 u3 h R):CallOK Tryz.prog 8 [vs u0,vsl u1 u2 u3] h R:=
 call_of (cfg:=⟨[],[(10,([9],[.one (.int .i64)],[(1,[.slice,.slice,.slice,.int .i64,.int .i64,.int .i64,.int .i64])]))],[(2,[0,1,2,3,4,5,6,7,8,9,10]),(18,[0,1,4,5,6,2,3,7,8,9,10,11,12,13,14,15,16])]⟩) noNG mixed Tryz.func8 [.one (.v (vs u0)),.one (.v (vsl u1 u2 u3))] (by kernel_rfl) rfl (by kernel_rfl) H
open Go.RowKit Go.Txt
theorem fold_single_c {op:Int}(ho:arI op=1){v:Int × Int}(hv:goodV v){h:Hp}{a:Option Addr}{m c:Nat}(S:NS h a m c (cst v)){R:Value→Hp→Prop}
  (hK:∀ a' c' h',h.le h'→NS h' a' 1 c' (cst (opV op v v))→R (vsl a' 1 c') h'):CallOK Tryz.prog 65 [vi op,vsl a m c] h R:=by
 have A:Rep (fun _=>v) none 1 (cst v):=Rep.cst hv (by omega) (fun _ _=>rfl) (fun t ht=>by cases ht)
 have J:=A.join1 ho
 have WN:WfL ([]:List Nd):=okE_nil_wf
 refine ok_fold_single ?_
 unfold VC_fold_single
 refine fold_constant_c S.s ⟨_,_,true,rfl,fun _=>?_,fun g=>by cases g⟩
 refine fold_of_ok (v:=v) fun a8 c8 h7 l7 S8=>⟨_,_,_,rfl,?_⟩
 refine expr_Join_ok S8.s (⟨rfl,.inl rfl⟩:SlP encN h7 none 0 []) WN (by simp) (by simp) fun a11 c11 h10 V=>⟨_,_,_,rfl,?_⟩
 have hjl:(joinL op (cst v) []).length=2:=joinL_length _ _ _
 refine expr_Eval_ok (e:=ev0) (V.slp encN_len (by decide)) J.ok.wf (by omega) (by omega) fun h13 l13=>⟨_,_,rfl,?_⟩
 have ev:valE ev0 (joinL op (cst v) [])=opV op v v:=J.val ev0 ev0_ok
 rw [ev]
 exact fold_of_ok (v:=opV op v v) fun a18 c18 h17 l17 S18=>⟨_,_,_,rfl,hK _ _ _ (Hp.le_trans (Hp.le_trans (Hp.le_trans l7 V.le0) l13) l17) S18⟩
abbrev nd2n:List Nd:=[⟨1,0,0,0,(2,1)⟩,⟨4,0,0,0,(0,0)⟩]
def S2n (s:List (List Nd))(i:Nat):Prop:=(i=0∧s=[])∨(i=1∧s=[cst (2,1)])∨(i=2∧s=[cst (2,0)])
theorem S2n_stp:Stp nd2n S2n where
 z:=.inl ⟨rfl,rfl⟩
 len:=fun s i F=>by
  rcases F with ⟨rfl,rfl⟩|⟨rfl,rfl⟩|⟨rfl,rfl⟩<;>decide
 stp:=fun s i n F hn=>by
  rcases F with ⟨rfl,rfl⟩|⟨rfl,rfl⟩|⟨rfl,rfl⟩
  ·cases hn
   exact .inl ⟨by decide,.inr (.inl ⟨rfl,rfl⟩)⟩
  ·cases hn
   refine .inr (.inl ⟨by decide,_,_,rfl,fun a m c h R N hR=>fold_single_c (by decide) (by decide) N fun a' c' h' l' SY=>hR _ _ _ _ _ l' SY (.inr (.inr ⟨rfl,?_⟩))⟩)
   decide +kernel
  ·cases hn
set_option maxHeartbeats 2000000 in
theorem law_TopFold_ok {s:Wd}{ps:List (List EvL)}{pa:Option Addr}{pn pc:Nat}{h:Hp}(TP:TabC encE h pa pn ps)(T:TabQ h):CallOK Tryz.prog 8 [vs (bs s),vsl pa pn pc] h fun v h'=>v=vb true∧h.le h':=by
 refine ok_top_TopFold ?_
 unfold VC_top_TopFold
 have hpn:pn=ps.length:=TP.r.choose_spec.2.1
 refine value_Truth_ok (b:=true) ⟨_,_,rfl,?_⟩
 intro b5 hb5 h6
 have l6:h.le h6:=Hp.le_set (Hp.le_refl h) hb5 _
 have S:SlP encN h6 (some ⟨b5,0,none⟩) 2 nd2n:=⟨rfl,HasRow.new _ _ (nd2n.flatMap encN) _⟩
 clear_value h6
 refine fold_Fold_gen (Z:=fun z=>z=cst (2,0)) S S2n_stp (fun s F=>?_) (by decide) fun a9 n9 c9 h8 z l8 SZ hz=>⟨_,_,_,rfl,?_⟩
 ·rcases F with ⟨h,_⟩|⟨h,_⟩|⟨_,rfl⟩
  ·cases h
  ·cases h
  ·exact⟨_,rfl,rfl⟩
 subst hz
 obtain rfl:=SZ.s.1
 obtain⟨b,o,ha,hr⟩:=SZ.s.get encN_len (by decide) (i:=0) rfl
 have A:a9=some ⟨b,o,none⟩∧(0:Int)≤0∧(0:Int) < ((cst (2,0)).length:Nat):=⟨ha,by decide,by simp⟩
 have hr2:=Hp.row_sub hr (i:=4) (k:=2) (by decide)
 refine⟨b,o,fun _=>A,_,_,fun _=>hr2,fun x hh=>hh=h8∧x=.t (.ag [.v (vi 2),.v (vi 0)]),fun _=>value_Truth_ok (b:=false) ⟨_,_,rfl,rfl,rfl⟩,fun e=>absurd (by simp) e,?_⟩
 rintro h19 x20 x21 ⟨rfl,e⟩
 cases e
 have l019:=Hp.le_trans l6 l8
 refine⟨fun _=>hr2,_,fun _=>rd_neqV (a:=(2,0)) (b:=(2,0)),fun e=>(by simp at e),fun _=>?_⟩
 refine top_asked_ok (T.le l019) (fun a1 n1 c1 a2 n2 c2 a3 n3 c3 x4 x5 x6 x7 h' l'=>⟨_,_,_,_,_,_,_,_,_,_,_,_,_,_,rfl,fun x hh=>h.le hh,fun e=>(by cases e),fun _=>Hp.le_trans l019 l',fun h38 p39 l38=>⟨fun _=>⟨rfl,l38⟩,fun e=>(by cases e)⟩⟩) ?_
 intro hf B a26 n26 c26 a27 n27 c27 a28 n28 c28 h25 l25 Q
 have l025:=Hp.le_trans l019 l25
 refine⟨_,_,_,_,_,_,_,_,_,_,_,_,_,_,rfl,?_⟩
 refine⟨fun x hh=>h25.le hh∧∃ p,x=.t (.one (.v (vb p)))∧(p=true→ps.length≤3∧∀ x ∈ ps,x.length≤40∧∀ e ∈ x,EvOK e),fun _=>top_light_ok (TP.le l025) fun p h' l' hp=>⟨_,rfl,l',p,rfl,hp⟩,fun e=>absurd rfl e,?_⟩
 rintro h38 p39 ⟨l38,p,e,hp⟩
 cases e
 have l038:=Hp.le_trans l025 l38
 refine⟨fun _=>⟨rfl,l038⟩,fun e=>?_⟩
 have hpt:p39=true:=by cases p39 with|true=>rfl|false=>cases e
 obtain⟨h3,hps⟩:=hp hpt
 have Q38:=Q.le l38
 generalize (parseQ s).1=q at B Q38 ⊢
 clear Q hp hpt e
 have hE:∀ p ∈ ps,∀ e ∈ p,EvOK e:=fun p hp e he=>(hps p hp).2 e he
 have hl:∀ p ∈ ps,p.length≤100:=fun p hp=>by have:=(hps p hp).1;omega
 obtain⟨hm1,hm2⟩:=ansQ_many B (by omega) hl hE
 have hn26:n26=q.aggs.length:=Q38.g.len
 have hn27:n27=q.wh.length:=Q38.w.1
 have hn28:n28=q.by_.length:=Q38.b.1
 have hn4:=B.n2
 subst hn26 hn27 hn28
 intro J78
 have hJ78:∀(aA:Option Addr) (cA:Nat) (RA:List (GRow Nd Int)) (hk:Hp),h38.le hk→GTab encN aggRw hk aA q.aggs.length (growL RA)→(∀(j:Nat) (a b:Ag),q.aggs[j]?=some a→(growL RA)[j]?=some b→AggF a b) →
   J78 aA q.aggs.length cA a27 q.wh.length c27 a28 q.by_.length c28 q.size q.slide q.delay q.late hk:=by
  intro aA cA RA hk lk GA hag
  have Qk:=Q38.le lk
  dsimp -zeta only [J78]
  intro J295
  have hJ295:∀(aw:Option Addr) (cw:Nat) (z:List Nd) (hk2:Hp),hk.le hk2→SlP encN hk2 aw z.length z→(q.wh=[]→z=[])→(q.wh≠[]→Rep (fun e=>valE e q.wh) (tAt q.wh (q.wh.length - 1)) q.wh.length z)→J295 aw z.length cw hk2:=by
   intro aw cw z hk2 lk2 Sz z0 z1
   dsimp -zeta only [J295]
   intro J311
   have hJ311:∀(ab:Option Addr) (cb:Nat) (zb:List Nd) (hk3:Hp),hk2.le hk3→SlP encN hk3 ab zb.length zb→(q.by_=[]→zb=[])→(q.by_≠[]→Rep (fun e=>valE e q.by_) (tAt q.by_ (q.by_.length - 1)) q.by_.length zb)→J311 ab zb.length cb hk3:=by
    intro ab cb zb hk3 lk3 Sb b0 b1
    have F:FoldQ q ⟨growL RA,z,zb,q.size,q.slide,q.delay,q.late⟩:=⟨rfl,rfl,rfl,rfl,GA.len.symm,hag,z0,z1,b0,b1⟩
    have l23:=Hp.le_trans lk2 lk3
    have Qf:QAt hk3 ⟨growL RA,z,zb,q.size,q.slide,q.delay,q.late⟩ aA q.aggs.length aw z.length ab zb.length:=⟨GA.le l23,Sz.le lk3,Sb⟩
    have Bf:=F.ok B
    have l0k3:h.le hk3:=Hp.le_trans l038 (Hp.le_trans lk l23)
    obtain⟨ea1,ea2⟩:=F.ans hE
    refine query_Check_ok (q:=⟨growL RA,z,zb,q.size,q.slide,q.delay,q.late⟩) Qf (qbig_of Bf) fun h316 l316=>⟨_,rfl,?_⟩
    rw [errV_some,decide_eq_true (qryF_ok Bf)]
    refine⟨fun e=>(by cases e),fun _=>?_⟩
    have l0316:=Hp.le_trans l0k3 l316
    refine batch_Answer_ok (Qk.le (Hp.le_trans l23 l316)) B (TP.le l0316) (by omega) hl hE fun a321 c321 h320 l320 G=>⟨_,_,_,_,rfl,?_⟩
    have l0320:=Hp.le_trans l0316 l320
    refine batch_Answer_ok (q:=⟨growL RA,z,zb,q.size,q.slide,q.delay,q.late⟩) (Qf.le (Hp.le_trans l316 l320)) Bf (TP.le l0320) (by omega) hl hE fun a325 c325 h324 l324 G2=>⟨_,_,_,_,rfl,?_⟩
    rw [ea1] at G2 ⊢
    rw [ea2,decide_eq_true (rfl:((lateA q ps:Nat):Int)=_)]
    refine⟨fun x hh=>hh=h324∧x=.t (.one (.v (vb true))),fun _=>R_SamePanes_ok (G.le l324) G2 (by omega) hm2 ⟨_,rfl,rfl,rfl⟩,fun e=>absurd rfl e,?_⟩
    rintro h331 p332 ⟨rfl,e⟩
    cases e
    exact⟨rfl,Hp.le_trans l0320 l324⟩
   clear_value J311
   refine⟨fun e=>?_,fun e=>?_⟩
   ·have hne:q.by_≠[]:=fun q1=>by rw [q1] at e;exact absurd (of_decide_eq_true e) (by simp)
    obtain⟨OE,hlen⟩:=exprF_ok (B.b hne)
    refine fold_Fold_ok (Qk.b.le lk2) OE (by omega) fun az nz cz h307 zb l307 NSz Rp=>⟨_,_,_,rfl,?_⟩
    have:=NSz.s.1
    subst this
    exact hJ311 az cz zb h307 l307 NSz.s (fun q1=>absurd q1 hne) fun _=>Rp
   ·have he:q.by_=[]:=by
     have:=of_decide_eq_false e
     exact List.eq_nil_of_length_eq_zero (by omega)
    exact hJ311 a28 c28 q.by_ hk2 (Hp.le_refl _) (Qk.b.le lk2) (fun q1=>q1) fun q1=>absurd he q1
  clear_value J295
  refine⟨fun e=>?_,fun e=>?_⟩
  ·have hne:q.wh≠[]:=fun q1=>by rw [q1] at e;exact absurd (of_decide_eq_true e) (by simp)
   obtain⟨OE,hlen⟩:=exprF_ok (B.w hne)
   refine fold_Fold_ok Qk.w OE (by omega) fun az nz cz h288 z l288 NSz Rp=>⟨_,_,_,rfl,?_⟩
   have hz1:=NSz.s.1
   subst hz1
   have hzl:=Rp.len
   refine fold_Fold_ok NSz.s Rp.ok (by omega) fun a2z n2z c2z h291 z2 l291 NS2 Rp2=>⟨_,_,_,rfl,?_⟩
   have hz2:=NS2.s.1
   have hz2l:=Rp2.len
   have hc:(bif (decide (((n2z:Nat):Int) > ((z.length:Nat):Int))) then true else(decide (((z.length:Nat):Int) > ((q.wh.length:Nat):Int))))=false:=by
    rw [decide_eq_false (by omega),decide_eq_false (by omega)];rfl
   rw [hc]
   exact⟨fun e9=>(by cases e9),fun _=>hJ295 az cz z h291 (Hp.le_trans l288 l291) (NSz.s.le l291) (fun q1=>absurd q1 hne) fun _=>Rp⟩
  ·have he:q.wh=[]:=by
    have:=of_decide_eq_false e
    exact List.eq_nil_of_length_eq_zero (by omega)
   exact hJ295 a27 c27 q.wh hk (Hp.le_refl _) Qk.w (fun q1=>q1) fun q1=>absurd he q1
 clear_value J78
 have O0:=(Owns.nil (Hp.le_refl h38)).push (Hp.le_refl h38) (s:=⟨86,2,none,0,0,[]⟩) (OwnS.nil _ _ _) (fun b hb=>by cases hb)
 simp only [List.nil_append] at O0
 refine⟨fun vs hh=>∃(i:Nat) (hi:Hp) (aA:Option Addr) (cA:Nat) (RA:List (GRow Nd Int)),vs=[vi i,vsl aA i cA,vsl a27 q.wh.length c27,vsl a28 q.by_.length c28,vi q.size,vi q.slide,vi q.delay,vi q.late]∧i≤q.aggs.length∧h38.le hi∧RA.length=i∧Owns hi hh [⟨86,2,aA,i,cA,RA.flatMap (growV aggRw)⟩] ∧
   (∀ r ∈ RA,HasRow hi r.2.1.1 (r.2.2.flatMap encN))∧∀(j:Nat) (a b:Ag),q.aggs[j]?=some a→(growL RA)[j]?=some b→AggF a b,
  fun vs hh=>q.aggs.length - (vint vs 0).toNat,⟨0,h38,none,0,[],rfl,Nat.zero_le _,Hp.le_refl _,rfl,O0,fun r hr=>(by cases hr),fun j a b _ hb=>by simp [growL] at hb⟩,?_⟩
 rintro vs hh ⟨i,hi,aA,cA,RA,rfl,hi',lhi,hRl,O,hin,hag⟩
 refine⟨i,_,_,_,_,_,_,_,_,_,_,_,_,_,rfl,fun e1=>?_,fun e1=>?_⟩
 ·have hlt:i < q.aggs.length:=by have:=of_decide_eq_true e1;omega
  have hx:q.aggs[i]?=some q.aggs[i]:=List.getElem?_eq_getElem hlt
  have hg:=B.g _ (List.getElem_mem hlt)
  generalize q.aggs[i]=ag at *
  obtain⟨b,o,a',c',ha,hrow,hS⟩:=((Q38.le lhi).g).row aggRw_len (by decide) hx
  refine⟨b,o,⟨ha,by omega,by omega⟩,ag.1,a',ag.2.length,c',by rw [Int.toNat_natCast];exact Hp.row_le O.le hrow,?_⟩
  intro J65
  have hJ:∀(a38:Option Addr) (n38 c38:Nat) (hk h39:Hp) (z:List Nd),hi.le hk→Owns hk h39 [⟨86,2,aA,i,cA,RA.flatMap (growV aggRw)⟩]→n38=z.length→HasRow hk a38 (z.flatMap encN)→AggF ag (ag.1,z)→J65 a38 n38 c38 h39:=by
   intro a38 n38 c38 hk h39 z lk Ok hn38 hz hA
   intro b71 hb71 h72
   refine Ok.app (j:=0) rfl elAggN (tn:=86) (m:=1) (news:=[vi ag.1,vsl a38 n38 c38]) hb71 rfl (by intro u hu;simp at hu;rcases hu with rfl|rfl<;>rfl) (by simp only;omega) (by simp only;omega) fun aA' cA' h44 O44 _=>⟨_,_,_,rfl,?_⟩
   simp only [List.set_cons_zero] at O44
   refine⟨_,isW (by unfold InR;omega),⟨i+1,hk,aA',cA',RA++[(ag.1,(a38,c38),z)],rfl,by omega,Hp.le_trans lhi lk,by simp [hRl],?_,?_,?_⟩,by simp [vint];omega⟩
   ·rw [List.flatMap_append]
    have e3:([(ag.1,(a38,c38),z)]:List (GRow Nd Int)).flatMap (growV aggRw)=[vi ag.1,vsl a38 n38 c38]:=by rw [hn38];rfl
    rw [e3]
    exact O44
   ·intro r hr
    rcases List.mem_append.1 hr with q1|q1
    ·exact(hin r q1).le lk
    ·rw [List.mem_singleton.1 q1];exact hz
   ·intro j a b h1 h2
    have hgl:(growL RA).length=i:=by simp [growL,hRl]
    rw [growL_snocN] at h2
    rcases Nat.lt_or_ge j i with q1|q1
    ·rw [List.getElem?_append_left (by omega)] at h2
     exact hag j a b h1 h2
    ·rw [List.getElem?_append_right (by omega)] at h2
     have hj:j=i:=by
      have:=(List.getElem?_eq_some_iff.1 h2).1
      simp at this
      omega
     subst hj
     rw [hgl,Nat.sub_self] at h2
     cases h2
     rw [hx] at h1
     cases h1
     exact hA
  clear_value J65
  refine⟨fun e2=>?_,fun e2=>?_⟩
  ·have hne:ag.1≠1:=of_decide_eq_true e2
   obtain⟨OE,hlen⟩:=exprF_ok (hg.2.2.1 hne)
   refine O.frame (fold_Fold_ok hS OE (by omega) fun az nz cz hk z lk NSz Rp h29 l29 O29=>⟨_,_,_,rfl,?_⟩)
   exact hJ az nz cz hk h29 z lk O29 NSz.s.1 NSz.s.2 ⟨rfl,fun q1=>absurd q1 hne,fun _=>Rp⟩
  ·have he:ag.1=1:=Decidable.not_not.1 (of_decide_eq_false e2)
   have hz:=hg.2.2.2 he
   refine hJ a' ag.2.length c' hi hh [] (Hp.le_refl hi) O (by rw [hz]) (.inl rfl) ⟨rfl,fun _=>rfl,fun q1=>absurd he q1⟩
 ·have hge:i=q.aggs.length:=by have:=of_decide_eq_false e1;omega
  subst hge
  exact hJ78 aA cA RA hh (Hp.le_trans lhi O.le) ⟨RA,rfl,by simp [growL,hRl],(O.ownV (List.mem_cons_self ..)).row,fun r hr=>(hin r hr).le O.le⟩ hag
theorem tabc_of4 {α:Type}{enc:α→List Value}{h:Hp}{a:Option Addr}{n:Nat}{R:List (TRow α)}(S:SlP (fun r=>[rowV r]) h a n R)(hr:∀ r ∈ R,HasRow h r.1.1 (r.2.flatMap enc)∧r.2.length≤r.1.2):TabC enc h a n (R.map Prod.snd):=by
 have e:(R.flatMap fun r=>[rowV r])=R.map rowV:=by
  clear S hr
  induction R with
  | nil=>rfl
  | cons r R ih=>rw [List.flatMap_cons,ih];rfl
 refine⟨R,rfl,by rw [S.1];simp,?_,fun j r hj=>hr r (List.mem_of_getElem? hj)⟩
 have:=S.2
 rw [e] at this
 exact this
end Go.Proofs.YtiflgceoamkmnaaGreatDoor
namespace Go.Proofs.YtiflgceoamkmnaaGreatDoor.topFold
open Go.ChangeShapes Go.WideShapes Go.ChangeAt Go.RowKit Go.Vc
theorem own:ownKnob Tryz.prog.godebug=none:=by kernel_rfl
theorem open0 {H:Type}{enc:TypeId × Value→H}{W:World}{cs:List Value}(L:LeafL Tryz.prog enc W (fun _=>True) (flatIds Tryz.prog 4 43) cs):∃(x0:Int) (x1:Int) (x2:Int) (x3:Int) (x4:Int) (x5:Int) (x6:Int),cs=encE (x0,(x1,x2),(x3,x4),(x5,x6))∧InR x0∧InR x1∧InR x2∧InR x3∧InR x4∧InR x5∧InR x6:=by
 have e:flatIds Tryz.prog 4 43=[3,3,3,3,3,3,3]:=by kernel_rfl
 rw [e] at L
 match cs,L with
 | [v0,v1,v2,v3,v4,v5,v6],L=>
  obtain⟨x0,h0,g0⟩:=leaf_i64 Tryz.underlying3 (L.1)
  cases h0
  obtain⟨x1,h1,g1⟩:=leaf_i64 Tryz.underlying3 (L.2.1)
  cases h1
  obtain⟨x2,h2,g2⟩:=leaf_i64 Tryz.underlying3 (L.2.2.1)
  cases h2
  obtain⟨x3,h3,g3⟩:=leaf_i64 Tryz.underlying3 (L.2.2.2.1)
  cases h3
  obtain⟨x4,h4,g4⟩:=leaf_i64 Tryz.underlying3 (L.2.2.2.2.1)
  cases h4
  obtain⟨x5,h5,g5⟩:=leaf_i64 Tryz.underlying3 (L.2.2.2.2.2.1)
  cases h5
  obtain⟨x6,h6,g6⟩:=leaf_i64 Tryz.underlying3 (L.2.2.2.2.2.2.1)
  cases h6
  exact⟨x0,x1,x2,x3,x4,x5,x6,rfl,g0,g1,g2,g3,g4,g5,g6⟩
abbrev lay:=Rows.topFoldRow.laid
theorem tabs {W:World}(hL:laidMetH Tryz.prog lay W):TabP (hpOf W):=by
 rw [MakeChecks.laidMetH_plain _ _ _ (by kernel_rfl)] at hL
 have h3:laidMet Tryz.prog (("internal/strconv.uint64pow10",Lib.tabData .u64 Lib.pow10Tab) :: lay.drop 3) W:=hL.tail.tail
 have hT:=Lib.tabIs_of_head (g:=5) (n:=20) (by kernel_rfl) (t:=274) (by kernel_rfl) (e:=223) (by kernel_rfl) (by kernel_rfl) (by kernel_rfl) (by kernel_rfl) h3
 intro w hs
 exact var_sub hT hs
theorem star: "*"++ "errors.errorString"= "*errors.errorString":=by decide
theorem rowE (u:TypeId)(h:Tryz.prog.typeName? 3 u=some "*errors.errorString"):u=263:=
 typeName_ptr_named (nm:= "errors.errorString") (by rw [star];kernel_rfl) (by kernel_rfl) (by decide) u (by rw [star];exact h)
theorem errs {W:World}(hL:laidMetH Tryz.prog lay W):TabE (hpOf W):=by
 rw [MakeChecks.laidMetH_plain _ _ _ (by kernel_rfl)] at hL
 have h4:laidMet Tryz.prog (("strconv.ErrRange",_) :: ("strconv.ErrSyntax",_) :: lay.drop 5) W:=hL.tail.tail.tail
 obtain⟨a0,s0,hv0,_⟩:=laid_sentinel (g:=2) (ti:=33) h4 (by kernel_rfl) (by kernel_rfl) Tryz.underlying33 rowE Tryz.underlying263 Tryz.underlying265 rfl rfl Tryz.underlying9 (by kernel_rfl) (by kernel_rfl)
 obtain⟨a1,s1,hv1,_⟩:=laid_sentinel (g:=1) (ti:=33) h4.tail (by kernel_rfl) (by kernel_rfl) Tryz.underlying33 rowE Tryz.underlying263 Tryz.underlying265 rfl rfl Tryz.underlying9 (by kernel_rfl) (by kernel_rfl)
 exact⟨⟨_,_,fun w hs=>vars_sub hv1 hs⟩,⟨_,_,fun w hs=>vars_sub hv0 hs⟩⟩
theorem names {W:World}(hL:laidMetH Tryz.prog lay W):TabQ (hpOf W):=by
 have T:=tabs hL
 have E:=errs hL
 rw [MakeChecks.laidMetH_plain _ _ _ (by kernel_rfl)] at hL
 have h6:laidMet Tryz.prog (("penstock/query.fields",_) :: ("penstock/query.aggs",_) :: lay.drop 7) W:=hL.tail.tail.tail.tail.tail
 exact⟨T,E,laid_texts (texts:=fieldW) (g:=4) (t:=145) (e:=9) h6 (by kernel_rfl) (by kernel_rfl) (by kernel_rfl) (by kernel_rfl) (by kernel_rfl) (by decide),laid_texts (texts:=aggsW) (g:=0) (t:=145) (e:=9) h6.tail (by kernel_rfl) (by kernel_rfl) (by kernel_rfl) (by kernel_rfl) (by kernel_rfl) (by decide)⟩
theorem door_met (os:Os)(args:Array Value):laidMetH Tryz.prog lay ((World.doorLaid Tryz.prog 400 os).forCall (fun _ _=>0) ⟨#[],args,[]⟩).memory:=
 laidMetH_of_parts3 (fuel:=8) (laidMet_of_run' 8 (by kernel_rfl) (by kernel_rfl)) (by kernel_rfl) (by kernel_rfl)
set_option maxRecDepth 100000 in
theorem lifted (os:Os)(started:os.Started)(H:Type)(enc:TypeId × Value→H) :
  ReturnsInHanded {} Tryz.checked os 8 .any (fun w args=>(Rows.topFoldSpec.pre enc Tryz.prog Tryz.f8 Rows.topFoldRow.domain false w args∧laidMetH Tryz.prog lay w)∧sizedMet enc Tryz.prog Tryz.f8 (OpenSpec.ofChange Rows.topFoldSpec) false w args) (Rows.topFoldSpec.post enc Tryz.prog Tryz.f8 false true false false):=by
 refine returnsInHanded_of_change_and (C:=Tryz.checked) (X:=fun w _=>laidMetH Tryz.prog lay w) (fun _ _ _ hh h=>h.of_heap hh) own started (by kernel_rfl) Tryz.func8
  (ChangeSpec.witness_shaped (enc:=enc) (C:=Tryz.checked) (os:=os) (X:=fun w _=>laidMetH Tryz.prog lay w) false (World.doorLaid Tryz.prog 400 os) #[.string ⟨#[]⟩,.slice none 0 0] 8 rfl (World.shaped_of_RefB (by kernel_rfl) (by kernel_rfl)) (by kernel_rfl) (by kernel_rfl) (by kernel_rfl) (door_met os _)) ?_
 intro W base args ds gs before hval0 hW hcnd _ hL _
 have T:=tabs hL
 have E:=errs hL
 have TQ:=names hL
 have hval:∀(j:Nat) t v,Tryz.f8.params[j]?=some t→args[j]?=some v→Value.okWide Tryz.prog W .any base t v:=hval0
 have hW':=hW
 obtain⟨p,q,hA0,hV,rfl,hfz,hnd⟩:=hW
 have hA:DataW.TrodAll enc Tryz.prog W 0 (fun _=>true) true Tryz.f8.params.toList args.toList ds p:=hA0
 rw [Tryz.params8] at hA hval
 obtain⟨v0,vs0,d0,ds0,p0,q0,hargs,rfl,rfl,h0,r0⟩:=trodAll_cons hA
 obtain⟨v1,vs1,d1,ds1,p1,q1,rfl,rfl,rfl,h1,r1⟩:=trodAll_cons r0
 obtain⟨rfl,rfl,rfl⟩:=trodAll_nil r1
 obtain rfl:args=#[v0,v1]:=by cases args;simp_all
 obtain⟨rfl,rfl⟩:=trodVars_none hV
 obtain⟨s0,rfl⟩:=okWide_string Tryz.underlying9 (hval 0 9 v0 rfl rfl)
 obtain⟨b0,e0,_,z0⟩:=leaf_string smTrue Tryz.underlying9 (leafC_of (Sm:=fun _=>True) h0 trivial)
 cases e0
 obtain⟨w1,w2,w3,rfl⟩:=okWide_slice (e:=69) (by kernel_rfl) (hval 1 49 v1 rfl rfl)
 obtain⟨p1,n1,c1,R1,e1,S1,hc1,hm1,_,g1⟩:=leaf_slice (enc:=fun r=>[rowV r]) (sz:=1) (good:=fun r:TRow _=>HasRow (hpOf W) r.1.1 (r.2.flatMap encE)∧r.2.length≤r.1.2∧r.1.2≤maxLen∧∀ y ∈ r.2,True) smTrue (e:=69) (by kernel_rfl) (by kernel_rfl) (by decide) (fun _=>rfl)
  (fun cs L=>by
   obtain⟨a,n,c,l,e,S,hc,hm,_,hg⟩:=leaf_slice (enc:=encE) (sz:=7) (good:=fun y=>True) smTrue (e:=43) (by kernel_rfl) (by kernel_rfl) (by decide) (fun _=>rfl) (fun cs L=>by
    have hf:=leaf_flat smTrue 4 (by kernel_rfl) L
    obtain⟨x0,x1,x2,x3,x4,x5,x6,hy,hg⟩:=open0 hf
    exact⟨(x0,(x1,x2),(x3,x4),(x5,x6)),hy,trivial⟩) L
   cases e
   obtain rfl:=S.1
   exact⟨((a,c),l),rfl,S.2,hc,hm,hg⟩) (leafC_of (Sm:=fun _=>True) h1 trivial)
 cases e1
 refine(calls_law (law_TopFold_ok (s:=s0.data.toList) (tabc_of4 S1 (fun r hr=>⟨(g1 r hr).1,(g1 r hr).2.1⟩)) TQ)).mono fun e W' ⟨he,hg⟩=>?_
 subst he
 exact⟨_,rfl,law_post big hW' hg (by kernel_rfl) (tb:=4) (by kernel_rfl) (by kernel_rfl) rfl⟩
theorem over:Rows.topFoldRow.holds Tryz.pinned (OpenSpec.ofChange Rows.topFoldSpec):=
 OpenClaim.holds_of_wide 8 Tryz.f8 rfl rfl rfl rfl rfl rfl rfl ⟨rfl,rfl,rfl,rfl,rfl⟩ rfl rfl rfl rfl rfl (by kernel_rfl) Tryz.func8 (by kernel_rfl)
  (of_decide_eq_true (by kernel_rfl)) (by unfold Func.isWrapper;first|(rw [if_pos (by decide +kernel)];kernel_rfl)|(rw [if_neg (by decide +kernel)];exact⟨rfl,rfl⟩))
  (fun os started H enc _=>lifted os started H enc)
theorem proved:Rows.TopFoldCardSaid:=
 Claim7.holds_tied_plain_at .later [] _ true _ true
  over (fun _ h=>by cases h) (by kernel_rfl) (fun _ h=>by cases h) topFold_row_tie rfl ⟨rfl,rfl⟩ (by kernel_rfl) rfl
  (fun f fn hf hfn=>by
   obtain rfl:f=8:=Option.some.inj ((show Tryz.prog.funcNamed "penstock/penstocktop.TopFold"=some 8 by kernel_rfl).symm.trans hf) |>.symm
   obtain rfl:fn=Tryz.f8:=(Option.some.inj (Tryz.func8.symm.trans hfn)).symm
   exact⟨by kernel_rfl,fun j t ht=>by
    rw [Tryz.params8] at ht
    have hm:t ∈ [9,49]:=by simpa using Array.mem_of_getElem? ht
    have hall:([9,49].all fun u=>!Tryz.prog.wantsStandIn u)=true:=by kernel_rfl
    exact(show Tryz.prog.wantsStandIn t=false by simpa using List.all_eq_true.1 hall t hm)⟩)
  (by kernel_rfl)
end Go.Proofs.YtiflgceoamkmnaaGreatDoor.topFold
