/-
  Laws and contracts on which the statement's proof stands, part 4. Conditions: those stated at each.
-/
import Derived.Test.YtgmplfdecikgoaaGreatDoorSh3
set_option linter.unusedVariables false
set_option maxRecDepth 100000
namespace Go.Vc
open Go
structure Ow where
 e:TypeId
 sz:Nat
 a:Option Addr
 n:Nat
 c:Nat
 xs:List Value
def Ow.own (s:Ow)(h:Hp):Prop:=QI h s.e s.sz s.a s.n s.c s.xs
def Ow.at (s:Ow)(b:Nat):Prop:=s.a=some ⟨b,0,none⟩
def ZX (g:Nat)(t:TypeId)(cs:List Value):Ow:=⟨t,cs.length,some ⟨g,0,none⟩,1,1,cs⟩
structure QS (hi h:Hp)(L:List Ow):Prop where
 le:hi.le h
 own:∀ s ∈ L,s.own h
 new:∀ s ∈ L,∀ b,s.at b→hi b=none
 dj:L.Pairwise fun s t=>∀ b,s.at b→¬ t.at b
theorem Ow.al {s:Ow}{h:Hp}(O:s.own h){b:Nat}(hb:s.at b):h b≠none:=by
 rcases O.2 with ⟨h1,_⟩|⟨g,cur,h1,h2,_⟩
 ·unfold Ow.at at hb;rw [h1] at hb;cases hb
 ·unfold Ow.at at hb;rw [h1] at hb;cases hb;rw [h2];simp
theorem Ow.keep {s:Ow}{h h':Hp}(O:s.own h)(hk:∀ b,s.at b→∀ o,h b=some o→h' b=some o):s.own h':=QI.keep O fun g o hg ho=>hk g hg o ho
section
variable {hi h:Hp}{L:List Ow}
theorem QS.nil (l:hi.le h):QS hi h []:=⟨l,fun s hs=>(by cases hs),fun s hs=>(by cases hs),List.Pairwise.nil⟩
theorem QS.grow {h':Hp}(O:QS hi h L)(l:h.le h'):QS hi h' L:=⟨Hp.le_trans O.le l,fun s hs=>Ow.keep (O.own s hs) fun b _ o ho=>l b o ho,O.new,O.dj⟩
theorem QS.ownV (O:QS hi h L){s:Ow}(hs:s ∈ L):Qh hi h s.e s.sz s.a s.n s.c s.xs:=⟨O.le,O.own s hs,fun b hb=>O.new s hs b hb⟩
theorem QS.apart (O:QS hi h L){i j:Nat}{s t:Ow}(hs:L[i]?=some s)(ht:L[j]?=some t)(hne:i≠j){b:Nat}(hb:s.at b):¬ t.at b:=by
 obtain⟨hi',es⟩:=List.getElem?_eq_some_iff.1 hs
 obtain⟨hj',et⟩:=List.getElem?_eq_some_iff.1 ht
 have:=List.pairwise_iff_getElem.1 O.dj
 rcases Nat.lt_or_gt_of_ne hne with q|q
 ·have:=this i j hi' hj' q b
  rw [es,et] at this
  exact this hb
 ·have:=this j i hj' hi' q b
  rw [es,et] at this
  exact fun q2=>this q2 hb
theorem QS.upd {h':Hp}(O:QS hi h L){j:Nat}{s s':Ow}(hs:L[j]?=some s)(hk:∀ b o,h b=some o→¬ s.at b→h' b=some o)(O':s'.own h')(hn:∀ b,s'.at b→s.at b∨h b=none):QS hi h' (L.set j s'):=by
 have hsm:=List.mem_of_getElem? hs
 have hj:=(List.getElem?_eq_some_iff.1 hs).1
 have key:∀{k:Nat} {t:Ow},(L.set j s')[k]?=some t→(k=j∧t=s')∨(k≠j∧L[k]?=some t):=by
  intro k t h1
  by_cases hkj:k=j
  ·subst hkj
   rw [List.getElem?_set_self hj] at h1
   exact .inl ⟨rfl,(Option.some.inj h1).symm⟩
  ·rw [List.getElem?_set_ne (fun e=>hkj e.symm)] at h1
   exact .inr ⟨hkj,h1⟩
 have out:∀{k:Nat} {t:Ow},k≠j→L[k]?=some t→∀ b,t.at b→¬ s'.at b:=by
  intro k t hkj ht b hb hb'
  rcases hn b hb' with q|q
  ·exact O.apart ht hs hkj hb q
  ·exact Ow.al (O.own t (List.mem_of_getElem? ht)) hb q
 refine⟨fun b o ho=>hk b o (O.le b o ho) fun q=>(by rw [O.new s hsm b q] at ho;cases ho),fun t ht=>?_,fun t ht b hb=>?_,?_⟩
 ·obtain⟨k,hk'⟩:=List.getElem?_of_mem ht
  rcases key hk' with ⟨_,rfl⟩|⟨hkj,h1⟩
  ·exact O'
  ·exact Ow.keep (O.own t (List.mem_of_getElem? h1)) fun b hb o ho=>hk b o ho (O.apart h1 hs hkj hb)
 ·obtain⟨k,hk'⟩:=List.getElem?_of_mem ht
  rcases key hk' with ⟨_,rfl⟩|⟨hkj,h1⟩
  ·rcases hn b hb with q|q
   ·exact O.new s hsm b q
   ·exact Hp.none_of_le O.le q
  ·exact O.new t (List.mem_of_getElem? h1) b hb
 ·rw [List.pairwise_iff_getElem]
  intro i k hi' hk' hik b hb hb'
  have e1:=List.getElem?_eq_getElem hi'
  have e2:=List.getElem?_eq_getElem hk'
  rcases key e1 with ⟨q1,q2⟩|⟨q1,q2⟩
  ·rcases key e2 with ⟨q3,q4⟩|⟨q3,q4⟩
   ·omega
   ·rw [q2] at hb
    exact out q3 q4 b hb' hb
  ·rcases key e2 with ⟨q3,q4⟩|⟨q3,q4⟩
   ·rw [q4] at hb'
    exact out q1 q2 b hb hb'
   ·exact O.apart q2 q4 (by omega) hb hb'
theorem QS.push {h':Hp}(O:QS hi h L)(l:h.le h'){s:Ow}(O':s.own h')(hn:∀ b,s.at b→h b=none):QS hi h' (L++[s]):=by
 have O2:=O.grow l
 refine⟨O2.le,fun t ht=>?_,fun t ht b hb=>?_,List.pairwise_append.2 ⟨O.dj,by simp,fun x hx y hy b hb hb'=>?_⟩⟩
 ·rcases List.mem_append.1 ht with q|q
  ·exact O2.own t q
  ·rw [List.mem_singleton.1 q];exact O'
 ·rcases List.mem_append.1 ht with q|q
  ·exact O.new t q b hb
  ·rw [List.mem_singleton.1 q] at hb;exact Hp.none_of_le O.le (hn b hb)
 ·rw [List.mem_singleton.1 hy] at hb'
  exact Ow.al (O.own x hx) hb (hn b hb')
theorem QS.rebase {L':List Ow}(O:QS hi h L)(hs:L'.Sublist L):∃ hj:Hp,hi.le hj∧QS hj h L'∧∀ b o,h b=some o→(∀ s ∈ L',¬ s.at b)→hj b=some o:=by
 have e1:∀ b,(∃ s ∈ L',s.at b)→(open Classical in (fun b=>if ∃ s ∈ L',s.at b then none else h b:Hp)) b=none:=fun b hb=>if_pos hb
 have e2:∀ b,¬(∃ s ∈ L',s.at b)→(open Classical in (fun b=>if ∃ s ∈ L',s.at b then none else h b:Hp)) b=h b:=fun b hb=>if_neg hb
 generalize (open Classical in (fun b=>if ∃ s ∈ L',s.at b then none else h b:Hp))=hj at e1 e2
 have lj:Hp.le hj h:=fun b o ho=>by
  by_cases q:∃ s ∈ L',s.at b
  ·rw [e1 b q] at ho;cases ho
  ·rw [e2 b q] at ho;exact ho
 refine⟨hj,fun b o ho=>?_,⟨lj,fun s h1=>O.own s (hs.mem h1),fun s h1 b hb=>e1 b ⟨s,h1,hb⟩,O.dj.sublist hs⟩,fun b o ho hn=>(e2 b (fun⟨s,q1,q2⟩=>hn s q1 q2)).trans ho⟩
 refine(e2 b ?_).trans (O.le b o ho)
 rintro⟨s,q1,q2⟩
 rw [O.new s (hs.mem q1) b q2] at ho
 cases ho
theorem QS.blk (O:QS hi h L){g:Nat}{t:TypeId}{cs:List Value}(hs:ZX g t cs ∈ L):h g=some (Qc cs t):=by
 obtain⟨h1,h2⟩:=O.own _ hs
 rcases h2 with ⟨q,_⟩|⟨b,cur,q1,q2,q3,q4,q5,q6⟩
 ·cases q
 ·simp only [ZX,Option.some.injEq,Addr.mk.injEq,and_true] at q1 q5 q6
  subst q1
  have:cur.toList=cs:=by
   rw [←q6,Nat.one_mul,List.take_of_length_le (by rw [Array.length_toList];omega)]
  rw [q2,←this]
  simp [ZX]
theorem Qep {g:Nat}{t:TypeId}{cs:List Value}(hg:h g=some (Qc cs t)):(ZX g t cs).own h:=
 ⟨by simp [ZX],.inr ⟨g,cs.toArray,rfl,hg,Nat.le_refl _,by simp [ZX,maxLen],by simp [ZX],by simp [ZX]⟩⟩
theorem QS.store (O:QS hi h L){j:Nat}{s:Ow}(hs:L[j]?=some s){i:Nat}{vs:List Value}(hv:0 < vs.length)(hfit:i+vs.length≤s.n*s.sz){b:Nat}(hb:s.at b){K:Hp→Prop}
  (hK:∀ h',QS hi h' (L.set j { s with xs:=QP s.xs i vs })→(∀ b' o,b'≠b→h b'=some o→h' b'=some o)→K h'):h.store b (0+i) vs K:=by
 refine Qh.store (O.ownV (List.mem_of_getElem? hs)) hv hfit hb fun ob O'=>?_
 have kp:∀ b' o,b'≠b→h b'=some o→(h.set b ob) b'=some o:=fun b' o hne ho=>(Hp.set_other h _ hne).trans ho
 exact hK _ (O.upd hs (fun b' o ho hn=>kp b' o (fun q=>hn (by rw [q];exact hb)) ho) O'.own fun b' hb'=>.inl hb') kp
theorem QS.put (O:QS hi h L){j g:Nat}{t:TypeId}{cs:List Value}(hs:L[j]?=some (ZX g t cs)){i:Nat}{v:Value}(hi':i < cs.length){K:Hp→Prop}
  (hK:∀ h',QS hi h' (L.set j (ZX g t (cs.set i v)))→(∀ b' o,b'≠g→h b'=some o→h' b'=some o)→K h'):h.store g (0+i) [v] K:=by
 refine O.store hs (by simp) (by simp [ZX];omega) rfl fun h' O' kp=>hK h' ?_ kp
 have e:({ ZX g t cs with xs:=QP (ZX g t cs).xs i [v] }:Ow)=ZX g t (cs.set i v):=by
  unfold ZX
  simp only [List.length_set]
  rw [Jq _ _ _ hi']
 rw [e] at O'
 exact O'
variable {P:Program}
theorem QS.app (O:QS hi h L){j:Nat}{s:Ow}(hs:L[j]?=some s){tS ty:TypeId}{bytes:Nat}(T:ElT P tS s.e s.sz bytes){b m:Nat}{news:List Value}{tn:TypeId}(hb:h b=none)(hl:news.length=m*s.sz)(h1:∀ u ∈ news,u.oneCell'=true)
  (hn:(s.n+m)*bytes≤140737488355328) (hn2:s.n+m≤140737488355328) {K:Value→Hp→Prop}
  (hK:∀ a' c' h',QS hi h' (L.set j { s with a:=a',n:=s.n+m,c:=c',xs:=s.xs++news })→(∀ b' o,h b'=some o→¬ s.at b'→h' b'=some o)→K (vsl a' (s.n+m) c') h') :
  Ql P (Builtin.append_ #[tS,tS] ty #[vsl s.a s.n s.c,vsl (some ⟨b,0,none⟩) m m]) (h.set b (Qc news tn)) K:=by
 have l:h.le (h.set b (Qc news tn)):=Hp.le_set (Hp.le_refl h) hb _
 have O1:=O.grow l
 refine Qh.append T (O1.ownV (List.mem_of_getElem? hs)) (Qg.new _ _ news _) hl h1 hn hn2 fun a' c' h' O' k1 k2=>hK a' c' h' (O1.upd hs (fun b' o ho hn=>k1 b' o ho hn) O'.own fun b' hb'=>?_) fun b' o ho hn=>k1 b' o (l b' o ho) hn
 rcases k2 b' hb' with q|q
 ·exact .inl (show s.a=_ from q.trans hb')
 ·exact .inr q
theorem Qa.frame {f:FuncId}{args:List Value}{hA h:Hp}{K:Value→Hp→Prop}(l:hA.le h)(H:Qa P f args hA K):Qa P f args h fun v h2=>∃ h1,h1.le h2∧(∀ b o,h b=some o→hA b=none→h2 b=some o∧h1 b=none)∧K v h1:=by
 intro w hs
 refine(H w fun b o ho=>hs b o (l b o ho)).mono ?_
 rintro e w' ⟨v,h1,rfl,s1,F,k⟩
 have out:∀ b o,h b=some o→hA b=none→w'.heap[b]?=some o∧h1 b=none:=by
  intro b o ho hn
  have hb:=(Array.getElem?_eq_some_iff.1 (hs b o ho)).1
  obtain⟨q1,q2⟩:=F.keep b hb hn
  exact⟨q1.trans (hs b o ho),q2⟩
 have e1:∀ b,(h b≠none∧hA b=none)→(fun b=>if h b≠none∧hA b=none then h b else h1 b:Hp) b=h b:=fun b hb=>if_pos hb
 have e2:∀ b,¬(h b≠none∧hA b=none)→(fun b=>if h b≠none∧hA b=none then h b else h1 b:Hp) b=h1 b:=fun b hb=>if_neg hb
 generalize (fun b=>if h b≠none∧hA b=none then h b else h1 b:Hp)=h2 at e1 e2
 refine⟨v,h2,rfl,fun b o ho=>?_,⟨F.os,F.tape,F.output,F.size,fun b hb hn=>?_⟩,h1,fun b o ho=>?_,fun b o ho hn=>?_,k⟩
 ·by_cases q:h b≠none∧hA b=none
  ·rw [e1 b q] at ho
   exact(out b o ho q.2).1
  ·rw [e2 b q] at ho
   exact s1 b o ho
 ·have hna:hA b=none:=Hp.none_of_le l hn
  obtain⟨q1,q2⟩:=F.keep b hb hna
  exact⟨q1,(e2 b (fun q=>q.1 hn)).trans q2⟩
 ·refine(e2 b fun q=>?_).trans ho
  cases hq:h b with
  | none=>exact q.1 hq
  | some o2=>
   have:=(out b o2 hq q.2).2
   rw [this] at ho;cases ho
 ·exact⟨(e1 b ⟨by rw [ho];simp,hn⟩).trans ho,(out b o ho hn).2⟩
theorem QS.frame (O:QS hi h L){f:FuncId}{args:List Value}{R':Value→Hp→Prop}(H:Qa P f args hi fun v hk=>∀ h2,hk.le h2→QS hk h2 L→R' v h2):Qa P f args h R':=by
 intro w hs
 refine(Qa.frame O.le H w hs).mono ?_
 rintro e w' ⟨v,h2,rfl,s2,F,h1,l1,kp,k⟩
 refine⟨v,h2,rfl,s2,F,k h2 l1 ⟨l1,fun s hs'=>Ow.keep (O.own s hs') fun b hb o ho=>(kp b o ho (O.new s hs' b hb)).1,fun s hs' b hb=>?_,O.dj⟩⟩
 cases hq:h b with
 | none=>exact absurd hq (Ow.al (O.own s hs') hb)
 | some o=>exact(kp b o hq (O.new s hs' b hb)).2
theorem QS.inner (O:QS hi h L){b o:Nat}{l vs:List Value}{t:TypeId}(hb:hi b=some (Qc l t))(hfit:o+vs.length≤l.length){K:Hp→Prop}
  (hK:∀ h',QS (hi.set b (Qc (QP l o vs) t)) h' L→K h'):h.store b o vs K:=by
 refine QX (O.le b _ hb) hfit (hK _ ⟨fun x p hp=>?_,fun s hs=>Ow.keep (O.own s hs) fun x hx p hp=>?_,fun s hs x hx=>?_,O.dj⟩)
 ·by_cases q:x=b
  ·subst q;rw [Hp.set_same] at hp ⊢;exact hp
  ·rw [Hp.set_other _ _ q] at hp ⊢;exact O.le x p hp
 ·have q:x≠b:=fun q=>by subst q;rw [O.new s hs x hx] at hb;cases hb
  exact(Hp.set_other h _ q).trans hp
 ·have q:x≠b:=fun q=>by subst q;rw [O.new s hs x hx] at hb;cases hb
  exact(Hp.set_other hi _ q).trans (O.new s hs x hx)
end
end Go.Vc
namespace Go.Proofs.YtgmplfdecikgoaaGreatDoor
open Go Go.Vc
def QaE (u0:Int)(h:Hp)(R:Value→Hp→Prop):Prop:=
 (((bif (decide (u0 < 1)) then true else(decide (u0 > 3)))=true→R (Qf [vag [vsl none 0 0],(ifv (some (80,(vi 1))))]) h)∧((bif (decide (u0 < 1)) then true else(decide (u0 > 3)))=false→(let J18:Option Addr→Nat→Nat→Hp→Prop:=fun a20 n20 c20 h21=>R (Qf [vag [vsl a20 n20 c20],ifv none]) h21;(∃(I3:List Value→Hp→Prop) (m4:List Value→Hp→Nat),I3 [vi 0,vsl none 0 0] h∧∀ vs5 h6,I3 vs5 h6→∃ x7 a8 n8 c8,vs5=[vi x7,vsl a8 n8 c8]∧(((decide (x7 < u0))=true→(∀ b11,h6 b11=none→let h12:= Hp.set h6 b11 (Qc [(vi (-1))] 3);(Ql Tryz.prog (Builtin.append_ #[48,48] 48 #[vsl a8 n8 c8,(vsl (some (⟨b11,0,none⟩:Addr)) 1 1)]) h12 fun v13 h14=>∃ a15 n15 c15,v13=(vsl a15 n15 c15)∧(∃ x17,(IsW x17 (x7+1))∧(I3 [vi x17,vsl a15 n15 c15] h14∧m4 [vi x17,vsl a15 n15 c15] h14 < m4 vs5 h6)))))∧((decide (x7 < u0))=false→(J18 a8 n8 c8 h6)))))))
theorem Qhn {u0 h R}(H:QaE u0 h R):Qa Tryz.prog 30 [vi u0] h R:=
 Qd (cfg:=⟨[],[(5,([15],[.one (.int .i64)],[(1,[.slice])]))],[]⟩) Qo mixed Tryz.func30 [.one (.v (vi u0))] (by kernel_rfl) rfl (by kernel_rfl) H
def Jp (u0:Option Addr)(u1 u2:Nat)(u3:Int)(u4:Int)(h:Hp)(R:Value→Hp→Prop):Prop:=
 (Ql Tryz.prog (Builtin.append_ #[48,48] 48 #[vsl none 0 0,vsl u0 u1 u2]) h fun v1 h2=>∃ a3 n3 c3,v1=(vsl a3 n3 c3)∧(∃ b4 o5,(a3=some ⟨b4,o5,none⟩∧(0:Int)≤u3∧u3 < (n3:Int))∧(∃ x6,(Hp.cell h2 b4 (o5+u3.toNat*1)=some (vi x6))∧(∃ x7,(Rd Tryz.prog (Builtin.max_ #[3,3] 3 #[vi x6,vi u4]) h2 (vi x7))∧(∃ b8 o9,(a3=some ⟨b8,o9,none⟩∧(0:Int)≤u3∧u3 < (n3:Int))∧(Hp.store h2 b8 (o9+u3.toNat*1) [vi x7] fun h10=>R (vag [vsl a3 n3 c3]) h10))))))
theorem Qax {u0 u1 u2 u3 u4 h R}(H:Jp u0 u1 u2 u3 u4 h R):Qa Tryz.prog 41 [vag [vsl u0 u1 u2],vi u3,vi u4] h R:=
 Qd (cfg:=⟨[],[],[]⟩) Qo mixed Tryz.func41 [.ag [.v (vsl u0 u1 u2)],.one (.v (vi u3)),.one (.v (vi u4))] (by kernel_rfl) rfl (by kernel_rfl) H
def Jk (u0:Option Addr)(u1 u2:Nat)(u3:Int)(h:Hp)(R:Value→Hp→Prop):Prop:=
 (∃(I2:List Value→Hp→Prop) (m3:List Value→Hp→Nat),I2 [vi 0,vi 0] h∧∀ vs4 h5,I2 vs4 h5→∃ x6 x7,vs4=[vi x6,vi x7]∧(((decide (x7 < (u1:Int)))=true→(let J17:Int→Hp→Prop:=fun x20 h21=>(∃ x22,(IsW x22 (x7+1))∧(I2 [vi x20,vi x22] h21∧m3 [vi x20,vi x22] h21 < m3 vs4 h5));(Qa Tryz.prog 36 [vag [vsl u0 u1 u2],vi x7,vi u3] h5 fun v10 h11=>∃ x12 p13,v10=(Qf [vi x12,vb p13])∧(((!p13)=true→R (Qf [vi 0,vb false]) h11)∧((!p13)=false→(((bif (decide (x7=0)) then true else(decide (x12 < x6)))=true→(J17 x12 h11))∧((bif (decide (x7=0)) then true else(decide (x12 < x6)))=false→(J17 x6 h11))))))))∧((decide (x7 < (u1:Int)))=false→R (Qf [vi x6,vb true]) h5)))
theorem Qat {u0 u1 u2 u3 h R}(H:Jk u0 u1 u2 u3 h R):Qa Tryz.prog 42 [vag [vsl u0 u1 u2],vi u3] h R:=
 Qd (cfg:=⟨[],[(3,([6,13],[.one (.int .i64),.one (.int .i64)],[]))],[]⟩) Qo mixed Tryz.func42 [.ag [.v (vsl u0 u1 u2)],.one (.v (vi u3))] (by kernel_rfl) rfl (by kernel_rfl) H
def Kz (u0:Option Addr)(u1 u2:Nat)(u3:Int)(u4:Int)(h:Hp)(R:Value→Hp→Prop):Prop:=
 (∃ b1 o2,(u0=some ⟨b1,o2,none⟩∧(0:Int)≤u3∧u3 < (u1:Int))∧(∃ x3,(Hp.cell h b1 (o2+u3.toNat*1)=some (vi x3))∧(((decide (x3 < 0))=true→R (Qf [vi 0,vb false]) h)∧((decide (x3 < 0))=false→(∃ x5,(IsW x5 (x3 - u4))∧R (Qf [vi x5,vb true]) h)))))
theorem MT {u0 u1 u2 u3 u4 h R}(H:Kz u0 u1 u2 u3 u4 h R):Qa Tryz.prog 36 [vag [vsl u0 u1 u2],vi u3,vi u4] h R:=
 Qd (cfg:=⟨[],[],[]⟩) Qo mixed Tryz.func36 [.ag [.v (vsl u0 u1 u2)],.one (.v (vi u3)),.one (.v (vi u4))] (by kernel_rfl) rfl (by kernel_rfl) H
def see (l:List Int)(p:Nat)(t:Int):List Int:=l.set p (max (l.getD p 0) t)
theorem Qan (l:List Int)(p:Nat)(t:Int):(see l p t).length=l.length:=by simp [see]
theorem QgP (l:List Int)(p:Nat)(t:Int)(hl:∀ x ∈ l,-1≤x∧x≤9999)(ht:0≤t∧t≤9999)(hp:p < l.length):∀ x ∈ see l p t,-1≤x∧x≤9999:=by
 intro x hx
 unfold see at hx
 rcases List.mem_or_eq_of_mem_set hx with h|h
 ·exact hl x h
 ·have:l.getD p 0 ∈ l:=by rw [List.getD_eq_getElem?_getD,List.getElem?_eq_getElem hp];exact List.getElem_mem hp
  have:=hl _ this
  rw [h]
  rcases Int.le_total (l.getD p 0) t with h1|h1
  ·rw [Int.max_eq_right h1];omega
  ·rw [Int.max_eq_left h1];omega
def JL:List Int→Int
 | []=>0
 | x :: l=>l.foldl min x
theorem Mq (l:List Int)(x:Int)(h:l≠[]):JL (l++[x])=min (JL l) x:=by
 match l,h with
 | y :: l,_=>simp [JL,List.foldl_append]
theorem QeA {l:List Int}(h:l≠[]):JL l ∈ l:=by
 match l,h with
 | y :: l,_=>
  have key:∀(l:List Int) (y:Int),l.foldl min y=y∨l.foldl min y ∈ l:=by
   intro l
   induction l with
   | nil=>intro y;exact .inl rfl
   | cons z l ih=>
    intro y
    simp only [List.foldl_cons]
    rcases ih (min y z) with e|e
    ·rw [e]
     by_cases h:y≤z
     ·exact .inl (Int.min_eq_left h)
     ·exact .inr (by rw [Int.min_eq_right (by omega)];simp)
    ·exact .inr (List.mem_cons_of_mem _ e)
  exact List.mem_cons.2 (key l y)
def KQ (d:Int)(l:List Int):Int × Bool:=if ∀ x ∈ l,0≤x then(if l=[] then 0 else JL l - d,true) else(0,false)
theorem Qhv {p:Int}{h:Hp}{R:Value→Hp→Prop}(h1:¬(1≤p∧p≤3)→R (Qf [vag [vsl none 0 0],ifv (some (80,vi 1))]) h)
  (h2:1≤p→p≤3→∀ a n c h',Qh h h' 3 1 a n c ((List.replicate p.toNat (-1:Int)).map vi)→R (Qf [vag [vsl a n c],ifv none]) h') :
  Qa Tryz.prog 30 [vi p] h R:=by
 refine Qhn ?_
 unfold QaE
 refine⟨fun e=>h1 (by simp [Bool.cond_eq_ite] at e;omega),fun e=>?_⟩
 have hp:1≤p∧p≤3:=by simp [Bool.cond_eq_ite] at e;omega
 intro J18
 refine⟨fun vs hh=>∃(i:Nat) (a:Option Addr) (n c:Nat),vs=[vi i,vsl a n c]∧(i:Int)≤p∧Qh h hh 3 1 a n c ((List.replicate i (-1:Int)).map vi),fun vs hh=>p.toNat - (Qn vs 0).toNat,⟨0,_,_,_,rfl,by omega,Qh.nil (Hp.le_refl h) _ _⟩,?_⟩
 rintro vs hh ⟨i,a,n,c,rfl,hi,O⟩
 refine⟨i,a,n,c,rfl,fun e=>?_,fun e=>?_⟩
 ·have hlt:(i:Int) < p:=by simpa using e
  intro b hb h12
  have hn:=O.sli.1
  simp at hn
  refine Qh.append Vh (Qh.set hb _ O) (Qg.new _ _ [vi (-1)] _) (m:=1) rfl (by simp [Value.oneCell']) (by omega) (by omega) fun a' c' h' O' _ _=>⟨_,_,_,rfl,_,isW (by unfold InR;omega),⟨i+1,a',_,c',rfl,by omega,?_⟩,by simp [Qn];omega⟩
  rw [List.replicate_succ',List.map_append]
  exact O'
 ·have:(i:Int)=p:=by simp at e;omega
  refine h2 hp.1 hp.2 a n c hh ?_
  rw [←this]
  exact O
theorem Qhg {a:Option Addr}{n c:Nat}{l:List Int}{p t:Int}{h:Hp}{R:Value→Hp→Prop}(S:SlI h a n l)(hn:n≤1000)(hp:0≤p)(hp':p < n)
  (hK:∀ a' c' h',Qh h h' 3 1 a' n c' ((see l p.toNat t).map vi)→R (vag [vsl a' n c']) h') :
  Qa Tryz.prog 41 [vag [vsl a n c],vi p,vi t] h R:=by
 refine Qax ?_
 unfold Jp
 refine Qgh Vh S.2 (by simp [S.1]) (QaU l) (by omega) (by omega) fun a' c' h' O=>⟨_,_,_,rfl,?_⟩
 obtain⟨b,o,ea,hc⟩:=O.sli.get (i:=p.toNat) (by omega)
 refine⟨b,o,⟨ea,hp,hp'⟩,_,hc,_,Qnr,b,o,⟨ea,hp,hp'⟩,O.store_i (by omega) ea fun ob O'=>hK _ _ _ O'⟩
theorem Nj {a:Option Addr}{n c:Nat}{l:List Int}{p d:Int}{h:Hp}{R:Value→Hp→Prop}(S:SlI h a n l)(hp:0≤p)(hp':p < n)(hr:InR (l.getD p.toNat 0 - d))
  (hK:R (if l.getD p.toNat 0 < 0 then Qf [vi 0,vb false] else Qf [vi (l.getD p.toNat 0 - d),vb true]) h) :
  Qa Tryz.prog 36 [vag [vsl a n c],vi p,vi d] h R:=by
 refine MT ?_
 unfold Kz
 obtain⟨b,o,ea,hc⟩:=S.get (i:=p.toNat) (by omega)
 refine⟨b,o,⟨ea,hp,hp'⟩,_,hc,fun e=>?_,fun e=>?_⟩
 ·rw [if_pos (by simpa using e)] at hK;exact hK
 ·rw [if_neg (by simpa using e)] at hK;exact⟨_,isW hr,hK⟩
theorem QhK {a:Option Addr}{n c:Nat}{l:List Int}{d:Int}{h:Hp}{R:Value→Hp→Prop}(S:SlI h a n l)(hn:n≤1000)(hl:∀ x ∈ l,-1≤x∧x≤9999)(hd:0≤d∧d≤1000)
  (hK:R (Qf [vi (KQ d l).1,vb (KQ d l).2]) h) :
  Qa Tryz.prog 42 [vag [vsl a n c],vi d] h R:=by
 refine Qat ?_
 unfold Jk
 have hlen:=S.1
 refine⟨fun vs hh=>hh=h∧∃(i:Nat) (m:Int),vs=[vi m,vi i]∧i≤n∧(∀ x ∈ l.take i,0≤x)∧m=(if l.take i=[] then 0 else JL (l.take i) - d),fun vs hh=>n - (Qn vs 1).toNat,⟨rfl,0,0,rfl,by omega,by simp,by simp⟩,?_⟩
 rintro vs hh ⟨rfl,i,m,rfl,hi,hg,hm⟩
 refine⟨m,i,rfl,fun e=>?_,fun e=>?_⟩
 ·have hlt:i < n:=by simpa using e
  intro J17
  have hx:i < l.length:=by omega
  have hget:l.getD i 0=l[i]:=by rw [List.getD_eq_getElem?_getD,List.getElem?_eq_getElem hx];rfl
  have hb:=hl l[i] (List.getElem_mem hx)
  have tk:l.take (i+1)=l.take i++[l[i]]:=List.take_succ_eq_append_getElem hx
  refine Nj S (by omega) (by omega) (by rw [Int.toNat_natCast,hget];unfold InR;omega) ?_
  rw [Int.toNat_natCast,hget]
  by_cases hneg:l[i] < 0
  ·rw [if_pos hneg]
   refine⟨_,_,rfl,fun _=>?_,fun e=>by simp at e⟩
   have:¬ ∀ x ∈ l,0≤x:=fun hall=>by have:=hall _ (List.getElem_mem hx);omega
   unfold KQ at hK
   rw [if_neg this] at hK
   exact hK
  ·rw [if_neg hneg]
   have next:∀ m':Int,m'=JL (l.take (i+1)) - d→J17 m' hh:=by
    intro m' hm'
    refine⟨_,isW (by unfold InR;omega),⟨rfl,i+1,m',rfl,by omega,?_,?_⟩,by simp [Qn];omega⟩
    ·intro x hx'
     rw [tk] at hx'
     rcases List.mem_append.1 hx' with h1|h1
     ·exact hg x h1
     ·simp at h1;omega
    ·rw [if_neg (by rw [tk];exact List.append_ne_nil_of_right_ne_nil _ (by simp)),hm']
   refine⟨_,_,rfl,fun e=>by simp at e,fun _=>⟨fun e=>next _ ?_,fun e=>next _ ?_⟩⟩
   ·rw [tk]
    by_cases h0:l.take i=[]
    ·rw [h0];simp [JL]
    ·rw [if_neg h0] at hm
     rw [Mq _ _ h0]
     have hi0:i≠0:=fun h=>h0 (by rw [h];rfl)
     simp [Bool.cond_eq_ite,hi0] at e
     rw [Int.min_def]
     split<;>omega
   ·rw [tk]
    by_cases h0:l.take i=[]
    ·have:i=0:=by
      have:=congrArg List.length h0
      rw [List.length_take] at this
      simp only [List.length_nil] at this
      omega
     simp [this] at e
    ·rw [if_neg h0] at hm
     rw [Mq _ _ h0]
     simp [Bool.cond_eq_ite] at e
     rw [Int.min_def]
     split<;>omega
 ·have hge:i=n:=by simp at e;omega
  have ht:l.take i=l:=List.take_of_length_le (by omega)
  rw [ht] at hg hm
  unfold KQ at hK
  rw [if_pos hg,←hm] at hK
  exact hK
structure Pn where
 k:PK
 rs:List (List Vl)
 t:Bool
abbrev Rw:=Bool × PK × List Vl
structure En where
 rd:List Nat
 far:List Int
 pn:List Pn
 late:Nat
 rows:List Rw
def K7 (k:PK)(v:List Vl):List Pn→List Pn
 | []=>[⟨k,[v],false⟩]
 | p :: l=>if Qr p.k k then p :: K7 k v l else if p.k=k then⟨k,p.rs++[v],p.t⟩ :: l else⟨k,[v],false⟩ :: p :: l
def atP (k:PK)(l:List Pn):Option Pn:=l.find? fun p=>decide (p.k=k)
def MI (ks:List Int)(k:PK)(v:List Vl):Option Pn→List Rw
 | some p=>if p.t=true∧Yq ks p.rs≠Yq ks (p.rs++[v]) then [(true,k,Yq ks p.rs),(false,k,Yq ks (p.rs++[v]))] else []
 | none=>[]
def Xp (q:Qy)(far:Int)(e:EvL)(st:En)(s:Int):En:=
 if QiK q far s then { st with late:=st.late+1 } else
 { st with pn:=K7 (s,Zq q e) (Qm q e) st.pn,rows:=st.rows++MI (Qe q) (s,Zq q e) (Qm q e) (atP (s,Zq q e) st.pn) }
def QbM (size upto:Int)(p:Pn):Bool:=decide (p.k.1+size≤upto)
def YS (size upto:Int)(l:List Pn):List Pn:=l.map fun p=>⟨p.k,p.rs,p.t||QbM size upto p⟩
def Qab (size upto:Int)(l:List Pn):List Pn:=l.filter fun p=>!p.t&&QbM size upto p
def V8 (size upto:Int)(l:List Pn):List Pn:=l.filter fun p=>!QbM size upto p
def QaS (ks:List Int)(p:Pn):Rw:=(false,p.k,Yq ks p.rs)
def MW (q:Qy)(st:En):En:=
 if (KQ q.delay st.far).2 then { st with pn:=V8 q.size ((KQ q.delay st.far).1 - q.late) (YS q.size (KQ q.delay st.far).1 st.pn),rows:=st.rows++(Qab q.size (KQ q.delay st.far).1 st.pn).map (QaS (Qe q)) } else st
def Yf (q:Qy)(far:Int)(e:EvL)(st:En):En:=if QiW q e then(ZH e.1 q.size q.slide).foldl (Xp q far e) st else st
def Xh (p:Nat)(e:EvL)(st:En):En:={ st with rd:=st.rd.set p (st.rd.getD p 0+1),far:=see st.far p e.1 }
def XL (q:Qy)(p:Nat)(e:EvL)(st:En):En:=MW q (Xh p e (Yf q (st.far.getD p 0) e st))
def WX (parts:Nat):En:=⟨List.replicate parts 0,List.replicate parts (-1),[],0,[]⟩
theorem Qgd (k:PK)(v:List Vl):∀ l:List Pn,(K7 k v l).map (·.k)=U6 k (l.map (·.k))
 | []=>rfl
 | p :: l=>by
  rw [K7,List.map_cons,U6]
  split
  ·rw [List.map_cons,Qgd k v l]
  ·split
   ·rename_i h;rw [List.map_cons,h]
   ·rfl
theorem Qby {k:PK}{v:List Vl}:∀{l:List Pn} {p:Pn},p ∈ K7 k v l→p ∈ l∨(p=⟨k,[v],false⟩∧True)∨∃ p0 ∈ l,p0.k=k∧p=⟨k,p0.rs++[v],p0.t⟩
 | [],p,h=>by rw [K7] at h;exact .inr (.inl ⟨List.mem_singleton.1 h,trivial⟩)
 | x :: l,p,h=>by
  rw [K7] at h
  split at h
  ·rcases List.mem_cons.1 h with rfl|h
   ·exact .inl (List.mem_cons_self ..)
   ·rcases Qby h with h1|h1|⟨p0,h1,h2⟩
    ·exact .inl (List.mem_cons_of_mem _ h1)
    ·exact .inr (.inl h1)
    ·exact .inr (.inr ⟨p0,List.mem_cons_of_mem _ h1,h2⟩)
  ·split at h
   ·rename_i hk
    rcases List.mem_cons.1 h with rfl|h
    ·exact .inr (.inr ⟨x,List.mem_cons_self ..,hk,rfl⟩)
    ·exact .inl (List.mem_cons_of_mem _ h)
   ·rcases List.mem_cons.1 h with rfl|h
    ·exact .inr (.inl ⟨rfl,trivial⟩)
    ·exact .inl h
def Kj (l:List Pn):Nat:=(l.filter fun p=>!p.t).length
theorem Qit {k:PK}{v:List Vl}:∀ l:List Pn,(K7 k v l).length≤l.length+1∧Kj (K7 k v l)≤Kj l+1
 | []=>by simp [K7,Kj]
 | p :: l=>by
  obtain⟨h1,h2⟩:=Qit (k:=k) (v:=v) l
  unfold Kj at *
  rw [K7]
  split
  ·rw [List.length_cons,List.length_cons]
   refine⟨by omega,?_⟩
   rw [List.filter_cons,List.filter_cons]
   split
   ·rw [List.length_cons,List.length_cons];omega
   ·omega
  ·split
   ·rw [List.length_cons,List.length_cons]
    refine⟨by omega,?_⟩
    rw [List.filter_cons,List.filter_cons]
    split
    ·rename_i h3
     simp
    ·rename_i h3
     omega
   ·refine⟨by simp,?_⟩
    rw [List.filter_cons]
    simp
theorem Qnx {ks:List Int}{k:PK}{v:List Vl}{o:Option Pn}:(MI ks k v o).length≤2:=by
 unfold MI
 split
 ·split<;>simp
 ·simp
structure EnB (q:Qy)(parts N:Nat)(st:En):Prop where
 rl:st.rd.length=parts
 rb:∀ x ∈ st.rd,x≤N
 fl:st.far.length=parts
 fb:∀ x ∈ st.far,-1≤x∧x≤9999
 ps:st.pn.Pairwise fun a b=>Qr a.k b.k
 pa:∀ p ∈ st.pn,p.rs.length≤N∧-1000≤p.k.1∧p.k.1≤9999∧∀ r ∈ p.rs,Qdc q (p.k,r)
 pl:st.pn.length≤N
 ll:st.late≤N
 wl:st.rows.length+Kj st.pn≤3*N
 wo:∀ w ∈ st.rows,w.2.2.length=q.aggs.length
theorem Y4 {l:List Pn}:(l.Pairwise fun a b=>Qr a.k b.k)↔(l.map (·.k)).Pairwise Qr:=by rw [List.pairwise_map]
theorem MG {q:Qy}{k:PK}{rs:List (List Vl)}(h:∀ r ∈ rs,Qdc q (k,r)):(Yq (Qe q) rs).length=q.aggs.length:=by
 unfold Yq
 rw [List.length_map,←QC]
 have:=congrArg List.length (UR (ks:=Qe q) (rs:=rs) fun r hr=>by rw [(h r hr).l,QC])
 rw [List.length_map] at this
 exact this
theorem QlO {q:Qy}{k:PK}{v:List Vl}{o:Option Pn}(hv:Qdc q (k,v))(ho:∀ p,o=some p→∀ r ∈ p.rs,Qdc q (k,r)):∀ w ∈ MI (Qe q) k v o,w.2.2.length=q.aggs.length:=by
 intro w hw
 unfold MI at hw
 split at hw
 ·rename_i p
  split at hw
  ·have h1:=ho p rfl
   have h2:∀ r ∈ p.rs++[v],Qdc q (k,r):=fun r hr=>by
    rcases List.mem_append.1 hr with h|h
    ·exact h1 r h
    ·rw [List.mem_singleton.1 h];exact hv
   simp only [List.mem_cons,List.not_mem_nil,or_false] at hw
   rcases hw with rfl|rfl
   ·exact MG h1
   ·exact MG h2
  ·cases hw
 ·cases hw
theorem QmD {k:PK}{l:List Pn}{p:Pn}(h:atP k l=some p):p ∈ l∧p.k=k:=by
 unfold atP at h
 exact⟨List.mem_of_find?_eq_some h,by have:=List.find?_some h;exact of_decide_eq_true this⟩
theorem Qkp {l:List Pn}(hs:l.Pairwise fun a b=>Qr a.k b.k){p:Pn}(hp:p ∈ l):atP p.k l=some p:=by
 induction l with
 | nil=>cases hp
 | cons x l ih=>
  obtain⟨h1,h2⟩:=List.pairwise_cons.1 hs
  unfold atP
  rw [List.find?_cons]
  rcases List.mem_cons.1 hp with rfl|hp
  ·rw [decide_eq_true rfl]
  ·have hne:¬ x.k=p.k:=fun e=>Yz p.k (by have:=h1 p hp;rw [e] at this;exact this)
   rw [decide_eq_false hne]
   exact ih h2 hp
theorem Qn4 {q:Qy}(B:QOk q){parts N:Nat}{st:En}(H:EnB q parts N st){far:Int}{e:EvL}(E:WC e){s:Int}(hs:-1000≤s∧s≤9999):EnB q parts (N+1) (Xp q far e st s):=by
 have hv:Qdc q ((s,Zq q e),Qm q e):=⟨by simp [Qm],Vy B E,hs⟩
 unfold Xp
 split
 ·exact⟨H.rl,fun x hx=>Nat.le_succ_of_le (H.rb x hx),H.fl,H.fb,H.ps,fun p hp=>⟨Nat.le_succ_of_le (H.pa p hp).1,(H.pa p hp).2⟩,Nat.le_succ_of_le H.pl,by have:=H.ll;simp only;omega,by have:=H.wl;simp only;omega,H.wo⟩
 ·obtain⟨h1,h2⟩:=Qit (k:=(s,Zq q e)) (v:=Qm q e) st.pn
  have h3:=Qnx (ks:=Qe q) (k:=(s,Zq q e)) (v:=Qm q e) (o:=atP (s,Zq q e) st.pn)
  have hpl:=H.pl
  have hwl:=H.wl
  refine⟨H.rl,fun x hx=>Nat.le_succ_of_le (H.rb x hx),H.fl,H.fb,?_,?_,by simp only;omega,by have:=H.ll;simp only;omega,?_,?_⟩
  ·rw [Y4]
   simp only
   rw [Qgd]
   exact GK _ (Y4.1 H.ps)
  ·intro p hp
   rcases Qby hp with h|⟨rfl,_⟩|⟨p0,h,hk,rfl⟩
   ·obtain⟨q1,q2⟩:=H.pa p h
    exact⟨by omega,q2⟩
   ·refine⟨by simp,hs.1,hs.2,fun r hr=>?_⟩
    rw [List.mem_singleton.1 hr];exact hv
   ·obtain⟨q1,q2,q3,q4⟩:=H.pa p0 h
    refine⟨by simp;omega,hs.1,hs.2,fun r hr=>?_⟩
    rcases List.mem_append.1 hr with h5|h5
    ·have:=q4 r h5
     rw [hk] at this
     exact this
    ·rw [List.mem_singleton.1 h5];exact hv
  ·simp only [List.length_append]
   omega
  ·intro w hw
   rcases List.mem_append.1 hw with h|h
   ·exact H.wo w h
   ·refine QlO hv (fun p hp r hr=>?_) w h
    obtain⟨h5,h6⟩:=QmD hp
    have:=(H.pa p h5).2.2.2 r hr
    rw [h6] at this
    exact this
theorem K4 {q:Qy}(B:QOk q){parts:Nat}{far:Int}{e:EvL}(E:WC e):∀(ss:List Int) {N:Nat} {st:En},EnB q parts N st→(∀ s ∈ ss,-1000≤s∧s≤9999)→EnB q parts (N+ss.length) (ss.foldl (Xp q far e) st)
 | [],N,st,H,_=>H
 | s :: ss,N,st,H,hs=>by
  have:=K4 (far:=far) B E ss (Qn4 B H E (far:=far) (hs s (List.mem_cons_self ..))) fun x hx=>hs x (List.mem_cons_of_mem _ hx)
  rw [List.length_cons,List.foldl_cons,show N+(ss.length+1)=N+1+ss.length by omega]
  exact this
theorem EnB.mono {q:Qy}{parts N M:Nat}{st:En}(H:EnB q parts N st)(h:N≤M):EnB q parts M st:=
 ⟨H.rl,fun x hx=>Nat.le_trans (H.rb x hx) h,H.fl,H.fb,H.ps,fun p hp=>⟨Nat.le_trans (H.pa p hp).1 h,(H.pa p hp).2⟩,Nat.le_trans H.pl h,Nat.le_trans H.ll h,by have:=H.wl;omega,H.wo⟩
theorem Qey {q:Qy}(B:QOk q){parts N:Nat}{st:En}(H:EnB q parts N st){far:Int}{e:EvL}(E:WC e):EnB q parts (N+1000) (Yf q far e st):=by
 unfold Yf
 split
 ·exact(K4 B E _ H (Uu B E)).mono (by have:=GN B (e:=e);omega)
 ·exact H.mono (by omega)
theorem QfX {q:Qy}{far:Int}{e:EvL}{st:En}{s:Int}:(Xp q far e st s).rd=st.rd∧(Xp q far e st s).far=st.far:=by
 unfold Xp;split<;>exact⟨rfl,rfl⟩
theorem QdN {q:Qy}{far:Int}{e:EvL}:∀(ss:List Int) (st:En),(ss.foldl (Xp q far e) st).rd=st.rd∧(ss.foldl (Xp q far e) st).far=st.far
 | [],st=>⟨rfl,rfl⟩
 | s :: ss,st=>by
  have:=QdN (q:=q) (far:=far) (e:=e) ss (Xp q far e st s)
  rw [QfX.1,QfX.2] at this
  exact this
theorem Qaf {q:Qy}{far:Int}{e:EvL}{st:En}:(Yf q far e st).rd=st.rd∧(Yf q far e st).far=st.far:=by
 unfold Yf;split
 ·exact QdN _ _
 ·exact⟨rfl,rfl⟩
theorem QnO {q:Qy}{parts N:Nat}{st:En}(H:EnB q parts N st){p:Nat}(hp:p < parts){e:EvL}(E:WC e):EnB q parts (N+1) (Xh p e st):=by
 have H':=H.mono (Nat.le_succ N)
 refine⟨by simp only [Xh,List.length_set];exact H.rl,fun x hx=>?_,by simp only [Xh,Qan];exact H.fl,QgP _ _ _ H.fb E.t (by rw [H.fl];exact hp),H'.ps,H'.pa,H'.pl,H'.ll,H'.wl,H'.wo⟩
 simp only [Xh] at hx
 rcases List.mem_or_eq_of_mem_set hx with h|h
 ·exact H'.rb x h
 ·have:st.rd.getD p 0 ∈ st.rd:=by rw [List.getD_eq_getElem?_getD,List.getElem?_eq_getElem (by rw [H.rl];exact hp)];exact List.getElem_mem _
  have:=H.rb _ this
  omega
theorem QcA (size upto:Int):∀ l:List Pn,(Qab size upto l).length+Kj (YS size upto l)≤Kj l
 | []=>by simp [Qab,Kj,YS]
 | p :: l=>by
  have ih:=QcA size upto l
  unfold Qab Kj YS at *
  rw [List.map_cons,List.filter_cons,List.filter_cons,List.filter_cons]
  obtain⟨k,rs,t⟩:=p
  simp only
  cases t
  ·cases hd:QbM size upto ⟨k,rs,false⟩<;>simp [hd]<;>omega
  ·cases hd:QbM size upto ⟨k,rs,true⟩<;>simp [hd]<;>omega
theorem Qn0 {q:Qy}{parts N:Nat}{st:En}(H:EnB q parts N st):EnB q parts N (MW q st):=by
 unfold MW
 split
 ·generalize (KQ q.delay st.far).1=u
  have hk:(YS q.size u st.pn).map (·.k)=st.pn.map (·.k):=by unfold YS;rw [List.map_map];rfl
  have hsub:(V8 q.size (u - q.late) (YS q.size u st.pn)).Sublist (YS q.size u st.pn):=List.filter_sublist
  have hlen:(YS q.size u st.pn).length=st.pn.length:=by unfold YS;rw [List.length_map]
  have hu:=QcA q.size u st.pn
  have hu2:Kj (V8 q.size (u - q.late) (YS q.size u st.pn))≤Kj (YS q.size u st.pn):=(hsub.filter _).length_le
  have hpl:=H.pl
  have hwl:=H.wl
  refine⟨H.rl,H.rb,H.fl,H.fb,?_,?_,?_,H.ll,?_,?_⟩
  ·have:(YS q.size u st.pn).Pairwise fun a b=>Qr a.k b.k:=by
    rw [Y4,hk];exact Y4.1 H.ps
   exact this.sublist hsub
  ·intro p hp
   have:=hsub.mem hp
   unfold YS at this
   obtain⟨p0,h0,rfl⟩:=List.mem_map.1 this
   exact H.pa p0 h0
  ·have:=hsub.length_le
   simp only
   omega
  ·simp only [List.length_append,List.length_map]
   omega
  ·intro w hw
   rcases List.mem_append.1 hw with h|h
   ·exact H.wo w h
   ·obtain⟨p,hp,rfl⟩:=List.mem_map.1 h
    exact MG (H.pa p (List.mem_filter.1 hp).1).2.2.2
 ·exact H
theorem Qkz (q:Qy)(parts:Nat):EnB q parts 0 (WX parts):=by
 unfold WX
 exact⟨List.length_replicate ..,fun x hx=>by rw [List.eq_of_mem_replicate hx];exact Nat.le_refl _,List.length_replicate ..,fun x hx=>by rw [List.eq_of_mem_replicate hx];decide,List.Pairwise.nil,fun p hp=>(by cases hp),Nat.le_refl _,Nat.le_refl _,by simp [Kj],fun w hw=>(by cases hw)⟩
def JW (u0:Option Addr)(u1 u2:Nat)(h:Hp)(R:Value→Hp→Prop):Prop:=
 (∃ b1 o2,((decide ((u1:Int)=1))=true→(u0=some ⟨b1,o2,none⟩∧(0:Int)≤0∧0 < (u1:Int)))∧(∃ x3,((decide ((u1:Int)=1))=true→Hp.cell h b1 (o2+(0:Int).toNat*6)=some (vi x3))∧(((bif (decide ((u1:Int)=1)) then(decide (x3=1)) else false)=true→(∃ b4 o5,(u0=some ⟨b4,o5,none⟩∧(0:Int)≤0∧0 < (u1:Int))∧(∃ x6 x7,(Hp.row h b4 ((o5+(0:Int).toNat*6)+4) 2=some [vi x6,vi x7])∧R (Qf [vag [vi x6,vi x7],vb true]) h)))∧((bif (decide ((u1:Int)=1)) then(decide (x3=1)) else false)=false→R (Qf [vag [vi 0,vi 0],vb false]) h))))
theorem QbO {u0 u1 u2 h R}(H:JW u0 u1 u2 h R):Qa Tryz.prog 126 [vsl u0 u1 u2] h R:=
 Qd (cfg:=⟨[],[],[]⟩) Qo mixed Tryz.func126 [.one (.v (vsl u0 u1 u2))] (by kernel_rfl) rfl (by kernel_rfl) H
def Qeg (u0:Int)(u1:Int)(h:Hp)(R:Value→Hp→Prop):Prop:=
 (∀ b1,h b1=none→let h2:= Hp.set h b1 (Qc [vi 1,vi 0,vi 0,vi 0,vi u0,vi u1] 160);R (vsl (some (⟨b1,0,none⟩:Addr)) 1 1) h2)
theorem Qjn {u0 u1 h R}(H:Qeg u0 u1 h R):Qa Tryz.prog 127 [vag [vi u0,vi u1]] h R:=
 Qd (cfg:=⟨[],[],[]⟩) Qo mixed Tryz.func127 [.ag [.v (vi u0),.v (vi u1)]] (by kernel_rfl) rfl (by kernel_rfl) H
def VH (u0:Option Addr)(u1 u2:Nat)(h:Hp)(R:Value→Hp→Prop):Prop:=
 (Qa Tryz.prog 125 [vsl u0 u1 u2] h fun v1 h2=>∃ x3 e4,v1=(Qf [vi x3,ifv e4])∧R (vb (bif (Option.isNone e4) then(decide (x3≠1)) else false)) h2)
theorem QdV {u0 u1 u2 h R}(H:VH u0 u1 u2 h R):Qa Tryz.prog 129 [vsl u0 u1 u2] h R:=
 Qd (cfg:=⟨[],[],[]⟩) Qo mixed Tryz.func129 [.one (.v (vsl u0 u1 u2))] (by kernel_rfl) rfl (by kernel_rfl) H
def U8 (u0:Option Addr)(u1 u2:Nat)(h:Hp)(R:Value→Hp→Prop):Prop:=
 (Qa Tryz.prog 125 [vsl u0 u1 u2] h fun v1 h2=>∃ x3 e4,v1=(Qf [vi x3,ifv e4])∧R (vb (bif (Option.isNone e4) then(decide (x3≠2)) else false)) h2)
theorem QcY {u0 u1 u2 h R}(H:U8 u0 u1 u2 h R):Qa Tryz.prog 131 [vsl u0 u1 u2] h R:=
 Qd (cfg:=⟨[],[],[]⟩) Qo mixed Tryz.func131 [.one (.v (vsl u0 u1 u2))] (by kernel_rfl) rfl (by kernel_rfl) H
def Gh (u0:Int)(u1:Option Addr)(u2 u3:Nat)(h:Hp)(R:Value→Hp→Prop):Prop:=
 (Qa Tryz.prog 126 [vsl u1 u2 u3] h fun v1 h2=>∃ x3 x4 p5,v1=(Qf [vag [vi x3,vi x4],vb p5])∧((p5=true→(Qa Tryz.prog 127 [vag [vi x3,vi x4]] h2 fun v6 h7=>∃ a8 n8 c8,v6=(vsl a8 n8 c8)∧(Qa Tryz.prog 128 [vi u0,vsl a8 n8 c8,vsl none 0 0] h7 fun v9 h10=>∃ a11 n11 c11,v9=(vsl a11 n11 c11)∧(Qa Tryz.prog 37 [vsl a11 n11 c11,vag [vi 0,vi 0,vi 0,vi 0,vi 0,vi 0,vi 0]] h10 fun v12 h13=>∃ x14 x15,v12=(vag [vi x14,vi x15])∧(Qa Tryz.prog 127 [vag [vi x14,vi x15]] h13 fun v16 h17=>∃ a18 n18 c18,v16=(vsl a18 n18 c18)∧R (vsl a18 n18 c18) h17)))))∧(p5=false→(∃ x20,(IsW x20 ((u2:Int) - 1))∧(∃ b21 o22,(u1=some ⟨b21,o22,none⟩∧(0:Int)≤x20∧x20 < (u2:Int))∧(∃ x23 x24 x25 x26 x27 x28,(Hp.row h2 b21 (o22+x20.toNat*6) 6=some [vi x23,vi x24,vi x25,vi x26,vi x27,vi x28])∧(∃(J29:SV→Hp→Prop),((bif (decide (u0=4)) then(decide (x23=4)) else false)=true→(Qa Tryz.prog 130 [vsl u1 u2 u3,vi x24] h2 fun v30 h31=>∃ a32 n32 c32,v30=(vsl a32 n32 c32)∧J29 (.t (.one (.v (vsl a32 n32 c32)))) h31))∧(¬((bif (decide (u0=4)) then(decide (x23=4)) else false)=true)→J29 (.t (.one (.v (vsl none 0 0)))) h2)∧∀ h33 a34 n34 c34,J29 (.t (.one (.v (vsl a34 n34 c34)))) h33→(∃(J35:SV→Hp→Prop),((bif (decide (u0=4)) then(decide (x23=4)) else false)=true→(Qa Tryz.prog 129 [vsl a34 n34 c34] h33 fun v36 h37=>∃ p38,v36=(vb p38)∧J35 (.t (.one (.v (vb p38)))) h37))∧(¬((bif (decide (u0=4)) then(decide (x23=4)) else false)=true)→J35 (.t (.one (.v (vb false)))) h33)∧∀ h39 p40,J35 (.t (.one (.v (vb p40)))) h39→(let J55:Bool→Hp→Prop:=fun p57 h58=>((p57=true→(Qa Tryz.prog 130 [vsl u1 u2 u3,vi x24] h58 fun v59 h60=>∃ a61 n61 c61,v59=(vsl a61 n61 c61)∧R (vsl a61 n61 c61) h60))∧(p57=false→(Qa Tryz.prog 128 [vi u0,vsl u1 u2 u3,vsl none 0 0] h58 fun v63 h64=>∃ a65 n65 c65,v63=(vsl a65 n65 c65)∧R (vsl a65 n65 c65) h64)));(((bif (bif (decide (u0=4)) then(decide (x23=4)) else false) then p40 else false)=true→(J55 (bif (bif (decide (u0=4)) then(decide (x23=4)) else false) then p40 else false) h39))∧((bif (bif (decide (u0=4)) then(decide (x23=4)) else false) then p40 else false)=false→(∃(J42:SV→Hp→Prop),((bif (decide (u0=3)) then(decide (x23=3)) else false)=true→(Qa Tryz.prog 130 [vsl u1 u2 u3,vi x24] h39 fun v43 h44=>∃ a45 n45 c45,v43=(vsl a45 n45 c45)∧J42 (.t (.one (.v (vsl a45 n45 c45)))) h44))∧(¬((bif (decide (u0=3)) then(decide (x23=3)) else false)=true)→J42 (.t (.one (.v (vsl none 0 0)))) h39)∧∀ h46 a47 n47 c47,J42 (.t (.one (.v (vsl a47 n47 c47)))) h46→(∃(J48:SV→Hp→Prop),((bif (decide (u0=3)) then(decide (x23=3)) else false)=true→(Qa Tryz.prog 131 [vsl a47 n47 c47] h46 fun v49 h50=>∃ p51,v49=(vb p51)∧J48 (.t (.one (.v (vb p51)))) h50))∧(¬((bif (decide (u0=3)) then(decide (x23=3)) else false)=true)→J48 (.t (.one (.v (vb false)))) h46)∧∀ h52 p53,J48 (.t (.one (.v (vb p53)))) h52→(J55 (bif (bif (decide (u0=3)) then(decide (x23=3)) else false) then p53 else false) h52))))))))))))))
theorem QdB {u0 u1 u2 u3 h R}(H:Gh u0 u1 u2 u3 h R):Qa Tryz.prog 79 [vi u0,vsl u1 u2 u3] h R:=
 Qd (cfg:=⟨[],[],[]⟩) Qo mixed Tryz.func79 [.one (.v (vi u0)),.one (.v (vsl u1 u2 u3))] (by kernel_rfl) rfl (by kernel_rfl) H
def GC (u0:Int)(u1:Option Addr)(u2 u3:Nat)(u4:Int)(u5:Int)(u6:Bool)(h:Hp)(R:Value→Hp→Prop):Prop:=
 (∃(J1:SV→Hp→Prop),((decide (u0=9))=true→(Qa Tryz.prog 38 [vb true] h fun v2 h3=>∃ x4 x5,v2=(vag [vi x4,vi x5])∧J1 (.t (.ag [.v (vi x4),.v (vi x5)])) h3))∧(¬((decide (u0=9))=true)→J1 (.t (.ag [.v (vi 0),.v (vi 0)])) h)∧∀ h6 x7 x8,J1 (.t (.ag [.v (vi x7),.v (vi x8)])) h6→(∃ p9,((decide (u0=9))=true→Rd Tryz.prog ((eqGuard .eql 42 (.tmp 14) (.tmp 15) (vag [vi u4,vi u5]) (vag [vi x7,vi x8]) >>= fun _=>binOp .eql 42 (vag [vi u4,vi u5]) (vag [vi x7,vi x8]))) h6 (vb p9))∧(∃(J10:SV→Hp→Prop),(((bif (decide (u0=9)) then p9 else false)=false∧(decide (u0=10))=true)→(Qa Tryz.prog 38 [vb false] h6 fun v11 h12=>∃ x13 x14,v11=(vag [vi x13,vi x14])∧J10 (.t (.ag [.v (vi x13),.v (vi x14)])) h12))∧(¬((bif (decide (u0=9)) then p9 else false)=false∧(decide (u0=10))=true)→J10 (.t (.ag [.v (vi 0),.v (vi 0)])) h6)∧∀ h15 x16 x17,J10 (.t (.ag [.v (vi x16),.v (vi x17)])) h15→(∃ p18,(((bif (decide (u0=9)) then p9 else false)=false∧(decide (u0=10))=true)→Rd Tryz.prog ((eqGuard .eql 42 (.tmp 22) (.tmp 23) (vag [vi u4,vi u5]) (vag [vi x16,vi x17]) >>= fun _=>binOp .eql 42 (vag [vi u4,vi u5]) (vag [vi x16,vi x17]))) h15 (vb p18))∧(∃(J19:SV→Hp→Prop),((bif (bif (decide (u0=9)) then p9 else false) then true else(bif (decide (u0=10)) then p18 else false))=true→(Qa Tryz.prog 129 [vsl u1 u2 u3] h15 fun v20 h21=>∃ p22,v20=(vb p22)∧J19 (.t (.one (.v (vb p22)))) h21))∧(¬((bif (bif (decide (u0=9)) then p9 else false) then true else(bif (decide (u0=10)) then p18 else false))=true)→J19 (.t (.one (.v (vb false)))) h15)∧∀ h23 p24,J19 (.t (.one (.v (vb p24)))) h23→(((bif (bif (bif (decide (u0=9)) then p9 else false) then true else(bif (decide (u0=10)) then p18 else false)) then p24 else false)=true→R (Qf [vsl u1 u2 u3,vb true]) h23)∧((bif (bif (bif (decide (u0=9)) then p9 else false) then true else(bif (decide (u0=10)) then p18 else false)) then p24 else false)=false→(∃(J25:SV→Hp→Prop),((decide (u0=9))=true→(Qa Tryz.prog 38 [vb false] h23 fun v26 h27=>∃ x28 x29,v26=(vag [vi x28,vi x29])∧J25 (.t (.ag [.v (vi x28),.v (vi x29)])) h27))∧(¬((decide (u0=9))=true)→J25 (.t (.ag [.v (vi 0),.v (vi 0)])) h23)∧∀ h30 x31 x32,J25 (.t (.ag [.v (vi x31),.v (vi x32)])) h30→(∃ p33,((decide (u0=9))=true→Rd Tryz.prog ((eqGuard .eql 42 (.tmp 36) (.tmp 37) (vag [vi u4,vi u5]) (vag [vi x31,vi x32]) >>= fun _=>binOp .eql 42 (vag [vi u4,vi u5]) (vag [vi x31,vi x32]))) h30 (vb p33))∧(let J45:Bool→Hp→Prop:=fun p47 h48=>((p47=true→(Qa Tryz.prog 127 [vag [vi u4,vi u5]] h48 fun v49 h50=>∃ a51 n51 c51,v49=(vsl a51 n51 c51)∧R (Qf [vsl a51 n51 c51,vb true]) h50))∧(p47=false→(∃(J52:SV→Hp→Prop),((decide (u0=6))=true→(Qa Tryz.prog 136 [vi 0] h48 fun v53 h54=>∃ x55 x56,v53=(vag [vi x55,vi x56])∧J52 (.t (.ag [.v (vi x55),.v (vi x56)])) h54))∧(¬((decide (u0=6))=true)→J52 (.t (.ag [.v (vi 0),.v (vi 0)])) h48)∧∀ h57 x58 x59,J52 (.t (.ag [.v (vi x58),.v (vi x59)])) h57→(∃ p60,((decide (u0=6))=true→Rd Tryz.prog ((eqGuard .eql 42 (.tmp 53) (.tmp 54) (vag [vi u4,vi u5]) (vag [vi x58,vi x59]) >>= fun _=>binOp .eql 42 (vag [vi u4,vi u5]) (vag [vi x58,vi x59]))) h57 (vb p60))∧(∃(J61:SV→Hp→Prop),(((bif (decide (u0=6)) then p60 else false)=false∧(decide (u0=8))=true)→(Qa Tryz.prog 136 [vi 1] h57 fun v62 h63=>∃ x64 x65,v62=(vag [vi x64,vi x65])∧J61 (.t (.ag [.v (vi x64),.v (vi x65)])) h63))∧(¬((bif (decide (u0=6)) then p60 else false)=false∧(decide (u0=8))=true)→J61 (.t (.ag [.v (vi 0),.v (vi 0)])) h57)∧∀ h66 x67 x68,J61 (.t (.ag [.v (vi x67),.v (vi x68)])) h66→(∃ p69,(((bif (decide (u0=6)) then p60 else false)=false∧(decide (u0=8))=true)→Rd Tryz.prog ((eqGuard .eql 42 (.tmp 61) (.tmp 62) (vag [vi u4,vi u5]) (vag [vi x67,vi x68]) >>= fun _=>binOp .eql 42 (vag [vi u4,vi u5]) (vag [vi x67,vi x68]))) h66 (vb p69))∧(∃(J70:SV→Hp→Prop),(((bif (bif (decide (u0=6)) then p60 else false) then true else(bif (decide (u0=8)) then p69 else false))=false∧(bif (decide (u0=7)) then u6 else false)=true)→(Qa Tryz.prog 136 [vi 0] h66 fun v71 h72=>∃ x73 x74,v71=(vag [vi x73,vi x74])∧J70 (.t (.ag [.v (vi x73),.v (vi x74)])) h72))∧(¬((bif (bif (decide (u0=6)) then p60 else false) then true else(bif (decide (u0=8)) then p69 else false))=false∧(bif (decide (u0=7)) then u6 else false)=true)→J70 (.t (.ag [.v (vi 0),.v (vi 0)])) h66)∧∀ h75 x76 x77,J70 (.t (.ag [.v (vi x76),.v (vi x77)])) h75→(∃ p78,(((bif (bif (decide (u0=6)) then p60 else false) then true else(bif (decide (u0=8)) then p69 else false))=false∧(bif (decide (u0=7)) then u6 else false)=true)→Rd Tryz.prog ((eqGuard .eql 42 (.tmp 73) (.tmp 74) (vag [vi u4,vi u5]) (vag [vi x76,vi x77]) >>= fun _=>binOp .eql 42 (vag [vi u4,vi u5]) (vag [vi x76,vi x77]))) h75 (vb p78))∧(∃(J79:SV→Hp→Prop),((bif (bif (bif (decide (u0=6)) then p60 else false) then true else(bif (decide (u0=8)) then p69 else false)) then true else(bif (bif (decide (u0=7)) then u6 else false) then p78 else false))=true→(Qa Tryz.prog 131 [vsl u1 u2 u3] h75 fun v80 h81=>∃ p82,v80=(vb p82)∧J79 (.t (.one (.v (vb p82)))) h81))∧(¬((bif (bif (bif (decide (u0=6)) then p60 else false) then true else(bif (decide (u0=8)) then p69 else false)) then true else(bif (bif (decide (u0=7)) then u6 else false) then p78 else false))=true)→J79 (.t (.one (.v (vb false)))) h75)∧∀ h83 p84,J79 (.t (.one (.v (vb p84)))) h83→(((bif (bif (bif (bif (decide (u0=6)) then p60 else false) then true else(bif (decide (u0=8)) then p69 else false)) then true else(bif (bif (decide (u0=7)) then u6 else false) then p78 else false)) then p84 else false)=true→R (Qf [vsl u1 u2 u3,vb true]) h83)∧((bif (bif (bif (bif (decide (u0=6)) then p60 else false) then true else(bif (decide (u0=8)) then p69 else false)) then true else(bif (bif (decide (u0=7)) then u6 else false) then p78 else false)) then p84 else false)=false→(((bif (bif (decide (u0≠9)) then(decide (u0≠10)) else false) then(decide (u4=0)) else false)=true→(Qa Tryz.prog 127 [vag [vi u4,vi u5]] h83 fun v85 h86=>∃ a87 n87 c87,v85=(vsl a87 n87 c87)∧R (Qf [vsl a87 n87 c87,vb true]) h86))∧((bif (bif (decide (u0≠9)) then(decide (u0≠10)) else false) then(decide (u4=0)) else false)=false→R (Qf [vsl none 0 0,vb false]) h83)))))))))))));(((bif (decide (u0=9)) then p33 else false)=true→(J45 (bif (decide (u0=9)) then p33 else false) h30))∧((bif (decide (u0=9)) then p33 else false)=false→(∃(J35:SV→Hp→Prop),((decide (u0=10))=true→(Qa Tryz.prog 38 [vb true] h30 fun v36 h37=>∃ x38 x39,v36=(vag [vi x38,vi x39])∧J35 (.t (.ag [.v (vi x38),.v (vi x39)])) h37))∧(¬((decide (u0=10))=true)→J35 (.t (.ag [.v (vi 0),.v (vi 0)])) h30)∧∀ h40 x41 x42,J35 (.t (.ag [.v (vi x41),.v (vi x42)])) h40→(∃ p43,((decide (u0=10))=true→Rd Tryz.prog ((eqGuard .eql 42 (.tmp 43) (.tmp 44) (vag [vi u4,vi u5]) (vag [vi x41,vi x42]) >>= fun _=>binOp .eql 42 (vag [vi u4,vi u5]) (vag [vi x41,vi x42]))) h40 (vb p43))∧(J45 (bif (decide (u0=10)) then p43 else false) h40)))))))))))))))
theorem QdC {u0 u1 u2 u3 u4 u5 u6 h R}(H:GC u0 u1 u2 u3 u4 u5 u6 h R):Qa Tryz.prog 132 [vi u0,vsl u1 u2 u3,vag [vi u4,vi u5],vb u6] h R:=
 Qd (cfg:=⟨[],[],[(1,[0,1,2,3,4,5,6,7,8,9,10,11,12,13,14,15,16,17,18,19,20]),(3,[0,1,2,3,4,5,6,7]),(4,[0,1,2,3,4,5,6,7]),(6,[0,1,2,3,4,5,6,7,8,9,10,11,12,13,14,15,16,17,18,19,20,21,22,23,24,25,26,27,28,29,30,31,32])]⟩) Qo mixed Tryz.func132 [.one (.v (vi u0)),.one (.v (vsl u1 u2 u3)),.ag [.v (vi u4),.v (vi u5)],.one (.v (vb u6))] (by kernel_rfl) rfl (by kernel_rfl) H
def Gz (u0:Int)(u1:Option Addr)(u2 u3:Nat)(u4:Option Addr)(u5 u6:Nat)(h:Hp)(R:Value→Hp→Prop):Prop:=
 (Qa Tryz.prog 126 [vsl u1 u2 u3] h fun v1 h2=>∃ x3 x4 p5,v1=(Qf [vag [vi x3,vi x4],vb p5])∧(Qa Tryz.prog 126 [vsl u4 u5 u6] h2 fun v6 h7=>∃ x8 x9 p10,v6=(Qf [vag [vi x8,vi x9],vb p10])∧(((bif p5 then p10 else false)=true→(Qa Tryz.prog 88 [vi u0,vag [vi x3,vi x4],vag [vi x8,vi x9]] h7 fun v11 h12=>∃ x13 x14,v11=(vag [vi x13,vi x14])∧(Qa Tryz.prog 127 [vag [vi x13,vi x14]] h12 fun v15 h16=>∃ a17 n17 c17,v15=(vsl a17 n17 c17)∧R (vsl a17 n17 c17) h16)))∧((bif p5 then p10 else false)=false→(let J25:Hp→Prop:=fun h26=>(let J33:Hp→Prop:=fun h34=>(Qa Tryz.prog 128 [vi u0,vsl u1 u2 u3,vsl u4 u5 u6] h34 fun v35 h36=>∃ a37 n37 c37,v35=(vsl a37 n37 c37)∧R (vsl a37 n37 c37) h36);((p10=true→(Qa Tryz.prog 132 [vi u0,vsl u1 u2 u3,vag [vi x8,vi x9],vb true] h26 fun v27 h28=>∃ a29 n29 c29 p30,v27=(Qf [vsl a29 n29 c29,vb p30])∧((p30=true→R (vsl a29 n29 c29) h28)∧(p30=false→(J33 h28)))))∧(p10=false→(J33 h26))));((p5=true→(Qa Tryz.prog 132 [vi u0,vsl u4 u5 u6,vag [vi x3,vi x4],vb false] h7 fun v19 h20=>∃ a21 n21 c21 p22,v19=(Qf [vsl a21 n21 c21,vb p22])∧((p22=true→R (vsl a21 n21 c21) h20)∧(p22=false→(J25 h20)))))∧(p5=false→(J25 h7))))))))
theorem QeH {u0 u1 u2 u3 u4 u5 u6 h R}(H:Gz u0 u1 u2 u3 u4 u5 u6 h R):Qa Tryz.prog 80 [vi u0,vsl u1 u2 u3,vsl u4 u5 u6] h R:=
 Qd (cfg:=⟨[],[],[]⟩) Qo mixed Tryz.func80 [.one (.v (vi u0)),.one (.v (vsl u1 u2 u3)),.one (.v (vsl u4 u5 u6))] (by kernel_rfl) rfl (by kernel_rfl) H
def QaC (u0:Option Addr)(u1 u2:Nat)(h:Hp)(R:Value→Hp→Prop):Prop:=
 (∃(I2:List Value→Hp→Prop) (m3:List Value→Hp→Nat),I2 [vsl none 0 0,vi 0] h∧∀ vs4 h5,I2 vs4 h5→∃ a6 n6 c6 x7,vs4=[vsl a6 n6 c6,vi x7]∧(((decide (x7 < (u1:Int)))=true→(∃ b10 o11,(u0=some ⟨b10,o11,none⟩∧(0:Int)≤x7∧x7 < (u1:Int))∧(∃ x12 x13 x14 x15 x16 x17,(Hp.row h5 b10 (o11+x7.toNat*6) 6=some [vi x12,vi x13,vi x14,vi x15,vi x16,vi x17])∧(Qa Tryz.prog 78 [vi x12] h5 fun v18 h19=>∃ x20,v18=(vi x20)∧(∃ x21,(IsW x21 ((n6:Int) - x20))∧(∃ a22 n22 c22,(Rd Tryz.prog (Instr.sliceAt 158 (vsl a6 n6 c6) (some (vi x21)) none none) h19 (vsl a22 n22 c22))∧(let J43:Option Addr→Nat→Nat→Hp→Prop:=fun a46 n46 c46 h47=>(∃ a48 n48 c48,(Rd Tryz.prog (Instr.sliceAt 158 (vsl a6 n6 c6) none (some (vi x21)) (some (vi x21))) h47 (vsl a48 n48 c48))∧(∀ b49,h47 b49=none→let h50:= Hp.set h47 b49 (Qc [vsl a46 n46 c46] 26);(Ql Tryz.prog (Builtin.append_ #[158,158] 158 #[vsl a48 n48 c48,(vsl (some (⟨b49,0,none⟩:Addr)) 1 1)]) h50 fun v51 h52=>∃ a53 n53 c53,v51=(vsl a53 n53 c53)∧(∃ x55,(IsW x55 (x7+1))∧(I2 [vsl a53 n53 c53,vi x55] h52∧m3 [vsl a53 n53 c53,vi x55] h52 < m3 vs4 h5)))));(((decide ((n22:Int)=0))=true→(∀ b23,h19 b23=none→let h24:= Hp.set h19 b23 (Qc [vi x12,vi x13,vi x14,vi x15,vi x16,vi x17] 160);(J43 (some (⟨b23,0,none⟩:Addr)) 1 1 h24)))∧((decide ((n22:Int)=0))=false→(((decide ((n22:Int)=1))=true→(∃ b26 o27,(a22=some ⟨b26,o27,none⟩∧(0:Int)≤0∧0 < (n22:Int))∧(∃ a28 n28 c28,(Hp.cell h19 b26 (o27+(0:Int).toNat*1)=some (vsl a28 n28 c28))∧(Qa Tryz.prog 79 [vi x12,vsl a28 n28 c28] h19 fun v29 h30=>∃ a31 n31 c31,v29=(vsl a31 n31 c31)∧(J43 a31 n31 c31 h30)))))∧((decide ((n22:Int)=1))=false→(∃ b33 o34,(a22=some ⟨b33,o34,none⟩∧(0:Int)≤0∧0 < (n22:Int))∧(∃ a35 n35 c35,(Hp.cell h19 b33 (o34+(0:Int).toNat*1)=some (vsl a35 n35 c35))∧(∃ b36 o37,(a22=some ⟨b36,o37,none⟩∧(0:Int)≤1∧1 < (n22:Int))∧(∃ a38 n38 c38,(Hp.cell h19 b36 (o37+(1:Int).toNat*1)=some (vsl a38 n38 c38))∧(Qa Tryz.prog 80 [vi x12,vsl a35 n35 c35,vsl a38 n38 c38] h19 fun v39 h40=>∃ a41 n41 c41,v39=(vsl a41 n41 c41)∧(J43 a41 n41 c41 h40)))))))))))))))))∧((decide (x7 < (u1:Int)))=false→(∃ b56 o57,(a6=some ⟨b56,o57,none⟩∧(0:Int)≤0∧0 < (n6:Int))∧(∃ a58 n58 c58,(Hp.cell h5 b56 (o57+(0:Int).toNat*1)=some (vsl a58 n58 c58))∧R (vsl a58 n58 c58) h5)))))
theorem QgH {u0 u1 u2 h R}(H:QaC u0 u1 u2 h R):Qa Tryz.prog 31 [vsl u0 u1 u2] h R:=
 Qd (cfg:=⟨[],[(3,([3,11],[.one (.slice),.one (.int .i64)],[]))],[(13,[0,1,2,3,4,5,6]),(9,[0,1,2,3,4,5,6,7,8,9])]⟩) Qo mixed Tryz.func31 [.one (.v (vsl u0 u1 u2))] (by kernel_rfl) rfl (by kernel_rfl) H
theorem Qdy {β:Type}{d:β}{F:Nd→β→β→β}(hF:Qns F)(hS:∀(k:Int) n a b,F (shN k n) a b=F n a b){op:Int}(ho:1≤arI op){l m:List Nd}(W:WfL l)(W':WfL m)(hl:0 < l.length)(hm:2≤arI op→0 < m.length) :
  ∃ y,fAt d F (ZU op l m) (l.length+m.length)=F ⟨op,(l.length:Int) - 1,y,0,(0,0)⟩ (fAt d F l (l.length - 1)) (if arI op=2 then fAt d F m (m.length - 1) else fAt d F l (l.length - 1)):=by
 have ha:=ar0 (op:=op) (by omega)
 have WJ:=WfL.join (op:=op) (by omega) W W' hl hm (by omega)
 have hj:(ZU op l m)[l.length+m.length]?=some ⟨op,(l.length:Int) - 1,if 1 < arI op then((l.length+m.length:Nat):Int) - 1 else 0,0,(0,0)⟩:=by
  unfold ZU
  rw [List.getElem?_append_right (by simp)]
  simp
 refine⟨if 1 < arI op then((l.length+m.length:Nat):Int) - 1 else 0,(Z8 hF hj (WJ _ _ hj)).trans ?_⟩
 refine hF _ _ _ _ _ (by simp only;omega) (fun _=>?_) fun h2=>?_
 ·simp only
  rw [show ((l.length:Int) - 1).toNat=l.length - 1 by omega]
  unfold ZU
  rw [List.append_assoc]
  exact QgV _ _ (by omega)
 ·simp only at h2 ⊢
  have h2':arI op=2:=by rcases QK (op:=op) (by omega) with q|q|q<;>omega
  rw [if_pos (by omega:1 < arI op),if_pos h2']
  have:=hm h2
  rw [show (((l.length+m.length:Nat):Int) - 1).toNat=l.length+(m.length - 1) by omega]
  exact QnI hF hS W' l _ _ (by omega)
theorem Qam:WfL ([]:List Nd):=by intro i n hn;cases hn
theorem Rep.pos {P:EvL→Int × Int}{T:Option Int}{k:Nat}{z:List Nd}(R:Rep P T k z):0 < z.length:=R.ok.pos
theorem QgB {op:Int}{a b:Option Int}{t:Int}(h:tyG op a b=some t):∃ x y,a=some x∧b=some y:=by
 cases a with
 | none=>cases b<;>cases h
 | some x=>
  cases b with
  | none=>cases h
  | some y=>exact⟨x,y,rfl,rfl⟩
theorem Qh5 {op x y x' y' t:Int}(h:tyG op (some x) (some y)=some t)(hx:x'=0∨x'=x)(hy:y'=0∨y'=y):tyG op (some x') (some y')=some t:=by
 unfold tyG at h ⊢
 simp only at h ⊢
 split at h
 ·rename_i h1;rw [if_pos h1];exact h
 ·rename_i h1
  rw [if_neg h1]
  split at h
  ·cases h
  ·rename_i h2
   rw [if_neg (by omega)]
   exact h
theorem Rep.join2 {P Q:EvL→Int × Int}{T U:Option Int}{k j:Nat}{x y:List Nd}{op:Int}(ho:arI op=2)(A:Rep P T k x)(B:Rep Q U j y):Rep (fun e=>opV op (P e) (Q e)) (tyG op T U) (k+j+1) (ZU op x y):=by
 have ar:=ar0 (op:=op) (by omega)
 have hp:=A.pos
 have hq:=B.pos
 have hA:=A.len
 have hB:=B.len
 refine⟨KW (Qke ho A.ok B.ok),by rw [Zv];omega,fun e E=>?_,fun t ht=>?_⟩
 ·rw [Qj0 e ho A.ok.wf B.ok.wf hp hq,A.val e E,B.val e E]
  unfold opV
  rw [if_neg (by omega),if_neg (by omega),if_neg (by omega)]
 ·obtain⟨tx,ty,rfl,rfl⟩:=QgB ht
  obtain⟨tx',e1,h1⟩:=A.ty tx rfl
  obtain⟨ty',e2,h2⟩:=B.ty ty rfl
  obtain⟨y',hy⟩:=Qdy (d:=none) (F:=tyF) YM (fun _ _ _ _=>rfl) (op:=op) (by omega) A.ok.wf B.ok.wf hp (fun _=>hq)
  rw [Zv,show x.length+y.length+1 - 1=x.length+y.length by omega]
  refine⟨t,?_,.inr rfl⟩
  rw [tAt,hy,Wv (by simp only;omega) (by simp only;omega)]
  simp only
  rw [if_pos ho,if_pos ho,show fAt none tyF x (x.length - 1)=some tx' from e1,show fAt none tyF y (y.length - 1)=some ty' from e2]
  exact Qh5 ht h1 h2
theorem Rep.join1 {P:EvL→Int × Int}{T:Option Int}{k:Nat}{x:List Nd}{op:Int}(ho:arI op=1)(A:Rep P T k x):Rep (fun e=>opV op (P e) (P e)) (tyG op T T) (k+1) (ZU op x []):=by
 have ar:=ar0 (op:=op) (by omega)
 have hp:=A.pos
 have hA:=A.len
 refine⟨KW (QjP ho A.ok),by rw [Zv];simp;omega,fun e E=>?_,fun t ht=>?_⟩
 ·obtain⟨y',hy⟩:=Qdy (d:=(0,0)) (F:=Xf e) (YI e) (Qh7 e) (op:=op) (by omega) A.ok.wf Qam hp (fun h=>by omega)
  unfold ZG
  rw [Zv,show x.length+([]:List Nd).length+1 - 1=x.length+([]:List Nd).length by omega,vAt,hy,Gu e (by simp only;omega) (by simp only;omega),if_neg (by omega)]
  have:=A.val e E
  unfold ZG vAt at this
  rw [this]
 ·obtain⟨tx,ty,rfl,h2⟩:=QgB ht
  obtain⟨tx',e1,h1⟩:=A.ty tx rfl
  obtain⟨y',hy⟩:=Qdy (d:=none) (F:=tyF) YM (fun _ _ _ _=>rfl) (op:=op) (by omega) A.ok.wf Qam hp (fun h=>by omega)
  rw [Zv,show x.length+([]:List Nd).length+1 - 1=x.length+([]:List Nd).length by omega]
  refine⟨t,?_,.inr rfl⟩
  rw [tAt,hy,Wv (by simp only;omega) (by simp only;omega)]
  simp only
  rw [show fAt none tyF x (x.length - 1)=some tx' from e1]
  simp only [ho,show ¬(1:Int)=2 by decide,if_false]
  exact Qh5 ht h1 h1
theorem QlD {v:Int × Int}(h:Qp v)(h1:v.1≠1):JG (JG v)=v:=by
 obtain⟨a,b⟩:=v
 have:(a=0∧b=0)∨(a=2∧b=0)∨(a=2∧b=1):=by
  unfold Qp at h
  simp only at h h1
  omega
 rcases this with ⟨rfl,rfl⟩|⟨rfl,rfl⟩|⟨rfl,rfl⟩<;>decide
theorem Qdt {n:Int}(h:-1000000000≤n∧n≤1000000000):YP (w64 n)=(1,n):=by
 rw [Qpy (by unfold InR;omega)]
 unfold YP
 rw [if_neg (by omega)]
theorem QoA {v:Int × Int}(h:Qp v)(h1:v.1≠2):Qa0 (Qa0 v)=v:=by
 obtain⟨a,b⟩:=v
 have:(a=0∧b=0)∨(a=1∧-1000000000≤b∧b≤1000000000):=by
  unfold Qp at h
  simp only at h h1
  omega
 rcases this with ⟨rfl,rfl⟩|⟨rfl,hb⟩
 ·decide
 ·have e1:Qa0 (1,b)=(1,-b):=by
   unfold Qa0
   rw [if_pos rfl]
   exact Qdt (by simp only;omega)
  rw [e1]
  unfold Qa0
  rw [if_pos rfl]
  have:=Qdt (n:=- -b) (by omega)
  simp only
  rw [this]
  simp
theorem Qp4 {v:Int × Int}(h:Qp v)(h1:v.1≠1):v=(0,0)∨v=(2,0)∨v=(2,1):=by
 obtain⟨a,b⟩:=v
 unfold Qp at h
 simp only [Prod.mk.injEq] at *
 omega
theorem Qk5 {v:Int × Int}(h:Qp v)(h1:v.1≠1):doV 9 v (2,1)=v∧doV 9 (2,1) v=v:=by
 rcases Qp4 h h1 with rfl|rfl|rfl<;>decide
theorem Qo4 {v:Int × Int}(h:Qp v)(h1:v.1≠1):doV 10 v (2,0)=v∧doV 10 (2,0) v=v:=by
 rcases Qp4 h h1 with rfl|rfl|rfl<;>decide
theorem QnR (v:Int × Int):doV 9 v (2,0)=(2,0)∧doV 9 (2,0) v=(2,0):=by
 unfold doV Qad
 simp
theorem Qjj (a b:Int × Int):doV 10 a b=JG (Qad (JG a) (JG b)):=by
 unfold doV
 rw [if_neg (by decide),if_pos rfl]
theorem Qm0 (v:Int × Int):doV 10 v (2,1)=(2,1)∧doV 10 (2,1) v=(2,1):=by
 rw [Qjj,Qjj]
 have e:JG (2,1)=(2,0):=by decide
 rw [e]
 unfold Qad
 constructor
 ·rw [if_pos (.inr rfl)];decide
 ·rw [if_pos (.inl rfl)];decide
theorem QkG {op:Int}(h9:op≠9)(h10:op≠10){a b:Int × Int}(h:a.1=0∨b.1=0):doV op a b=(0,0):=by
 unfold doV
 rw [if_neg h9,if_neg h10,if_neg (by omega)]
theorem Qcd {v:Int × Int}(h:Qp v)(h1:v.1≠2):v=(0,0)∨∃ n,v=(1,n)∧-1000000000≤n∧n≤1000000000:=by
 obtain⟨a,b⟩:=v
 unfold Qp at h
 simp only at h h1
 rcases h with ⟨rfl,rfl⟩|⟨rfl,hb⟩|⟨h2,_⟩
 ·exact .inl rfl
 ·exact .inr ⟨b,rfl,hb⟩
 ·exact absurd h2 h1
theorem Qo6 {v:Int × Int}(h:Qp v)(h1:v.1≠2):doV 6 v (1,0)=v∧doV 6 (1,0) v=v:=by
 rcases Qcd h h1 with rfl|⟨n,rfl,hn⟩
 ·decide
 ·unfold doV
  simp only [show ¬(6:Int)=9 by decide,show ¬(6:Int)=10 by decide,if_false,and_self,if_true,Int.add_zero,Int.zero_add]
  exact Qdt hn
theorem Qo2 {v:Int × Int}(h:Qp v)(h1:v.1≠2):doV 8 v (1,1)=v∧doV 8 (1,1) v=v:=by
 rcases Qcd h h1 with rfl|⟨n,rfl,hn⟩
 ·decide
 ·unfold doV
  simp only [show ¬(8:Int)=9 by decide,show ¬(8:Int)=10 by decide,show ¬(8:Int)=6 by decide,show ¬(8:Int)=7 by decide,if_false,and_self,if_true,Int.mul_one,Int.one_mul]
  exact Qdt hn
theorem QpY {v:Int × Int}(h:Qp v)(h1:v.1≠2):doV 7 v (1,0)=v:=by
 rcases Qcd h h1 with rfl|⟨n,rfl,hn⟩
 ·decide
 ·unfold doV
  simp only [show ¬(7:Int)=9 by decide,show ¬(7:Int)=10 by decide,show ¬(7:Int)=6 by decide,if_false,and_self,if_true,Int.sub_zero]
  exact Qdt hn
theorem QmV {x:List Nd}(O:OkE x){n:Nd}(hx:x[x.length - 1]?=some n)(ha:arI n.op=1) :
  2≤x.length∧n.x=(x.length:Int) - 2∧Blk x 0 (x.length - 1)∧OkE (ZS x 0 (x.length - 1))∧(∀ e,ZG e x=opV n.op (ZG e (ZS x 0 (x.length - 1))) (ZG e (ZS x 0 (x.length - 1))))∧tAt x (x.length - 1)=tyG n.op (tAt x (x.length - 2)) (tAt x (x.length - 2))∧tAt (ZS x 0 (x.length - 1)) ((ZS x 0 (x.length - 1)).length - 1)=tAt x (x.length - 2):=by
 have hp:=O.pos
 have W:=O.wf _ _ hx
 have ar:=ar0 W.a
 have key:∀{e:Nat},Blk x 0 e→e=x.length→Blk x 0 (x.length - 1)∧n.x=(x.length:Int) - 2:=by
  intro e B he
  cases B with
  | @leaf i m h h0=>
   rw [show x.length - 1=0 by omega,h] at hx
   cases hx
   omega
  | @one f i m B h h0 hxx=>
   obtain rfl:i=x.length - 1:=by omega
   rw [h] at hx
   cases hx
   exact⟨B,by omega⟩
  | @two f g i m B B' h h0 hxx hyy=>
   obtain rfl:i=x.length - 1:=by omega
   rw [h] at hx
   cases hx
   omega
 obtain⟨B,hnx⟩:=key O.b rfl
 have hB:=B.lt
 have ec:ZS x 0 (x.length - 1)=x.take (x.length - 1):=by
  unfold ZS seg
  rw [List.drop_zero,Nat.sub_zero]
  exact QgG _
 have OC:=KW (Qnv O.n B)
 have lc:(ZS x 0 (x.length - 1)).length - 1=x.length - 2:=by rw [VG B];omega
 have pre:∀{β:Type} (d:β) (F:Nd→β→β→β),fAt d F (ZS x 0 (x.length - 1)) (x.length - 2)=fAt d F x (x.length - 2):=by
  intro β d F
  rw [ec]
  exact UA x (by omega) (by omega)
 refine⟨by omega,hnx,B,OC,fun e=>?_,?_,?_⟩
 ·have h1:vAt e x (x.length - 1)=_:=Z8 (YI e) hx W
  unfold ZG
  rw [h1,lc,Gu e (by omega) (by omega),vAt,pre,show n.x.toNat=x.length - 2 by omega]
  have:∀ a b b',opV n.op a b=opV n.op a b':=by
   intro a b b'
   unfold opV
   split
   ·rfl
   ·split
    ·rfl
    ·split
     ·rfl
     ·omega
  exact this _ _ _
 ·have h1:tAt x (x.length - 1)=_:=Z8 YM hx W
  rw [h1,Wv (by omega) (by omega),if_neg (by omega),show n.x.toNat=x.length - 2 by omega]
 ·rw [lc]
  exact pre _ _
theorem Rep.twice {P:EvL→Int × Int}{T:Option Int}{k:Nat}{x:List Nd}{n:Nd}(A:Rep P T k x)(hx:x[x.length - 1]?=some n)(h:(n.op=4∧(Zk (ZS x 0 (x.length - 1))).1≠1)∨(n.op=3∧(Zk (ZS x 0 (x.length - 1))).1≠2))(h0:(Zk (ZS x 0 (x.length - 1))).2=0) :
  Rep (fun e=>opV n.op (P e) (P e)) (tyG n.op T T) (k+1) (ZS x 0 (x.length - 1)):=by
 have ha:arI n.op=1:=by rcases h with ⟨h,_⟩|⟨h,_⟩<;>rw [h]<;>decide
 obtain⟨hl,hnx,B,OC,hv,ht,hc⟩:=QmV A.ok hx ha
 have hp:=OC.pos
 have hty:∃ t,tAt (ZS x 0 (x.length - 1)) ((ZS x 0 (x.length - 1)).length - 1)=some t∧(Zk (ZS x 0 (x.length - 1))).1=t:=by
  unfold Zk at h0 ⊢
  cases hq:tAt (ZS x 0 (x.length - 1)) ((ZS x 0 (x.length - 1)).length - 1) with
  | none=>rw [hq] at h0;cases h0
  | some t=>exact⟨t,rfl,rfl⟩
 obtain⟨t,e1,e2⟩:=hty
 rw [e2] at h
 have tr:=Qeb OC (by omega) e1
 refine⟨OC,by rw [VG B];have:=A.len;omega,fun e E=>?_,fun u hu=>⟨t,e1,?_⟩⟩
 ·have g:=VY OC E (i:=(ZS x 0 (x.length - 1)).length - 1) (by omega)
  have g2:=g.2 t e1
  have n1:t≠1→(vAt e (ZS x 0 (x.length - 1)) ((ZS x 0 (x.length - 1)).length - 1)).1≠1:=fun h q=>by rcases g2 with g2|g2<;>rw [g2] at q<;>omega
  have n2:t≠2→(vAt e (ZS x 0 (x.length - 1)) ((ZS x 0 (x.length - 1)).length - 1)).1≠2:=fun h q=>by rcases g2 with g2|g2<;>rw [g2] at q<;>omega
  rw [←A.val e E,hv e]
  show _=opV n.op _ _
  rcases h with ⟨h,h1⟩|⟨h,h1⟩
  ·rw [h]
   exact(QlD g.1 (n1 h1)).symm
  ·rw [h]
   exact(QoA g.1 (n2 h1)).symm
 ·have:=Ml hu
  unfold QfP Wm at this
  rcases h with ⟨h,h1⟩|⟨h,h1⟩
  ·rw [h] at this;simp at this;omega
  ·rw [h] at this;simp at this;omega
structure Qa1 (P:EvL→Int × Int)(op:Int)(k:Nat)(z:List Nd):Prop where
 ok:OkE z
 len:z.length≤k
 val:∀ e,WC e→ZG e z=P e
 ty:∃ t',tAt z (z.length - 1)=some t'∧(t'=0∨t'=QfP op)
theorem Qa1.rep {P:EvL→Int × Int}{op:Int}{k j:Nat}{z:List Nd}(A:Qa1 P op k z)(hj:k≤j)(T U:Option Int):Rep P (tyG op T U) j z:=
 ⟨A.ok,Nat.le_trans A.len hj,A.val,fun t ht=>by rw [Ml ht];exact A.ty⟩
theorem Qa1.cst {P:EvL→Int × Int}{op:Int}{k:Nat}{v:Int × Int}(h:Qp v)(hk:1≤k)(hP:∀ e,WC e→v=P e)(hT:v.1=0∨v.1=QfP op):Qa1 P op k (cst v):=
 ⟨QmY h,hk,hP,v.1,rfl,hT⟩
def QgJ (right:Bool)(op:Int)(a v:Int × Int):Int × Int:=if right then doV op a v else doV op v a
theorem Qgw {x:List Nd}(h:(Zk x).2=0):tAt x (x.length - 1)=some (Zk x).1:=by
 unfold Zk at h ⊢
 cases hq:tAt x (x.length - 1) with
 | none=>rw [hq] at h;cases h
 | some t=>rfl
theorem Qka {x:List Nd}(O:OkE x){op:Int}{v:Int × Int}{right:Bool}(h:(op=9∧v=(2,1))∨(op=10∧v=(2,0)))(h0:(Zk x).2=0)(h1:(Zk x).1≠1):Qa1 (fun e=>QgJ right op (ZG e x) v) op x.length x:=by
 have hp:=O.pos
 have e1:=Qgw h0
 have tr:=Qeb O (by omega) e1
 refine⟨O,Nat.le_refl _,fun e E=>?_,_,e1,?_⟩
 ·have g:=VY O E (i:=x.length - 1) (by omega)
  have g2:=g.2 _ e1
  have n1:(vAt e x (x.length - 1)).1≠1:=fun q=>by rcases g2 with g2|g2<;>rw [g2] at q<;>omega
  unfold QgJ
  rcases h with ⟨rfl,rfl⟩|⟨rfl,rfl⟩
  ·cases right
   ·exact(Qk5 g.1 n1).2.symm
   ·exact(Qk5 g.1 n1).1.symm
  ·cases right
   ·exact(Qo4 g.1 n1).2.symm
   ·exact(Qo4 g.1 n1).1.symm
 ·have:QfP op=2:=by rcases h with ⟨rfl,_⟩|⟨rfl,_⟩<;>decide
  omega
theorem QlX {x:List Nd}{op:Int}{v:Int × Int}{right:Bool}(h:(op=9∧v=(2,0))∨(op=10∧v=(2,1))):Qa1 (fun e=>QgJ right op (ZG e x) v) op 1 (cst v):=by
 refine Qa1.cst (by rcases h with ⟨_,rfl⟩|⟨_,rfl⟩<;>(unfold Qp;simp)) (Nat.le_refl 1) (fun e E=>?_) (by rcases h with ⟨rfl,rfl⟩|⟨rfl,rfl⟩<;>decide)
 unfold QgJ
 rcases h with ⟨rfl,rfl⟩|⟨rfl,rfl⟩
 ·cases right
  ·exact(QnR (ZG e x)).2.symm
  ·exact(QnR (ZG e x)).1.symm
 ·cases right
  ·exact(Qm0 (ZG e x)).2.symm
  ·exact(Qm0 (ZG e x)).1.symm
theorem QiP {x:List Nd}(O:OkE x){op:Int}{v:Int × Int}{right:Bool}(h:(op=6∧v=(1,0))∨(op=8∧v=(1,1))∨(op=7∧right=true∧v=(1,0)))(h0:(Zk x).2=0)(h1:(Zk x).1≠2):Qa1 (fun e=>QgJ right op (ZG e x) v) op x.length x:=by
 have hp:=O.pos
 have e1:=Qgw h0
 have tr:=Qeb O (by omega) e1
 refine⟨O,Nat.le_refl _,fun e E=>?_,_,e1,?_⟩
 ·have g:=VY O E (i:=x.length - 1) (by omega)
  have g2:=g.2 _ e1
  have n1:(vAt e x (x.length - 1)).1≠2:=fun q=>by rcases g2 with g2|g2<;>rw [g2] at q<;>omega
  unfold QgJ
  rcases h with ⟨rfl,rfl⟩|⟨rfl,rfl⟩|⟨rfl,rfl,rfl⟩
  ·cases right
   ·exact(Qo6 g.1 n1).2.symm
   ·exact(Qo6 g.1 n1).1.symm
  ·cases right
   ·exact(Qo2 g.1 n1).2.symm
   ·exact(Qo2 g.1 n1).1.symm
  ·exact(QpY g.1 n1).symm
 ·have:QfP op=1:=by rcases h with ⟨rfl,_⟩|⟨rfl,_⟩|⟨rfl,_⟩<;>decide
  omega
theorem QmZ {x:List Nd}{op:Int}{v:Int × Int}(hv:Qp v){right:Bool}(h9:op≠9)(h10:op≠10)(h0:v.1=0):Qa1 (fun e=>QgJ right op (ZG e x) v) op 1 (cst v):=by
 have ev:v=(0,0):=by
  obtain⟨a,b⟩:=v
  unfold Qp at hv
  simp only [Prod.mk.injEq] at *
  omega
 subst ev
 refine Qa1.cst UC (Nat.le_refl 1) (fun e E=>?_) (.inl rfl)
 unfold QgJ
 cases right
 ·exact(QkG h9 h10 (.inl rfl)).symm
 ·exact(QkG h9 h10 (.inr rfl)).symm
theorem Blk.uniq {l:List Nd}{f e:Nat}(B:Blk l f e):∀{f':Nat},Blk l f' e→f=f':=by
 induction B with
 | @leaf i n h h0=>
  intro f' B'
  cases B' with
  | leaf h' h0'=>rfl
  | one B1 h' h0' _=>rw [h] at h';cases h';omega
  | two B1 B2 h' h0' _ _=>rw [h] at h';cases h';omega
 | @one f i n B h h0 hx ih=>
  intro f' B'
  cases B' with
  | leaf h' h0'=>rw [h] at h';cases h';omega
  | one B1 h' h0' _=>exact ih B1
  | two B1 B2 h' h0' _ _=>rw [h] at h';cases h';omega
 | @two f g i n B B' h h0 hx hy ih1 ih2=>
  intro f' C
  cases C with
  | leaf h' h0'=>rw [h] at h';cases h';omega
  | one B1 h' h0' _=>rw [h] at h';cases h';omega
  | @two _ g' _ n' B1 B2 h' h0' hx' hy'=>
   rw [h] at h'
   cases h'
   obtain rfl:g=g':=by omega
   exact ih1 B1
inductive UH (l:List Nd):List (List Nd)→Nat→Prop where
 | nil:UH l [] 0
 | push {s:List (List Nd)} {f e:Nat} {z:List Nd}:UH l s f→Blk l f e→Rep (fun ev=>vAt ev l (e - 1)) (tAt l (e - 1)) (e - f) z→UH l (z :: s) e
theorem UH.len {l:List Nd}{s:List (List Nd)}{e:Nat}(S:UH l s e):s.length≤e:=by
 induction S with
 | nil=>exact Nat.le_refl _
 | push S B R ih=>have:=B.lt;simp;omega
theorem UH.all {l:List Nd}{s:List (List Nd)}{e:Nat}(S:UH l s e):e≤l.length:=by
 cases S with
 | nil=>exact Nat.zero_le _
 | push S B R=>exact B.lt.2
theorem UH.step {l:List Nd}(O:OkE l){s:List (List Nd)}{i:Nat}{n:Nd}(S:UH l s i)(hn:l[i]?=some n) :
  (arI n.op=0∧UH l ([n] :: s) (i+1)) ∨
  (arI n.op=1∧∃ z s' P T k,s=z :: s'∧k≤i∧Rep P T k z∧∀ y,Rep (fun e=>opV n.op (P e) (P e)) (tyG n.op T T) (k+1) y→UH l (y :: s') (i+1)) ∨
  (arI n.op=2∧∃ z z' s' P T k Q U j,s=z' :: z :: s'∧k+j≤i∧Rep P T k z∧Rep Q U j z'∧∀ y,Rep (fun e=>opV n.op (P e) (Q e)) (tyG n.op T U) (k+j+1) y→UH l (y :: s') (i+1)):=by
 have hlt:=(List.getElem?_eq_some_iff.1 hn).1
 have W:=O.wf _ _ hn
 have ar:=ar0 W.a
 have h0:=O.n n (List.mem_of_getElem? hn)
 obtain⟨g,_,B⟩:=O.b.sub i (Nat.zero_le _) hlt
 have hv:∀ e,vAt e l i=_:=fun e=>Z8 (YI e) hn W
 have ht:tAt l i=_:=Z8 YM hn W
 have inv:∀{s:List (List Nd)} {j f:Nat},UH l s j→Blk l f j→∃ z s',s=z :: s'∧UH l s' f∧Rep (fun ev=>vAt ev l (j - 1)) (tAt l (j - 1)) (j - f) z:=by
  intro s j f S B
  cases S with
  | nil=>have:=B.lt;omega
  | push S B' R=>
   obtain rfl:=B'.uniq B
   exact⟨_,_,rfl,S,R⟩
 have hB:=B
 cases B with
 | leaf h ha=>
  rw [hn] at h
  cases h
  refine .inl ⟨ha,.push S hB ?_⟩
  have O1:=Rep.leaf h0 ha
  have W1:=O1.wf 0 n rfl
  refine⟨O1,by simp,fun e E=>?_,fun t e=>⟨t,?_,.inr rfl⟩⟩
  ·show ZG e [n]=vAt e l (i+1 - 1)
   rw [Nat.add_sub_cancel,hv e]
   have:ZG e [n]=_:=Z8 (YI e) (l:=[n]) (i:=0) rfl W1
   rw [this]
   exact YI e n _ _ _ _ W.a (fun h=>by omega) (fun h=>by omega)
  ·rw [Nat.add_sub_cancel,ht] at e
   rw [←e]
   have:tAt [n] 0=_:=Z8 YM (l:=[n]) (i:=0) rfl W1
   show tAt [n] 0=_
   rw [this]
   exact YM n _ _ _ _ W.a (fun h=>by omega) (fun h=>by omega)
 | @one f _ n' B1 h ha hx=>
  rw [hn] at h
  cases h
  have hlt1:=B1.lt
  obtain⟨z,s',rfl,S',R⟩:=inv S B1
  refine .inr (.inl ⟨ha,z,s',_,_,_,rfl,Nat.sub_le _ _,R,fun y Y=>.push S' hB ?_⟩)
  rw [show i+1 - g=i - g+1 by omega,Nat.add_sub_cancel]
  have ex:n.x.toNat=i - 1:=by omega
  have:tAt l i=tyG n.op (tAt l (i - 1)) (tAt l (i - 1)):=by
   rw [ht,Wv (by omega) (by omega),if_neg (by omega),ex]
  rw [this]
  refine⟨Y.ok,Y.len,fun e E=>?_,Y.ty⟩
  rw [Y.val e E,hv e,Gu e (by omega) (by omega),ex]
  have:∀ a b b',opV n.op a b=opV n.op a b':=by
   intro a b b'
   unfold opV
   split
   ·rfl
   ·split
    ·rfl
    ·split
     ·rfl
     ·omega
  exact this _ _ _
 | @two f g' _ n' B1 B2 h ha hx hy=>
  rw [hn] at h
  cases h
  have hlt1:=B1.lt
  have hlt2:=B2.lt
  obtain⟨z',s1,rfl,S1,R'⟩:=inv S B2
  obtain⟨z,s',rfl,S',R⟩:=inv S1 B1
  refine .inr (.inr ⟨ha,z,z',s',_,_,_,_,_,_,rfl,?_,R,R',fun y Y=>.push S' hB ?_⟩)
  ·omega
  rw [show i+1 - g=g' - g+(i - g')+1 by omega,Nat.add_sub_cancel]
  have ex:n.x.toNat=g' - 1:=by omega
  have ey:n.y.toNat=i - 1:=by omega
  have:tAt l i=tyG n.op (tAt l (g' - 1)) (tAt l (i - 1)):=by
   rw [ht,Wv (by omega) (by omega),if_pos ha,ex,ey]
  rw [this]
  refine⟨Y.ok,Y.len,fun e E=>?_,Y.ty⟩
  rw [Y.val e E,hv e,Gu e (by omega) (by omega),ex,ey]
theorem UH.done {l:List Nd}(O:OkE l){s:List (List Nd)}(S:UH l s l.length):∃ z,s=[z]∧Rep (fun ev=>ZG ev l) (tAt l (l.length - 1)) l.length z:=by
 have hB:=O.b
 have hp:=O.pos
 have key:∀{e:Nat},UH l s e→e=l.length→∃ z,s=[z]∧Rep (fun ev=>vAt ev l (e - 1)) (tAt l (e - 1)) e z:=by
  intro e S he
  cases S with
  | nil=>omega
  | @push s f e z S' B R=>
   subst he
   obtain rfl:=B.uniq hB
   rw [Nat.sub_zero] at R
   have k2:∀{f:Nat},UH l s f→f=0→s=[]:=by
    intro f S2 hf
    cases S2 with
    | nil=>rfl
    | push _ B' _=>have:=B'.lt;omega
   rw [k2 S' rfl]
   exact⟨z,rfl,R⟩
 exact key S rfl
theorem Qa1.mono {P:EvL→Int × Int}{op:Int}{k j:Nat}{z:List Nd}(A:Qa1 P op k z)(h:k≤j):Qa1 P op j z:=⟨A.ok,Nat.le_trans A.len h,A.val,A.ty⟩
theorem Qnj {n:Nd}(h:QT n=0)(h1:n.op=1):[n]=cst n.v:=by
 obtain⟨op,x,y,k,v⟩:=n
 simp only at h1
 subst h1
 unfold QT at h
 split at h
 ·cases h
 ·split at h
  ·cases h
  ·rename_i h2
   have e:arI 1=0:=by decide
   simp only [e] at h2
   have hx:x=0:=by omega
   have hy:y=0:=by omega
   have hk:k=0:=by omega
   subst hx hy hk
   rfl
theorem Rep.cst_val {P:EvL→Int × Int}{T:Option Int}{k:Nat}{v:Int × Int}(A:Rep P T k (Go.Proofs.YtgmplfdecikgoaaGreatDoor.cst v)):∀ e,WC e→P e=v:=fun e E=>(A.val e E).symm
theorem QgX {op:Int}(h:6≤op)(a b:Int × Int):opV op a b=doV op a b:=by
 unfold opV
 rw [if_neg (by omega),if_neg (by omega),if_neg (by omega)]
structure NS (h:Hp)(a:Option Addr)(n c:Nat)(l:List Nd):Prop where
 s:SlP Zo h a n l
 c:n≤c
theorem NS.le {h h':Hp}{a:Option Addr}{n c:Nat}{l:List Nd}(S:NS h a n c l)(hl:h.le h'):NS h' a n c l:=⟨S.s.le hl,S.c⟩
theorem NS.of {h h':Hp}{a:Option Addr}{c:Nat}{l:List Nd}(V:Uq h h' a c l):NS h' a l.length c l:=⟨V.slp QD (by decide),V.own.cap⟩
section
variable {a:Option Addr}{m c:Nat}{l:List Nd}{h:Hp}
theorem Y6 (S:SlP Zo h a m l){R:Value→Hp→Prop}(hY:∀ n,l=[n]→n.op=1→R (Qf [vag (Qv n.v),vb true]) h)(hN:R (Qf [vag (Qv (0,0)),vb false]) h):Qa Tryz.prog 126 [vsl a m c] h R:=by
 refine QbO ?_
 unfold JW
 obtain rfl:=S.1
 by_cases h1:l.length=1
 ·obtain⟨n,rfl⟩:∃ n,l=[n]:=by
   match l,h1 with
   | [n],_=>exact⟨n,rfl⟩
  obtain⟨b,o,ha,hr⟩:=S.get QD (by decide) (i:=0) rfl
  have A:a=some ⟨b,o,none⟩∧(0:Int)≤0∧(0:Int) < (([n]:List Nd).length:Nat):=⟨ha,by decide,by simp⟩
  refine⟨b,o,fun _=>A,n.op,fun _=>Hp.row_cell hr (i:=0) rfl,fun g=>?_,fun g=>hN⟩
  rw [ZJ] at g
  have g:=of_decide_eq_true g
  refine⟨b,o,A,_,_,?_,hY n rfl g.2⟩
  exact Hp.row_sub hr (i:=4) (k:=2) (by decide)
 ·have e:decide (((l.length:Nat):Int)=1)=false:=decide_eq_false (by omega)
  refine⟨0,0,fun g=>?_,0,fun g=>?_,fun g=>?_,fun _=>hN⟩
  ·rw [e] at g;cases g
  ·rw [e] at g;cases g
  ·rw [e] at g;cases g
theorem Ja {v:Int × Int}{R:Value→Hp→Prop}(hK:∀ a' c' h',h.le h'→NS h' a' 1 c' (cst v)→R (vsl a' 1 c') h'):Qa Tryz.prog 127 [vag (Qv v)] h R:=by
 refine Qjn ?_
 unfold Qeg
 intro b1 hb1 h2
 exact hK _ _ h2 (Hp.le_set (Hp.le_refl h) hb1 _) ⟨⟨rfl,Qg.new _ _ ((cst v).flatMap Zo) _⟩,Nat.le_refl _⟩
theorem QeY {f:Int}(x:Int)(k:Int):(bif (YA f).isNone then decide (x≠k) else false)=decide (f=0∧x≠k):=by
 rw [WG,ZJ]
theorem V1 (S:SlP Zo h a m l)(O:OkE l)(hm:l.length≤1000000){R:Value→Hp→Prop}(hK:∀ h',h.le h'→R (vb (decide ((Zk l).2=0∧(Zk l).1≠1))) h'):Qa Tryz.prog 129 [vsl a m c] h R:=by
 refine QdV ?_
 unfold VH
 refine U1 S O hm fun h' l'=>⟨_,_,rfl,?_⟩
 rw [QeY]
 exact hK h' l'
theorem Vn (S:SlP Zo h a m l)(O:OkE l)(hm:l.length≤1000000){R:Value→Hp→Prop}(hK:∀ h',h.le h'→R (vb (decide ((Zk l).2=0∧(Zk l).1≠2))) h'):Qa Tryz.prog 131 [vsl a m c] h R:=by
 refine QcY ?_
 unfold U8
 refine U1 S O hm fun h' l'=>⟨_,_,rfl,?_⟩
 rw [QeY]
 exact hK h' l'
theorem QeF {op:Int}(ho:arI op=1)(S:NS h a m c l){P:EvL→Int × Int}{T:Option Int}{k:Nat}(A:Rep P T k l)(hk:k≤1000000){R:Value→Hp→Prop}
  (hK:∀ a' n' c' h' z,h.le h'→NS h' a' n' c' z→Rep (fun e=>opV op (P e) (P e)) (tyG op T T) (k+1) z→R (vsl a' n' c') h'):Qa Tryz.prog 79 [vi op,vsl a m c] h R:=by
 refine QdB ?_
 unfold Gh
 have hm:=S.s.1
 subst hm
 have hl:=A.len
 have hp:=A.pos
 have ar:=ar0 (op:=op) (by omega)
 have WN:WfL ([]:List Nd):=Qam
 have J:=A.join1 ho
 have join:∀ h',h.le h'→Qa Tryz.prog 128 [vi op,vsl a l.length c,vsl none 0 0] h' fun v64 h64=>∃(a65:Option Addr) (n65 c65:Nat),v64=vsl a65 n65 c65∧R (vsl a65 n65 c65) h64:=fun h' l'=>
  KJ (S.s.le l') (⟨rfl,.inl rfl⟩:SlP Zo h' none 0 []) WN (by omega) (by simp) fun a' c' h'' V=>⟨_,_,_,rfl,hK _ _ _ _ _ (Hp.le_trans l' V.le0) (NS.of V) J⟩
 refine Y6 S.s (fun n hn h1=>⟨_,_,true,rfl,fun _=>?_,fun g=>by cases g⟩) ⟨_,_,false,rfl,fun g=>by (cases g),fun _=>?_⟩
 ·subst hn
  have hn0:=A.ok.n n (List.mem_singleton.2 rfl)
  have hc:=Qnj hn0 h1
  rw [hc] at A J
  refine Ja (v:=n.v) fun a8 c8 h7 l7 S8=>⟨_,_,_,rfl,?_⟩
  refine KJ S8.s (⟨rfl,.inl rfl⟩:SlP Zo h7 none 0 []) WN (by simp) (by simp) fun a11 c11 h10 V=>⟨_,_,_,rfl,?_⟩
  have hjl:(ZU op (cst n.v) []).length=2:=Zv _ _ _
  refine Qbx (e:=ev0) (V.slp QD (by decide)) J.ok.wf (by omega) (by omega) fun h13 l13=>⟨_,_,rfl,?_⟩
  have ev:ZG ev0 (ZU op (cst n.v) [])=opV op n.v n.v:=by
   rw [J.val ev0 QmS,A.cst_val ev0 QmS]
  rw [ev]
  refine Ja (v:=opV op n.v n.v) fun a18 c18 h17 l17 S18=>⟨_,_,_,rfl,hK _ _ _ _ _ (Hp.le_trans (Hp.le_trans (Hp.le_trans l7 V.le0) l13) l17) S18 ?_⟩
  have og:=Qds (op:=op) (by omega) n.v n.v
  refine Rep.cst og.1 (by omega) (fun e E=>?_) fun t ht=>?_
  ·rw [A.cst_val e E]
  ·rw [Ml ht];exact og.2
 ·have hx:l[l.length - 1]?=some (l[l.length - 1]'(by omega)):=List.getElem?_eq_getElem (by omega)
  obtain⟨b,o,ha,hr⟩:=S.s.get QD (by decide) hx
  generalize l[l.length - 1]'(by omega)=n at *
  refine⟨_,isW (by unfold InR;omega),b,o,⟨ha,by omega,by omega⟩,n.op,n.x,n.y,n.n,n.v.1,n.v.2,?_,?_⟩
  ·rw [show (((l.length:Nat):Int) - 1).toNat=l.length - 1 by omega]
   exact hr
  have cut:∀(h':Hp),h.le h'→arI n.op=1→∀(K:Value→Hp→Prop),(∀ a' n' c' h'',h'.le h''→NS h'' a' n' c' (ZS l 0 (l.length - 1))→K (vsl a' n' c') h'')→Qa Tryz.prog 130 [vsl a l.length c,vi n.x] h' K:=by
   intro h' l' h1 K hK
   obtain⟨hl2,hnx,B,OC,_⟩:=QmV A.ok hx h1
   have e1:l.length - 1=(l.length - 2)+1:=by omega
   rw [e1] at B hK
   exact Qi3 (S.s.le l') S.c A.ok.wf (by omega) B (by omega) fun a' c' h'' V=>hK _ _ _ _ V.le0 (NS.of V)
  have lc:arI n.op=1→OkE (ZS l 0 (l.length - 1))∧(ZS l 0 (l.length - 1)).length≤1000000:=by
   intro h1
   obtain⟨hl2,hnx,B,OC,_⟩:=QmV A.ok hx h1
   exact⟨OC,by rw [VG B];omega⟩
  -- what is known of the first test
  refine⟨fun x h'=>h.le h'∧∃ a' n' c',x=.t (.one (.v (vsl a' n' c')))∧((op=4∧n.op=4)→NS h' a' n' c' (ZS l 0 (l.length - 1))),fun g=>?_,fun g=>?_,?_⟩
  ·rw [ZJ] at g
   have g:=of_decide_eq_true g
   exact cut h (Hp.le_refl h) (by rw [g.2];decide) _ fun a' n' c' h'' l'' S'=>⟨_,_,_,rfl,l'',_,_,_,rfl,fun _=>S'⟩
  ·rw [ZJ] at g
   exact⟨Hp.le_refl h,none,0,0,rfl,fun q=>absurd (decide_eq_true q) g⟩
  rintro h33 a34 n34 c34 ⟨l33,a',n',c',e,S33⟩
  cases e
  refine⟨fun x h'=>h.le h'∧∃ p,x=.t (.one (.v (vb p)))∧((op=4∧n.op=4)→p=decide ((Zk (ZS l 0 (l.length - 1))).2=0∧(Zk (ZS l 0 (l.length - 1))).1≠1)),fun g=>?_,fun g=>?_,?_⟩
  ·rw [ZJ] at g
   have g:=of_decide_eq_true g
   obtain⟨OC,hC⟩:=lc (by rw [g.2];decide)
   exact V1 (S33 g).s OC hC fun h' l'=>⟨_,rfl,Hp.le_trans l33 l',_,rfl,fun _=>rfl⟩
  ·rw [ZJ] at g
   exact⟨l33,false,rfl,fun q=>absurd (decide_eq_true q) g⟩
  rintro h39 p40 ⟨l39,p,e,hp40⟩
  cases e
  intro J55
  have yes:∀ h',h.le h'→((op=4∧n.op=4∧(Zk (ZS l 0 (l.length - 1))).2=0∧(Zk (ZS l 0 (l.length - 1))).1≠1)∨(op=3∧n.op=3∧(Zk (ZS l 0 (l.length - 1))).2=0∧(Zk (ZS l 0 (l.length - 1))).1≠2))→J55 true h':=by
   intro h' l' hc
   have eop:n.op=op:=by omega
   refine⟨fun _=>?_,fun g=>by cases g⟩
   refine cut h' l' (by rw [eop];exact ho) _ fun a' n' c' h'' l'' S'=>⟨_,_,_,rfl,hK _ _ _ _ _ (Hp.le_trans l' l'') S' ?_⟩
   have:=A.twice hx (by omega) (by omega)
   rw [eop] at this
   exact this
  have no:∀ h',h.le h'→J55 false h':=fun h' l'=>⟨fun g=>by (cases g),fun _=>join h' l'⟩
  clear_value J55
  rw [ZJ]
  by_cases hc:op=4∧n.op=4
  ·have hp:=hp40 hc
   subst hp
   have e1:decide (op=4∧n.op=4)=true:=decide_eq_true hc
   rw [e1]
   by_cases ht:(Zk (ZS l 0 (l.length - 1))).2=0∧(Zk (ZS l 0 (l.length - 1))).1≠1
   ·rw [decide_eq_true ht]
    exact⟨fun _=>yes _ l39 (by omega),fun g=>by cases g⟩
   ·rw [decide_eq_false ht]
    refine⟨fun g=>by (cases g),fun _=>?_⟩
    have n3:(bif decide (op=3) then decide (n.op=3) else false)=false:=by rw [ZJ];exact decide_eq_false (by omega)
    rw [n3]
    refine⟨fun x h'=>h'=h39∧x=.t (.one (.v (vsl none 0 0))),fun g=>by (cases g),fun _=>⟨rfl,rfl⟩,?_⟩
    rintro h46 a47 n47 c47 ⟨rfl,e⟩
    cases e
    refine⟨fun x h'=>h'=h46∧x=.t (.one (.v (vb false))),fun g=>by (cases g),fun _=>⟨rfl,rfl⟩,?_⟩
    rintro h52 p53 ⟨rfl,e⟩
    cases e
    exact no _ l39
  ·have e1:decide (op=4∧n.op=4)=false:=decide_eq_false hc
   rw [e1]
   refine⟨fun g=>by (cases g),fun _=>?_⟩
   rw [ZJ]
   refine⟨fun x h'=>h.le h'∧∃ a' n' c',x=.t (.one (.v (vsl a' n' c')))∧((op=3∧n.op=3)→NS h' a' n' c' (ZS l 0 (l.length - 1))),fun g=>?_,fun g=>?_,?_⟩
   ·have g:=of_decide_eq_true g
    exact cut _ l39 (by rw [g.2];decide) _ fun a' n' c' h'' l'' S'=>⟨_,_,_,rfl,Hp.le_trans l39 l'',_,_,_,rfl,fun _=>S'⟩
   ·exact⟨l39,none,0,0,rfl,fun q=>absurd (decide_eq_true q) g⟩
   rintro h46 a47 n47 c47 ⟨l46,a',n',c',e,S46⟩
   cases e
   refine⟨fun x h'=>h.le h'∧∃ p,x=.t (.one (.v (vb p)))∧((op=3∧n.op=3)→p=decide ((Zk (ZS l 0 (l.length - 1))).2=0∧(Zk (ZS l 0 (l.length - 1))).1≠2)),fun g=>?_,fun g=>?_,?_⟩
   ·have g:=of_decide_eq_true g
    obtain⟨OC,hC⟩:=lc (by rw [g.2];decide)
    exact Vn (S46 g).s OC hC fun h' l'=>⟨_,rfl,Hp.le_trans l46 l',_,rfl,fun _=>rfl⟩
   ·exact⟨l46,false,rfl,fun q=>absurd (decide_eq_true q) g⟩
   rintro h52 p53 ⟨l52,p,e,hp53⟩
   cases e
   by_cases hc3:op=3∧n.op=3
   ·have hp:=hp53 hc3
    subst hp
    rw [decide_eq_true hc3]
    by_cases ht:(Zk (ZS l 0 (l.length - 1))).2=0∧(Zk (ZS l 0 (l.length - 1))).1≠2
    ·rw [decide_eq_true ht]
     exact yes _ l52 (by omega)
    ·rw [decide_eq_false ht]
     exact no _ l52
   ·rw [decide_eq_false hc3]
    exact no _ l52
end
abbrev svV (v:Int × Int):SV:=.t (.ag [.v (vi v.1),.v (vi v.2)])
theorem gd {p:Prop}[Decidable p]{v b c:Int × Int}(h:p→b=c):(bif decide p then decide (v=b) else false)=decide (p∧v=c):=by
 by_cases hp:p
 ·rw [h hp];simp [hp]
 ·simp [hp]
theorem QpU:YP 0=(1,0):=by decide
theorem Qp6:YP 1=(1,1):=by decide
section
variable {a:Option Addr}{m c:Nat}{l:List Nd}{h:Hp}
theorem V9 {op:Int}(S:NS h a m c l)(O:OkE l)(hm:l.length≤1000000){v:Int × Int}(hv:Qp v){right:Bool}{R:Value→Hp→Prop}
  (hY:∀ a' n' c' h' z,h.le h'→NS h' a' n' c' z→Qa1 (fun e=>QgJ right op (ZG e l) v) op l.length z→R (Qf [vsl a' n' c',vb true]) h') (hN:∀ h',h.le h'→R (Qf [vsl none 0 0,vb false]) h') :
  Qa Tryz.prog 132 [vi op,vsl a m c,vag (Qv v),vb right] h R:=by
 refine QdC ?_
 unfold GC
 have hp:=O.pos
 refine⟨fun x h'=>h.le h'∧∃ b,x=svV b∧(op=9→b=(2,1)),fun g=>QM ⟨_,_,rfl,Hp.le_refl h,_,rfl,fun _=>rfl⟩,fun g=>⟨Hp.le_refl h,(0,0),rfl,fun q=>absurd (decide_eq_true q) g⟩,?_⟩
 rintro h6 x7 x8 ⟨l6,b,e,hb⟩
 cases e
 refine⟨_,fun _=>Xz (a:=v) (b:=b),?_⟩
 rw [gd hb]
 refine⟨fun x h'=>h.le h'∧∃ b,x=svV b∧(op=10→b=(2,0)),fun g=>QM ⟨_,_,rfl,l6,_,rfl,fun _=>rfl⟩,fun g=>⟨l6,(0,0),rfl,fun q=>absurd ⟨decide_eq_false (by omega),decide_eq_true q⟩ g⟩,?_⟩
 rintro h15 x16 x17 ⟨l15,b2,e,hb2⟩
 cases e
 refine⟨_,fun _=>Xz (a:=v) (b:=b2),?_⟩
 rw [gd hb2,cor]
 refine⟨fun x h'=>h.le h'∧∃ p,x=.t (.one (.v (vb p)))∧(p=true→(Zk l).2=0∧(Zk l).1≠1),fun g=>V1 (S.s.le l15) O hm fun h' l'=>⟨_,rfl,Hp.le_trans l15 l',_,rfl,fun q=>of_decide_eq_true q⟩,fun g=>⟨l15,false,rfl,fun q=>by cases q⟩,?_⟩
 rintro h23 p24 ⟨l23,p,e,hp24⟩
 cases e
 have e24:∀(q:Prop) [Decidable q],(bif decide q then p24 else false)=true→q∧p24=true:=by
  intro q _ g
  by_cases hq:q
  ·rw [decide_eq_true hq] at g;exact⟨hq,g⟩
  ·rw [decide_eq_false hq] at g;cases g
 refine⟨fun g=>?_,fun _=>?_⟩
 ·obtain⟨g1,g2⟩:=e24 _ g
  have ht:=hp24 g2
  exact hY _ _ _ _ _ l23 (S.le l23) (Qka O g1 ht.1 ht.2)
 refine⟨fun x h'=>h.le h'∧∃ b,x=svV b∧(op=9→b=(2,0)),fun g=>QM ⟨_,_,rfl,l23,_,rfl,fun _=>rfl⟩,fun g=>⟨l23,(0,0),rfl,fun q=>absurd (decide_eq_true q) g⟩,?_⟩
 rintro h30 x31 x32 ⟨l30,b3,e,hb3⟩
 cases e
 refine⟨_,fun _=>Xz (a:=v) (b:=b3),?_⟩
 rw [gd hb3]
 intro J45
 have yes:∀ h',h.le h'→(op=9∧v=(2,0))∨(op=10∧v=(2,1))→J45 true h':=by
  intro h' l' hc
  refine⟨fun _=>?_,fun g=>by cases g⟩
  exact Ja (v:=v) fun a' c' h'' l'' S'=>⟨_,_,_,rfl,hY _ _ _ _ _ (Hp.le_trans l' l'') S' ((QlX (x:=l) hc).mono hp)⟩
 have no:∀ h',h.le h'→J45 false h':=by
  intro h48 l48
  refine⟨fun g=>by (cases g),fun _=>?_⟩
  refine⟨fun x h'=>h.le h'∧∃ b,x=svV b∧(op=6→b=(1,0)),fun g=>Qz ⟨_,_,rfl,l48,_,rfl,fun _=>QpU⟩,fun g=>⟨l48,(0,0),rfl,fun q=>absurd (decide_eq_true q) g⟩,?_⟩
  rintro h57 x58 x59 ⟨l57,b,e,hb⟩
  cases e
  refine⟨_,fun _=>Xz (a:=v) (b:=b),?_⟩
  rw [gd hb]
  refine⟨fun x h'=>h.le h'∧∃ b,x=svV b∧(op=8→b=(1,1)),fun g=>Qz ⟨_,_,rfl,l57,_,rfl,fun _=>Qp6⟩,fun g=>⟨l57,(0,0),rfl,fun q=>absurd ⟨decide_eq_false (by omega),decide_eq_true q⟩ g⟩,?_⟩
  rintro h66 x67 x68 ⟨l66,b2,e,hb2⟩
  cases e
  refine⟨_,fun _=>Xz (a:=v) (b:=b2),?_⟩
  rw [gd hb2,cor]
  have er:(bif decide (op=7) then right else false)=decide (op=7∧right=true):=by
   by_cases h7:op=7<;>cases right<;>simp [h7]
  rw [er]
  refine⟨fun x h'=>h.le h'∧∃ b,x=svV b∧(op=7∧right=true→b=(1,0)),fun g=>Qz ⟨_,_,rfl,l66,_,rfl,fun _=>QpU⟩,fun g=>⟨l66,(0,0),rfl,fun q=>absurd ⟨decide_eq_false (by omega),decide_eq_true q⟩ g⟩,?_⟩
  rintro h75 x76 x77 ⟨l75,b3,e,hb3⟩
  cases e
  refine⟨_,fun _=>Xz (a:=v) (b:=b3),?_⟩
  rw [gd hb3,cor]
  refine⟨fun x h'=>h.le h'∧∃ p,x=.t (.one (.v (vb p)))∧(p=true→(Zk l).2=0∧(Zk l).1≠2),fun g=>Vn (S.s.le l75) O hm fun h' l'=>⟨_,rfl,Hp.le_trans l75 l',_,rfl,fun q=>of_decide_eq_true q⟩,fun g=>⟨l75,false,rfl,fun q=>by cases q⟩,?_⟩
  rintro h83 p84 ⟨l83,p,e,hp84⟩
  cases e
  refine⟨fun g=>?_,fun _=>⟨fun g=>?_,fun _=>hN _ l83⟩⟩
  ·have e84:∀(q:Prop) [Decidable q],(bif decide q then p84 else false)=true→q∧p84=true:=by
    intro q _ g
    by_cases hq:q
    ·rw [decide_eq_true hq] at g;exact⟨hq,g⟩
    ·rw [decide_eq_false hq] at g;cases g
   obtain⟨g1,g2⟩:=e84 _ g
   have ht:=hp84 g2
   refine hY _ _ _ _ _ l83 (S.le l83) (QiP O ?_ ht.1 ht.2)
   rcases g1 with (g1|g1)|⟨⟨g1,g3⟩,g4⟩
   ·exact .inl g1
   ·exact .inr (.inl g1)
   ·exact .inr (.inr ⟨g1,g3,g4⟩)
  ·simp only [ZJ] at g
   have g:=of_decide_eq_true g
   exact Ja (v:=v) fun a' c' h'' l'' S'=>⟨_,_,_,rfl,hY _ _ _ _ _ (Hp.le_trans l83 l'') S' ((QmZ (x:=l) hv g.1.1 g.1.2 g.2).mono hp)⟩
 clear_value J45
 refine⟨fun g=>?_,fun _=>?_⟩
 ·rw [g]
  exact yes _ l30 (.inl (of_decide_eq_true g))
 refine⟨fun x h'=>h.le h'∧∃ b,x=svV b∧(op=10→b=(2,1)),fun g=>QM ⟨_,_,rfl,l30,_,rfl,fun _=>rfl⟩,fun g=>⟨l30,(0,0),rfl,fun q=>absurd (decide_eq_true q) g⟩,?_⟩
 rintro h40 x41 x42 ⟨l40,b4,e,hb4⟩
 cases e
 refine⟨_,fun _=>Xz (a:=v) (b:=b4),?_⟩
 rw [gd hb4]
 by_cases hc:op=10∧v=(2,1)
 ·rw [decide_eq_true hc]
  exact yes _ l40 (.inr hc)
 ·rw [decide_eq_false hc]
  exact no _ l40
theorem Qeq {op:Int}(ho:arI op=2)(S:NS h a m c l){P:EvL→Int × Int}{T:Option Int}{k:Nat}(A:Rep P T k l)(hk:k≤1000000)
  {a2:Option Addr} {m2 c2:Nat} {l2:List Nd} (S2:NS h a2 m2 c2 l2) {Q:EvL→Int × Int} {U:Option Int} {j:Nat} (B:Rep Q U j l2) (hj:j≤1000000) {R:Value→Hp→Prop}
  (hK:∀ a' n' c' h' z,h.le h'→NS h' a' n' c' z→Rep (fun e=>opV op (P e) (Q e)) (tyG op T U) (k+j+1) z→R (vsl a' n' c') h'):Qa Tryz.prog 80 [vi op,vsl a m c,vsl a2 m2 c2] h R:=by
 refine QeH ?_
 unfold Gz
 have hA:=A.len
 have hB:=B.len
 have hpA:=A.pos
 have hpB:=B.pos
 have ar:=ar0 (op:=op) (by omega)
 have m1:=S.s.1
 have mm2:=S2.s.1
 subst m1 mm2
 have cnst:∀{x:List Nd} {n:Nd},OkE x→x=[n]→n.op=1→x=cst n.v∧Qp n.v:=by
  intro x n O e h1
  subst e
  have hn:=O.n n (List.mem_singleton.2 rfl)
  exact⟨Qnj hn h1,QeL hn⟩
 have Y:∀(p5 p10:Bool) (v w:Int × Int),(p5=true→l=cst v∧Qp v)→(p10=true→l2=cst w∧Qp w) →
   (((bif p5 then p10 else false)=true→(Qa Tryz.prog 88 [(vi op),(vag [(vi v.1),(vi v.2)]),(vag [(vi w.1),(vi w.2)])] h fun v11 h12=>∃(x13:Int) (x14:Int),v11=(vag [(vi x13),(vi x14)])∧(Qa Tryz.prog 127 [(vag [(vi x13),(vi x14)])] h12 fun v15 h16=>∃(a17:Option Addr) (n17 c17:Nat),v15=(vsl a17 n17 c17)∧R (vsl a17 n17 c17) h16)))∧((bif p5 then p10 else false)=false→(let J25:Hp→Prop:=fun(h26:Hp)=>(let J33:Hp→Prop:=fun(h34:Hp)=>(Qa Tryz.prog 128 [(vi op),(vsl a l.length c),(vsl a2 l2.length c2)] h34 fun v35 h36=>∃(a37:Option Addr) (n37 c37:Nat),v35=(vsl a37 n37 c37)∧R (vsl a37 n37 c37) h36);((p10=true→(Qa Tryz.prog 132 [(vi op),(vsl a l.length c),(vag [(vi w.1),(vi w.2)]),(vb true)] h26 fun v27 h28=>∃(a29:Option Addr) (n29 c29:Nat) (p30:Bool),v27=(Qf [(vsl a29 n29 c29),(vb p30)])∧((p30=true→R (vsl a29 n29 c29) h28)∧(p30=false→(J33 h28)))))∧(p10=false→(J33 h26))));((p5=true→(Qa Tryz.prog 132 [(vi op),(vsl a2 l2.length c2),(vag [(vi v.1),(vi v.2)]),(vb false)] h fun v19 h20=>∃(a21:Option Addr) (n21 c21:Nat) (p22:Bool),v19=(Qf [(vsl a21 n21 c21),(vb p22)])∧((p22=true→R (vsl a21 n21 c21) h20)∧(p22=false→(J25 h20)))))∧(p5=false→(J25 h)))))):=by
  intro p5 p10 v w hp5 hp10
  refine⟨fun g=>?_,fun _=>?_⟩
  ·have g1:p5=true∧p10=true:=by revert g;cases p5<;>cases p10<;>simp
   obtain⟨hl,hgv⟩:=hp5 g1.1
   obtain⟨hl2,hgw⟩:=hp10 g1.2
   rw [hl] at A
   rw [hl2] at B
   refine QcN (a:=v) (b:=w) ⟨_,_,rfl,Ja (v:=doV op v w) fun a' c' h' l' S'=>⟨_,_,_,rfl,hK _ _ _ _ _ l' S' ?_⟩⟩
   have og:=Qds (op:=op) (by omega) v w
   rw [QgX (by omega)] at og
   refine Rep.cst og.1 (by omega) (fun e E=>?_) fun t ht=>?_
   ·rw [A.cst_val e E,B.cst_val e E,QgX (by omega)]
   ·rw [Ml ht];exact og.2
  intro J25
  have j25:∀ h',h.le h'→J25 h':=by
   intro h26 l26
   have j33:∀ h',h.le h'→Qa Tryz.prog 128 [(vi op),(vsl a l.length c),(vsl a2 l2.length c2)] h' fun v35 h36=>∃(a37:Option Addr) (n37 c37:Nat),v35=(vsl a37 n37 c37)∧R (vsl a37 n37 c37) h36:=fun h' l'=>KJ (S.s.le l') (S2.s.le l') B.ok.wf (by omega) (by omega) fun a' c' h'' V=>⟨_,_,_,rfl,hK _ _ _ _ _ (Hp.le_trans l' V.le0) (NS.of V) (A.join2 ho B)⟩
   refine⟨fun g=>?_,fun _=>j33 _ l26⟩
   obtain⟨hl2,hgw⟩:=hp10 g
   refine V9 (v:=w) (S.le l26) A.ok (by omega) hgw (fun a' n' c' h' z l' S' Z=>⟨_,_,_,true,rfl,fun _=>hK _ _ _ _ _ (Hp.le_trans l26 l') S' ?_,fun g=>by cases g⟩) fun h' l'=>⟨_,_,_,false,rfl,fun g=>by (cases g),fun _=>j33 _ (Hp.le_trans l26 l')⟩
   rw [hl2] at B
   have Z2:=Z.rep (j:=k+j+1) (by omega) T U
   refine⟨Z2.ok,Z2.len,fun e E=>?_,Z2.ty⟩
   rw [Z2.val e E,B.cst_val e E,QgX (by omega),A.val e E]
   rfl
  clear_value J25
  refine⟨fun g=>?_,fun _=>j25 _ (Hp.le_refl h)⟩
  obtain⟨hl,hgv⟩:=hp5 g
  refine V9 (v:=v) S2 B.ok (by omega) hgv (fun a' n' c' h' z l' S' Z=>⟨_,_,_,true,rfl,fun _=>hK _ _ _ _ _ l' S' ?_,fun g=>by cases g⟩) fun h' l'=>⟨_,_,_,false,rfl,fun g=>by (cases g),fun _=>j25 _ l'⟩
  rw [hl] at A
  have Z2:=Z.rep (j:=k+j+1) (by omega) T U
  refine⟨Z2.ok,Z2.len,fun e E=>?_,Z2.ty⟩
  rw [Z2.val e E,A.cst_val e E,QgX (by omega),B.val e E]
  rfl
 refine Y6 S.s (fun n hn h1=>⟨_,_,true,rfl,?_⟩) ⟨_,_,false,rfl,?_⟩
 ·refine Y6 S2.s (fun n2 hn2 h2=>⟨_,_,true,rfl,?_⟩) ⟨_,_,false,rfl,?_⟩
  ·exact Y true true n.v n2.v (fun _=>cnst A.ok hn h1) (fun _=>cnst B.ok hn2 h2)
  ·exact Y true false n.v (0,0) (fun _=>cnst A.ok hn h1) (fun g=>by cases g)
 ·refine Y6 S2.s (fun n2 hn2 h2=>⟨_,_,true,rfl,?_⟩) ⟨_,_,false,rfl,?_⟩
  ·exact Y false true (0,0) n2.v (fun g=>by cases g) (fun _=>cnst B.ok hn2 h2)
  ·exact Y false false (0,0) (0,0) (fun g=>by cases g) (fun g=>by cases g)
end
theorem QpR:ElT Tryz.prog 158 26 1 24:=.of (by kernel_rfl) (by kernel_rfl) (by decide)
def QlN (r:Qbe Nd):List Value:=[Qol r]
theorem W7 (r:Qbe Nd):(QlN r).length=1:=rfl
structure QpZ (h:Hp)(a:Option Addr)(n c:Nat)(R:List (Qbe Nd)):Prop where
 s:SlP QlN h a n R
 c:n≤c
 r:∀ r ∈ R,NS h r.1.1 r.2.length r.1.2 r.2
theorem Qdj {α β:Type}{f:α→β}{R:List α}{z:β}{s:List β}(h:(R.map f).reverse=z :: s):∃ r,R=R.take (R.length - 1)++[r]∧f r=z∧((R.take (R.length - 1)).map f).reverse=s∧1≤R.length∧R[R.length - 1]?=some r:=by
 have h1:R.map f=s.reverse++[z]:=by rw [←List.reverse_reverse (R.map f),h,List.reverse_cons]
 have hlen:R.length=s.length+1:=by have:=congrArg List.length h1;simpa using this
 have hx:R[R.length - 1]?=some (R[R.length - 1]'(by omega)):=List.getElem?_eq_getElem (by omega)
 refine⟨_,?_,?_,?_,by omega,hx⟩
 ·have:=List.take_append_drop (R.length - 1) R
  rw [List.drop_eq_getElem_cons (by omega),show R.length - 1+1=R.length by omega,List.drop_length] at this
  exact this.symm
 ·have:(R.map f)[R.length - 1]?=some z:=by rw [h1,List.getElem?_append_right (by simp;omega)];simp [hlen]
  rw [List.getElem?_map,hx] at this
  simpa using this
 ·rw [List.map_take,h1,List.take_left' (by simp;omega),List.reverse_reverse]
section
variable {a:Option Addr}{m c:Nat}{l:List Nd}{h:Hp}
structure Stp (l:List Nd)(F:List (List Nd)→Nat→Prop):Prop where
 z:F [] 0
 len:∀ s i,F s i→s.length≤i
 stp:∀ s i n,F s i→l[i]?=some n→(arI n.op=0∧F ([n] :: s) (i+1)) ∨
  (arI n.op=1∧∃ z s',s=z :: s'∧∀(a:Option Addr) (m c:Nat) (h:Hp) (R:Value→Hp→Prop),NS h a m c z→(∀ a' n' c' h' y,h.le h'→NS h' a' n' c' y→F (y :: s') (i+1)→R (vsl a' n' c') h')→Qa Tryz.prog 79 [vi n.op,vsl a m c] h R) ∨
  (arI n.op=2∧∃ z z' s',s=z' :: z :: s'∧∀(a:Option Addr) (m c:Nat) (a2:Option Addr) (m2 c2:Nat) (h:Hp) (R:Value→Hp→Prop),NS h a m c z→NS h a2 m2 c2 z'→(∀ a' n' c' h' y,h.le h'→NS h' a' n' c' y→F (y :: s') (i+1)→R (vsl a' n' c') h')→Qa Tryz.prog 80 [vi n.op,vsl a m c,vsl a2 m2 c2] h R)
theorem Qfl {F0S:List (List Nd)→Nat→Prop}{Z:List Nd→Prop}(S:SlP Zo h a m l)(H:Stp l F0S)(hz:∀ s,F0S s l.length→∃ z,s=[z]∧Z z)(hm:l.length≤100000){R:Value→Hp→Prop}
  (hK:∀ a' n' c' h' z,h.le h'→NS h' a' n' c' z→Z z→R (vsl a' n' c') h'):Qa Tryz.prog 31 [vsl a m c] h R:=by
 refine QgH ?_
 unfold QaC
 obtain rfl:=S.1
 refine⟨fun vs hh=>∃(i:Nat) (a:Option Addr) (c:Nat) (Q:List (Qbe Nd)),vs=[vsl a Q.length c,vi i]∧i≤l.length∧h.le hh∧QpZ hh a Q.length c Q∧F0S (Q.map Prod.snd).reverse i,fun vs hh=>l.length - (Qn vs 1).toNat,
  ⟨0,none,0,[],rfl,Nat.zero_le _,Hp.le_refl h,⟨⟨rfl,.inl rfl⟩,Nat.le_refl _,fun r hr=>by cases hr⟩,H.z⟩,?_⟩
 rintro vs hh ⟨i,a1,c1,Q,rfl,hi,hle,SQ,F⟩
 refine⟨_,_,_,_,rfl,fun g=>?_,fun g=>?_⟩
 ·have hlt:i < l.length:=by have:=of_decide_eq_true g;omega
  have hx:l[i]?=some l[i]:=List.getElem?_eq_getElem hlt
  obtain⟨b,o,ha,hr⟩:=(S.le hle).get QD (by decide) hx
  have st:=H.stp _ _ _ F hx
  have fl:=H.len _ _ F
  rw [List.length_reverse,List.length_map] at fl
  generalize l[i]=n at *
  refine⟨b,o,⟨ha,by omega,by omega⟩,_,_,_,_,_,_,hr,Q9 ⟨_,rfl,?_⟩⟩
  have hsz:szT Tryz.prog 26=1:=by kernel_rfl
  have hcap:=SQ.c
  -- what is behind a node's own is put there
  have fin:∀(kk:Nat),kk≤Q.length→∀(z:List Nd) (a46:Option Addr) (n46 c46:Nat) (h47:Hp),hh.le h47→NS h47 a46 n46 c46 z→F0S (z :: ((Q.take kk).map Prod.snd).reverse) (i+1) →
    (∃(a48:Option Addr) (n48 c48:Nat),(Rd Tryz.prog (Instr.sliceAt 158 (vsl a1 Q.length c1) none (some (vi kk)) (some (vi kk))) h47 (vsl a48 n48 c48))∧(∀(b49:Nat),h47 b49=none→let h50:Hp:=Hp.set h47 b49 (Qc [(vsl a46 n46 c46)] 26);(Ql Tryz.prog (Builtin.append_ #[158,158] 158 #[(vsl a48 n48 c48),(vsl (some (⟨b49,0,none⟩:Addr)) 1 1)]) h50 fun v51 h52=>∃(a53:Option Addr) (n53 c53:Nat),v51=(vsl a53 n53 c53)∧(∃(x55:Int),(IsW x55 ((i:Int)+1))∧((∃(i:Nat) (a:Option Addr) (c:Nat) (Q:List (Qbe Nd)),[(vsl a53 n53 c53),(vi x55)]=[vsl a Q.length c,vi i]∧i≤l.length∧h.le h52∧QpZ h52 a Q.length c Q∧F0S (Q.map Prod.snd).reverse i)∧l.length - (Qn [(vsl a53 n53 c53),(vi x55)] 1).toNat < l.length - (Qn [vsl a1 Q.length c1,vi i] 1).toNat))))):=by
   intro kk hkk z a46 n46 c46 h47 l47 SZ FZ
   obtain rfl:=SZ.s.1
   refine⟨_,_,_,Qie (e:=26) (by kernel_rfl) (by kernel_rfl) (by omega) (Int.le_refl _) (by omega),fun b49 hb49=>?_⟩
   intro h50
   rw [Int.toNat_natCast]
   have l50:h47.le h50:=Hp.le_set (Hp.le_refl h47) hb49 _
   have SK:=(SQ.s.le (Hp.le_trans l47 l50)).take W7 hkk
   have hfl:((Q.take kk).flatMap QlN).length=kk*1:=by rw [Qs W7,←SK.1]
   refine Qc0 QpR SK.2 hfl (fun hn=>?_) (Qg.new _ _ [vsl a46 z.length c46] _) (m:=1) rfl (Nat.succ_pos 0) (by omega) (by omega) fun a' c' h' O'=>⟨_,_,_,rfl,_,isW (by unfold InR;omega),⟨i+1,a',c',Q.take kk++[((a46,c46),z)],?_,by omega,?_,⟨?_,?_,?_⟩,?_⟩,by simp [Qn];omega⟩
   ·rcases SK.2 with h1|⟨b',o',h1,_⟩
    ·rw [h1] at hfl;simp at hfl;omega
    ·rw [hn] at h1;cases h1
   ·rw [List.length_append,←SK.1];rfl
   ·exact Hp.le_trans (Hp.le_trans (Hp.le_trans hle l47) l50) O'.le
   ·have:(Q.take kk++[((a46,c46),z)]).flatMap QlN=(Q.take kk).flatMap QlN++[vsl a46 z.length c46]:=by rw [List.flatMap_append];rfl
    rw [←this] at O'
    have:=Qh.slp W7 (by decide) O'
    rw [List.length_append,←SK.1]
    exact this
   ·rw [List.length_append,←SK.1]
    exact O'.own.cap
   ·intro r hr
    rcases List.mem_append.1 hr with h1|h1
    ·exact(SQ.r r (List.mem_of_mem_take h1)).le (Hp.le_trans (Hp.le_trans l47 l50) O'.le)
    ·rw [List.mem_singleton] at h1
     subst h1
     exact SZ.le (Hp.le_trans l50 O'.le)
   ·rw [List.map_append,List.reverse_append]
    exact FZ
  have own:∀(kk:Nat),kk≤Q.length→Rd Tryz.prog (Instr.sliceAt 158 (vsl a1 Q.length c1) (some (vi kk)) none none) hh (vsl (QaR a1 kk c1 1) (Q.length - kk) (c1 - kk))∧SlP QlN hh (QaR a1 kk c1 1) (Q.length - kk) (Q.drop kk):=by
   intro kk hkk
   have:=YY (P:=Tryz.prog) (h:=hh) (t:=158) (e:=26) (by kernel_rfl) (by kernel_rfl) (a:=a1) (n:=Q.length) (c:=c1) (x:=(kk:Int)) (by omega) (by omega)
   rw [hsz,Int.toNat_natCast] at this
   exact⟨this,SQ.s.drop W7 hkk hcap⟩
  rcases st with ⟨h0,F0⟩|⟨h1,z,s',hs,C1⟩|⟨h2,z,z',s',hs,C2⟩
  ·rw [h0]
   refine⟨(Q.length:Nat),by have:=isW (e:=((Q.length:Nat):Int) - 0) (by unfold InR;omega);rw [Int.sub_zero] at this ⊢;exact this,_,_,_,(own Q.length (Nat.le_refl _)).1,fun _=>?_,fun g=>?_⟩
   ·intro b23 hb23 h24
    refine fin Q.length (Nat.le_refl _) [n] _ _ _ h24 (Hp.le_set (Hp.le_refl hh) hb23 _) ⟨⟨rfl,Qg.new _ _ (Zo n) _⟩,Nat.le_refl _⟩ ?_
    rw [List.take_length]
    exact F0
   ·exfalso
    have:=of_decide_eq_false g
    omega
  ·obtain⟨r,eQ,er,es,hQ1,hr1⟩:=Qdj hs
   rw [h1]
   refine⟨((Q.length - 1:Nat):Int),by have:=isW (e:=((Q.length:Nat):Int) - 1) (by unfold InR;omega);rw [show ((Q.length:Nat):Int) - 1=((Q.length - 1:Nat):Int) by omega] at this ⊢;exact this,_,_,_,(own (Q.length - 1) (by omega)).1,fun g=>?_,fun g=>⟨fun _=>?_,fun g=>?_⟩⟩
   ·exfalso
    have:=of_decide_eq_true g
    omega
   ·have S1:=(own (Q.length - 1) (by omega)).2
    obtain⟨b1,o1,ha1,hc1⟩:=S1.get W7 (by decide) (i:=0) (x:=r) (by rw [List.getElem?_drop];exact hr1)
    have NR:=SQ.r r (List.mem_of_getElem? hr1)
    refine⟨b1,o1,⟨ha1,by decide,by omega⟩,_,_,_,Hp.row_cell hc1 (i:=0) rfl,?_⟩
    rw [er] at NR ⊢
    refine C1 _ _ _ _ _ NR fun a' n' c' h' y l' SY Y=>⟨_,_,_,rfl,?_⟩
    refine fin (Q.length - 1) (by omega) y _ _ _ _ l' SY ?_
    rw [es]
    exact Y
   ·exfalso
    have:=of_decide_eq_false g
    omega
  ·obtain⟨r',eQ,er',es',hQ1,hr1⟩:=Qdj hs
   obtain⟨r,eQ2,er,es,hQ2,hr2⟩:=Qdj es'
   rw [List.length_take] at eQ2 es hQ2 hr2
   have e2:min (Q.length - 1) Q.length - 1=Q.length - 2:=by omega
   rw [e2] at eQ2 es hr2
   rw [List.take_take,show min (Q.length - 2) (Q.length - 1)=Q.length - 2 by omega] at es
   rw [List.getElem?_take,if_pos (by omega)] at hr2
   rw [h2]
   refine⟨((Q.length - 2:Nat):Int),by have:=isW (e:=((Q.length:Nat):Int) - 2) (by unfold InR;omega);rw [show ((Q.length:Nat):Int) - 2=((Q.length - 2:Nat):Int) by omega] at this ⊢;exact this,_,_,_,(own (Q.length - 2) (by omega)).1,fun g=>?_,fun g=>⟨fun g=>?_,fun g=>?_⟩⟩
   ·exfalso
    have:=of_decide_eq_true g
    omega
   ·exfalso
    have:=of_decide_eq_true g
    omega
   ·have S1:=(own (Q.length - 2) (by omega)).2
    obtain⟨b1,o1,ha1,hc1⟩:=S1.get W7 (by decide) (i:=0) (x:=r) (by rw [List.getElem?_drop];exact hr2)
    obtain⟨b2,o2,ha2,hc2⟩:=S1.get W7 (by decide) (i:=1) (x:=r') (by rw [List.getElem?_drop,show Q.length - 2+1=Q.length - 1 by omega];exact hr1)
    have NR:=SQ.r r (List.mem_of_getElem? hr2)
    have NR':=SQ.r r' (List.mem_of_getElem? hr1)
    refine⟨b1,o1,⟨ha1,by decide,by omega⟩,_,_,_,Hp.row_cell hc1 (i:=0) rfl,b2,o2,⟨ha2,by decide,by omega⟩,_,_,_,Hp.row_cell hc2 (i:=0) rfl,?_⟩
    rw [er] at NR ⊢
    rw [er'] at NR' ⊢
    refine C2 _ _ _ _ _ _ _ _ NR NR' fun a' n' c' h' y l' SY Y=>⟨_,_,_,rfl,?_⟩
    refine fin (Q.length - 2) (by omega) y _ _ _ _ l' SY ?_
    rw [es]
    exact Y
 ·have hge:i=l.length:=by have:=of_decide_eq_false g;omega
  subst hge
  obtain⟨z,hz,A⟩:=hz _ F
  obtain⟨r,eQ,er,es,hQ1,hr1⟩:=Qdj hz
  have hQ:Q.length=1:=by have:=congrArg List.length hz;simpa using this
  rw [hQ] at hr1
  obtain⟨b1,o1,ha1,hc1⟩:=SQ.s.get W7 (by decide) (i:=0) (x:=r) hr1
  have NR:=SQ.r r (List.mem_of_getElem? hr1)
  refine⟨b1,o1,⟨ha1,by decide,by omega⟩,_,_,_,Hp.row_cell hc1 (i:=0) rfl,?_⟩
  rw [er] at NR ⊢
  exact hK _ _ _ _ _ hle NR A
theorem U5 (S:SlP Zo h a m l)(O:OkE l)(hm:l.length≤100000){R:Value→Hp→Prop}
  (hK:∀ a' n' c' h' z,h.le h'→NS h' a' n' c' z→Rep (fun ev=>ZG ev l) (tAt l (l.length - 1)) l.length z→R (vsl a' n' c') h'):Qa Tryz.prog 31 [vsl a m c] h R:=by
 refine Qfl (F0S:=UH l) S ⟨.nil,fun s i F=>F.len,fun s i n F hn=>?_⟩ (fun s F=>F.done O) hm hK
 have hi:=F.all
 rcases F.step O hn with h0|⟨h1,z,s',P,T,k,hs,hk,A,F1⟩|⟨h2,z,z',s',P,T,k,Q2,U,j,hs,hk,A,B,F2⟩
 ·exact .inl h0
 ·exact .inr (.inl ⟨h1,z,s',hs,fun a m c h R N hR=>QeF h1 N A (by omega) fun a' n' c' h' y l' SY Y=>hR _ _ _ _ _ l' SY (F1 y Y)⟩)
 ·exact .inr (.inr ⟨h2,z,z',s',hs,fun a m c a2 m2 c2 h R N N' hR=>Qeq h2 N A (by omega) N' B (by omega) fun a' n' c' h' y l' SY Y=>hR _ _ _ _ _ l' SY (F2 y Y)⟩)
end
structure NL (q qf:Qy):Prop where
 sz:qf.size=q.size
 sl:qf.slide=q.slide
 de:qf.delay=q.delay
 la:qf.late=q.late
 an:qf.aggs.length=q.aggs.length
 ag:∀(i:Nat) (a b:Ag),q.aggs[i]?=some a→qf.aggs[i]?=some b→b.1=a.1∧(a.1=1→b.2=[])∧(a.1≠1→Rep (fun e=>ZG e a.2) (tAt a.2 (a.2.length - 1)) a.2.length b.2)
 w0:q.wh=[]→qf.wh=[]
 w1:q.wh≠[]→Rep (fun e=>ZG e q.wh) (tAt q.wh (q.wh.length - 1)) q.wh.length qf.wh
 b0:q.by_=[]→qf.by_=[]
 b1:q.by_≠[]→Rep (fun e=>ZG e q.by_) (tAt q.by_ (q.by_.length - 1)) q.by_.length qf.by_
theorem NL.wn {q qf:Qy}(F:NL q qf):qf.wh=[]↔q.wh=[]:=by
 constructor
 ·intro h
  refine Decidable.byContradiction fun q'=>?_
  have:=(F.w1 q').pos
  rw [h] at this
  exact absurd this (Nat.lt_irrefl 0)
 ·exact F.w0
theorem NL.bn {q qf:Qy}(F:NL q qf):qf.by_=[]↔q.by_=[]:=by
 constructor
 ·intro h
  refine Decidable.byContradiction fun q'=>?_
  have:=(F.b1 q').pos
  rw [h] at this
  exact absurd this (Nat.lt_irrefl 0)
 ·exact F.b0
theorem QeM {l:List Nd}(O:OkE l)(hl:l.length≤1000000){a:Option Addr}{n c:Nat}{h:Hp}(S:SlP Zo h a n l){e:EvL}{R:Value→Hp→Prop}(hK:∀ h',h.le h'→R (vag (Qv (ZG e l))) h'):Qa Tryz.prog 37 [vsl a n c,vag (Vu e)] h R:=
 Qbx S O.wf (by have:=O.pos;omega) (by omega) hK
structure Yd (hi h:Hp)(g:Nat)(cs:List Value)(ar:Option Addr)(cr:Nat)(rd:List Nat)(aw:Option Addr)(wn cw:Nat)(ws:List Value):Prop where
 blk:h g=some (Qc cs 68)
 gn:hi g=none
 r:Qh hi h 3 1 ar rd.length cr (rd.map fun n:Nat=>vi n)
 w:Qh hi h 89 5 aw wn cw ws
 rg:ar≠some ⟨g,0,none⟩
 wg:aw≠some ⟨g,0,none⟩
 rw_:∀ b,ar=some ⟨b,0,none⟩→aw≠some ⟨b,0,none⟩
section
variable {hi h:Hp}{g:Nat}{cs:List Value}{ar:Option Addr}{cr:Nat}{rd:List Nat}{aw:Option Addr}{wn cw:Nat}{ws:List Value}
theorem Yd.le0 (M:Yd hi h g cs ar cr rd aw wn cw ws):hi.le h:=M.r.le
theorem Yd.le {h':Hp}(M:Yd hi h g cs ar cr rd aw wn cw ws)(l:h.le h'):Yd hi h' g cs ar cr rd aw wn cw ws:=
 ⟨l _ _ M.blk,M.gn,M.r.mono l,M.w.mono l,M.rg,M.wg,M.rw_⟩
theorem QdP {h0 h:Hp}{e:TypeId}{sz n c:Nat}{a:Option Addr}{xs:List Value}(O:Qh h0 h e sz a n c xs){b:Nat}(hb:a=some ⟨b,0,none⟩):h b≠none:=(UV.fp e sz a n c xs).al (⟨O.own,rfl⟩:UV e sz a n c xs h (fun b=>a=some ⟨b,0,none⟩)) b hb
theorem Yd.rebase (M:Yd hi h g cs ar cr rd aw wn cw ws):∃ hj:Hp,hi.le hj∧Yd hj h g cs ar cr rd aw wn cw ws∧∀ b o,h b=some o→b≠g→ar≠some ⟨b,0,none⟩→aw≠some ⟨b,0,none⟩→hj b=some o:=by
 have e1:∀ b,(b=g∨ar=some ⟨b,0,none⟩∨aw=some ⟨b,0,none⟩)→(fun b=>if b=g∨ar=some ⟨b,0,none⟩∨aw=some ⟨b,0,none⟩ then none else h b:Hp) b=none:=fun b hb=>if_pos hb
 have e2:∀ b,¬(b=g∨ar=some ⟨b,0,none⟩∨aw=some ⟨b,0,none⟩)→(fun b=>if b=g∨ar=some ⟨b,0,none⟩∨aw=some ⟨b,0,none⟩ then none else h b:Hp) b=h b:=fun b hb=>if_neg hb
 generalize (fun b=>if b=g∨ar=some ⟨b,0,none⟩∨aw=some ⟨b,0,none⟩ then none else h b:Hp)=hj at e1 e2
 have lj:Hp.le hj h:=fun b o ho=>by
  by_cases q:b=g∨ar=some ⟨b,0,none⟩∨aw=some ⟨b,0,none⟩
  ·rw [e1 b q] at ho;cases ho
  ·rw [e2 b q] at ho;exact ho
 refine⟨hj,fun b o ho=>?_,⟨M.blk,e1 g (.inl rfl),⟨lj,M.r.own,fun b hb=>e1 b (.inr (.inl hb))⟩,⟨lj,M.w.own,fun b hb=>e1 b (.inr (.inr hb))⟩,M.rg,M.wg,M.rw_⟩,fun b o ho n1 n2 n3=>(e2 b (by
  rintro(q|q|q)
  ·exact n1 q
  ·exact n2 q
  ·exact n3 q)).trans ho⟩
 refine(e2 b ?_).trans (M.le0 b o ho)
 rintro(q|q|q)
 ·rw [q,M.gn] at ho;cases ho
 ·rw [M.r.new b q] at ho;cases ho
 ·rw [M.w.new b q] at ho;cases ho
theorem Yd.rebase_new {h1:Hp}(M:Yd hi h g cs ar cr rd aw wn cw ws)(l:h.le h1):∃ hj:Hp,hi.le hj∧Yd hj h1 g cs ar cr rd aw wn cw ws∧(∀(a:Option Addr) (xs:List Value),Qg h1 a xs→(∀ b o,a=some ⟨b,o,none⟩→h b=none)→Qg hj a xs)∧∀ b o,h1 b=some o→h b=none→hj b=some o:=by
 obtain⟨hj,l1,M1,k1⟩:=(M.le l).rebase
 have key:∀ b o,h1 b=some o→h b=none→hj b=some o:=fun b o ho hn=>k1 b o ho (fun q=>by rw [q,M.blk] at hn;cases hn) (fun q=>QdP M.r q hn) (fun q=>QdP M.w q hn)
 refine⟨hj,l1,M1,fun a xs H hn=>Qg.over H fun b o ob hb ho=>key b ob ho (hn b o hb),key⟩
theorem Yd.put (M:Yd hi h g cs ar cr rd aw wn cw ws){j:Nat}{v:Value}(hj:j < cs.length){K:Hp→Prop}(hK:∀ h',Yd hi h' g (cs.set j v) ar cr rd aw wn cw ws→K h'):h.store g j [v] K:=by
 refine QX M.blk (by simp only [List.length_singleton];omega) ?_
 rw [Jq _ _ _ hj]
 refine hK _ ⟨Hp.set_same _ _ _,M.gn,Qh.apart M.r (fun b o ho=>?_) (fun b o hb ho=>?_),Qh.apart M.w (fun b o ho=>?_) (fun b o hb ho=>?_),M.rg,M.wg,M.rw_⟩
 ·exact(Hp.set_other h _ (fun q=>by rw [q,M.gn] at ho;cases ho)).trans (M.le0 b o ho)
 ·exact(Hp.set_other h _ (fun q=>M.rg (by rw [hb,q]))).trans ho
 ·exact(Hp.set_other h _ (fun q=>by rw [q,M.gn] at ho;cases ho)).trans (M.le0 b o ho)
 ·exact(Hp.set_other h _ (fun q=>M.wg (by rw [hb,q]))).trans ho
theorem Yd.read (M:Yd hi h g cs ar cr rd aw wn cw ws){p:Nat}{x:Nat}(hp:p < rd.length):∃ b,ar=some ⟨b,0,none⟩∧h.cell b (0+p*1)=some (vi (rd.getD p 0:Nat))∧∀ K:Hp→Prop,(∀ h',Yd hi h' g cs ar cr (rd.set p x) aw wn cw ws→K h')→h.store b (0+p*1) [vi (x:Int)] K:=by
 have S:SlI h ar rd.length (rd.map fun n:Nat=>(n:Int)):=by
  have:=M.r
  rw [show (rd.map fun n:Nat=>vi n)=(rd.map fun n:Nat=>(n:Int)).map vi by rw [List.map_map];rfl] at this
  exact this.sli
 obtain⟨b,o,ea,hc⟩:=S.get hp
 have ho:=M.r.own.at0 b o ea
 subst ho
 have hg:(rd.map fun n:Nat=>(n:Int)).getD p 0=((rd.getD p 0:Nat):Int):=by
  rw [List.getD_eq_getElem?_getD,List.getD_eq_getElem?_getD,List.getElem?_map,List.getElem?_eq_getElem hp];rfl
 rw [hg] at hc
 refine⟨b,ea,hc,fun K hK=>?_⟩
 have O:Qh hi h 3 1 ar rd.length cr ((rd.map fun n:Nat=>(n:Int)).map vi):=by rw [List.map_map];exact M.r
 refine O.store_i (x:=(x:Int)) hp ea fun ob O'=>hK _ ?_
 have e:((rd.map fun n:Nat=>(n:Int)).set p (x:Int)).map vi=(rd.set p x).map fun n:Nat=>vi n:=by rw [←List.map_set,List.map_map];rfl
 rw [e] at O'
 have hbg:g≠b:=fun q=>M.rg (by rw [ea,q])
 refine⟨(Hp.set_other h _ hbg).trans M.blk,M.gn,by rw [List.length_set];exact O',Qh.apart M.w O'.le (fun b' o hb ho=>(Hp.set_other h _ (fun q=>M.rw_ b ea (by rw [hb,q]))).trans ho),M.rg,M.wg,M.rw_⟩
theorem Qne:ElT Tryz.prog 50 89 5 56:=.of (by kernel_rfl) (by kernel_rfl) (by decide)
theorem Yd.rows (M:Yd hi h g cs ar cr rd aw wn cw ws){m b:Nat}{news:List Value}(hb:h b=none)(hl:news.length=m*5)(h1:∀ u ∈ news,u.oneCell'=true)(hn:wn+m≤100000000){ty:TypeId}{K:Value→Hp→Prop}
  (hK:∀ aw' cw' h',Yd hi h' g cs ar cr rd aw' (wn+m) cw' (ws++news)→K (vsl aw' (wn+m) cw') h') :
  Ql Tryz.prog (Builtin.append_ #[50,50] ty #[vsl aw wn cw,vsl (some ⟨b,0,none⟩) m m]) (h.set b (Qc news 89)) K:=by
 have M1:=M.le (Hp.le_set (Hp.le_refl h) hb (Qc news 89))
 refine Qh.append Qne M1.w (Qg.new _ _ news _) hl h1 (by omega) (by omega) fun a' c' h' O' k1 k2=>hK a' c' h' ?_
 refine⟨k1 g _ M1.blk M.wg,M.gn,Qh.apart M1.r O'.le (fun b' o hb' ho=>k1 b' o ho (M.rw_ b' hb')),O',M.rg,fun q=>?_,fun b' hb' q=>?_⟩
 ·rcases k2 g q with e|e
  ·exact M.wg (e.trans q)
  ·rw [M1.blk] at e;cases e
 ·rcases k2 b' q with e|e
  ·exact M.rw_ b' hb' (e.trans q)
  ·exact QdP M1.r hb' e
end
def Xg (b:Bool × PK)(v:Value):List Value:=[vb b.1,vi b.2.1,vi b.2.2.1,vi b.2.2.2,v]
theorem Mn (b:Bool × PK)(v:Value):(Xg b v).length=5:=rfl
def Xo (w:Rw):(Bool × PK) × List Vl:=((w.1,w.2.1),w.2.2)
def pnT (ks:List Int)(p:Pn):PK × List AcS × Bool:=(p.k,Wa ks p.rs,p.t)
def W4 (a1:Option Addr)(n1 c1:Nat)(a2:Option Addr)(n2 c2:Nat)(a3:Option Addr)(n3 c3:Nat)(qf:Qy)(ak:Option Addr)(nk ck:Nat)(ar:Option Addr)(nr cr:Nat)(ac:Option Addr)(nc cc:Nat)(tb:Option Addr)(tn tc:Nat)(late:Nat)(aw:Option Addr)(wn cw:Nat):List Value:=
 [vsl a1 n1 c1,vsl a2 n2 c2,vsl a3 n3 c3,vi qf.size,vi qf.slide,vi qf.delay,vi qf.late,vsl ak nk ck,vsl ar nr cr,vsl ac nc cc,vsl tb tn tc,vi (late:Nat),vsl aw wn cw]
structure Qkg (q qf:Qy)(hi:Hp)(a1:Option Addr)(n1:Nat)(a2:Option Addr)(n2:Nat)(a3:Option Addr)(n3:Nat)(ak:Option Addr)(nk:Nat)(ac:Option Addr)(nc:Nat)(tb:Option Addr)(R:List PR)(RW:List (KR Vl (Bool × PK)))(st:En):Prop where
 f:NL q qf
 qa:QAt hi qf a1 n1 a2 n2 a3 n3
 k:SlI hi ak nk (Qe q)
 c:SlI hi ac nc st.far
 t:Tb hi tb R
 p:R.map prT=st.pn.map (pnT (Qe q))
 w:Q7 RW=st.rows.map Xo
 wi:∀ r ∈ RW,Qg hi r.2.1.1 (r.2.2.flatMap Qv)
theorem Qkg.le {q qf:Qy}{hi hj:Hp}{a1:Option Addr}{n1:Nat}{a2:Option Addr}{n2:Nat}{a3:Option Addr}{n3:Nat}{ak:Option Addr}{nk:Nat}{ac:Option Addr}{nc:Nat}{tb:Option Addr}{R:List PR}{RW:List (KR Vl (Bool × PK))}{st:En}(I:Qkg q qf hi a1 n1 a2 n2 a3 n3 ak nk ac nc tb R RW st)(l:hi.le hj):Qkg q qf hj a1 n1 a2 n2 a3 n3 ak nk ac nc tb R RW st:=
 ⟨I.f,I.qa.le l,I.k.le l,I.c.le l,I.t.le l,I.p,I.w,fun r hr=>(I.wi r hr).le l⟩
def Y7 (q:Qy)(h0 h:Hp)(g:Nat)(st:En):Prop:=
 ∃(qf:Qy) (hi:Hp) (a1:Option Addr) (n1 c1:Nat) (a2:Option Addr) (n2 c2:Nat) (a3:Option Addr) (n3 c3:Nat) (ak:Option Addr) (nk ck:Nat) (ar:Option Addr) (cr:Nat) (ac:Option Addr) (nc cc:Nat) (tb:Option Addr) (tc:Nat) (aw:Option Addr) (cw:Nat) (R:List PR) (RW:List (KR Vl (Bool × PK))),
  h0.le hi∧Yd hi h g (W4 a1 n1 c1 a2 n2 c2 a3 n3 c3 qf ak nk ck ar st.rd.length cr ac nc cc tb R.length tc st.late aw RW.length cw) ar cr st.rd aw RW.length cw (RW.flatMap (YU Xg))∧Qkg q qf hi a1 n1 a2 n2 a3 n3 ak nk ac nc tb R RW st
theorem Y7.le {q:Qy}{h0 h h':Hp}{g:Nat}{st:En}(X:Y7 q h0 h g st)(l:h.le h'):Y7 q h0 h' g st:=by
 obtain⟨qf,hi,a1,n1,c1,a2,n2,c2,a3,n3,c3,ak,nk,ck,ar,cr,ac,nc,cc,tb,tc,aw,cw,R,RW,l0,M,I⟩:=X
 exact⟨qf,hi,a1,n1,c1,a2,n2,c2,a3,n3,c3,ak,nk,ck,ar,cr,ac,nc,cc,tb,tc,aw,cw,R,RW,l0,M.le l,I⟩
theorem Y7.le0 {q:Qy}{h0 h:Hp}{g:Nat}{st:En}(X:Y7 q h0 h g st):h0.le h:=by
 obtain⟨qf,hi,a1,n1,c1,a2,n2,c2,a3,n3,c3,ak,nk,ck,ar,cr,ac,nc,cc,tb,tc,aw,cw,R,RW,l0,M,I⟩:=X
 exact Hp.le_trans l0 M.le0
theorem QiU {ks:List Int}{R:List PR}{L:List Pn}(h:R.map prT=L.map (pnT ks)):R.map (·.k)=L.map (·.k):=by
 have:=congrArg (List.map Prod.fst) h
 rw [List.map_map,List.map_map] at this
 exact this
theorem QnD {ks:List Int}{R:List PR}{L:List Pn}(h:R.map prT=L.map (pnT ks)){i:Nat}{r:PR}(hr:R[i]?=some r):∃ p,L[i]?=some p∧r.k=p.k∧r.acs=Wa ks p.rs∧r.t=p.t:=by
 have h1:(R.map prT)[i]?=some (prT r):=by rw [List.getElem?_map,hr];rfl
 rw [h,List.getElem?_map,Option.map_eq_some_iff] at h1
 obtain⟨p,hp,e⟩:=h1
 simp only [pnT,prT,Prod.mk.injEq] at e
 exact⟨p,hp,e.1.symm,e.2.1.symm,e.2.2.symm⟩
theorem Qho {k:PK}{v:List Vl}:∀{l:List Pn} {i:Nat} {p:Pn},l.Pairwise (fun a b=>Qr a.k b.k)→l[i]?=some p→p.k=k→K7 k v l=l.set i ⟨k,p.rs++[v],p.t⟩
 | [],i,p,_,h,_=>by simp at h
 | x :: l,0,p,hs,h,hk=>by
  simp only [List.getElem?_cons_zero,Option.some.injEq] at h
  subst h
  rw [K7,if_neg (by rw [hk];exact Yz k),if_pos hk,List.set_cons_zero]
 | x :: l,i+1,p,hs,h,hk=>by
  obtain⟨h1,h2⟩:=List.pairwise_cons.1 hs
  simp only [List.getElem?_cons_succ] at h
  have hx:=h1 p (List.mem_of_getElem? h)
  rw [hk] at hx
  rw [K7,if_pos hx,List.set_cons_succ,Qho h2 h hk]
theorem Qd2 {k:PK}{v:List Vl}:∀{l:List Pn} {i:Nat},i≤l.length→(∀ x ∈ l.take i,Qr x.k k)→(∀ x,l[i]?=some x→¬ Qr x.k k)→(∀ x ∈ l,x.k≠k)→K7 k v l=l.take i++⟨k,[v],false⟩ :: l.drop i
 | [],0,_,_,_,_=>rfl
 | [],i+1,h,_,_,_=>by simp at h
 | x :: l,0,_,_,h,hn=>by
  rw [K7,if_neg (h x rfl),if_neg (hn x (List.mem_cons_self ..))]
  rfl
 | x :: l,i+1,hi,h1,h,hn=>by
  rw [K7,if_pos (h1 x (by simp)),Qd2 (by simpa using hi) (fun y hy=>h1 y (by simp [hy])) (fun y hy=>h y (by simpa using hy)) (fun y hy=>hn y (List.mem_cons_of_mem _ hy))]
  rfl
theorem QmN {q:Qy}{parts N:Nat}{st:En}(H:EnB q parts N st)(hN:N≤1000000000){R:List PR}(hp:R.map prT=st.pn.map (pnT (Qe q))):∀ r ∈ R,r.acs.length=(Qe q).length∧(∀ x ∈ r.acs,AcB x)∧-1000≤r.k.1∧r.k.1≤9999:=by
 intro r hr
 obtain⟨i,hi⟩:=List.getElem?_of_mem hr
 obtain⟨p,hp1,e1,e2,e3⟩:=QnD hp hi
 obtain⟨q1,q2,q3,q4⟩:=H.pa p (List.mem_of_getElem? hp1)
 have hl:∀ r ∈ p.rs,r.length=(Qe q).length:=fun r hr=>by rw [(q4 r hr).l,QC]
 rw [e1,e2]
 refine⟨?_,Qhx hl (fun r hr=>(q4 r hr).v) (by omega),q2,q3⟩
 have:=congrArg List.length (UR hl)
 rw [List.length_map] at this
 exact this
def Gg (u0:Option Addr)(u1 u2:Nat)(u3:Option Addr)(u4 u5:Nat)(u6:Option Addr)(u7 u8:Nat)(u9:Int)(u10:Int)(u11:Int)(u12:Int)(u13:Int)(h:Hp)(R:Value→Hp→Prop):Prop:=
 (∀ b1,h b1=none→let h2:= Hp.set h b1 (Qc [vsl u0 u1 u2,vsl u3 u4 u5,vsl u6 u7 u8,vi u9,vi u10,vi u11,vi u12,vsl none 0 0,vsl none 0 0,vsl none 0 0,vi 0,vsl none 0 0] 52);(∃(I4:List Value→Hp→Prop) (m5:List Value→Hp→Nat),I4 [vi 0] h2∧∀ vs6 h7,I4 vs6 h7→∃ x8,vs6=[vi x8]∧(((decide (x8 < u13))=true→(∃ a11 n11 c11,(Hp.cell h7 b1 (0+7)=some (vsl a11 n11 c11))∧(∀ b12,h7 b12=none→let h13:= Hp.set h7 b12 (Qc [vi 0] 3);(Ql Tryz.prog (Builtin.append_ #[48,48] 48 #[vsl a11 n11 c11,(vsl (some (⟨b12,0,none⟩:Addr)) 1 1)]) h13 fun v14 h15=>∃ a16 n16 c16,v14=(vsl a16 n16 c16)∧(Hp.store h15 b1 (0+7) [vsl a16 n16 c16] fun h17=>(∃ a18 n18 c18,(Hp.cell h17 b1 (0+8)=some (vsl a18 n18 c18))∧(∀ b19,h17 b19=none→let h20:= Hp.set h17 b19 (Qc [(vi (-1))] 3);(Ql Tryz.prog (Builtin.append_ #[48,48] 48 #[vsl a18 n18 c18,(vsl (some (⟨b19,0,none⟩:Addr)) 1 1)]) h20 fun v21 h22=>∃ a23 n23 c23,v21=(vsl a23 n23 c23)∧(Hp.store h22 b1 (0+8) [vsl a23 n23 c23] fun h24=>(∃ x26,(IsW x26 (x8+1))∧(I4 [vi x26] h24∧m5 [vi x26] h24 < m5 vs6 h7)))))))))))∧((decide (x8 < u13))=false→R (vhp b1 0) h7))))
theorem Qei {u0 u1 u2 u3 u4 u5 u6 u7 u8 u9 u10 u11 u12 u13 h R}(H:Gg u0 u1 u2 u3 u4 u5 u6 u7 u8 u9 u10 u11 u12 u13 h R):Qa Tryz.prog 11 [vag [vsl u0 u1 u2,vsl u3 u4 u5,vsl u6 u7 u8,vi u9,vi u10,vi u11,vi u12],vi u13] h R:=
 Qd (cfg:=⟨[9],[(3,([6],[.one (.int .i64)],[]))],[]⟩) Qo mixed Tryz.func11 [.ag [.v (vsl u0 u1 u2),.v (vsl u3 u4 u5),.v (vsl u6 u7 u8),.v (vi u9),.v (vi u10),.v (vi u11),.v (vi u12)],.one (.v (vi u13))] (by kernel_rfl) rfl (by kernel_rfl) H
def Uw (u0 u1:Nat)(h:Hp)(R:Value→Hp→Prop):Prop:=
 (∃(I2:List Value→Hp→Prop) (m3:List Value→Hp→Nat),I2 [vi 0,vi 0] h∧∀ vs4 h5,I2 vs4 h5→∃ x6 x7,vs4=[vi x6,vi x7]∧(∃ a8 n8 c8,(Hp.cell h5 u0 (u1+8)=some (vsl a8 n8 c8))∧(((decide (x7 < (n8:Int)))=true→(let J26:Int→Prop:=fun x28=>(∃ x29,(IsW x29 (x7+1))∧(I2 [vi x28,vi x29] h5∧m3 [vi x28,vi x29] h5 < m3 vs4 h5));(∃ a11 n11 c11,(Hp.cell h5 u0 (u1+8)=some (vsl a11 n11 c11))∧(∃ b12 o13,(a11=some ⟨b12,o13,none⟩∧(0:Int)≤x7∧x7 < (n11:Int))∧(∃ x14,(Hp.cell h5 b12 (o13+x7.toNat*1)=some (vi x14))∧(((decide (x14 < 0))=true→R (Qf [vi 0,vb false]) h5)∧((decide (x14 < 0))=false→(∃ a16 n16 c16,((decide (x7=0))=false→Hp.cell h5 u0 (u1+8)=some (vsl a16 n16 c16))∧(∃ b17 o18,((decide (x7=0))=false→(a16=some ⟨b17,o18,none⟩∧(0:Int)≤x7∧x7 < (n16:Int)))∧(∃ x19,((decide (x7=0))=false→Hp.cell h5 b17 (o18+x7.toNat*1)=some (vi x19))∧(((bif (decide (x7=0)) then true else(decide (x19 < x6)))=true→(∃ a20 n20 c20,(Hp.cell h5 u0 (u1+8)=some (vsl a20 n20 c20))∧(∃ b21 o22,(a20=some ⟨b21,o22,none⟩∧(0:Int)≤x7∧x7 < (n20:Int))∧(∃ x23,(Hp.cell h5 b21 (o22+x7.toNat*1)=some (vi x23))∧(J26 x23)))))∧((bif (decide (x7=0)) then true else(decide (x19 < x6)))=false→(J26 x6)))))))))))))∧((decide (x7 < (n8:Int)))=false→(∃ x30,(Hp.cell h5 u0 (u1+5)=some (vi x30))∧(∃ x31,(IsW x31 (x6 - x30))∧R (Qf [vi x31,vb true]) h5))))))
theorem Qcp {u0 u1 h R}(H:Uw u0 u1 h R):Qa Tryz.prog 53 [vhp u0 u1] h R:=
 Qd (cfg:=⟨[],[(3,([4,5],[.one (.int .i64),.one (.int .i64)],[]))],[]⟩) Qo mixed Tryz.func53 [.one (.hp u0 u1)] (by kernel_rfl) rfl (by kernel_rfl) H
theorem Qpk (a b c d e f g r x:Value)(l:List Value):QP ([a,b,c,d,e,f,g,x]++l) 7 [r]=[a,b,c,d,e,f,g,r]++l:=by simp [QP]
theorem QpJ (a b c d e f g r x y:Value)(l:List Value):QP ([a,b,c,d,e,f,g,x,y]++l) 8 [r]=[a,b,c,d,e,f,g,x,r]++l:=by simp [QP]
theorem Qem {a1:Option Addr}{n1 c1:Nat}{a2:Option Addr}{n2 c2:Nat}{a3:Option Addr}{n3 c3:Nat}{s1 s2 s3 s4 p:Int}{h:Hp}{R:Value→Hp→Prop}(hp:p≤1000)
  (hK:∀(b:Nat) (aR:Option Addr) (cR:Nat) (aF:Option Addr) (cF:Nat) (h':Hp),h.le h'→h b=none →
   h' b=some (Qc [vsl a1 n1 c1,vsl a2 n2 c2,vsl a3 n3 c3,vi s1,vi s2,vi s3,vi s4,vsl aR p.toNat cR,vsl aF p.toNat cF,vsl none 0 0,vi 0,vsl none 0 0] 52) →
   QI h' 3 1 aR p.toNat cR ((List.replicate p.toNat (0:Int)).map vi)→QI h' 3 1 aF p.toNat cF ((List.replicate p.toNat (-1:Int)).map vi) →
   (∀ g,aR=some ⟨g,0,none⟩→h g=none∧g≠b)→(∀ g,aF=some ⟨g,0,none⟩→h g=none∧g≠b∧aR≠some ⟨g,0,none⟩)→R (vhp b 0) h') :
  Qa Tryz.prog 11 [vag [vsl a1 n1 c1,vsl a2 n2 c2,vsl a3 n3 c3,vi s1,vi s2,vi s3,vi s4],vi p] h R:=by
 refine Qei ?_
 unfold Gg
 intro b1 hb1 h2
 refine⟨fun vs hh=>∃(i:Nat) (aR:Option Addr) (cR:Nat) (aF:Option Addr) (cF:Nat),vs=[vi i]∧i≤p.toNat∧h.le hh ∧
   hh b1=some (Qc [vsl a1 n1 c1,vsl a2 n2 c2,vsl a3 n3 c3,vi s1,vi s2,vi s3,vi s4,vsl aR i cR,vsl aF i cF,vsl none 0 0,vi 0,vsl none 0 0] 52) ∧
   QI hh 3 1 aR i cR ((List.replicate i (0:Int)).map vi)∧QI hh 3 1 aF i cF ((List.replicate i (-1:Int)).map vi) ∧
   (∀ g,aR=some ⟨g,0,none⟩→h g=none∧g≠b1)∧(∀ g,aF=some ⟨g,0,none⟩→h g=none∧g≠b1∧aR≠some ⟨g,0,none⟩),
  fun vs hh=>p.toNat - (Qn vs 0).toNat,⟨0,none,0,none,0,rfl,Nat.zero_le _,Hp.le_set (Hp.le_refl h) hb1 _,by simp [h2,Hp.set],QI.nil _ _ _,QI.nil _ _ _,by simp,by simp⟩,?_⟩
 rintro vs hh ⟨i,aR,cR,aF,cF,rfl,hi,hl,hB,OR,OF,fR,fF⟩
 refine⟨i,rfl,fun e=>?_,fun e=>?_⟩
 ·have hlt:(i:Int) < p:=by simpa using e
  refine⟨aR,i,cR,Qb hB rfl,?_⟩
  intro b12 hb12 h13
  have hb1n:b1≠b12:=Hp.ne_of hB hb12
  have OR1:QI h13 3 1 aR i cR ((List.replicate i (0:Int)).map vi):=OR.set (OR.not_at hb12) _
  have OF1:QI h13 3 1 aF i cF ((List.replicate i (-1:Int)).map vi):=OF.set (OF.not_at hb12) _
  have hB13:h13 b1=_:=(Hp.set_other hh _ hb1n).trans hB
  have hl13:h.le h13:=Hp.le_set hl hb12 _
  refine UP Vh OR1 (Qg.new _ _ [vi 0] _) (m:=1) rfl (by simp [Value.oneCell']) (by omega) (by omega) fun aR' cR' h15 OR' k1 k2 _ _=>⟨_,_,_,rfl,?_⟩
  have fR':∀ g,aR'=some ⟨g,0,none⟩→h g=none∧g≠b1∧aF≠some ⟨g,0,none⟩:=by
   intro g hg
   rcases k2 g hg with e|e
   ·have h1:=fR g (e.trans hg)
    exact⟨h1.1,h1.2,fun hf=>(fF g hf).2.2 (e.trans hg)⟩
   ·exact⟨Hp.none_of_le hl13 e,(Hp.ne_of hB13 e).symm,OF1.not_at e⟩
  have hB15:=k1 b1 _ hB13 (fun e=>(fR b1 e).2 rfl)
  have OF15:QI h15 3 1 aF i cF ((List.replicate i (-1:Int)).map vi):=OF1.keep fun g o hg ho=>k1 g o ho (fun e=>(fF g hg).2.2 e)
  have hl15:h.le h15:=fun g o ho=>k1 g o (hl13 g o ho) (fun e=>by rw [(fR g e).1] at ho;cases ho)
  refine QX hB15 (by simp) ?_
  have e7:=Qpk (vsl a1 n1 c1) (vsl a2 n2 c2) (vsl a3 n3 c3) (vi s1) (vi s2) (vi s3) (vi s4) (vsl aR' (i+1) cR') (vsl aR i cR) [vsl aF i cF,vsl none 0 0,vi 0,vsl none 0 0]
  rw [show (0+7:Nat)=7 from rfl]
  simp only [List.cons_append,List.nil_append] at e7
  rw [e7]
  generalize hh17:h15.set b1 _=h17
  have hB17:=hh17▸Hp.set_same h15 b1 (Qc [vsl a1 n1 c1,vsl a2 n2 c2,vsl a3 n3 c3,vi s1,vi s2,vi s3,vi s4,vsl aR' (i+1) cR',vsl aF i cF,vsl none 0 0,vi 0,vsl none 0 0] 52)
  have OR17:=hh17▸OR'.set (g:=b1) (fun e=>(fR' b1 e).2.1 rfl) (Qc [vsl a1 n1 c1,vsl a2 n2 c2,vsl a3 n3 c3,vi s1,vi s2,vi s3,vi s4,vsl aR' (i+1) cR',vsl aF i cF,vsl none 0 0,vi 0,vsl none 0 0] 52)
  have OF17:=hh17▸OF15.set (g:=b1) (fun e=>(fF b1 e).2.1 rfl) (Qc [vsl a1 n1 c1,vsl a2 n2 c2,vsl a3 n3 c3,vi s1,vi s2,vi s3,vi s4,vsl aR' (i+1) cR',vsl aF i cF,vsl none 0 0,vi 0,vsl none 0 0] 52)
  have hl17:h.le h17:=by rw [←hh17];exact fun g o ho=>(Hp.set_other h15 _ (fun e=>by subst e;rw [hb1] at ho;cases ho)).trans (hl15 g o ho)
  clear hh17
  refine⟨aF,i,cF,Qb hB17 rfl,?_⟩
  intro b19 hb19 h20
  have hb19n:b1≠b19:=Hp.ne_of hB17 hb19
  have OR20:QI h20 _ _ _ _ _ _:=OR17.set (OR17.not_at hb19) _
  have OF20:QI h20 _ _ _ _ _ _:=OF17.set (OF17.not_at hb19) _
  have hB20:h20 b1=_:=(Hp.set_other h17 _ hb19n).trans hB17
  have hl20:h.le h20:=Hp.le_set hl17 hb19 _
  refine UP Vh OF20 (Qg.new _ _ [vi (-1)] _) (m:=1) rfl (by simp [Value.oneCell']) (by omega) (by omega) fun aF' cF' h22 OF' k3 k4 _ _=>⟨_,_,_,rfl,?_⟩
  have fF':∀ g,aF'=some ⟨g,0,none⟩→h g=none∧g≠b1∧aR'≠some ⟨g,0,none⟩:=by
   intro g hg
   rcases k4 g hg with e|e
   ·have h1:=fF g (e.trans hg)
    exact⟨h1.1,h1.2.1,fun hf=>(fR' g hf).2.2 (e.trans hg)⟩
   ·exact⟨Hp.none_of_le hl20 e,(Hp.ne_of hB20 e).symm,OR20.not_at e⟩
  have hB22:=k3 b1 _ hB20 (fun e=>(fF b1 e).2.1 rfl)
  have OR22:=OR20.keep (h':=h22) fun g o hg ho=>k3 g o ho (fun e=>(fR' g hg).2.2 e)
  have hl22:h.le h22:=fun g o ho=>k3 g o (hl20 g o ho) (fun e=>by rw [(fF g e).1] at ho;cases ho)
  refine QX hB22 (by simp) ?_
  have e8:=QpJ (vsl a1 n1 c1) (vsl a2 n2 c2) (vsl a3 n3 c3) (vi s1) (vi s2) (vi s3) (vi s4) (vsl aF' (i+1) cF') (vsl aR' (i+1) cR') (vsl aF i cF) [vsl none 0 0,vi 0,vsl none 0 0]
  rw [show (0+8:Nat)=8 from rfl]
  simp only [List.cons_append,List.nil_append] at e8
  rw [e8]
  refine⟨_,isW (by unfold InR;omega),⟨i+1,aR',cR',aF',cF',rfl,by omega,?_,Hp.set_same _ _ _,?_,?_,fun g hg=>⟨(fR' g hg).1,(fR' g hg).2.1⟩,fF'⟩,by simp [Qn];omega⟩
  ·exact fun g o ho=>(Hp.set_other h22 _ (fun e=>by subst e;rw [hb1] at ho;cases ho)).trans (hl22 g o ho)
  ·rw [List.replicate_succ',List.map_append];exact OR22.set (fun e=>(fR' b1 e).2.1 rfl) _
  ·rw [List.replicate_succ',List.map_append];exact OF'.set (fun e=>(fF' b1 e).2.1 rfl) _
 ·have hge:i=p.toNat:=by simp at e;omega
  rw [hge] at hB OR OF
  exact hK b1 aR cR aF cF hh hl hb1 hB OR OF fR fF
theorem Qlg {b:Nat}{l:List Int}{a:Option Addr}{n c:Nat}{cs:List Value}{t:TypeId}{d:Int}{h:Hp}{R:Value→Hp→Prop}(hB:h b=some (Qc cs t))(h8:cs[8]?=some (vsl a n c))(h5:cs[5]?=some (vi d))
  (S:SlI h a n l) (hn:n≤1000) (hl:∀ x ∈ l,-1≤x∧x≤9999) (hd:0≤d∧d≤1000)
  (hK:R (if ∀ x ∈ l,0≤x then Qf [vi (JL l - d),vb true] else Qf [vi 0,vb false]) h) :
  Qa Tryz.prog 53 [vhp b 0] h R:=by
 refine Qcp ?_
 unfold Uw
 have hlen:=S.1
 refine⟨fun vs hh=>hh=h∧∃ i:Nat,vs=[vi (JL (l.take i)),vi i]∧i≤n∧(∀ x ∈ l.take i,0≤x),fun vs hh=>n - (Qn vs 1).toNat,⟨rfl,0,rfl,by omega,by simp⟩,?_⟩
 rintro vs hh ⟨rfl,i,rfl,hi,hg⟩
 refine⟨_,i,rfl,a,n,c,Qb hB (by simpa using h8),fun e=>?_,fun e=>?_⟩
 ·have hlt:i < n:=by simpa using e
  have hx:i < l.length:=by omega
  have hget:l.getD i 0=l[i]:=by rw [List.getD_eq_getElem?_getD,List.getElem?_eq_getElem hx];rfl
  have hb:=hl l[i] (List.getElem_mem hx)
  have tk:l.take (i+1)=l.take i++[l[i]]:=List.take_succ_eq_append_getElem hx
  obtain⟨bb,o,ea,hc⟩:=S.get hlt
  rw [hget] at hc
  intro J26
  have A:a=some ⟨bb,o,none⟩∧(0:Int)≤i∧(i:Int) < (n:Nat):=⟨ea,by omega,by omega⟩
  refine⟨a,n,c,Qb hB (by simpa using h8),bb,o,A,_,hc,fun e=>?_,fun e=>?_⟩
  ·have hneg:l[i] < 0:=by simpa using e
   rw [if_neg (fun hall=>by have:=hall _ (List.getElem_mem hx);omega)] at hK
   exact hK
  ·have hneg:¬ l[i] < 0:=by simpa using e
   have next:∀ m':Int,m'=JL (l.take (i+1))→J26 m':=by
    intro m' hm'
    refine⟨_,isW (by unfold InR;omega),⟨rfl,i+1,?_,by omega,?_⟩,by simp [Qn];omega⟩
    ·rw [hm'];rfl
    ·intro x hx'
     rw [tk] at hx'
     rcases List.mem_append.1 hx' with h1|h1
     ·exact hg x h1
     ·simp at h1;omega
   refine⟨a,n,c,fun _=>Qb hB (by simpa using h8),bb,o,fun _=>A,_,fun _=>hc,fun e=>⟨a,n,c,Qb hB (by simpa using h8),bb,o,A,_,hc,next _ ?_⟩,fun e=>next _ ?_⟩
   ·rw [tk]
    by_cases h0:l.take i=[]
    ·rw [h0];simp [JL]
    ·rw [Mq _ _ h0]
     have hi0:i≠0:=fun h=>h0 (by rw [h];rfl)
     simp [Bool.cond_eq_ite,hi0] at e
     rw [Int.min_eq_right (by omega)]
   ·rw [tk]
    have hi0:i≠0:=by rintro rfl;simp at e
    have h0:l.take i≠[]:=fun h=>hi0 (by
     have:=congrArg List.length h
     rw [List.length_take] at this
     simp only [List.length_nil] at this
     omega)
    rw [Mq _ _ h0]
    simp [Bool.cond_eq_ite,hi0] at e
    rw [Int.min_eq_left (by omega)]
 ·have hge:i=n:=by simp at e;omega
  have ht:l.take i=l:=List.take_of_length_le (by omega)
  rw [ht] at hg ⊢
  rw [if_pos hg] at hK
  have hb:-1≤JL l∧JL l≤9999:=by
   by_cases h0:l=[]
   ·rw [h0];decide
   ·exact hl _ (QeA h0)
  exact⟨d,Qb hB (by simpa using h5),_,isW (by unfold InR;omega),hK⟩
def Uc (u0 u1:Nat)(h:Hp)(R:Value→Hp→Prop):Prop:=
 (∃ a1 n1 c1,(Hp.cell h u0 (u1+9)=some (vsl a1 n1 c1))∧R (vi (n1:Int)) h)
theorem Qce {u0 u1 h R}(H:Uc u0 u1 h R):Qa Tryz.prog 55 [vhp u0 u1] h R:=
 Qd (cfg:=⟨[],[],[]⟩) Qo mixed Tryz.func55 [.one (.hp u0 u1)] (by kernel_rfl) rfl (by kernel_rfl) H
def UB (u0 u1:Nat)(u2:Int)(u3:Int)(u4:Int)(u5:Int)(u6:Int)(u7:Int)(u8:Int)(u9:Int)(h:Hp)(R:Value→Hp→Prop):Prop:=
 (∃ a1 n1 c1 a2 n2 c2 a3 n3 c3 x4 x5 x6 x7,(Hp.row h u0 u1 7=some [vsl a1 n1 c1,vsl a2 n2 c2,vsl a3 n3 c3,vi x4,vi x5,vi x6,vi x7])∧(Qa Tryz.prog 46 [vag [vsl a1 n1 c1,vsl a2 n2 c2,vsl a3 n3 c3,vi x4,vi x5,vi x6,vi x7],vag [vi u3,vi u4,vi u5,vi u6,vi u7,vi u8,vi u9]] h fun v8 h9=>∃ p10,v8=(vb p10)∧(let J87:Hp→Prop:=fun h88=>(∃ a89 n89 c89,(Hp.cell h88 u0 (u1+7)=some (vsl a89 n89 c89))∧(∃ b90 o91,(a89=some ⟨b90,o91,none⟩∧(0:Int)≤u2∧u2 < (n89:Int))∧(∃ x92,(Hp.cell h88 b90 (o91+u2.toNat*1)=some (vi x92))∧(∃ x93,(IsW x93 (x92+1))∧(∃ b94 o95,(a89=some ⟨b94,o95,none⟩∧(0:Int)≤u2∧u2 < (n89:Int))∧(Hp.store h88 b94 (o95+u2.toNat*1) [vi x93] fun h96=>(∃ a97 n97 c97,(Hp.cell h96 u0 (u1+8)=some (vsl a97 n97 c97))∧(∃ a98 n98 c98,(Hp.cell h96 u0 (u1+8)=some (vsl a98 n98 c98))∧(∃ b99 o100,(a98=some ⟨b99,o100,none⟩∧(0:Int)≤u2∧u2 < (n98:Int))∧(∃ x101,(Hp.cell h96 b99 (o100+u2.toNat*1)=some (vi x101))∧(∃ x102,(Rd Tryz.prog (Builtin.max_ #[3,3] 3 #[vi x101,vi u3]) h96 (vi x102))∧(∃ b103 o104,(a97=some ⟨b103,o104,none⟩∧(0:Int)≤u2∧u2 < (n97:Int))∧(Hp.store h96 b103 (o104+u2.toNat*1) [vi x102] fun h105=>(Qa Tryz.prog 53 [vhp u0 u1] h105 fun v106 h107=>∃ x108 p109,v106=(Qf [vi x108,vb p109])∧(((!p109)=true→R (Qf []) h107)∧((!p109)=false→(∃(I112:List Value→Hp→Prop) (m113:List Value→Hp→Nat),I112 [vsl none 0 0,vi 0] h107∧∀ vs114 h115,I112 vs114 h115→∃ a116 n116 c116 x117,vs114=[vsl a116 n116 c116,vi x117]∧(∃ a118 n118 c118,(Hp.cell h115 u0 (u1+9)=some (vsl a118 n118 c118))∧(((decide (x117 < (n118:Int)))=true→(let J164:Option Addr→Nat→Nat→Hp→Prop:=fun a167 n167 c167 h168=>(∃ x169,(IsW x169 (x117+1))∧(I112 [vsl a167 n167 c167,vi x169] h168∧m113 [vsl a167 n167 c167,vi x169] h168 < m113 vs114 h115));(∃ a121 n121 c121,(Hp.cell h115 u0 (u1+9)=some (vsl a121 n121 c121))∧(∃ b122 o123,(a121=some ⟨b122,o123,none⟩∧(0:Int)≤x117∧x117 < (n121:Int))∧(∃ q124,(Hp.cell h115 b122 (o123+x117.toNat*1)=some (vp q124))∧(∃ b125 o126,(q124=some ⟨b125,o126,none⟩)∧(∃ p127,(Hp.cell h115 b125 (o126+4)=some (vb p127))∧(∃ b128 o129,((!p127)=true→q124=some ⟨b128,o129,none⟩)∧(∃ x130,((!p127)=true→Hp.cell h115 b128 o129=some (vi x130))∧(∃ x131,((!p127)=true→IsW x131 (x130+x4))∧(let J150:Hp→Prop:=fun h151=>(∃ b152 o153,(q124=some ⟨b152,o153,none⟩)∧(∃ x154,(Hp.cell h151 b152 o153=some (vi x154))∧(∃ x155,(IsW x155 (x154+x4))∧(∃ x156,(IsW x156 (x108 - x7))∧(((decide (x155 > x156))=true→(∀ b157,h151 b157=none→let h158:= Hp.set h151 b157 (Qc [vp q124] 116);(Ql Tryz.prog (Builtin.append_ #[49,49] 49 #[vsl a116 n116 c116,(vsl (some (⟨b157,0,none⟩:Addr)) 1 1)]) h158 fun v159 h160=>∃ a161 n161 c161,v159=(vsl a161 n161 c161)∧(J164 a161 n161 c161 h160))))∧((decide (x155 > x156))=false→(J164 a116 n116 c116 h151)))))));(((bif (!p127) then(decide (x131≤x108)) else false)=true→(∃ b132 o133,(q124=some ⟨b132,o133,none⟩)∧(Hp.store h115 b132 (o133+4) [vb true] fun h134=>(∃ a135 n135 c135,(Hp.cell h134 u0 (u1+11)=some (vsl a135 n135 c135))∧(Qa Tryz.prog 50 [vp q124,vag [vsl a1 n1 c1,vsl a2 n2 c2,vsl a3 n3 c3,vi x4,vi x5,vi x6,vi x7]] h134 fun v136 h137=>∃ x138 x139 x140 a141 n141 c141,v136=(vag [vi x138,vi x139,vi x140,vsl a141 n141 c141])∧((Hp.cell h137 u0 (u1+11)=some (vsl a135 n135 c135))∧(∀ b142,h137 b142=none→let h143:= Hp.set h137 b142 (Qc [vb false,vi x138,vi x139,vi x140,vsl a141 n141 c141] 89);(Ql Tryz.prog (Builtin.append_ #[50,50] 50 #[vsl a135 n135 c135,(vsl (some (⟨b142,0,none⟩:Addr)) 1 1)]) h143 fun v144 h145=>∃ a146 n146 c146,v144=(vsl a146 n146 c146)∧(Hp.store h145 u0 (u1+11) [vsl a146 n146 c146] fun h147=>(J150 h147))))))))))∧((bif (!p127) then(decide (x131≤x108)) else false)=false→(J150 h115))))))))))))))∧((decide (x117 < (n118:Int)))=false→(Hp.store h115 u0 (u1+9) [vsl a116 n116 c116] fun h170=>R (Qf []) h170)))))))))))))))))))));((p10=true→(Qa Tryz.prog 47 [vi u3,vi x4,vi x5] h9 fun v11 h12=>∃ a13 n13 c13,v11=(vsl a13 n13 c13)∧(∃(I15:List Value→Hp→Prop) (m16:List Value→Hp→Nat),I15 [vi 0] h12∧∀ vs17 h18,I15 vs17 h18→∃ x19,vs17=[vi x19]∧(((decide (x19 < (n13:Int)))=true→(let J83:Hp→Prop:=fun h84=>(∃ x85,(IsW x85 (x19+1))∧(I15 [vi x85] h84∧m16 [vi x85] h84 < m16 vs17 h18));(∃ a22 n22 c22,(Hp.cell h18 u0 (u1+8)=some (vsl a22 n22 c22))∧(∃ b23 o24,(a22=some ⟨b23,o24,none⟩∧(0:Int)≤u2∧u2 < (n22:Int))∧(∃ x25,(Hp.cell h18 b23 (o24+u2.toNat*1)=some (vi x25))∧(∃ b26 o27,((decide (x25≥0))=true→(a13=some ⟨b26,o27,none⟩∧(0:Int)≤x19∧x19 < (n13:Int)))∧(∃ x28,((decide (x25≥0))=true→Hp.cell h18 b26 (o27+x19.toNat*1)=some (vi x28))∧(∃ x29,((decide (x25≥0))=true→IsW x29 (x28+x4))∧(∃ x30,((decide (x25≥0))=true→IsW x30 (x29+x7))∧(∃ a31 n31 c31,((decide (x25≥0))=true→Hp.cell h18 u0 (u1+8)=some (vsl a31 n31 c31))∧(∃ b32 o33,((decide (x25≥0))=true→(a31=some ⟨b32,o33,none⟩∧(0:Int)≤u2∧u2 < (n31:Int)))∧(∃ x34,((decide (x25≥0))=true→Hp.cell h18 b32 (o33+u2.toNat*1)=some (vi x34))∧(∃ x35,((decide (x25≥0))=true→IsW x35 (x34 - x6))∧(((bif (decide (x25≥0)) then(decide (x30≤x35)) else false)=true→(∃ x36,(Hp.cell h18 u0 (u1+10)=some (vi x36))∧(∃ x37,(IsW x37 (x36+1))∧(Hp.store h18 u0 (u1+10) [vi x37] fun h38=>(J83 h38)))))∧((bif (decide (x25≥0)) then(decide (x30≤x35)) else false)=false→(∃ a41 n41 c41,(Hp.cell h18 u0 (u1+9)=some (vsl a41 n41 c41))∧(∃ b42 o43,(a13=some ⟨b42,o43,none⟩∧(0:Int)≤x19∧x19 < (n13:Int))∧(∃ x44,(Hp.cell h18 b42 (o43+x19.toNat*1)=some (vi x44))∧(Qa Tryz.prog 49 [vag [vsl a1 n1 c1,vsl a2 n2 c2,vsl a3 n3 c3,vi x4,vi x5,vi x6,vi x7],vag [vi u3,vi u4,vi u5,vi u6,vi u7,vi u8,vi u9]] h18 fun v45 h46=>∃ x47 x48,v45=(vag [vi x47,vi x48])∧((Hp.cell h46 b42 (o43+x19.toNat*1)=some (vi x44))∧((Hp.cell h46 u0 (u1+9)=some (vsl a41 n41 c41))∧(Qa Tryz.prog 48 [vsl a41 n41 c41,vi x44,vag [vi x47,vi x48],(vi (n1:Int))] h46 fun v49 h50=>∃ a51 n51 c51 q52,v49=(Qf [vsl a51 n51 c51,vp q52])∧(Hp.store h50 u0 (u1+9) [vsl a51 n51 c51] fun h53=>(Qa Tryz.prog 50 [vp q52,vag [vsl a1 n1 c1,vsl a2 n2 c2,vsl a3 n3 c3,vi x4,vi x5,vi x6,vi x7]] h53 fun v54 h55=>∃ x56 x57 x58 a59 n59 c59,v54=(vag [vi x56,vi x57,vi x58,vsl a59 n59 c59])∧(Qa Tryz.prog 51 [vp q52,vag [vsl a1 n1 c1,vsl a2 n2 c2,vsl a3 n3 c3,vi x4,vi x5,vi x6,vi x7],vag [vi u3,vi u4,vi u5,vi u6,vi u7,vi u8,vi u9]] h55 fun v60 h61=>v60=(Qf [])∧(Qa Tryz.prog 50 [vp q52,vag [vsl a1 n1 c1,vsl a2 n2 c2,vsl a3 n3 c3,vi x4,vi x5,vi x6,vi x7]] h61 fun v62 h63=>∃ x64 x65 x66 a67 n67 c67,v62=(vag [vi x64,vi x65,vi x66,vsl a67 n67 c67])∧(Qa Tryz.prog 52 [vsl a59 n59 c59,vsl a67 n67 c67] h63 fun v68 h69=>∃ p70,v68=(vb p70)∧(∃ b71 o72,(q52=some ⟨b71,o72,none⟩)∧(∃ p73,(Hp.cell h69 b71 (o72+4)=some (vb p73))∧(((bif p73 then(!p70) else false)=true→(∃ a74 n74 c74,(Hp.cell h69 u0 (u1+11)=some (vsl a74 n74 c74))∧(∀ b75,h69 b75=none→let h76:= Hp.set h69 b75 (Qc [vb true,vi x56,vi x57,vi x58,vsl a59 n59 c59,vb false,vi x64,vi x65,vi x66,vsl a67 n67 c67] 89);(Ql Tryz.prog (Builtin.append_ #[50,50] 50 #[vsl a74 n74 c74,(vsl (some (⟨b75,0,none⟩:Addr)) 2 2)]) h76 fun v77 h78=>∃ a79 n79 c79,v77=(vsl a79 n79 c79)∧(Hp.store h78 u0 (u1+11) [vsl a79 n79 c79] fun h80=>(J83 h80))))))∧((bif p73 then(!p70) else false)=false→(J83 h69))))))))))))))))))))))))))))))))∧((decide (x19 < (n13:Int)))=false→(J87 h18))))))∧(p10=false→(J87 h9))))))
theorem Qb0 {u0 u1 u2 u3 u4 u5 u6 u7 u8 u9 h R}(H:UB u0 u1 u2 u3 u4 u5 u6 u7 u8 u9 h R):Qa Tryz.prog 15 [vhp u0 u1,vi u2,vag [vi u3,vi u4,vi u5,vi u6,vi u7,vi u8,vi u9]] h R:=
 Qd (cfg:=⟨[],[(6,([9],[.one (.int .i64)],[])),(24,([16,17],[.one (.slice),.one (.int .i64)],[]))],[(8,[0,1,2,3,4,5,6,7,8,9,10,11,12,13,14,15,16,17,18,19,20,21,22,23,24,25,26,27,28,29,30]),(11,[0,1,2,3,4,5,6,7,8,9,10,12,13,14,11,15,16,17,18,19,20,21,22]),(17,[0,1,2,3,4,5,6,7,8,9,10,11,12,13]),(19,[0,1,2,3,4,5,6,7,8,9,10,11,12,13,14,15,16]),(27,[0,1,2,3,4,5,6,7,8,9,10,11,12,13,14,15]),(29,[0,1,2,3,4,5,6,7,8,9,10,11,12,13]),(30,[0,1,2,3,4,5,6,7,8,9,10,11])]⟩) Qo mixed Tryz.func15 [.one (.hp u0 u1),.one (.v (vi u2)),.ag [.v (vi u3),.v (vi u4),.v (vi u5),.v (vi u6),.v (vi u7),.v (vi u8),.v (vi u9)]] (by kernel_rfl) rfl (by kernel_rfl) H
def Nr (u0:Option Addr)(u1 u2:Nat)(u3:Option Addr)(u4 u5:Nat)(h:Hp)(R:Value→Hp→Prop):Prop:=
 (((decide ((u1:Int)≠(u4:Int)))=true→R (vb false) h)∧((decide ((u1:Int)≠(u4:Int)))=false→(∃(I3:List Value→Hp→Prop) (m4:List Value→Hp→Nat),I3 [vi 0] h∧∀ vs5 h6,I3 vs5 h6→∃ x7,vs5=[vi x7]∧(((decide (x7 < (u1:Int)))=true→(∃ b10 o11,(u0=some ⟨b10,o11,none⟩∧(0:Int)≤x7∧x7 < (u1:Int))∧(∃ x12 x13 x14 a15 n15 c15,(Hp.row h6 b10 ((o11+x7.toNat*5)+1) 4=some [vi x12,vi x13,vi x14,vsl a15 n15 c15])∧(∃ b16 o17,(u3=some ⟨b16,o17,none⟩∧(0:Int)≤x7∧x7 < (u4:Int))∧(∃ x18 x19 x20 a21 n21 c21,(Hp.row h6 b16 ((o17+x7.toNat*5)+1) 4=some [vi x18,vi x19,vi x20,vsl a21 n21 c21])∧(Qa Tryz.prog 57 [vag [vi x12,vi x13,vi x14,vsl a15 n15 c15],vag [vi x18,vi x19,vi x20,vsl a21 n21 c21]] h6 fun v22 h23=>∃ p24,v22=(vb p24)∧(∃ b25 o26,(u0=some ⟨b25,o26,none⟩∧(0:Int)≤x7∧x7 < (u1:Int))∧(∃ p27,(Hp.cell h23 b25 (o26+x7.toNat*5)=some (vb p27))∧(∃ b28 o29,(u3=some ⟨b28,o29,none⟩∧(0:Int)≤x7∧x7 < (u4:Int))∧(∃ p30,(Hp.cell h23 b28 (o29+x7.toNat*5)=some (vb p30))∧(∃ p31,(Rd Tryz.prog ((eqGuard .neq 4 (.tmp 33) (.tmp 38) (vb p27) (vb p30) >>= fun _=>binOp .neq 4 (vb p27) (vb p30))) h23 (vb p31))∧(((bif p31 then true else(!p24))=true→R (vb false) h23)∧((bif p31 then true else(!p24))=false→(∃ x33,(IsW x33 (x7+1))∧(I3 [vi x33] h23∧m4 [vi x33] h23 < m4 vs5 h6)))))))))))))))∧((decide (x7 < (u1:Int)))=false→R (vb true) h6)))))
theorem QfT {u0 u1 u2 u3 u4 u5 h R}(H:Nr u0 u1 u2 u3 u4 u5 h R):Qa Tryz.prog 22 [vsl u0 u1 u2,vsl u3 u4 u5] h R:=
 Qd (cfg:=⟨[],[(4,([5],[.one (.int .i64)],[]))],[(6,[0,1,2,3,4,5,6,7,8,9,10,11]),(7,[0,1,2,3,4,5,6,7,8,9,10,11,12,13,14])]⟩) Qo mixed Tryz.func22 [.one (.v (vsl u0 u1 u2)),.one (.v (vsl u3 u4 u5))] (by kernel_rfl) rfl (by kernel_rfl) H
def Km (u0:Option Addr)(u1 u2:Nat)(u3:Option Addr)(u4 u5:Nat)(h:Hp)(R:Value→Hp→Prop):Prop:=
 (((decide ((u1:Int)≠(u4:Int)))=true→R (vb false) h)∧((decide ((u1:Int)≠(u4:Int)))=false→(∃(I3:List Value→Hp→Prop) (m4:List Value→Hp→Nat),I3 [vi 0] h∧∀ vs5 h6,I3 vs5 h6→∃ x7,vs5=[vi x7]∧(((decide (x7 < (u1:Int)))=true→(∃ b10 o11,(u0=some ⟨b10,o11,none⟩∧(0:Int)≤x7∧x7 < (u1:Int))∧(∃ x12 x13,(Hp.row h6 b10 (o11+x7.toNat*2) 2=some [vi x12,vi x13])∧(∃ b14 o15,(u3=some ⟨b14,o15,none⟩∧(0:Int)≤x7∧x7 < (u4:Int))∧(∃ x16 x17,(Hp.row h6 b14 (o15+x7.toNat*2) 2=some [vi x16,vi x17])∧(∃ p18,(Rd Tryz.prog ((eqGuard .neq 42 (.tmp 20) (.tmp 24) (vag [vi x12,vi x13]) (vag [vi x16,vi x17]) >>= fun _=>binOp .neq 42 (vag [vi x12,vi x13]) (vag [vi x16,vi x17]))) h6 (vb p18))∧((p18=true→R (vb false) h6)∧(p18=false→(∃ x20,(IsW x20 (x7+1))∧(I3 [vi x20] h6∧m4 [vi x20] h6 < m4 vs5 h6))))))))))∧((decide (x7 < (u1:Int)))=false→R (vb true) h6)))))
theorem Ve {u0 u1 u2 u3 u4 u5 h R}(H:Km u0 u1 u2 u3 u4 u5 h R):Qa Tryz.prog 52 [vsl u0 u1 u2,vsl u3 u4 u5] h R:=
 Qd (cfg:=⟨[],[(4,([5],[.one (.int .i64)],[]))],[(6,[0,1,2,3,4,5,6,7,8])]⟩) Qo mixed Tryz.func52 [.one (.v (vsl u0 u1 u2)),.one (.v (vsl u3 u4 u5))] (by kernel_rfl) rfl (by kernel_rfl) H
def Nz (u0:Int)(u1:Int)(u2:Int)(u3:Option Addr)(u4 u5:Nat)(u6:Int)(u7:Int)(u8:Int)(u9:Option Addr)(u10 u11:Nat)(h:Hp)(R:Value→Hp→Prop):Prop:=
 (Qa Tryz.prog 52 [vsl u3 u4 u5,vsl u9 u10 u11] h fun v1 h2=>∃ p3,v1=(vb p3)∧(∃ p4,((decide (u0=u6))=true→Rd Tryz.prog ((eqGuard .eql 42 (.tmp 18) (.tmp 20) (vag [vi u1,vi u2]) (vag [vi u7,vi u8]) >>= fun _=>binOp .eql 42 (vag [vi u1,vi u2]) (vag [vi u7,vi u8]))) h2 (vb p4))∧R (vb (bif (bif (decide (u0=u6)) then p4 else false) then p3 else false)) h2))
theorem QfF {u0 u1 u2 u3 u4 u5 u6 u7 u8 u9 u10 u11 h R}(H:Nz u0 u1 u2 u3 u4 u5 u6 u7 u8 u9 u10 u11 h R):Qa Tryz.prog 57 [vag [vi u0,vi u1,vi u2,vsl u3 u4 u5],vag [vi u6,vi u7,vi u8,vsl u9 u10 u11]] h R:=
 Qd (cfg:=⟨[],[],[]⟩) Qo mixed Tryz.func57 [.ag [.v (vi u0),.v (vi u1),.v (vi u2),.v (vsl u3 u4 u5)],.ag [.v (vi u6),.v (vi u7),.v (vi u8),.v (vsl u9 u10 u11)]] (by kernel_rfl) rfl (by kernel_rfl) H
theorem Qaj {n:Nat}:∀{rs:List (List Vl)},(∀ r ∈ rs,∀ v ∈ r,ZQ v)→∀ l ∈ Yl n rs,l.length≤rs.length∧∀ v ∈ l,ZQ v:=by
 intro rs
 induction rs using QbB with
 | h0=>
  intro _ c hc
  rw [List.eq_of_mem_replicate hc]
  exact⟨Nat.le_refl _,fun v hv=>by cases hv⟩
 | h1 rs r ih=>
  intro hv c hc
  have ih:=ih fun x hx=>hv x (List.mem_append_left _ hx)
  rw [XJ] at hc
  unfold XR at hc
  obtain⟨i,hi,rfl⟩:=List.mem_iff_getElem.1 hc
  rw [List.length_zipWith] at hi
  rw [List.getElem_zipWith]
  obtain⟨h1,h2⟩:=ih _ (List.getElem_mem (by omega:i < (Yl n rs).length))
  refine⟨by simp;omega,fun v hv2=>?_⟩
  rcases List.mem_append.1 hv2 with h3|h3
  ·exact h2 v h3
  ·rw [List.mem_singleton.1 h3]
   exact hv r (by simp) _ (List.getElem_mem _)
def pnC (r:PN):PK × List (List Vl) × Bool:=(r.k,r.cs,r.told)
def pnS (n:Nat)(p:Pn):PK × List (List Vl) × Bool:=(p.k,Yl n p.rs,p.t)
theorem QmB {n:Nat}{R:List PN}{L:List Pn}(h:R.map pnC=L.map (pnS n)):R.map (·.k)=L.map (·.k):=by
 have:=congrArg (List.map Prod.fst) h
 rw [List.map_map,List.map_map] at this
 exact this
theorem Qmn {n:Nat}{R:List PN}{L:List Pn}(h:R.map pnC=L.map (pnS n)){i:Nat}{r:PN}(hr:R[i]?=some r):∃ p,L[i]?=some p∧r.k=p.k∧r.cs=Yl n p.rs∧r.told=p.t:=by
 have h1:(R.map pnC)[i]?=some (pnC r):=by rw [List.getElem?_map,hr];rfl
 rw [h,List.getElem?_map,Option.map_eq_some_iff] at h1
 obtain⟨p,hp,e⟩:=h1
 simp only [pnC,pnS,Prod.mk.injEq] at e
 exact⟨p,hp,e.1.symm,e.2.1.symm,e.2.2.symm⟩
theorem QkD {q:Qy}{parts N:Nat}{st:En}(H:EnB q parts N st){R:List PN}(hp:R.map pnC=st.pn.map (pnS q.aggs.length)):∀ r ∈ R,r.cs.length=q.aggs.length∧(∀ l ∈ r.cs,l.length≤N∧∀ v ∈ l,ZQ v)∧-1000≤r.k.1∧r.k.1≤9999:=by
 intro r hr
 obtain⟨i,hi⟩:=List.getElem?_of_mem hr
 obtain⟨p,hp1,e1,e2,e3⟩:=Qmn hp hi
 obtain⟨q1,q2,q3,q4⟩:=H.pa p (List.mem_of_getElem? hp1)
 rw [e1,e2]
 refine⟨UK fun r hr=>(q4 r hr).l,fun l hl=>?_,q2,q3⟩
 obtain⟨k1,k2⟩:=Qaj (fun r hr=>(q4 r hr).v) l hl
 exact⟨by omega,k2⟩
theorem QdT {q:Qy}{k:PK}{rs:List (List Vl)}(h:∀ r ∈ rs,Qdc q (k,r)):(List.zipWith MO (Qe q) (Yl q.aggs.length rs)).map ZM=Yq (Qe q) rs:=by
 unfold Yq
 rw [Qfe (Qe q) fun r hr=>by rw [(h r hr).l,QC],QC]
 rfl
def csM (a1:Option Addr)(n1 c1:Nat)(a2:Option Addr)(n2 c2:Nat)(a3:Option Addr)(n3 c3:Nat)(q:Qy)(ar:Option Addr)(nr cr:Nat)(af:Option Addr)(nf cf:Nat)(ap:Option Addr)(np cp:Nat)(late:Nat)(aw:Option Addr)(nw cw:Nat):List Value:=
 [vsl a1 n1 c1,vsl a2 n2 c2,vsl a3 n3 c3,vi q.size,vi q.slide,vi q.delay,vi q.late,vsl ar nr cr,vsl af nf cf,vsl ap np cp,vi (late:Nat),vsl aw nw cw]
def owR (ar:Option Addr)(cr:Nat)(rd:List Nat):Ow:=⟨3,1,ar,rd.length,cr,rd.map fun n:Nat=>vi n⟩
def owF (af:Option Addr)(cf:Nat)(far:List Int):Ow:=⟨3,1,af,far.length,cf,far.map vi⟩
def owW (aw:Option Addr)(cw:Nat)(RW:List (KR Vl (Bool × PK))):Ow:=⟨89,5,aw,RW.length,cw,RW.flatMap (YU Xg)⟩
def QbT (q:Qy)(h0 h:Hp)(g:Nat)(st:En):Prop:=
 ∃(hB hP:Hp) (a1:Option Addr) (n1 c1:Nat) (a2:Option Addr) (n2 c2:Nat) (a3:Option Addr) (n3 c3:Nat) (ar:Option Addr) (cr:Nat) (af:Option Addr) (cf:Nat) (ap:Option Addr) (cp:Nat) (aw:Option Addr) (cw:Nat) (R:List PN) (RW:List (KR Vl (Bool × PK))),
  h0.le hB∧QAt hB q a1 n1 a2 n2 a3 n3∧Yv hB hP ap cp R ∧
  QS hP h [ZX g 52 (csM a1 n1 c1 a2 n2 c2 a3 n3 c3 q ar st.rd.length cr af st.far.length cf ap R.length cp st.late aw RW.length cw),owR ar cr st.rd,owF af cf st.far,owW aw cw RW] ∧
  R.map pnC=st.pn.map (pnS q.aggs.length)∧Q7 RW=st.rows.map Xo∧∀ r ∈ RW,Qg hB r.2.1.1 (r.2.2.flatMap Qv)
theorem QbT.le {q:Qy}{h0 h h':Hp}{g:Nat}{st:En}(X:QbT q h0 h g st)(l:h.le h'):QbT q h0 h' g st:=by
 obtain⟨hB,hP,a1,n1,c1,a2,n2,c2,a3,n3,c3,ar,cr,af,cf,ap,cp,aw,cw,R,RW,l0,Q,N,O,e1,e2,e3⟩:=X
 exact⟨hB,hP,a1,n1,c1,a2,n2,c2,a3,n3,c3,ar,cr,af,cf,ap,cp,aw,cw,R,RW,l0,Q,N,O.grow l,e1,e2,e3⟩
section
variable {h0 h:Hp}{a:Option Addr}{c:Nat}{R:List PN}
theorem Yv.told (N:Yv h0 h a c R){i:Nat}{r:PN}(hr:R[i]?=some r):Yv h0 (h.set r.b (Qc (QP (Yy r) 4 [vb true]) 125)) a c (R.set i { r with told:=true }):=by
 obtain⟨F,E,n1,n2⟩:=N.i
 obtain⟨G0,X,hGF,H⟩:=E.at YE hr
 obtain⟨h1,G,D,hd,rfl⟩:=X
 have es:QP (Yy r) 4 [vb true]=Yy { r with told:=true }:=by simp [QP,Yy]
 rw [es]
 have M:Mut (fun b=>b=r.b∨G b) h (fun b=>b=r.b∨G b) (h.set r.b (Qc (Yy { r with told:=true }) 125)):=
  ⟨fun b o hb ho=>(Hp.set_other h _ (fun q=>hb (.inl q))).trans ho,fun b hb=>.inl hb⟩
 obtain⟨F2,E2,M3⟩:=H _ (fun b=>b=r.b∨G b) { r with told:=true } M ⟨Hp.set_same _ _ _,G,D.keep fun b hb o ho=>(Hp.set_other h _ (fun q=>hd (by rw [←q];exact hb))).trans ho,hd,rfl⟩
 obtain⟨k,d⟩:=M3.apart ((UV.fp _ _ _ _ _ _).al (⟨N.v.own,rfl⟩:UV 116 1 a R.length c (R.map fun r=>vhp r.b 0) h (fun b=>a=some ⟨b,0,none⟩))) (fun b hb hb2=>n2 b hb hb2)
 obtain⟨l',n1'⟩:=M3.old N.le0 n1
 refine⟨?_,F2,E2,n1',fun b hb hb2=>d b hb hb2⟩
 have e:(R.set i { r with told:=true }).map (fun r=>vhp r.b 0)=R.map fun r=>vhp r.b 0:=by
  rw [List.map_set]
  apply List.ext_getElem?
  intro j
  rw [List.getElem?_set]
  split
  ·rename_i hij
   subst hij
   rw [List.getElem?_map,hr]
   obtain⟨hi,_⟩:=List.getElem?_eq_some_iff.1 hr
   rw [if_pos (by simpa using hi)]
   rfl
  ·rfl
 rw [e,List.length_set]
 have O2:=(UV.fp _ _ _ _ _ _).keep (⟨N.v.own,rfl⟩:UV 116 1 a R.length c (R.map fun r=>vhp r.b 0) h (fun b=>a=some ⟨b,0,none⟩)) k
 exact⟨l',O2.1,N.v.new⟩
theorem Yv.some_of (N:Yv h0 h a c R){h':Hp}{a':Option Addr}{c':Nat}{p:PN→Bool}(l:h.le h')(O:Qh h h' 116 1 a' (R.filter p).length c' ((R.filter p).map fun r=>vhp r.b 0)):Yv h0 h' a' c' (R.filter p):=by
 obtain⟨F,E,n1,n2⟩:=N.i
 obtain⟨fs,e,rfl,A,H⟩:=E
 have hsub:(fs.filter fun x=>p x.1).Sublist fs:=List.filter_sublist
 refine⟨⟨Hp.le_trans N.le0 l,O.own,fun b hb=>Hp.none_of_le N.le0 (O.new b hb)⟩,_,⟨fs.filter fun x=>p x.1,?_,rfl,A.sublist hsub,fun x hx=>(YE x.1).keep (H x (hsub.mem hx)) fun b _ o ho=>l b o ho⟩,fun b hb=>?_,fun b hb hb2=>?_⟩
 ·rw [←e,List.filter_map]
  rfl
 ·obtain⟨x,hx,hb⟩:=hb
  exact n1 b ⟨x,hsub.mem hx,hb⟩
 ·obtain⟨x,hx,hb⟩:=hb
  exact(YE x.1).al (H x (hsub.mem hx)) b hb (O.new b hb2)
end
section
variable {h:Hp}{R':Value→Hp→Prop}
theorem QbH {l m:List Vl}{a b:Option Addr}{c d:Nat}(S:SlP Qv h a l.length l)(S2:SlP Qv h b m.length m)(hn:l.length≤1000000)(hK:R' (vb (decide (l=m))) h):Qa Tryz.prog 52 [vsl a l.length c,vsl b m.length d] h R':=by
 refine Ve ?_
 unfold Km
 refine⟨fun e=>?_,fun e=>?_⟩
 ·have hne:l≠m:=by
   intro q
   subst q
   exact of_decide_eq_true e rfl
  rw [decide_eq_false hne] at hK
  exact hK
 ·have hlen:l.length=m.length:=by
   have:=of_decide_eq_false e
   omega
  refine⟨fun vs hh=>hh=h∧∃ i:Nat,vs=[vi i]∧i≤l.length∧l.take i=m.take i,fun vs hh=>l.length - (Qn vs 0).toNat,⟨rfl,0,rfl,Nat.zero_le _,rfl⟩,?_⟩
  rintro vs hh ⟨rfl,i,rfl,hi,ht⟩
  refine⟨i,rfl,fun e=>?_,fun e=>?_⟩
  ·have hlt:i < l.length:=by have:=of_decide_eq_true e;omega
   have hx:l[i]?=some l[i]:=List.getElem?_eq_getElem hlt
   have hy:m[i]?=some (m[i]'(by omega)):=List.getElem?_eq_getElem (by omega)
   obtain⟨b1,o1,e1,r1⟩:=S.get (sz:=2) (fun _=>rfl) (by decide) hx
   obtain⟨b2,o2,e2,r2⟩:=S2.get (sz:=2) (fun _=>rfl) (by decide) hy
   have tk:l.take (i+1)=l.take i++[l[i]]:=List.take_succ_eq_append_getElem hlt
   have tm:m.take (i+1)=m.take i++[m[i]'(by omega)]:=List.take_succ_eq_append_getElem (by omega)
   refine⟨b1,o1,⟨e1,by omega,by omega⟩,_,_,(show Hp.row hh b1 (o1+((i:Nat):Int).toNat*2) 2=some (Qv l[i]) by rw [Int.toNat_natCast];exact r1),b2,o2,⟨e2,by omega,by omega⟩,_,_,(show Hp.row hh b2 (o2+((i:Nat):Int).toNat*2) 2=some (Qv (m[i]'(by omega))) by rw [Int.toNat_natCast];exact r2),!decide (l[i]=m[i]'(by omega)),Qdl,fun e3=>?_,fun e3=>?_⟩
   ·have hne:l≠m:=by
     intro q
     have h1:l[i]?=m[i]?:=by rw [q]
     rw [hx,hy] at h1
     have h2:=Option.some.inj h1
     rw [decide_eq_true h2] at e3
     cases e3
    rw [decide_eq_false hne] at hK
    exact hK
   ·have h2:l[i]=m[i]'(by omega):=by simpa using e3
    refine⟨_,isW (by unfold InR;omega),⟨rfl,i+1,rfl,by omega,?_⟩,by simp [Qn];omega⟩
    rw [tk,tm,ht,h2]
  ·have hge:i=l.length:=by have:=of_decide_eq_false e;omega
   have heq:l=m:=by
    rw [hge,List.take_length,hlen,List.take_length] at ht
    exact ht
   rw [decide_eq_true heq] at hK
   exact hK
end
theorem QpQ:ElT Tryz.prog 49 116 1 8:=.of (by kernel_rfl) (by kernel_rfl) (by decide)
theorem QnF:ElT Tryz.prog 50 89 5 56:=.of (by kernel_rfl) (by kernel_rfl) (by decide)
theorem SlI.get' {h:Hp}{a:Option Addr}{n c:Nat}{l:List Int}{sz:Nat}{hi:Hp}(O:Qh hi h 3 1 a n c (l.map vi)){i:Nat}(hi':i < n):∃ b,a=some ⟨b,0,none⟩∧h.cell b (0+i*1)=some (vi (l.getD i 0)):=by
 obtain⟨b,o,ea,hc⟩:=O.sli.get hi'
 have:=O.own.at0 b o ea
 subst this
 exact⟨b,ea,hc⟩
theorem Qdn {n:Nat}{C:List PN→List Pn→Prop}(h0:C [] [])(h1:∀ r R p L,pnC r=pnS n p→R.map pnC=L.map (pnS n)→C R L→C (r :: R) (p :: L)):∀{R:List PN} {L:List Pn},R.map pnC=L.map (pnS n)→C R L
 | [],[],_=>h0
 | [],_ :: _,h=>by simp at h
 | _ :: _,[],h=>by simp at h
 | r :: R,p :: L,h=>by
  simp only [List.map_cons,List.cons.injEq] at h
  exact h1 r R p L h.1 h.2 (Qdn h0 h1 h.2)
theorem Qkk {n:Nat}{r:PN}{p:Pn}(h:pnC r=pnS n p):r.k=p.k∧r.cs=Yl n p.rs∧r.told=p.t:=by
 simp only [pnC,pnS,Prod.mk.injEq] at h
 exact h
def Xd (size u:Int)(r:PN):Bool:=decide (r.k.1+size≤u)
def Xj (size u:Int)(r:PN):PN:={ r with told:=r.told||Xd size u r }
def Us (size u:Int)(r:PN):Bool:=!r.told&&Xd size u r
theorem QlK {n:Nat}{size u:Int}{R:List PN}{L:List Pn}(h:R.map pnC=L.map (pnS n)):(R.map (Xj size u)).map pnC=(YS size u L).map (pnS n):=by
 refine Qdn (C:=fun R L=>(R.map (Xj size u)).map pnC=(YS size u L).map (pnS n)) rfl (fun r R p L h1 h2 ih=>?_) h
 obtain⟨e1,e2,e3⟩:=Qkk h1
 unfold YS at ih ⊢
 simp only [List.map_cons,ih]
 congr 1
 simp only [pnC,pnS,Xj,Xd,QbM,e1,e2,e3]
theorem QlR {n:Nat}{size u:Int}{R:List PN}{L:List Pn}(h:R.map pnC=L.map (pnS n)):(R.filter fun r=>!Xd size u r).map pnC=(V8 size u L).map (pnS n):=by
 refine Qdn (C:=fun R L=>(R.filter fun r=>!Xd size u r).map pnC=(V8 size u L).map (pnS n)) rfl (fun r R p L h1 h2 ih=>?_) h
 obtain⟨e1,e2,e3⟩:=Qkk h1
 unfold V8 QbM at ih ⊢
 have ed:Xd size u r=decide (p.k.1+size≤u):=by unfold Xd;rw [e1]
 rw [List.filter_cons,List.filter_cons,ed]
 split
 ·rw [List.map_cons,List.map_cons,ih,h1]
 ·exact ih
def Qna (q:Qy)(r:PN):(Bool × PK) × List Vl:=((false,r.k),(List.zipWith MO (Qe q) r.cs).map ZM)
theorem QmK {q:Qy}{size u:Int}{R:List PN}{L:List Pn}(h:R.map pnC=L.map (pnS q.aggs.length))(hA:∀ p ∈ L,∀ r ∈ p.rs,Qdc q (p.k,r)):(R.filter (Us size u)).map (Qna q)=((Qab size u L).map (QaS (Qe q))).map Xo:=by
 have key:=Qdn (C:=fun R L=>(∀ p ∈ L,∀ r ∈ p.rs,Qdc q (p.k,r))→(R.filter (Us size u)).map (Qna q)=((Qab size u L).map (QaS (Qe q))).map Xo) (n:=q.aggs.length) (fun _=>rfl) (fun r R p L h1 h2 ih hA=>?_) h
 ·exact key hA
 ·obtain⟨e1,e2,e3⟩:=Qkk h1
  have ih:=ih fun p hp=>hA p (List.mem_cons_of_mem _ hp)
  unfold Qab at ih ⊢
  have hc:Us size u r=(!p.t&&QbM size u p):=by unfold Us Xd QbM;rw [e1,e3]
  rw [List.filter_cons,List.filter_cons,hc]
  split
  ·rw [List.map_cons,List.map_cons,List.map_cons,ih]
   congr 1
   unfold Qna Xo QaS
   simp only
   rw [e1,e2,QdT (hA p (List.mem_cons_self ..))]
  ·exact ih
theorem QjG {h0 h:Hp}{a:Option Addr}{c:Nat}{R:List PN}{R':Value→Hp→Prop}(N:Yv h0 h a c R){K:PK}{n:Nat}(hn:n≤1000000)(hR:R.length≤1000000)
  (hK:∀(hk:Hp) (a':Option Addr) (c':Nat) (R2:List PN) (i:Nat) (r:PN),Yv h0 hk a' c' R2→R2[i]?=some r→r.k=K→(R2=R∨(i≤R.length∧R2=R.take i++r :: R.drop i∧r.cs=List.replicate n []∧r.told=false))→U6 K (R.map (·.k))=R2.map (·.k)→R' (Qf [vsl a' R2.length c',vhp r.b 0]) hk) :
  Qa Tryz.prog 48 [vsl a R.length c,vi K.1,vag (Qv K.2),vi (n:Int)] h R':=by
 refine Ql3 N hn hR (fun i r h' hr hk hins N'=>hK h' a c R i r N' hr hk (.inl rfl) hins) fun j x a' c' h' hj hk hcs hto hins N'=>?_
 have htl:(R.take j).length=j:=by rw [List.length_take];omega
 have hx:(R.take j++x :: R.drop j)[j]?=some x:=by rw [List.getElem?_append_right (by omega),htl,Nat.sub_self];rfl
 have hl:(R.take j++x :: R.drop j).length=R.length+1:=by rw [List.length_append,List.length_cons,List.length_drop,htl];omega
 have:=hK h' a' c' _ j x N' hx hk (.inr ⟨hj,rfl,hcs,hto⟩) hins
 rw [hl] at this
 exact this
theorem Qnt {q:Qy}{parts N:Nat}{st:En}(HB:EnB q parts N st){R R2:List PN}{K:PK}{v:List Vl}{i:Nat}{r:PN}(e1:R.map pnC=st.pn.map (pnS q.aggs.length))(hr:R2[i]?=some r)(hrk:r.k=K)
  (hc:R2=R∨(i≤R.length∧R2=R.take i++r :: R.drop i∧r.cs=List.replicate q.aggs.length []∧r.told=false)) (hins:U6 K (R.map (·.k))=R2.map (·.k)) :
  ∃ rs,r.cs=Yl q.aggs.length rs∧(∀ x ∈ rs,Qdc q (K,x))∧rs.length≤N ∧
   MI (Qe q) K v (atP K st.pn)=(if r.told=true∧Yq (Qe q) rs≠Yq (Qe q) (rs++[v]) then [(true,K,Yq (Qe q) rs),(false,K,Yq (Qe q) (rs++[v]))] else []) ∧
   (R2.set i { r with cs:=XR r.cs v }).map pnC=(K7 K v st.pn).map (pnS q.aggs.length):=by
 have keys:=QmB e1
 rcases hc with rfl|⟨hi,rfl,hcs,hto⟩
 ·obtain⟨p,hp,k1,k2,k3⟩:=Qmn e1 hr
  have hpk:p.k=K:=k1.symm.trans hrk
  obtain⟨q1,_,_,q4⟩:=HB.pa p (List.mem_of_getElem? hp)
  have hat:atP K st.pn=some p:=by rw [←hpk];exact Qkp HB.ps (List.mem_of_getElem? hp)
  refine⟨p.rs,k2,fun x hx=>by have:=q4 x hx;rw [hpk] at this;exact this,q1,?_,?_⟩
  ·rw [hat,k3];rfl
  ·rw [Qho HB.ps hp hpk,List.map_set,List.map_set,e1]
   congr 1
   simp only [pnC,pnS]
   rw [hrk,k3,XJ,k2]
 ·have hRl:R.length=st.pn.length:=by have:=congrArg List.length e1;simpa using this
  have hsort:((R.take i++r :: R.drop i).map (·.k)).Pairwise Qr:=by
   rw [←hins,keys]
   exact GK _ (Y4.1 HB.ps)
  rw [List.map_append,List.map_cons,List.map_take,List.map_drop,keys] at hsort
  obtain⟨_,s2,s3⟩:=List.pairwise_append.1 hsort
  obtain⟨s4,_⟩:=List.pairwise_cons.1 s2
  have hbef:∀ x ∈ st.pn.take i,Qr x.k K:=fun x hx=>by
   rw [←hrk]
   exact s3 x.k (by rw [←List.map_take];exact List.mem_map.2 ⟨x,hx,rfl⟩) r.k (List.mem_cons_self ..)
  have haft:∀ x ∈ st.pn.drop i,Qr K x.k:=fun x hx=>by
   rw [←hrk]
   exact s4 x.k (by rw [←List.map_drop];exact List.mem_map.2 ⟨x,hx,rfl⟩)
  have hne:∀ x ∈ st.pn,x.k≠K:=by
   intro x hx ek
   rw [←List.take_append_drop i st.pn] at hx
   rcases List.mem_append.1 hx with q1|q1
   ·have:=hbef x q1;rw [ek] at this;exact Yz _ this
   ·have:=haft x q1;rw [ek] at this;exact Yz _ this
  have hat:atP K st.pn=none:=by
   unfold atP
   rw [List.find?_eq_none]
   intro x hx q1
   exact hne x hx (of_decide_eq_true q1)
  refine⟨[],hcs,fun x hx=>(by cases hx),Nat.zero_le _,?_,?_⟩
  ·rw [hat,if_neg (by rw [hto];simp)];rfl
  ·rw [Qd2 (by omega) hbef (fun x hx q1=>?_) hne]
   ·have htl:(R.take i).length=i:=by rw [List.length_take];omega
    rw [List.set_append_right _ _ (by omega),htl,Nat.sub_self,List.set_cons_zero,List.map_append,List.map_append,List.map_cons,List.map_cons,List.map_take,List.map_drop,List.map_take,List.map_drop,e1]
    congr 2
    simp only [pnC,pnS]
    rw [hrk,hto,hcs]
    rfl
   ·have hm:x ∈ st.pn.drop i:=by
     have:(st.pn.drop i)[0]?=some x:=by rw [List.getElem?_drop,Nat.add_zero];exact hx
     exact List.mem_of_getElem? this
    exact Yz _ (KO q1 (haft x hm))
theorem QS.int {hi h:Hp}{L:List Ow}(O:QS hi h L){j:Nat}{t:TypeId}{a:Option Addr}{n c:Nat}{xs:List Value}{l:List Int}(hs:L[j]?=some ⟨t,1,a,n,c,xs⟩)(ex:xs=l.map vi){p:Nat}(hp:p < n) :
  ∃ b,a=some ⟨b,0,none⟩∧h.cell b (0+p*1)=some (vi (l.getD p 0))∧∀{x:Int} {K:Hp→Prop},(∀ h',QS hi h' (L.set j ⟨t,1,a,n,c,(l.set p x).map vi⟩)→K h')→h.store b (0+p*1) [vi x] K:=by
 subst ex
 have OV:=O.ownV (List.mem_of_getElem? hs)
 obtain⟨b,o,ea,hc⟩:=OV.sli.get hp
 have hl:n=l.length:=OV.sli.1
 have:=OV.own.at0 b o ea
 subst this
 refine⟨b,ea,hc,fun {x K} hK=>?_⟩
 refine O.store hs (i:=p*1) (vs:=[vi x]) (by simp) (by simp only [List.length_singleton];omega) ea fun h' O' _=>hK h' ?_
 have e:QP (l.map vi) (p*1) [vi x]=(l.set p x).map vi:=by
  rw [Nat.mul_one,Jq _ _ _ (by rw [List.length_map];omega),List.map_set]
 rw [←e]
 exact O'
theorem Qg8 (l:List Nat):(l.map fun n:Nat=>vi n)=(l.map fun n:Nat=>(n:Int)).map vi:=by rw [List.map_map];rfl
theorem Qn9 {l:List Nat}{p:Nat}(hp:p < l.length):(l.map fun n:Nat=>(n:Int)).getD p 0=((l.getD p 0:Nat):Int):=by
 rw [List.getD_eq_getElem?_getD,List.getD_eq_getElem?_getD,List.getElem?_map,List.getElem?_eq_getElem hp];rfl
def Mb (size u:Int)(R:List PN)(k:Nat):List PN:=(R.take k).map (Xj size u)++R.drop k
def QaK (size w:Int)(R:List PN)(k:Nat):List PN:=(R.take k).filter fun r=>!Xd size w r
def owP (a:Option Addr)(c:Nat)(L:List PN):Ow:=⟨116,1,a,L.length,c,L.map fun r=>vhp r.b 0⟩
section
variable {size u:Int}{R:List PN}{k:Nat}{r:PN}
theorem QdA (hk:k≤R.length):(Mb size u R k).length=R.length:=by
 unfold Mb
 rw [List.length_append,List.length_map,List.length_take,List.length_drop]
 omega
theorem QkB (hr:R[k]?=some r):(Mb size u R k)[k]?=some r:=by
 have hlt:=(List.getElem?_eq_some_iff.1 hr).1
 unfold Mb
 have hl:((R.take k).map (Xj size u)).length=k:=by rw [List.length_map,List.length_take];omega
 rw [List.getElem?_append_right (by omega),hl,Nat.sub_self,List.getElem?_drop,Nat.add_zero]
 exact hr
theorem QbI (hr:R[k]?=some r):Mb size u R (k+1)=(Mb size u R k).set k (Xj size u r):=by
 obtain⟨hlt,er⟩:=List.getElem?_eq_some_iff.1 hr
 unfold Mb
 have hl:((R.take k).map (Xj size u)).length=k:=by rw [List.length_map,List.length_take];omega
 rw [List.set_append_right _ _ (by omega),hl,Nat.sub_self,List.drop_eq_getElem_cons hlt,List.set_cons_zero,List.take_succ_eq_append_getElem hlt,List.map_append,er,List.append_assoc]
 rfl
theorem QlE (hr:R[k]?=some r)(h:Us size u r=false):Mb size u R (k+1)=Mb size u R k:=by
 rw [QbI hr]
 have e:Xj size u r=r:=by
  unfold Xj
  unfold Us at h
  have:(r.told||Xd size u r)=r.told:=by
   cases h1:r.told with
   | true=>rfl
   | false=>rw [h1] at h;simpa using h
  rw [this]
 rw [e]
 apply List.ext_getElem?
 intro j
 rw [List.getElem?_set]
 split
 ·rename_i hj
  subst hj
  split
  ·exact(QkB hr).symm
  ·rename_i q
   rw [QdA (by have:=(List.getElem?_eq_some_iff.1 hr).1;omega)] at q
   exact absurd (List.getElem?_eq_some_iff.1 hr).1 q
 ·rfl
theorem QmA (h:Us size u r=true):Xj size u r={ r with told:=true }:=by
 unfold Xj
 unfold Us at h
 have h2:Xd size u r=true:=by
  cases h1:Xd size u r with
  | true=>rfl
  | false=>rw [h1] at h;simp at h
 rw [h2,Bool.or_true]
theorem Qnn:Mb size u R R.length=R.map (Xj size u):=by
 unfold Mb
 rw [List.take_length,List.drop_length,List.append_nil]
end
theorem QS.left {hi h:Hp}{A:List Ow}{s:Ow}(O:QS hi h (A++[s])):∃ hj:Hp,hi.le hj∧QS hj h A∧Qh hi hj s.e s.sz s.a s.n s.c s.xs:=by
 obtain⟨hj,lj,Oj,kj⟩:=O.rebase (List.sublist_append_left A [s])
 have hm:s ∈ A++[s]:=List.mem_append_right _ (List.mem_singleton.2 rfl)
 refine⟨hj,lj,Oj,lj,Ow.keep (O.own s hm) fun b hb o ho=>kj b o ho fun t ht hb2=>?_,fun b hb=>O.new s hm b hb⟩
 exact(List.pairwise_append.1 O.dj).2.2 t ht s (List.mem_singleton.2 rfl) b hb2 hb
set_option maxHeartbeats 4000000 in
theorem Qk9 {q:Qy}{h0 h:Hp}{g parts N p:Nat}{st:En}{e:EvL}{R':Value→Hp→Prop}(X:QbT q h0 h g st)(B:QOk q)(E:WC e)(HB:EnB q parts N st)(hN:N≤700000)(hp:p < parts)(hparts:parts≤1000)
  (hK:∀ h',h0.le h'→QbT q h0 h' g (XL q p e st)→R' (Qf []) h'):Qa Tryz.prog 15 [vhp g 0,vi p,vag (Vu e)] h R':=by
 refine Qb0 ?_
 unfold UB
 have hd:=B.d
 have ht:=B.t
 have hs:=B.s
 have hsl:=B.l
 have hEt:=E.t
 have hfl:=HB.fl
 have hrl:=HB.rl
 have X0:=X
 obtain⟨hB,hP,a1,n1,c1,a2,n2,c2,a3,n3,c3,ar,cr,af,cf,ap,cp,aw,cw,R,RW,l0,Q,N0,O,e1,e2,e3⟩:=X
 have hfp:st.far.getD p 0 ∈ st.far:=by rw [List.getD_eq_getElem?_getD,List.getElem?_eq_getElem (by omega)];exact List.getElem_mem _
 have hfb:=HB.fb _ hfp
 have hn1:=Q.g.len
 have hn4:=B.n2
 have hblk:=O.blk (List.mem_cons_self ..)
 have lBh:=Hp.le_trans N0.le0 O.le
 refine⟨_,_,_,_,_,_,_,_,_,_,_,_,_,QQ hblk (Nat.le_of_ble_eq_true rfl),?_⟩
 refine Qlv (e:=e) (Q.le lBh) B ⟨_,rfl,?_⟩
 intro J87
 have hJ:∀ h88,(∃(hB hP:Hp) (ar:Option Addr) (cr:Nat) (af:Option Addr) (cf:Nat) (ap:Option Addr) (cp:Nat) (aw:Option Addr) (cw:Nat) (R:List PN) (RW:List (KR Vl (Bool × PK))),h0.le hB∧QAt hB q a1 n1 a2 n2 a3 n3∧Yv hB hP ap cp R ∧
   QS hP h88 [ZX g 52 (csM a1 n1 c1 a2 n2 c2 a3 n3 c3 q ar st.rd.length cr af st.far.length cf ap R.length cp (Yf q (st.far.getD p 0) e st).late aw RW.length cw),owR ar cr st.rd,owF af cf st.far,owW aw cw RW] ∧
   R.map pnC=(Yf q (st.far.getD p 0) e st).pn.map (pnS q.aggs.length)∧Q7 RW=(Yf q (st.far.getD p 0) e st).rows.map Xo∧∀ r ∈ RW,Qg hB r.2.1.1 (r.2.2.flatMap Qv))→J87 h88:=by
  intro h88 X88
  have HB2:=Qey B HB E (far:=st.far.getD p 0)
  obtain⟨ws1,ws2⟩:=Qaf (q:=q) (far:=st.far.getD p 0) (e:=e) (st:=st)
  generalize hst2:Yf q (st.far.getD p 0) e st=st2 at X88 HB2 ws1 ws2
  rw [←ws1,←ws2] at X88
  clear X0 l0 Q N0 O e1 e2 e3 hblk lBh
  clear R RW hB hP ar cr af cf ap cp aw cw
  obtain⟨hB,hP,ar,cr,af,cf,ap,cp,aw,cw,R,RW,l0,Q,N0,O,e1,e2,e3⟩:=X88
  have hrl2:=HB2.rl
  have hfl2:=HB2.fl
  have hRl:R.length=st2.pn.length:=by have:=congrArg List.length e1;simpa using this
  have hpl:=HB2.pl
  have hwl:=HB2.wl
  have hWl:RW.length=st2.rows.length:=by have:=congrArg List.length e2;simpa [Q7] using this
  have hrm:st2.rd.getD p 0 ∈ st2.rd:=by rw [List.getD_eq_getElem?_getD,List.getElem?_eq_getElem (by omega)];exact List.getElem_mem _
  have hrb:=HB2.rb _ hrm
  have hco:=QkD HB2 e1
  have hstep:XL q p e st=MW q (Xh p e st2):=by unfold XL;rw [hst2]
  rw [hstep] at hK
  obtain⟨bR,eR,hcR,HR⟩:=QS.int O (j:=1) (t:=3) rfl (Qg8 st2.rd) (p:=p) (by omega)
  rw [Qn9 (by omega)] at hcR
  have hbd:ar=some ⟨bR,0,none⟩∧(0:Int)≤(p:Int)∧(p:Int) < ((st2.rd.length:Nat):Int):=⟨eR,by omega,by omega⟩
  refine⟨_,_,_,Qb (O.blk (List.mem_cons_self ..)) rfl,bR,0,hbd,_,hcR,_,isW (by unfold InR;omega),bR,0,hbd,?_⟩
  have ec:((st2.rd.getD p 0:Nat):Int)+1=((st2.rd.getD p 0+1:Nat):Int):=by omega
  rw [ec]
  refine HR fun h96 O96=>?_
  clear HR
  simp only [List.set_cons_succ,List.set_cons_zero] at O96
  have es:((st2.rd.map fun n:Nat=>(n:Int)).set p ((st2.rd.getD p 0+1:Nat):Int)).map vi=(st2.rd.set p (st2.rd.getD p 0+1)).map fun n:Nat=>vi n:=by rw [←List.map_set,List.map_map];rfl
  rw [es] at O96
  obtain⟨bF,eF,hcF,HF⟩:=QS.int O96 (j:=2) (t:=3) rfl (rfl:st2.far.map vi=_) (p:=p) (by omega)
  have hbF:af=some ⟨bF,0,none⟩∧(0:Int)≤(p:Int)∧(p:Int) < ((st2.far.length:Nat):Int):=⟨eF,by omega,by omega⟩
  refine⟨_,_,_,Qb (O96.blk (List.mem_cons_self ..)) rfl,_,_,_,Qb (O96.blk (List.mem_cons_self ..)) rfl,bF,0,hbF,_,hcF,_,Qnr,bF,0,hbF,?_⟩
  refine HF fun h105 O105=>?_
  clear HF
  simp only [List.set_cons_succ,List.set_cons_zero] at O105
  have hsa:=QgP st2.far p e.1 HB2.fb hEt (by omega)
  have hsl2:(see st2.far p e.1).length=st2.far.length:=Qan ..
  have hne:see st2.far p e.1≠[]:=fun q1=>by rw [q1] at hsl2;simp at hsl2;omega
  have hsee:st2.far.set p (max (st2.far.getD p 0) e.1)=see st2.far p e.1:=rfl
  rw [hsee] at O105
  have hfar:(Xh p e st2).far=see st2.far p e.1:=rfl
  have hlr:(st2.rd.set p (st2.rd.getD p 0+1)).length=st2.rd.length:=List.length_set
  have Sf:SlI h105 af st2.far.length (see st2.far p e.1):=(O105.ownV (s:=⟨3,1,af,st2.far.length,cf,(see st2.far p e.1).map vi⟩) (by simp)).sli
  refine Qlg (O105.blk (List.mem_cons_self ..)) rfl rfl Sf (by omega) hsa hd ?_
  have lBh:=Hp.le_trans N0.le0 O105.le
  by_cases hall:∀ x ∈ see st2.far p e.1,0≤x
  ·rw [if_pos hall]
   have hfc:KQ q.delay (see st2.far p e.1)=(JL (see st2.far p e.1) - q.delay,true):=by unfold KQ;rw [if_pos hall,if_neg hne]
   have hub:-1001≤JL (see st2.far p e.1) - q.delay∧JL (see st2.far p e.1) - q.delay≤9999:=by
    have:=hsa _ (QeA hne)
    omega
   have hend:MW q (Xh p e st2)={ Xh p e st2 with pn:=V8 q.size (JL (see st2.far p e.1) - q.delay - q.late) (YS q.size (JL (see st2.far p e.1) - q.delay) st2.pn),rows:=st2.rows++(Qab q.size (JL (see st2.far p e.1) - q.delay) st2.pn).map (QaS (Qe q)) }:=by
    unfold MW
    rw [hfar,hfc]
    rfl
   rw [hend] at hK
   clear hend hfc
   refine⟨_,_,rfl,fun e0=>(by cases e0),fun _=>?_⟩
   generalize JL (see st2.far p e.1) - q.delay=u at *
   refine⟨fun vs hh=>∃(k:Nat) (hB hP:Hp) (al:Option Addr) (cl:Nat) (aw:Option Addr) (cw:Nat) (RW:List (KR Vl (Bool × PK))),vs=[vsl al (QaK q.size (u - q.late) R k).length cl,vi k]∧k≤R.length∧h0.le hB∧QAt hB q a1 n1 a2 n2 a3 n3∧Yv hB hP ap cp (Mb q.size u R k) ∧
     QS hP hh [ZX g 52 (csM a1 n1 c1 a2 n2 c2 a3 n3 c3 q ar st2.rd.length cr af st2.far.length cf ap R.length cp st2.late aw RW.length cw),⟨3,1,ar,st2.rd.length,cr,(st2.rd.set p (st2.rd.getD p 0+1)).map fun n:Nat=>vi n⟩,⟨3,1,af,st2.far.length,cf,(see st2.far p e.1).map vi⟩,owW aw cw RW,owP al cl (QaK q.size (u - q.late) R k)] ∧
     Q7 RW=st2.rows.map Xo++((R.take k).filter (Us q.size u)).map (Qna q)∧∀ r ∈ RW,Qg hB r.2.1.1 (r.2.2.flatMap Qv),
    fun vs hh=>R.length - (Qn vs 1).toNat,⟨0,hB,hP,none,0,aw,cw,RW,rfl,Nat.zero_le _,l0,Q,N0,O105.push (Hp.le_refl _) (s:=owP none 0 (QaK q.size (u - q.late) R 0)) (QI.nil ..) (fun b hb=>(by cases hb)),by rw [e2];simp,e3⟩,?_⟩
   clear l0 Q N0 O O96 O105 e2 e3 lBh Sf hcR hcF
   clear hB hP aw cw RW hWl
   rintro vs hh ⟨k,hB,hP,al,cl,aw,cw,RW,rfl,hk,l0,Q,N0,O,e2,e3⟩
   have hblk:=O.blk (List.mem_cons_self ..)
   have hWl:RW.length≤st2.rows.length+k:=by
    have:=congrArg List.length e2
    have h2:=List.length_filter_le (Us q.size u) (R.take k)
    rw [List.length_take] at h2
    simp [Q7] at this
    omega
   refine⟨_,_,_,k,rfl,_,_,_,Qb hblk rfl,fun e4=>?_,fun e4=>?_⟩
   ·have hlt:k < R.length:=by have:=of_decide_eq_true e4;omega
    have hr0:R[k]?=some R[k]:=List.getElem?_eq_getElem hlt
    have tk:R.take (k+1)=R.take k++[R[k]]:=List.take_succ_eq_append_getElem hlt
    obtain⟨hcl,hcb,hk1,hk2⟩:=hco _ (List.getElem_mem hlt)
    generalize R[k]=r at *
    have hr:=QkB (size:=q.size) (u:=u) hr0
    obtain⟨b,o,ea,hpt⟩:=N0.ptr hr
    have hpt:=Hp.cell_le O.le hpt
    have hcell:=O.le _ _ (N0.cells hr).1
    refine⟨_,_,_,Qb hblk rfl,b,o,⟨ea,by omega,by omega⟩,_,hpt,r.b,0,rfl,r.told,Qb hcell rfl,r.b,0,fun _=>rfl,r.k.1,fun _=>Qb hcell rfl,_,fun _=>isW (by unfold InR;omega),?_⟩
    intro J150
    have hJ:∀ h151,(∃(hB hP:Hp) (aw:Option Addr) (cw:Nat) (RW:List (KR Vl (Bool × PK))),h0.le hB∧QAt hB q a1 n1 a2 n2 a3 n3∧Yv hB hP ap cp (Mb q.size u R (k+1)) ∧
      QS hP h151 [ZX g 52 (csM a1 n1 c1 a2 n2 c2 a3 n3 c3 q ar st2.rd.length cr af st2.far.length cf ap R.length cp st2.late aw RW.length cw),⟨3,1,ar,st2.rd.length,cr,(st2.rd.set p (st2.rd.getD p 0+1)).map fun n:Nat=>vi n⟩,⟨3,1,af,st2.far.length,cf,(see st2.far p e.1).map vi⟩,owW aw cw RW,owP al cl (QaK q.size (u - q.late) R k)] ∧
      Q7 RW=st2.rows.map Xo++((R.take (k+1)).filter (Us q.size u)).map (Qna q)∧∀ r ∈ RW,Qg hB r.2.1.1 (r.2.2.flatMap Qv))→J150 h151:=by
     rintro h151 ⟨hB,hP,aw,cw,RW,q1,q2,q3,q4,q5,q6⟩
     have hr2:(Mb q.size u R (k+1))[k]?=some (Xj q.size u r):=by
      rw [QbI hr0,List.getElem?_set_self (by rw [QdA (by omega)];exact hlt)]
     have hcell2:=q4.le _ _ (q3.cells hr2).1
     refine⟨r.b,0,rfl,r.k.1,Qb hcell2 rfl,_,isW (by unfold InR;omega),_,isW (by unfold InR;omega),fun e5=>?_,fun e5=>?_⟩
     ·have hnd:(!Xd q.size (u - q.late) r)=true:=by
       unfold Xd
       have:=of_decide_eq_true e5
       rw [decide_eq_false (by omega)];rfl
      have el:QaK q.size (u - q.late) R (k+1)=QaK q.size (u - q.late) R k++[r]:=by
       unfold QaK
       rw [tk,List.filter_append,List.filter_cons,if_pos hnd];rfl
      have hll:(QaK q.size (u - q.late) R k).length≤k:=by
       unfold QaK
       refine Nat.le_trans (List.length_filter_le ..) ?_
       rw [List.length_take];omega
      intro b157 hb157
      refine q4.app (j:=4) rfl QpQ (m:=1) (news:=[vhp r.b 0]) hb157 rfl (by
       intro v hv
       rw [List.mem_singleton.1 hv];rfl) (by simp only [owP];omega) (by simp only [owP];omega) fun a' c' h' O' _=>⟨_,_,_,rfl,?_⟩
      refine⟨_,isW (by unfold InR;omega),⟨k+1,hB,hP,a',c',aw,cw,RW,?_,by omega,q1,q2,q3,?_,q5,q6⟩,by simp [Qn];omega⟩
      ·rw [el,List.length_append];rfl
      ·rw [el]
       unfold owP
       rw [List.length_append,List.map_append]
       exact O'
     ·have hnd:¬(!Xd q.size (u - q.late) r)=true:=by
       unfold Xd
       have:=of_decide_eq_false e5
       rw [decide_eq_true (by omega)];decide
      have el:QaK q.size (u - q.late) R (k+1)=QaK q.size (u - q.late) R k:=by
       unfold QaK
       rw [tk,List.filter_append,List.filter_cons,if_neg hnd];exact List.append_nil _
      refine⟨_,isW (by unfold InR;omega),⟨k+1,hB,hP,al,cl,aw,cw,RW,by rw [el];rfl,by omega,q1,q2,q3,by rw [el];exact q4,q5,q6⟩,by simp [Qn];omega⟩
    clear_value J150
    have hcond:(bif (!r.told) then(decide ((r.k.1+q.size:Int)≤u)) else false)=Us q.size u r:=by
     unfold Us Xd
     cases r.told<;>rfl
    rw [hcond]
    refine⟨fun e5=>?_,fun e5=>?_⟩
    ·refine⟨r.b,0,rfl,?_⟩
     refine O.inner (o:=4) (vs:=[vb true]) (N0.cells hr).1 (Nat.le_of_ble_eq_true rfl) fun h134 O134=>?_
     have N1:=N0.told hr
     have et:(Mb q.size u R k).set k { r with told:=true }=Mb q.size u R (k+1):=by rw [QbI hr0,QmA e5]
     rw [et] at N1
     have hr2:(Mb q.size u R (k+1))[k]?=some { r with told:=true }:=by
      rw [←et,List.getElem?_set_self (by rw [QdA (by omega)];exact hlt)]
     refine⟨_,_,_,Qb (O134.blk (List.mem_cons_self ..)) rfl,?_⟩
     refine O134.frame (JO (r:={ r with told:=true }) (Q.le N1.le0) B (N1.cells hr2).1 (N1.cells hr2).2 hcl (fun l hl'=>⟨by have:=(hcb l hl').1;omega,(hcb l hl').2⟩) fun a c hk2 V h137 l137 O137=>⟨_,_,_,_,_,_,rfl,Qb (O137.blk (List.mem_cons_self ..)) rfl,?_⟩)
     obtain⟨hB2,lB2,tr2,N2⟩:=N1.rebase V.le0 (g:=a) (fun b o hb=>V.new b (by rw [hb,QI.at0 (Qh.own V) b o hb]))
     have o1:=tr2 (Qh.row V)
     intro b142 hb142
     refine O137.app (j:=3) rfl QnF (m:=1) (news:=[vb false,vi r.k.1,vi r.k.2.1,vi r.k.2.2,vsl a ((List.zipWith MO (Qe q) r.cs).map ZM).length c]) hb142 rfl (by
      intro v hv
      simp only [List.mem_cons,List.not_mem_nil,or_false] at hv
      rcases hv with rfl|rfl|rfl|rfl|rfl<;>rfl) (by simp only [owW];omega) (by simp only [owW];omega) fun aw2 cw2 h145 O145 _=>⟨_,_,_,rfl,?_⟩
     simp only [List.set_cons_succ,List.set_cons_zero] at O145
     refine O145.put (j:=0) rfl (i:=11) (Nat.le_of_ble_eq_true rfl) fun h147 O147 _=>hJ h147 ⟨hB2,hk2,aw2,cw2,RW++[((false,r.k),(a,c),(List.zipWith MO (Qe q) r.cs).map ZM)],Hp.le_trans l0 lB2,Q.le lB2,N2,?_,?_,?_⟩
     ·unfold owW
      rw [List.length_append,List.flatMap_append]
      exact O147
     ·rw [tk,List.filter_append,List.map_append,←List.append_assoc,←e2,List.filter_cons,if_pos e5]
      unfold Q7
      rw [List.map_append]
      rfl
     ·intro r' hr'
      rcases List.mem_append.1 hr' with q1|q1
      ·exact(e3 r' q1).le lB2
      ·rw [List.mem_singleton.1 q1];exact o1
    ·refine hJ hh ⟨hB,hP,aw,cw,RW,l0,Q,by rw [QlE hr0 e5];exact N0,O,?_,e3⟩
     rw [tk,List.filter_append,List.filter_cons,if_neg (by rw [e5];decide),List.filter_nil,List.append_nil]
     exact e2
   ·have hge:k=R.length:=by have:=of_decide_eq_false e4;omega
    subst hge
    rw [List.take_length] at e2
    rw [Qnn] at N0
    have elf:QaK q.size (u - q.late) R R.length=R.filter fun r=>!Xd q.size (u - q.late) r:=by unfold QaK;rw [List.take_length]
    rw [elf] at O ⊢
    refine O.put (j:=0) rfl (i:=9) (Nat.le_of_ble_eq_true rfl) fun h170 O170 _=>?_
    simp only [List.set_cons_zero] at O170
    obtain⟨hj,lj,Oj,V⟩:=QS.left (A:=[_,_,_,_]) O170
    have efl:(R.map (Xj q.size u)).filter (fun r=>!Xd q.size (u - q.late) r)=(R.filter fun r=>!Xd q.size (u - q.late) r).map (Xj q.size u):=by
     rw [List.filter_map];rfl
    have N3:Yv hB hj al cl ((R.map (Xj q.size u)).filter fun r=>!Xd q.size (u - q.late) r):=by
     refine N0.some_of lj ?_
     rw [efl,List.length_map,List.map_map]
     exact V
    refine hK h170 (Hp.le_trans l0 (Hp.le_trans N0.le0 O170.le)) ⟨hB,hj,a1,n1,c1,a2,n2,c2,a3,n3,c3,ar,cr,af,cf,al,cl,aw,cw,_,RW,l0,Q,N3,?_,QlR (QlK e1),?_,e3⟩
    ·rw [efl,List.length_map]
     show QS hj h170 [ZX g 52 (csM a1 n1 c1 a2 n2 c2 a3 n3 c3 q ar (st2.rd.set p (st2.rd.getD p 0+1)).length cr af (see st2.far p e.1).length cf al (R.filter fun r=>!Xd q.size (u - q.late) r).length cl st2.late aw RW.length cw),⟨3,1,ar,(st2.rd.set p (st2.rd.getD p 0+1)).length,cr,(st2.rd.set p (st2.rd.getD p 0+1)).map fun n:Nat=>vi n⟩,⟨3,1,af,(see st2.far p e.1).length,cf,(see st2.far p e.1).map vi⟩,owW aw cw RW]
     rw [hlr,hsl2]
     exact Oj
    ·show Q7 RW=(st2.rows++(Qab q.size u st2.pn).map (QaS (Qe q))).map Xo
     rw [e2,List.map_append,QmK e1 fun p hp r hr=>(HB2.pa p hp).2.2.2 r hr]
  ·rw [if_neg hall]
   have hfc:KQ q.delay (see st2.far p e.1)=(0,false):=by unfold KQ;rw [if_neg hall]
   have hend:MW q (Xh p e st2)=Xh p e st2:=by
    unfold MW
    rw [hfar,hfc]
    rfl
   rw [hend] at hK
   refine⟨_,_,rfl,fun _=>?_,fun e0=>(by cases e0)⟩
   refine hK h105 (Hp.le_trans l0 lBh) ⟨hB,hP,a1,n1,c1,a2,n2,c2,a3,n3,c3,ar,cr,af,cf,ap,cp,aw,cw,R,RW,l0,Q,N0,?_,e1,e2,e3⟩
   show QS hP h105 [ZX g 52 (csM a1 n1 c1 a2 n2 c2 a3 n3 c3 q ar (st2.rd.set p (st2.rd.getD p 0+1)).length cr af (see st2.far p e.1).length cf ap R.length cp st2.late aw RW.length cw),⟨3,1,ar,(st2.rd.set p (st2.rd.getD p 0+1)).length,cr,(st2.rd.set p (st2.rd.getD p 0+1)).map fun n:Nat=>vi n⟩,⟨3,1,af,(see st2.far p e.1).length,cf,(see st2.far p e.1).map vi⟩,owW aw cw RW]
   rw [hlr,hsl2]
   exact O105
 clear_value J87
 refine⟨fun e0=>?_,fun e0=>?_⟩
 ·have hw:Yf q (st.far.getD p 0) e st=(ZH e.1 q.size q.slide).foldl (Xp q (st.far.getD p 0) e) st:=by unfold Yf;rw [if_pos e0]
  rw [hw] at hJ
  have hsb:=Uu B E
  have hsm:=GN B (e:=e)
  refine O.frame (QgO (by omega) (by omega) (by omega) (by omega) (by omega) fun a13 n13 c13 hk lk SS hnew h12 l12 O12=>⟨_,_,_,rfl,?_⟩)
  obtain⟨hB1,lB1,tr1,N1⟩:=N0.rebase lk hnew
  have hn13:=SS.1
  generalize ZH e.1 q.size q.slide=ss at *
  have S1:SlI hB1 a13 n13 ss:=⟨SS.1,tr1 SS.2⟩
  refine⟨fun vs hh=>∃(k:Nat) (hB hP:Hp) (ap:Option Addr) (cp:Nat) (aw:Option Addr) (cw:Nat) (R:List PN) (RW:List (KR Vl (Bool × PK))),vs=[vi k]∧k≤ss.length∧h0.le hB∧SlI hB a13 n13 ss∧QAt hB q a1 n1 a2 n2 a3 n3∧Yv hB hP ap cp R ∧
    QS hP hh [ZX g 52 (csM a1 n1 c1 a2 n2 c2 a3 n3 c3 q ar st.rd.length cr af st.far.length cf ap R.length cp ((ss.take k).foldl (Xp q (st.far.getD p 0) e) st).late aw RW.length cw),owR ar cr st.rd,owF af cf st.far,owW aw cw RW] ∧
    R.map pnC=((ss.take k).foldl (Xp q (st.far.getD p 0) e) st).pn.map (pnS q.aggs.length)∧Q7 RW=((ss.take k).foldl (Xp q (st.far.getD p 0) e) st).rows.map Xo∧∀ r ∈ RW,Qg hB r.2.1.1 (r.2.2.flatMap Qv),
   fun vs hh=>ss.length - (Qn vs 0).toNat,⟨0,hB1,hk,ap,cp,aw,cw,R,RW,rfl,Nat.zero_le _,Hp.le_trans l0 lB1,S1,Q.le lB1,N1,O12,e1,e2,fun r hr=>(e3 r hr).le lB1⟩,?_⟩
  clear X0 l0 Q N0 O e1 e2 e3 hblk lBh lk SS hnew N1 O12 S1 tr1 lB1
  clear R RW hB hP ap cp aw cw
  rintro vs hh ⟨k,hB,hP,ap,cp,aw,cw,R,RW,rfl,hk',l0,S1,Q,N0,O,e1,e2,e3⟩
  have hblk:=O.blk (List.mem_cons_self ..)
  refine⟨k,rfl,fun e4=>?_,fun e4=>?_⟩
  ·have hlt:k < ss.length:=by have:=of_decide_eq_true e4;omega
   have lBh:=Hp.le_trans N0.le0 O.le
   obtain⟨b,o,ea,hc⟩:=(S1.le lBh).get (i:=k) (by omega)
   have hgd:ss.getD k 0=ss[k]:=by rw [List.getD_eq_getElem?_getD,List.getElem?_eq_getElem hlt];rfl
   have tk:ss.take (k+1)=ss.take k++[ss[k]]:=List.take_succ_eq_append_getElem hlt
   have hsk:=hsb _ (List.getElem_mem hlt)
   have HBk:=K4 (far:=st.far.getD p 0) B E (ss.take k) HB (fun s hs=>hsb s (List.mem_of_mem_take hs))
   rw [List.length_take,Nat.min_eq_left hk'] at HBk
   rw [hgd] at hc
   generalize ss[k]=s at *
   generalize hstk:(ss.take k).foldl (Xp q (st.far.getD p 0) e) st=stk at *
   intro J83
   have hJ2:∀ h',(∃(hB hP:Hp) (ap:Option Addr) (cp:Nat) (aw:Option Addr) (cw:Nat) (R:List PN) (RW:List (KR Vl (Bool × PK))),h0.le hB∧SlI hB a13 n13 ss∧QAt hB q a1 n1 a2 n2 a3 n3∧Yv hB hP ap cp R ∧
     QS hP h' [ZX g 52 (csM a1 n1 c1 a2 n2 c2 a3 n3 c3 q ar st.rd.length cr af st.far.length cf ap R.length cp (Xp q (st.far.getD p 0) e stk s).late aw RW.length cw),owR ar cr st.rd,owF af cf st.far,owW aw cw RW] ∧
     R.map pnC=(Xp q (st.far.getD p 0) e stk s).pn.map (pnS q.aggs.length)∧Q7 RW=(Xp q (st.far.getD p 0) e stk s).rows.map Xo∧∀ r ∈ RW,Qg hB r.2.1.1 (r.2.2.flatMap Qv))→J83 h':=by
    rintro h' ⟨hB,hP,ap,cp,aw,cw,R,RW,q1,q2,q3,q4,q5,q6,q7,q8⟩
    refine⟨_,isW (by unfold InR;omega),⟨k+1,hB,hP,ap,cp,aw,cw,R,RW,rfl,by omega,q1,q2,q3,q4,?_,?_,?_,q8⟩,by simp [Qn];omega⟩
    ·rw [tk,List.foldl_append,hstk];exact q5
    ·rw [tk,List.foldl_append,hstk];exact q6
    ·rw [tk,List.foldl_append,hstk];exact q7
   clear_value J83
   -- how far it is known of the part
   obtain⟨bF,eF,hcF⟩:=SlI.get' (sz:=1) (O.ownV (s:=owF af cf st.far) (by simp)) (i:=p) (by show p < st.far.length;omega)
   have eF:af=some ⟨bF,0,none⟩:=eF
   have hbF:af=some ⟨bF,0,none⟩∧(0:Int)≤(p:Int)∧(p:Int) < ((st.far.length:Nat):Int):=⟨eF,by omega,by omega⟩
   have hbs:a13=some ⟨b,o,none⟩∧(0:Int)≤(k:Int)∧(k:Int) < ((n13:Nat):Int):=⟨ea,by omega,by omega⟩
   refine⟨_,_,_,Qb hblk rfl,bF,0,hbF,st.far.getD p 0,hcF,b,o,fun _=>hbs,s,fun _=>hc,_,fun _=>isW (by unfold InR;omega),_,fun _=>isW (by unfold InR;omega),_,_,_,fun _=>Qb hblk rfl,bF,0,fun _=>hbF,st.far.getD p 0,fun _=>hcF,_,fun _=>isW (by unfold InR;omega),?_⟩
   have hl:(bif (decide ((st.far.getD p 0:Int)≥0)) then(decide ((s+q.size+q.late:Int)≤st.far.getD p 0 - q.delay)) else false)=QiK q (st.far.getD p 0) s:=by
    unfold QiK
    by_cases h1:0≤st.far.getD p 0
    ·rw [decide_eq_true h1];rfl
    ·rw [decide_eq_false h1];rfl
   rw [hl]
   refine⟨fun e5=>?_,fun e5=>?_⟩
   ·have hll:=HBk.ll
    have ew:Xp q (st.far.getD p 0) e stk s={ stk with late:=stk.late+1 }:=by unfold Xp;rw [if_pos e5]
    rw [ew] at hJ2
    refine⟨_,Qb hblk rfl,_,isW (by unfold InR;omega),?_⟩
    refine O.put (j:=0) rfl (i:=10) (Nat.le_of_ble_eq_true rfl) fun h38 O38 _=>hJ2 h38 ⟨hB,hP,ap,cp,aw,cw,R,RW,l0,S1,Q,N0,O38,e1,e2,e3⟩
   ·have ew:Xp q (st.far.getD p 0) e stk s={ stk with pn:=K7 (s,Zq q e) (Qm q e) stk.pn,rows:=stk.rows++MI (Qe q) (s,Zq q e) (Qm q e) (atP (s,Zq q e) stk.pn) }:=by unfold Xp;rw [if_neg (by rw [e5];decide)]
    rw [ew] at hJ2
    have hco:=QkD HBk e1
    have hRl:R.length=stk.pn.length:=by have:=congrArg List.length e1;simpa using this
    have hpl:=HBk.pl
    have hwl:=HBk.wl
    have hWl:RW.length=stk.rows.length:=by have:=congrArg List.length e2;simpa [Q7] using this
    have hkl:=QC q
    have hv:Qdc q ((s,Zq q e),Qm q e):=⟨by simp [Qm],Vy B E,hsk⟩
    refine⟨_,_,_,Qb hblk rfl,b,o,hbs,s,hc,?_⟩
    refine QjY (e:=e) (Q.le lBh) B ⟨_,_,rfl,hc,Qb hblk rfl,?_⟩
    refine O.frame (QjG (K:=(s,Zq q e)) N0 (by omega) (by omega) fun hk ap' cp' R2 i r Nk hr hrk hcase hins h50 l50 O50=>⟨_,_,_,some ⟨r.b,0,none⟩,rfl,?_⟩)
    obtain⟨rs,f1,f2,f3,f4,f5⟩:=Qnt (v:=Qm q e) HBk e1 hr hrk (hn1▸hcase) hins
    have hcl:r.cs.length=q.aggs.length:=by rw [f1];exact UK fun x hx=>(f2 x hx).l
    have hcb:∀ l ∈ r.cs,l.length≤900000∧∀ v ∈ l,ZQ v:=by
     rw [f1]
     intro l hl'
     obtain⟨k1,k2⟩:=Qaj (fun x hx=>(f2 x hx).v) l hl'
     exact⟨by omega,k2⟩
    have hvl:(Qm q e).length=r.cs.length:=by rw [hcl];simp [Qm]
    have hcl2:=QdY hvl
    have fa:∀ x ∈ rs++[Qm q e],Qdc q ((s,Zq q e),x):=fun x hx=>by
     rcases List.mem_append.1 hx with q1|q1
     ·exact f2 x q1
     ·rw [List.mem_singleton.1 q1];exact hv
    have f1':XR r.cs (Qm q e)=Yl q.aggs.length (rs++[Qm q e]):=by rw [XJ,f1]
    have hcb2:∀ l ∈ XR r.cs (Qm q e),l.length≤1000000∧∀ v ∈ l,ZQ v:=by
     rw [f1']
     intro l hl'
     obtain⟨k1,k2⟩:=Qaj (fun x hx=>(fa x hx).v) l hl'
     rw [List.length_append,List.length_singleton] at k1
     exact⟨by omega,k2⟩
    have out1:(List.zipWith MO (Qe q) r.cs).map ZM=Yq (Qe q) rs:=by rw [f1];exact QdT f2
    have out2:(List.zipWith MO (Qe q) (XR r.cs (Qm q e))).map ZM=Yq (Qe q) (rs++[Qm q e]):=by rw [f1'];exact QdT fa
    refine O50.put (j:=0) rfl (i:=9) (Nat.le_of_ble_eq_true rfl) fun h53 O53 _=>?_
    refine O53.frame (JO (r:=r) (Q.le Nk.le0) B (Nk.cells hr).1 (Nk.cells hr).2 hcl (fun l hl'=>⟨by have:=(hcb l hl').1;omega,(hcb l hl').2⟩) fun a59 c59 hk2 V59 h55 l55 O55=>⟨_,_,_,_,_,_,rfl,?_⟩)
    rw [out1] at V59 ⊢
    obtain⟨hB2,lB2,tr2,N2⟩:=Nk.rebase V59.le0 (g:=a59) (fun b o hb=>V59.new b (by rw [hb,QI.at0 (Qh.own V59) b o hb]))
    have o1:=tr2 (Qh.row V59)
    refine O55.frame (Qfm (e:=e) (Q.le lB2) B N2 hr hcl (fun l hl'=>by have:=(hcb l hl').1;omega) fun hk3 N3 h61 l61 O61=>⟨rfl,?_⟩)
    have hil:=(List.getElem?_eq_some_iff.1 hr).1
    have hr3:(R2.set i { r with cs:=XR r.cs (Qm q e) })[i]?=some { r with cs:=XR r.cs (Qm q e) }:=List.getElem?_set_self hil
    refine O61.frame (JO (r:={ r with cs:=XR r.cs (Qm q e) }) (Q.le (Hp.le_trans lB2 N3.le0)) B (N3.cells hr3).1 (N3.cells hr3).2 (by rw [←hcl];exact hcl2) hcb2 fun a67 c67 hk4 V67 h63 l63 O63=>⟨_,_,_,_,_,_,rfl,?_⟩)
    simp only at V67 ⊢
    rw [out2] at V67 ⊢
    obtain⟨hB4,lB4,tr4,N4⟩:=N3.rebase V67.le0 (g:=a67) (fun b o hb=>V67.new b (by rw [hb,QI.at0 (Qh.own V67) b o hb]))
    have o2:=tr4 (Qh.row V67)
    have lB04:=Hp.le_trans lB2 lB4
    have lBk:=Hp.le_trans N4.le0 O63.le
    have hol:(Yq (Qe q) rs).length≤1000000:=by rw [MG f2];omega
    refine QbH ⟨rfl,(o1.le lB4).le lBk⟩ ⟨rfl,o2.le lBk⟩ hol ⟨_,rfl,r.b,0,rfl,r.told,Qb (O63.le _ _ (N4.cells hr3).1) rfl,?_⟩
    have hR2l:(R2.set i { r with cs:=XR r.cs (Qm q e) }).length=R2.length:=List.length_set
    have hblk63:=O63.blk (List.mem_cons_self ..)
    refine⟨fun e6=>?_,fun e6=>?_⟩
    ·have e7:r.told=true∧Yq (Qe q) rs≠Yq (Qe q) (rs++[Qm q e]):=by
      cases ht':r.told with
      | false=>rw [ht'] at e6;cases e6
      | true=>
       rw [ht'] at e6
       refine⟨rfl,fun q1=>?_⟩
       rw [decide_eq_true q1] at e6
       cases e6
     rw [if_pos e7] at f4
     rw [f4] at hJ2
     refine⟨_,_,_,Qb hblk63 rfl,?_⟩
     intro b75 hb75
     refine O63.app (j:=3) rfl QnF (tn:=89) (m:=2) (news:=[vb true,vi r.k.1,vi r.k.2.1,vi r.k.2.2,vsl a59 (Yq (Qe q) rs).length c59,vb false,vi r.k.1,vi r.k.2.1,vi r.k.2.2,vsl a67 (Yq (Qe q) (rs++[Qm q e])).length c67]) hb75 rfl (by
      intro u hu
      simp only [List.mem_cons,List.not_mem_nil,or_false] at hu
      rcases hu with rfl|rfl|rfl|rfl|rfl|rfl|rfl|rfl|rfl|rfl<;>rfl) (by simp only [owW];omega) (by simp only [owW];omega) fun aw' cw' h78 O78 _=>⟨_,_,_,rfl,?_⟩
     simp only [List.set_cons_succ,List.set_cons_zero] at O78
     refine O78.put (j:=0) rfl (i:=11) (Nat.le_of_ble_eq_true rfl) fun h80 O80 _=>?_
     refine hJ2 h80 ⟨hB4,hk4,ap',cp',aw',cw',R2.set i { r with cs:=XR r.cs (Qm q e) },RW++[((true,(s,Zq q e)),(a59,c59),Yq (Qe q) rs),((false,(s,Zq q e)),(a67,c67),Yq (Qe q) (rs++[Qm q e]))],Hp.le_trans l0 lB04,S1.le lB04,Q.le lB04,N4,?_,f5,?_,?_⟩
     ·rw [hR2l]
      have er:owW aw' cw' (RW++[((true,(s,Zq q e)),(a59,c59),Yq (Qe q) rs),((false,(s,Zq q e)),(a67,c67),Yq (Qe q) (rs++[Qm q e]))])=⟨89,5,aw',RW.length+2,cw',RW.flatMap (YU Xg)++[vb true,vi r.k.1,vi r.k.2.1,vi r.k.2.2,vsl a59 (Yq (Qe q) rs).length c59,vb false,vi r.k.1,vi r.k.2.1,vi r.k.2.2,vsl a67 (Yq (Qe q) (rs++[Qm q e])).length c67]⟩:=by
       unfold owW
       rw [List.length_append,List.flatMap_append,hrk]
       rfl
      rw [er,List.length_append]
      exact O80
     ·rw [List.map_append,←e2]
      unfold Q7
      rw [List.map_append]
      rfl
     ·intro r' hr'
      rcases List.mem_append.1 hr' with q1|q1
      ·exact(e3 r' q1).le lB04
      ·simp only [List.mem_cons,List.not_mem_nil,or_false] at q1
       rcases q1 with rfl|rfl
       ·exact o1.le lB4
       ·exact o2
    ·have e7:¬(r.told=true∧Yq (Qe q) rs≠Yq (Qe q) (rs++[Qm q e])):=by
      rintro⟨q1,q2⟩
      rw [q1,decide_eq_false q2] at e6
      cases e6
     rw [if_neg e7] at f4
     rw [f4,List.append_nil] at hJ2
     refine hJ2 h63 ⟨hB4,hk4,ap',cp',aw,cw,R2.set i { r with cs:=XR r.cs (Qm q e) },RW,Hp.le_trans l0 lB04,S1.le lB04,Q.le lB04,N4,?_,f5,e2,fun r' hr'=>(e3 r' hr').le lB04⟩
     rw [hR2l]
     exact O63
  ·have hge:k=ss.length:=by have:=of_decide_eq_false e4;omega
   rw [hge,List.take_length] at O e1 e2
   exact hJ hh ⟨hB,hP,ar,cr,af,cf,ap,cp,aw,cw,R,RW,l0,Q,N0,O,e1,e2,e3⟩
 ·have hw:Yf q (st.far.getD p 0) e st=st:=by unfold Yf;rw [if_neg (by rw [e0];decide)]
  rw [hw] at hJ
  exact hJ h ⟨hB,hP,ar,cr,af,cf,ap,cp,aw,cw,R,RW,l0,Q,N0,O,e1,e2,e3⟩
def ZK (u0:Option Addr)(u1 u2:Nat)(u3:Option Addr)(u4 u5:Nat)(h:Hp)(R:Value→Hp→Prop):Prop:=
 (((decide ((u1:Int)≠(u4:Int)))=true→R (vb false) h)∧((decide ((u1:Int)≠(u4:Int)))=false→(∃(I3:List Value→Hp→Prop) (m4:List Value→Hp→Nat),I3 [vi 0] h∧∀ vs5 h6,I3 vs5 h6→∃ x7,vs5=[vi x7]∧(((decide (x7 < (u1:Int)))=true→(∃ b10 o11,(u0=some ⟨b10,o11,none⟩∧(0:Int)≤x7∧x7 < (u1:Int))∧(∃ x12 x13,(Hp.row h6 b10 (o11+x7.toNat*2) 2=some [vi x12,vi x13])∧(∃ b14 o15,(u3=some ⟨b14,o15,none⟩∧(0:Int)≤x7∧x7 < (u4:Int))∧(∃ x16 x17,(Hp.row h6 b14 (o15+x7.toNat*2) 2=some [vi x16,vi x17])∧(∃ p18,(Rd Tryz.prog ((eqGuard .neq 42 (.tmp 19) (.tmp 23) (vag [vi x12,vi x13]) (vag [vi x16,vi x17]) >>= fun _=>binOp .neq 42 (vag [vi x12,vi x13]) (vag [vi x16,vi x17]))) h6 (vb p18))∧((p18=true→R (vb false) h6)∧(p18=false→(∃ x20,(IsW x20 (x7+1))∧(I3 [vi x20] h6∧m4 [vi x20] h6 < m4 vs5 h6))))))))))∧((decide (x7 < (u1:Int)))=false→R (vb true) h6)))))
theorem Xt {u0 u1 u2 u3 u4 u5 h R}(H:ZK u0 u1 u2 u3 u4 u5 h R):Qa Tryz.prog 94 [vsl u0 u1 u2,vsl u3 u4 u5] h R:=
 Qd (cfg:=⟨[],[(4,([13],[.one (.int .i64)],[]))],[(6,[0,1,2,3,4,5,6,7,8])]⟩) Qo mixed Tryz.func94 [.one (.v (vsl u0 u1 u2)),.one (.v (vsl u3 u4 u5))] (by kernel_rfl) rfl (by kernel_rfl) H
def Xi (u0:Int)(u1:Int)(u2:Int)(u3:Option Addr)(u4 u5:Nat)(u6:Bool)(f_0b f_0o:Nat)(f_1b f_1o:Nat)(h:Hp)(R:Value→Hp→Prop):Prop:=
 (∃ x1,(Hp.cell h f_0b f_0o=some (vi x1))∧(∃ x2 x3,((decide (u0=x1))=true→Hp.row h f_1b f_1o 2=some [vi x2,vi x3])∧(∃ p4,((decide (u0=x1))=true→Rd Tryz.prog ((eqGuard .eql 42 (.tmp 11) (.tmp 12) (vag [vi u1,vi u2]) (vag [vi x2,vi x3]) >>= fun _=>binOp .eql 42 (vag [vi u1,vi u2]) (vag [vi x2,vi x3]))) h (vb p4))∧R (vb (bif (decide (u0=x1)) then p4 else false)) h)))
theorem Js {u0 u1 u2 u3 u4 u5 u6 f_0b f_0o f_1b f_1o h R}(H:Xi u0 u1 u2 u3 u4 u5 u6 f_0b f_0o f_1b f_1o h R):Qa Tryz.prog 93 [vag [vi u0,vi u1,vi u2,vsl u3 u4 u5,vb u6],vhp f_0b f_0o,vhp f_1b f_1o] h R:=
 Qd (cfg:=⟨[],[],[]⟩) Qo mixed Tryz.func93 [.ag [.v (vi u0),.v (vi u1),.v (vi u2),.v (vsl u3 u4 u5),.v (vb u6)],.one (.hp f_0b f_0o),.one (.hp f_1b f_1o)] (by kernel_rfl) rfl (by kernel_rfl) H
def W8 (u0 u1:Nat)(u2:Int)(u3:Int)(u4:Int)(u5:Int)(u6:Int)(u7:Int)(u8:Int)(h:Hp)(R:Value→Hp→Prop):Prop:=
 (∃ a1 n1 c1,(Hp.cell h u0 (u1+2)=some (vsl a1 n1 c1))∧(((decide ((n1:Int)=0))=true→(Qa Tryz.prog 137 [] h fun v2 h3=>∃ x4 x5,v2=(vag [vi x4,vi x5])∧R (vag [vi x4,vi x5]) h3))∧((decide ((n1:Int)=0))=false→(∃ a7 n7 c7,(Hp.cell h u0 (u1+2)=some (vsl a7 n7 c7))∧(Qa Tryz.prog 37 [vsl a7 n7 c7,vag [vi u2,vi u3,vi u4,vi u5,vi u6,vi u7,vi u8]] h fun v8 h9=>∃ x10 x11,v8=(vag [vi x10,vi x11])∧R (vag [vi x10,vi x11]) h9)))))
theorem VJ {u0 u1 u2 u3 u4 u5 u6 u7 u8 h R}(H:W8 u0 u1 u2 u3 u4 u5 u6 u7 u8 h R):Qa Tryz.prog 89 [vhp u0 u1,vag [vi u2,vi u3,vi u4,vi u5,vi u6,vi u7,vi u8]] h R:=
 Qd (cfg:=⟨[],[],[(3,[0,1,2,3,4,5,6,7])]⟩) Qo mixed Tryz.func89 [.one (.hp u0 u1),.ag [.v (vi u2),.v (vi u3),.v (vi u4),.v (vi u5),.v (vi u6),.v (vi u7),.v (vi u8)]] (by kernel_rfl) rfl (by kernel_rfl) H
def Wi (u0 u1:Nat)(u2:Int)(u3:Int)(u4:Int)(u5:Int)(u6:Int)(u7:Int)(u8:Int)(h:Hp)(R:Value→Hp→Prop):Prop:=
 (∃ a1 n1 c1,(Hp.cell h u0 u1=some (vsl a1 n1 c1))∧(∃(I3:List Value→Hp→Prop) (m4:List Value→Hp→Nat),I3 [vsl none 0 0,vi 0] h∧∀ vs5 h6,I3 vs5 h6→∃ a7 n7 c7 x8,vs5=[vsl a7 n7 c7,vi x8]∧(((decide (x8 < (n1:Int)))=true→(let J35:Option Addr→Nat→Nat→Hp→Prop:=fun a38 n38 c38 h39=>(∃ x40,(IsW x40 (x8+1))∧(I3 [vsl a38 n38 c38,vi x40] h39∧m4 [vsl a38 n38 c38,vi x40] h39 < m4 vs5 h6));(∃ b11 o12,(a1=some ⟨b11,o12,none⟩∧(0:Int)≤x8∧x8 < (n1:Int))∧(∃ x13 a14 n14 c14,(Hp.row h6 b11 (o12+x8.toNat*2) 2=some [vi x13,vsl a14 n14 c14])∧(((decide (x13=1))=true→(Qa Tryz.prog 137 [] h6 fun v15 h16=>∃ x17 x18,v15=(vag [vi x17,vi x18])∧(∀ b19,h16 b19=none→let h20:= Hp.set h16 b19 (Qc [vi x17,vi x18] 42);(Ql Tryz.prog (Builtin.append_ #[85,85] 85 #[vsl a7 n7 c7,(vsl (some (⟨b19,0,none⟩:Addr)) 1 1)]) h20 fun v21 h22=>∃ a23 n23 c23,v21=(vsl a23 n23 c23)∧(J35 a23 n23 c23 h22)))))∧((decide (x13=1))=false→(Qa Tryz.prog 37 [vsl a14 n14 c14,vag [vi u2,vi u3,vi u4,vi u5,vi u6,vi u7,vi u8]] h6 fun v25 h26=>∃ x27 x28,v25=(vag [vi x27,vi x28])∧(∀ b29,h26 b29=none→let h30:= Hp.set h26 b29 (Qc [vi x27,vi x28] 42);(Ql Tryz.prog (Builtin.append_ #[85,85] 85 #[vsl a7 n7 c7,(vsl (some (⟨b29,0,none⟩:Addr)) 1 1)]) h30 fun v31 h32=>∃ a33 n33 c33,v31=(vsl a33 n33 c33)∧(J35 a33 n33 c33 h32))))))))))∧((decide (x8 < (n1:Int)))=false→R (vsl a7 n7 c7) h6))))
theorem Vp {u0 u1 u2 u3 u4 u5 u6 u7 u8 h R}(H:Wi u0 u1 u2 u3 u4 u5 u6 u7 u8 h R):Qa Tryz.prog 91 [vhp u0 u1,vag [vi u2,vi u3,vi u4,vi u5,vi u6,vi u7,vi u8]] h R:=
 Qd (cfg:=⟨[],[(3,([5,14],[.one (.slice),.one (.int .i64)],[]))],[]⟩) Qo mixed Tryz.func91 [.one (.hp u0 u1),.ag [.v (vi u2),.v (vi u3),.v (vi u4),.v (vi u5),.v (vi u6),.v (vi u7),.v (vi u8)]] (by kernel_rfl) rfl (by kernel_rfl) H
def XP (u0 u1:Nat)(u2:Int)(u3:Int)(u4:Int)(u5:Int)(u6:Int)(u7:Int)(u8:Int)(u9:Int)(h:Hp)(R:Value→Hp→Prop):Prop:=
 (∀ b1,h b1=none→let h2:= Hp.set h b1 (Qc [vi u2] 3);(Qa Tryz.prog 89 [vhp u0 u1,vag [vi u3,vi u4,vi u5,vi u6,vi u7,vi u8,vi u9]] h2 fun v3 h4=>∃ x5 x6,v3=(vag [vi x5,vi x6])∧(∀ b7,h4 b7=none→let h8:= Hp.set h4 b7 (Qc [vi 0,vi 0] 42);(Hp.store h8 b7 0 [vi x5,vi x6] fun h9=>(∃ a10 n10 c10,(Hp.row h9 u0 (u1+10) 1=some [vsl a10 n10 c10])∧(∃ x11,(Hp.cell h9 b1 0=some (vi x11))∧(∃ x12 x13,(Hp.row h9 b7 0 2=some [vi x12,vi x13])∧(∃ a14 n14 c14,(Hp.cell h9 u0 (u1+7)=some (vsl a14 n14 c14))∧(Qa Tryz.prog 91 [vhp u0 u1,vag [vi u3,vi u4,vi u5,vi u6,vi u7,vi u8,vi u9]] h9 fun v15 h16=>∃ a17 n17 c17,v15=(vsl a17 n17 c17)∧((Hp.cell h16 u0 (u1+7)=some (vsl a14 n14 c14))∧((Hp.row h16 b7 0 2=some [vi x12,vi x13])∧((Hp.cell h16 b1 0=some (vi x11))∧((Hp.row h16 u0 (u1+10) 1=some [vsl a10 n10 c10])∧(Qa Tryz.prog 90 [vag [vsl a10 n10 c10],vi x11,vag [vi x12,vi x13],vsl a14 n14 c14,vsl a17 n17 c17] h16 fun v18 h19=>∃ a20 n20 c20 x21 x22 x23 a24 n24 c24 p25 p26,v18=(Qf [vag [vsl a20 n20 c20],vag [vi x21,vi x22,vi x23,vsl a24 n24 c24,vb p25],vb p26])∧(∀ b27,h19 b27=none→let h28:= Hp.set h19 b27 (Qc [vsl none 0 0] 66);(∀ b29,h28 b29=none→let h30:= Hp.set h28 b29 (Qc [vi 0,vi 0,vi 0,vsl none 0 0,vb false] 83);(Hp.store h30 b27 0 [vsl a20 n20 c20] fun h31=>(Hp.store h31 b29 0 [vi x21,vi x22,vi x23,vsl a24 n24 c24,vb p25] fun h32=>(∃ a33 n33 c33,(Hp.row h32 b27 0 1=some [vsl a33 n33 c33])∧(Hp.store h32 u0 (u1+10) [vsl a33 n33 c33] fun h34=>(∃ p35,((!p26)=false→Hp.cell h34 b29 (0+4)=some (vb p35))∧(((bif (!p26) then true else(!p35))=true→R (Qf []) h34)∧((bif (!p26) then true else(!p35))=false→(∃ x37 x38 x39 a40 n40 c40 p41,(Hp.row h34 b29 0 5=some [vi x37,vi x38,vi x39,vsl a40 n40 c40,vb p41])∧(Qa Tryz.prog 44 [vag [vi x37,vi x38,vi x39,vsl a40 n40 c40,vb p41]] h34 fun v42 h43=>∃ x44 x45 x46 a47 n47 c47,v42=(vag [vi x44,vi x45,vi x46,vsl a47 n47 c47])∧(∃ a48 n48 c48,(Hp.cell h43 b27 0=some (vsl a48 n48 c48))∧(Qa Tryz.prog 92 [vsl a48 n48 c48,(Value.func (.func 93) #[] #[vhp b1 0,vhp b7 0])] h43 fun v49 h50=>∃ x51,v49=(vi x51)∧(∃ a52 n52 c52,(Hp.cell h50 b27 0=some (vsl a52 n52 c52))∧(∃ b53 o54,(a52=some ⟨b53,o54,none⟩∧(0:Int)≤x51∧x51 < (n52:Int))∧(∃ x55 x56 x57 a58 n58 c58 p59,(Hp.row h50 b53 (o54+x51.toNat*5) 5=some [vi x55,vi x56,vi x57,vsl a58 n58 c58,vb p59])∧(Qa Tryz.prog 44 [vag [vi x55,vi x56,vi x57,vsl a58 n58 c58,vb p59]] h50 fun v60 h61=>∃ x62 x63 x64 a65 n65 c65,v60=(vag [vi x62,vi x63,vi x64,vsl a65 n65 c65])∧(Qa Tryz.prog 94 [vsl a47 n47 c47,vsl a65 n65 c65] h61 fun v66 h67=>∃ p68,v66=(vb p68)∧(((!p68)=true→(∃ a69 n69 c69,(Hp.cell h67 u0 (u1+12)=some (vsl a69 n69 c69))∧(∀ b70,h67 b70=none→let h71:= Hp.set h67 b70 (Qc [vb true,vi x44,vi x45,vi x46,vsl a47 n47 c47,vb false,vi x62,vi x63,vi x64,vsl a65 n65 c65] 89);(Ql Tryz.prog (Builtin.append_ #[50,50] 50 #[vsl a69 n69 c69,(vsl (some (⟨b70,0,none⟩:Addr)) 2 2)]) h71 fun v72 h73=>∃ a74 n74 c74,v72=(vsl a74 n74 c74)∧(Hp.store h73 u0 (u1+12) [vsl a74 n74 c74] fun h75=>R (Qf []) h75)))))∧((!p68)=false→R (Qf []) h67))))))))))))))))))))))))))))))))))
theorem UF {u0 u1 u2 u3 u4 u5 u6 u7 u8 u9 h R}(H:XP u0 u1 u2 u3 u4 u5 u6 u7 u8 u9 h R):Qa Tryz.prog 40 [vhp u0 u1,vi u2,vag [vi u3,vi u4,vi u5,vi u6,vi u7,vi u8,vi u9]] h R:=
 Qd (cfg:=⟨[8,7,4,6],[],[(2,[0,1,2,3,4,5,6,7,8,9,10,11,12,13,14,15,16,17,18,19,20,21,22]),(9,[0,1,2,3,4,5,6,7,8,9,10,11,12,13])]⟩) Qo mixed Tryz.func40 [.one (.hp u0 u1),.one (.v (vi u2)),.ag [.v (vi u3),.v (vi u4),.v (vi u5),.v (vi u6),.v (vi u7),.v (vi u8),.v (vi u9)]] (by kernel_rfl) rfl (by kernel_rfl) H
def Wl (u0 u1:Nat)(u2:Int)(u3:Int)(u4:Int)(u5:Int)(u6:Int)(u7:Int)(u8:Int)(u9:Int)(h:Hp)(R:Value→Hp→Prop):Prop:=
 (∃ a1 n1 c1,(Hp.row h u0 (u1+9) 1=some [vsl a1 n1 c1])∧(∃ x2,(Hp.cell h u0 (u1+5)=some (vi x2))∧(Qa Tryz.prog 36 [vag [vsl a1 n1 c1],vi u2,vi x2] h fun v3 h4=>∃ x5 p6,v3=(Qf [vi x5,vb p6])∧(∃ a7 n7 c7,(Hp.cell h4 u0 (u1+1)=some (vsl a7 n7 c7))∧(∃ a8 n8 c8,((decide ((n7:Int)=0))=false→Hp.cell h4 u0 (u1+1)=some (vsl a8 n8 c8))∧(∃(J9:SV→Hp→Prop),((decide ((n7:Int)=0))=false→(Qa Tryz.prog 37 [vsl a8 n8 c8,vag [vi u3,vi u4,vi u5,vi u6,vi u7,vi u8,vi u9]] h4 fun v10 h11=>∃ x12 x13,v10=(vag [vi x12,vi x13])∧J9 (.t (.ag [.v (vi x12),.v (vi x13)])) h11))∧(¬((decide ((n7:Int)=0))=false)→J9 (.t (.ag [.v (vi 0),.v (vi 0)])) h4)∧∀ h14 x15 x16,J9 (.t (.ag [.v (vi x15),.v (vi x16)])) h14→(∃(J17:SV→Hp→Prop),((decide ((n7:Int)=0))=false→(Qa Tryz.prog 38 [vb true] h14 fun v18 h19=>∃ x20 x21,v18=(vag [vi x20,vi x21])∧J17 (.t (.ag [.v (vi x20),.v (vi x21)])) h19))∧(¬((decide ((n7:Int)=0))=false)→J17 (.t (.ag [.v (vi 0),.v (vi 0)])) h14)∧∀ h22 x23 x24,J17 (.t (.ag [.v (vi x23),.v (vi x24)])) h22→(∃ p25,((decide ((n7:Int)=0))=false→Rd Tryz.prog ((eqGuard .eql 42 (.tmp 44) (.tmp 45) (vag [vi x15,vi x16]) (vag [vi x23,vi x24]) >>= fun _=>binOp .eql 42 (vag [vi x15,vi x16]) (vag [vi x23,vi x24]))) h22 (vb p25))∧(let J58:Hp→Prop:=fun h59=>(∃ a60 n60 c60,(Hp.cell h59 u0 (u1+8)=some (vsl a60 n60 c60))∧(∃ b61 o62,(a60=some ⟨b61,o62,none⟩∧(0:Int)≤u2∧u2 < (n60:Int))∧(∃ x63,(Hp.cell h59 b61 (o62+u2.toNat*1)=some (vi x63))∧(∃ x64,(IsW x64 (x63+1))∧(∃ b65 o66,(a60=some ⟨b65,o66,none⟩∧(0:Int)≤u2∧u2 < (n60:Int))∧(Hp.store h59 b65 (o66+u2.toNat*1) [vi x64] fun h67=>(∃ a68 n68 c68,(Hp.row h67 u0 (u1+9) 1=some [vsl a68 n68 c68])∧(Qa Tryz.prog 41 [vag [vsl a68 n68 c68],vi u2,vi u3] h67 fun v69 h70=>∃ a71 n71 c71,v69=(vag [vsl a71 n71 c71])∧(Hp.store h70 u0 (u1+9) [vsl a71 n71 c71] fun h72=>(∃ a73 n73 c73,(Hp.row h72 u0 (u1+9) 1=some [vsl a73 n73 c73])∧(∃ x74,(Hp.cell h72 u0 (u1+5)=some (vi x74))∧(Qa Tryz.prog 42 [vag [vsl a73 n73 c73],vi x74] h72 fun v75 h76=>∃ x77 p78,v75=(Qf [vi x77,vb p78])∧(((!p78)=true→R (Qf []) h76)∧((!p78)=false→(∃ a80 n80 c80,(Hp.row h76 u0 (u1+10) 1=some [vsl a80 n80 c80])∧(∃ x81,(Hp.cell h76 u0 (u1+3)=some (vi x81))∧(Qa Tryz.prog 43 [vag [vsl a80 n80 c80],vi x81,vi x77] h76 fun v82 h83=>∃ a84 n84 c84 a85 n85 c85,v82=(Qf [vag [vsl a84 n84 c84],vsl a85 n85 c85])∧(∃(I87:List Value→Hp→Prop) (m88:List Value→Hp→Nat),I87 [vi 0] h83∧∀ vs89 h90,I87 vs89 h90→∃ x91,vs89=[vi x91]∧(((decide (x91 < (n85:Int)))=true→(∃ b94 o95,(a85=some ⟨b94,o95,none⟩∧(0:Int)≤x91∧x91 < (n85:Int))∧(∃ x96 x97 x98 a99 n99 c99 p100,(Hp.row h90 b94 (o95+x91.toNat*5) 5=some [vi x96,vi x97,vi x98,vsl a99 n99 c99,vb p100])∧(∃ a101 n101 c101,(Hp.cell h90 u0 (u1+12)=some (vsl a101 n101 c101))∧(Qa Tryz.prog 44 [vag [vi x96,vi x97,vi x98,vsl a99 n99 c99,vb p100]] h90 fun v102 h103=>∃ x104 x105 x106 a107 n107 c107,v102=(vag [vi x104,vi x105,vi x106,vsl a107 n107 c107])∧((Hp.cell h103 u0 (u1+12)=some (vsl a101 n101 c101))∧(∀ b108,h103 b108=none→let h109:= Hp.set h103 b108 (Qc [vb false,vi x104,vi x105,vi x106,vsl a107 n107 c107] 89);(Ql Tryz.prog (Builtin.append_ #[50,50] 50 #[vsl a101 n101 c101,(vsl (some (⟨b108,0,none⟩:Addr)) 1 1)]) h109 fun v110 h111=>∃ a112 n112 c112,v110=(vsl a112 n112 c112)∧(Hp.store h111 u0 (u1+12) [vsl a112 n112 c112] fun h113=>(∃ x115,(IsW x115 (x91+1))∧(I87 [vi x115] h113∧m88 [vi x115] h113 < m88 vs89 h90)))))))))))∧((decide (x91 < (n85:Int)))=false→(∃ x116,(Hp.cell h90 u0 (u1+3)=some (vi x116))∧(∃ x117,(Hp.cell h90 u0 (u1+6)=some (vi x117))∧(∃ x118,(IsW x118 (x77 - x117))∧(Qa Tryz.prog 45 [vag [vsl a84 n84 c84],vi x116,vi x118] h90 fun v119 h120=>∃ a121 n121 c121,v119=(vag [vsl a121 n121 c121])∧(Hp.store h120 u0 (u1+10) [vsl a121 n121 c121] fun h122=>R (Qf []) h122)))))))))))))))))))))))));(((bif (decide ((n7:Int)=0)) then true else p25)=true→(∃ x26,(Hp.cell h22 u0 (u1+3)=some (vi x26))∧(∃ x27,(Hp.cell h22 u0 (u1+4)=some (vi x27))∧(Qa Tryz.prog 39 [vi u3,vi x26,vi x27] h22 fun v28 h29=>∃ a30 n30 c30,v28=(vsl a30 n30 c30)∧(∃(I32:List Value→Hp→Prop) (m33:List Value→Hp→Nat),I32 [vi 0] h29∧∀ vs34 h35,I32 vs34 h35→∃ x36,vs34=[vi x36]∧(((decide (x36 < (n30:Int)))=true→(let J54:Hp→Prop:=fun h55=>(∃ x56,(IsW x56 (x36+1))∧(I32 [vi x56] h55∧m33 [vi x56] h55 < m33 vs34 h35));(∃ b39 o40,(a30=some ⟨b39,o40,none⟩∧(0:Int)≤x36∧x36 < (n30:Int))∧(∃ x41,(Hp.cell h35 b39 (o40+x36.toNat*1)=some (vi x41))∧(∃ x42,(p6=true→Hp.cell h35 u0 (u1+3)=some (vi x42))∧(∃ x43,(p6=true→IsW x43 (x41+x42))∧(∃ x44,(p6=true→Hp.cell h35 u0 (u1+6)=some (vi x44))∧(∃ x45,(p6=true→IsW x45 (x43+x44))∧(((bif p6 then(decide (x45≤x5)) else false)=true→(∃ x46,(Hp.cell h35 u0 (u1+11)=some (vi x46))∧(∃ x47,(IsW x47 (x46+1))∧(Hp.store h35 u0 (u1+11) [vi x47] fun h48=>(J54 h48)))))∧((bif p6 then(decide (x45≤x5)) else false)=false→(Qa Tryz.prog 40 [vhp u0 u1,vi x41,vag [vi u3,vi u4,vi u5,vi u6,vi u7,vi u8,vi u9]] h35 fun v51 h52=>v51=(Qf [])∧(J54 h52))))))))))))∧((decide (x36 < (n30:Int)))=false→(J58 h35))))))))∧((bif (decide ((n7:Int)=0)) then true else p25)=false→(J58 h22))))))))))))
theorem Vv {u0 u1 u2 u3 u4 u5 u6 u7 u8 u9 h R}(H:Wl u0 u1 u2 u3 u4 u5 u6 u7 u8 u9 h R):Qa Tryz.prog 14 [vhp u0 u1,vi u2,vag [vi u3,vi u4,vi u5,vi u6,vi u7,vi u8,vi u9]] h R:=
 Qd (cfg:=⟨[],[(4,([62],[.one (.int .i64)],[])),(16,([147],[.one (.int .i64)],[]))],[(1,[0,1,2,3,4,5,6,7,8,9,10,11,12,13,14,15]),(2,[0,1,2,3,4,5,6,7,8,9,10,11,12,13,14,15,16,17]),(3,[0,1,2,3,4,5,6,7,8,9,10,11,14,12,13]),(6,[0,1,2,3,4,5,6,7,8,9,10,11,12,13,14,15,16,17]),(11,[0,1,2,3,4,5,6,7,8,9,10,11]),(12,[0,1,2,3,4,5,6,7,8,9,10,11,12,13,14]),(14,[0,1,2,3,4,5,6,7,8,9,10,11,12,13,14,15,16]),(18,[0,1,2,3,4,5,6,7,8,9,10,11,12]),(20,[0,1,2,3,4,5,6,7,8,9,10,11,12,13,14,15,16,17])]⟩) Qo mixed Tryz.func14 [.one (.hp u0 u1),.one (.v (vi u2)),.ag [.v (vi u3),.v (vi u4),.v (vi u5),.v (vi u6),.v (vi u7),.v (vi u8),.v (vi u9)]] (by kernel_rfl) rfl (by kernel_rfl) H
def NG (u0:Option Addr)(u1 u2:Nat)(u3:Option Addr)(u4 u5:Nat)(u6:Option Addr)(u7 u8:Nat)(u9:Int)(u10:Int)(u11:Int)(u12:Int)(u13:Int)(h:Hp)(R:Value→Hp→Prop):Prop:=
 (Qa Tryz.prog 29 [vag [vsl u0 u1 u2,vsl u3 u4 u5,vsl u6 u7 u8,vi u9,vi u10,vi u11,vi u12]] h fun v1 h2=>∃ e3,v1=(ifv e3)∧(((Option.isSome e3)=true→R (Qf [vp none,ifv e3]) h2)∧((Option.isSome e3)=false→(Qa Tryz.prog 30 [vi u13] h2 fun v5 h6=>∃ a7 n7 c7 e8,v5=(Qf [vag [vsl a7 n7 c7],ifv e8])∧(((Option.isSome e8)=true→R (Qf [vp none,ifv e8]) h6)∧((Option.isSome e8)=false→(Ql Tryz.prog (Instr.makeSlice 48 (vi u13) (vi u13)) h6 fun v10 h11=>∃ a12 n12 c12,v10=(vsl a12 n12 c12)∧(∀ b13,h11 b13=none→let h14:= Hp.set h11 b13 (Qc [vsl u0 u1 u2,vsl u3 u4 u5,vsl u6 u7 u8,vi u9,vi u10,vi u11,vi u12,vsl none 0 0,vsl a12 n12 c12,vsl a7 n7 c7,vsl none 0 0,vi 0,vsl none 0 0] 68);(Hp.store h14 b13 0 [vsl none 0 0] fun h15=>(∃(I17:List Value→Hp→Prop) (m18:List Value→Hp→Nat),I17 [vi 0] h15∧∀ vs19 h20,I17 vs19 h20→∃ x21,vs19=[vi x21]∧(((decide (x21 < (u1:Int)))=true→(∃ b24 o25,(u0=some ⟨b24,o25,none⟩∧(0:Int)≤x21∧x21 < (u1:Int))∧(∃ x26 a27 n27 c27,(Hp.row h20 b24 (o25+x21.toNat*2) 2=some [vi x26,vsl a27 n27 c27])∧(let J33:Option Addr→Nat→Nat→Hp→Prop:=fun a38 n38 c38 h39=>(∃ a40 n40 c40,(Hp.cell h39 b13 0=some (vsl a40 n40 c40))∧(∀ b41,h39 b41=none→let h42:= Hp.set h39 b41 (Qc [vi x26,vsl a38 n38 c38] 96);(Ql Tryz.prog (Builtin.append_ #[25,25] 25 #[vsl a40 n40 c40,(vsl (some (⟨b41,0,none⟩:Addr)) 1 1)]) h42 fun v43 h44=>∃ a45 n45 c45,v43=(vsl a45 n45 c45)∧(Hp.store h44 b13 0 [vsl a45 n45 c45] fun h46=>(∃ a47 n47 c47,(Hp.cell h46 b13 (0+7)=some (vsl a47 n47 c47))∧(∀ b48,h46 b48=none→let h49:= Hp.set h46 b48 (Qc [vi x26] 3);(Ql Tryz.prog (Builtin.append_ #[48,48] 48 #[vsl a47 n47 c47,(vsl (some (⟨b48,0,none⟩:Addr)) 1 1)]) h49 fun v50 h51=>∃ a52 n52 c52,v50=(vsl a52 n52 c52)∧(Hp.store h51 b13 (0+7) [vsl a52 n52 c52] fun h53=>(∃ x55,(IsW x55 (x21+1))∧(I17 [vi x55] h53∧m18 [vi x55] h53 < m18 vs19 h20))))))))));(((decide (x26≠1))=true→(Qa Tryz.prog 31 [vsl a27 n27 c27] h20 fun v28 h29=>∃ a30 n30 c30,v28=(vsl a30 n30 c30)∧(J33 a30 n30 c30 h29)))∧((decide (x26≠1))=false→(J33 a27 n27 c27 h20)))))))∧((decide (x21 < (u1:Int)))=false→(let J62:Hp→Prop:=fun h63=>(let J70:Hp→Prop:=fun h71=>R (Qf [vhp b13 0,ifv none]) h71;(((decide ((u7:Int) > 0))=true→(Qa Tryz.prog 31 [vsl u6 u7 u8] h63 fun v64 h65=>∃ a66 n66 c66,v64=(vsl a66 n66 c66)∧(Hp.store h65 b13 (0+2) [vsl a66 n66 c66] fun h67=>(J70 h67))))∧((decide ((u7:Int) > 0))=false→(J70 h63))));(((decide ((u4:Int) > 0))=true→(Qa Tryz.prog 31 [vsl u3 u4 u5] h20 fun v56 h57=>∃ a58 n58 c58,v56=(vsl a58 n58 c58)∧(Hp.store h57 b13 (0+1) [vsl a58 n58 c58] fun h59=>(J62 h59))))∧((decide ((u4:Int) > 0))=false→(J62 h20))))))))))))))))
theorem QfA {u0 u1 u2 u3 u4 u5 u6 u7 u8 u9 u10 u11 u12 u13 h R}(H:NG u0 u1 u2 u3 u4 u5 u6 u7 u8 u9 u10 u11 u12 u13 h R):Qa Tryz.prog 10 [vag [vsl u0 u1 u2,vsl u3 u4 u5,vsl u6 u7 u8,vi u9,vi u10,vi u11,vi u12],vi u13] h R:=
 Qd (cfg:=⟨[29],[(10,([37],[.one (.int .i64)],[]))],[(7,[0,1,3,2,4,5,6]),(14,[0,1,2,3,4,5,6,7,8,9,10,11,12]),(15,[0,1,2,3,4,5,6,7,8,9,10,11])]⟩) Qo mixed Tryz.func10 [.ag [.v (vsl u0 u1 u2),.v (vsl u3 u4 u5),.v (vsl u6 u7 u8),.v (vi u9),.v (vi u10),.v (vi u11),.v (vi u12)],.one (.v (vi u13))] (by kernel_rfl) rfl (by kernel_rfl) H
theorem Qj6 {h:Hp}{b:Nat}{xs ys:List Value}{t:TypeId}(hl:ys.length=xs.length){K:Hp→Prop}(hK:K (h.set b (Qc ys t))):Hp.store (h.set b (Qc xs t)) b 0 ys K:=by
 refine⟨xs.toArray,t,Hp.set_same _ _ _,by simp [hl],?_⟩
 rw [Hp.set_set]
 have e:QP xs.toArray.toList 0 ys=ys:=by
  unfold QP
  rw [List.take_zero,List.nil_append,List.toList_toArray,Nat.zero_add,List.drop_of_length_le (by omega),List.append_nil]
 rw [e]
 exact hK
section
variable {hi h:Hp}{g:Nat}{cs:List Value}{ar:Option Addr}{cr:Nat}{rd:List Nat}{aw:Option Addr}{wn cw:Nat}{ws:List Value}{R':Value→Hp→Prop}
theorem Yd.frame (M:Yd hi h g cs ar cr rd aw wn cw ws){f:FuncId}{args:List Value}(H:Qa Tryz.prog f args hi fun v hk=>∀ h2,hk.le h2→Yd hk h2 g cs ar cr rd aw wn cw ws→R' v h2):Qa Tryz.prog f args h R':=by
 intro w hs
 refine(Qa.frame M.le0 H w hs).mono ?_
 rintro e w' ⟨v,h2,rfl,s2,F,h1,l1,kp,k⟩
 refine⟨v,h2,rfl,s2,F,k h2 l1 ⟨(kp g _ M.blk M.gn).1,(kp g _ M.blk M.gn).2,Qh.apart ⟨l1,?_,?_⟩ l1 (fun b o hb ho=>ho),Qh.apart ⟨l1,?_,?_⟩ l1 (fun b o hb ho=>ho),M.rg,M.wg,M.rw_⟩⟩
 ·exact M.r.own.keep fun b o hb ho=>(kp b o ho (M.r.new b hb)).1
 ·intro b hb
  cases hq:h b with
  | none=>exact absurd hq (QdP M.r hb)
  | some o=>exact(kp b o hq (M.r.new b hb)).2
 ·exact M.w.own.keep fun b o hb ho=>(kp b o ho (M.w.new b hb)).1
 ·intro b hb
  cases hq:h b with
  | none=>exact absurd hq (QdP M.w hb)
  | some o=>exact(kp b o hq (M.w.new b hb)).2
theorem Yd.putK (M:Yd hi h g cs ar cr rd aw wn cw ws){j:Nat}{v:Value}(hj:j < cs.length){K:Hp→Prop}(hK:∀ h',Yd hi h' g (cs.set j v) ar cr rd aw wn cw ws→(∀ b o,b≠g→h b=some o→h' b=some o)→K h'):h.store g j [v] K:=by
 refine QX M.blk (by simp only [List.length_singleton];omega) ?_
 have e:=Jq cs j v hj
 refine hK _ ?_ fun b o hb ho=>(Hp.set_other h _ hb).trans ho
 have key:∀ K2:Hp→Prop,(∀ h',Yd hi h' g (cs.set j v) ar cr rd aw wn cw ws→h'=h.set g (Qc (cs.set j v) 68)→K2 h')→K2 (h.set g (Qc (cs.set j v) 68)):=by
  intro K2 hk
  obtain⟨c,e0,q1,q2,q3⟩:=M.put hj (K:=fun h'=>Yd hi h' g (cs.set j v) ar cr rd aw wn cw ws) fun h' m=>m
  rw [M.blk] at q1
  cases q1
  refine hk _ ?_ rfl
  have:QP (cs.toArray).toList j [v]=cs.set j v:=by rw [List.toList_toArray,e]
  rw [this] at q3
  exact q3
 rw [e]
 exact key _ fun h' m _=>m
theorem Yd.pair (M:Yd hi h g cs ar cr rd aw wn cw ws){b b2:Nat}{xs xs' ys ys':List Value}{t t2:TypeId}(hb:h b=none)(hb2:(h.set b (Qc xs t)) b2=none)(h1:xs'.length=xs.length)(h2:ys'.length=ys.length){K:Hp→Prop}
  (hK:∀ h',Yd hi h' g cs ar cr rd aw wn cw ws→h' b=some (Qc xs' t)→h' b2=some (Qc ys' t2)→b≠g→b2≠g→K h'):Hp.store ((h.set b (Qc xs t)).set b2 (Qc ys t2)) b 0 xs' fun h31=>Hp.store h31 b2 0 ys' K:=by
 have hne:b2≠b:=fun q=>by subst q;rw [Hp.set_same] at hb2;cases hb2
 have hb2h:h b2=none:=by rw [←Hp.set_other h (Qc xs t) hne];exact hb2
 have sl:∀(l vs:List Value),vs.length=l.length→QP l 0 vs=vs:=fun l vs hl=>by
  unfold QP
  rw [List.take_zero,List.nil_append,Nat.zero_add,List.drop_of_length_le (by omega),List.append_nil]
 refine QX (l:=xs) (t:=t) (by rw [Hp.set_other _ _ hne.symm,Hp.set_same]) (by omega) ?_
 rw [sl xs xs' h1]
 refine QX (l:=ys) (t:=t2) (by rw [Hp.set_other _ _ hne,Hp.set_same]) (by omega) ?_
 rw [sl ys ys' h2]
 refine hK _ (M.le fun x o ho=>?_) (by rw [Hp.set_other _ _ hne.symm,Hp.set_same]) (Hp.set_same _ _ _) (fun q=>by rw [q,M.blk] at hb;cases hb) (fun q=>by rw [q,M.blk] at hb2h;cases hb2h)
 have n1:x≠b:=fun q=>by rw [q,hb] at ho;cases ho
 have n2:x≠b2:=fun q=>by rw [q,hb2h] at ho;cases ho
 rw [Hp.set_other _ _ n2,Hp.set_other _ _ n1,Hp.set_other _ _ n2,Hp.set_other _ _ n1]
 exact ho
end
section
variable {h:Hp}{R':Value→Hp→Prop}
theorem QdX {l m:List Vl}{a b:Option Addr}{c d:Nat}(S:SlP Qv h a l.length l)(S2:SlP Qv h b m.length m)(hn:l.length≤1000000)(hK:R' (vb (decide (l=m))) h):Qa Tryz.prog 94 [vsl a l.length c,vsl b m.length d] h R':=by
 refine Xt ?_
 unfold ZK
 refine⟨fun e=>?_,fun e=>?_⟩
 ·have hne:l≠m:=by
   intro q
   subst q
   exact of_decide_eq_true e rfl
  rw [decide_eq_false hne] at hK
  exact hK
 ·have hlen:l.length=m.length:=by
   have:=of_decide_eq_false e
   omega
  refine⟨fun vs hh=>hh=h∧∃ i:Nat,vs=[vi i]∧i≤l.length∧l.take i=m.take i,fun vs hh=>l.length - (Qn vs 0).toNat,⟨rfl,0,rfl,Nat.zero_le _,rfl⟩,?_⟩
  rintro vs hh ⟨rfl,i,rfl,hi,ht⟩
  refine⟨i,rfl,fun e=>?_,fun e=>?_⟩
  ·have hlt:i < l.length:=by have:=of_decide_eq_true e;omega
   have hx:l[i]?=some l[i]:=List.getElem?_eq_getElem hlt
   have hy:m[i]?=some (m[i]'(by omega)):=List.getElem?_eq_getElem (by omega)
   obtain⟨b1,o1,e1,r1⟩:=S.get (sz:=2) (fun _=>rfl) (by decide) hx
   obtain⟨b2,o2,e2,r2⟩:=S2.get (sz:=2) (fun _=>rfl) (by decide) hy
   have tk:l.take (i+1)=l.take i++[l[i]]:=List.take_succ_eq_append_getElem hlt
   have tm:m.take (i+1)=m.take i++[m[i]'(by omega)]:=List.take_succ_eq_append_getElem (by omega)
   refine⟨b1,o1,⟨e1,by omega,by omega⟩,_,_,by rw [Int.toNat_natCast];exact r1,b2,o2,⟨e2,by omega,by omega⟩,_,_,(show Hp.row hh b2 (o2+((i:Nat):Int).toNat*2) 2=some (Qv (m[i]'(by omega))) by rw [Int.toNat_natCast];exact r2),!decide (l[i]=m[i]'(by omega)),Qdl,fun e3=>?_,fun e3=>?_⟩
   ·have hne:l≠m:=by
     intro q
     have h1:l[i]?=m[i]?:=by rw [q]
     rw [hx,hy] at h1
     have h2:=Option.some.inj h1
     rw [decide_eq_true h2] at e3
     cases e3
    rw [decide_eq_false hne] at hK
    exact hK
   ·have h2:l[i]=m[i]'(by omega):=by simpa using e3
    refine⟨_,isW (by unfold InR;omega),⟨rfl,i+1,rfl,by omega,?_⟩,by simp [Qn];omega⟩
    rw [tk,tm,ht,h2]
  ·have hge:i=l.length:=by have:=of_decide_eq_false e;omega
   have heq:l=m:=by
    rw [hge,List.take_length,hlen,List.take_length] at ht
    exact ht
   rw [decide_eq_true heq] at hK
   exact hK
end
section
variable {q qf:Qy}{hi h:Hp}{g:Nat}{a1:Option Addr}{n1 c1:Nat}{a2:Option Addr}{n2 c2:Nat}{a3:Option Addr}{n3 c3:Nat}{ak:Option Addr}{nk ck:Nat}{ar:Option Addr}{nr cr:Nat}{ac:Option Addr}{nc cc:Nat}{tb:Option Addr}{tn tc late:Nat}{aw:Option Addr}{wn cw:Nat}{R:List PR}{RW:List (KR Vl (Bool × PK))}{rd:List Nat}{ws:List Value}{st:En}{e:EvL}{R':Value→Hp→Prop}
theorem Qfj (M:Yd hi h g (W4 a1 n1 c1 a2 n2 c2 a3 n3 c3 qf ak nk ck ar nr cr ac nc cc tb tn tc late aw wn cw) ar cr rd aw wn cw ws)(I:Qkg q qf hi a1 n1 a2 n2 a3 n3 ak nk ac nc tb R RW st)(B:QOk q)(E:WC e)(hK:∀ h',h.le h'→R' (vag (Qv (Zq q e))) h'):Qa Tryz.prog 89 [vhp g 0,vag (Vu e)] h R':=by
 refine VJ ?_
 unfold W8
 have hn:=I.qa.b.1
 unfold Zq at hK
 refine⟨_,_,_,Qb M.blk rfl,fun e1=>Zu ⟨_,_,rfl,?_⟩,fun e1=>⟨_,_,_,Qb M.blk rfl,?_⟩⟩
 ·have e1:=of_decide_eq_true e1
  have hb:qf.by_=[]:=List.length_eq_zero_iff.1 (by omega)
  have:=hK h (Hp.le_refl h)
  rw [if_pos (I.f.bn.1 hb)] at this
  exact this
 ·have e1:=of_decide_eq_false e1
  have hb:qf.by_≠[]:=fun e2=>e1 (by rw [hn,e2];rfl)
  have hbq:q.by_≠[]:=fun q'=>hb (I.f.bn.2 q')
  have Rp:=I.f.b1 hbq
  have hlq:=(Z4 (B.b hbq)).2
  refine QeM Rp.ok (by have:=Rp.len;omega) (I.qa.b.le M.le0) fun h' l'=>⟨_,_,rfl,?_⟩
  have:=hK h' l'
  rw [if_neg hbq,←Rp.val e E] at this
  exact this
theorem Qe2 (M:Yd hi h g (W4 a1 n1 c1 a2 n2 c2 a3 n3 c3 qf ak nk ck ar nr cr ac nc cc tb tn tc late aw wn cw) ar cr rd aw wn cw ws)(I:Qkg q qf hi a1 n1 a2 n2 a3 n3 ak nk ac nc tb R RW st)(B:QOk q)(E:WC e)(hK:∀ a c h',Qij h h' a c (Qm q e)→R' (vsl a (Qm q e).length c) h'):Qa Tryz.prog 91 [vhp g 0,vag (Vu e)] h R':=by
 refine Vp ?_
 unfold Wi
 have hn:=I.qa.g.len
 have han:=I.f.an
 have hn4:=B.n2
 have hvl:(Qm q e).length=q.aggs.length:=by unfold Qm;rw [List.length_map]
 refine⟨_,_,_,Qb M.blk rfl,fun vs hh=>∃(i:Nat) (a:Option Addr) (c:Nat),vs=[vsl a ((Qm q e).take i).length c,vi i]∧i≤q.aggs.length∧Qij h hh a c ((Qm q e).take i),fun vs hh=>q.aggs.length - (Qn vs 1).toNat,⟨0,none,0,rfl,Nat.zero_le _,Qh.nil (Hp.le_refl h) _ _⟩,?_⟩
 rintro vs hh ⟨i,a,c,rfl,hi',V⟩
 refine⟨a,_,c,_,rfl,fun e1=>?_,fun e1=>?_⟩
 ·have hlt:i < q.aggs.length:=by have:=of_decide_eq_true e1;omega
  have hx:q.aggs[i]?=some q.aggs[i]:=List.getElem?_eq_getElem hlt
  have hxf:qf.aggs[i]?=some (qf.aggs[i]'(by omega)):=List.getElem?_eq_getElem (by omega)
  obtain⟨k1,k2,k3⟩:=I.f.ag i _ _ hx hxf
  obtain⟨b,o,a',c',ha,hrow,hS⟩:=(I.qa.g.le (Hp.le_trans M.le0 V.le0)).row Wt (by decide) hxf
  have hvi:(Qm q e)[i]'(by omega)=if (q.aggs[i]).1=1 then(0,0) else ZG e (q.aggs[i]).2:=by unfold Qm;rw [List.getElem_map]
  have tk:(Qm q e).take (i+1)=(Qm q e).take i++[(Qm q e)[i]'(by omega)]:=List.take_succ_eq_append_getElem (by omega)
  have hal:((Qm q e).take i).length=i:=by rw [List.length_take];omega
  have hg:=B.g _ (List.getElem_mem hlt)
  intro J35
  have hJ:∀(v:Vl) (h41:Hp),hh.le h41→v=(Qm q e)[i]'(by omega)→∀ b19,h41 b19=none→Ql Tryz.prog (Builtin.append_ #[85,85] 85 #[vsl a ((Qm q e).take i).length c,vsl (some ⟨b19,0,none⟩) 1 1]) (h41.set b19 (Qc [vi v.1,vi v.2] 42)) fun v21 h22=>∃ a23 n23 c23,v21=vsl a23 n23 c23∧J35 a23 n23 c23 h22:=by
   intro v h41 l41 hv b19 hb19
   refine Vec.app Qff Ym Qky (V.keep0 l41) (by rw [hal];omega) (by rw [hal];omega) (x:=v) hb19 fun a2' c2' h' V'=>⟨_,_,_,rfl,_,isW (by unfold InR;omega),⟨i+1,a2',c2',?_,by omega,?_⟩,by simp [Qn];omega⟩
   ·rw [tk,←hv];rfl
   ·rw [tk,←hv];exact V'
  clear_value J35
  refine⟨b,o,⟨ha,by omega,by omega⟩,_,_,_,_,by rw [Int.toNat_natCast];exact hrow,fun e2=>?_,fun e2=>?_⟩
  ·have e2:=of_decide_eq_true e2
   refine Zu ⟨_,_,rfl,?_⟩
   intro b19 hb19 h20
   exact hJ (0,0) hh (Hp.le_refl hh) (by rw [hvi,if_pos (k1.symm.trans e2)]) b19 hb19
  ·have e2:=of_decide_eq_false e2
   have hne:(q.aggs[i]).1≠1:=fun q'=>e2 (k1.trans q')
   have Rp:=k3 hne
   have hlq:=(Z4 (hg.2.2.1 hne)).2
   refine QeM Rp.ok (by have:=Rp.len;omega) hS fun h26 l26=>⟨_,_,rfl,?_⟩
   intro b29 hb29 h30
   exact hJ (ZG e (qf.aggs[i]'(by omega)).2) h26 l26 (by rw [hvi,if_neg hne];exact Rp.val e E) b29 hb29
 ·have hge:i=q.aggs.length:=by have:=of_decide_eq_false e1;omega
  rw [List.take_of_length_le (by omega)] at V ⊢
  exact hK a c hh V
end
theorem Qbz {r:PR}{K:PK}{b1 b2:Nat}{h:Hp}{R':Value→Hp→Prop}(h1:h.cell b1 0=some (vi K.1))(h2:h.row b2 0 2=some (Qv K.2))(hK:R' (vb (decide (r.k=K))) h):Qa Tryz.prog 93 [vag (Qi r),vhp b1 0,vhp b2 0] h R':=by
 refine Js ?_
 unfold Xi
 refine⟨_,h1,_,_,fun _=>h2,decide (r.k.2=K.2),fun _=>Xz,?_⟩
 have e:(bif (decide ((r.k.1:Int)=K.1)) then(decide (r.k.2=K.2)) else false)=decide (r.k=K):=by
  rw [ZJ]
  exact decide_eq_decide.2 (Prod.ext_iff).symm
 show R' (vb (bif (decide ((r.k.1:Int)=K.1)) then(decide (r.k.2=K.2)) else false)) h
 rw [e]
 exact hK
theorem QnV {R:List PR}(hs:(R.map (·.k)).Pairwise Qr){i j:Nat}{x y:PR}(hx:R[i]?=some x)(hy:R[j]?=some y)(e:x.k=y.k):i=j:=by
 obtain⟨hi,ex⟩:=List.getElem?_eq_some_iff.1 hx
 obtain⟨hj,ey⟩:=List.getElem?_eq_some_iff.1 hy
 rcases Nat.lt_trichotomy i j with q|q|q
 ·have:=List.pairwise_iff_getElem.1 hs i j (by simpa using hi) (by simpa using hj) q
  simp only [List.getElem_map,ex,ey,e] at this
  exact absurd this (Yz _)
 ·exact q
 ·have:=List.pairwise_iff_getElem.1 hs j i (by simpa using hj) (by simpa using hi) q
  simp only [List.getElem_map,ex,ey,e] at this
  exact absurd this (Yz _)
theorem Qkn {ks:List Int}{k:PK}{v:List Vl}{p:Pn}(h:¬(p.t=true∧Yq ks p.rs≠Yq ks (p.rs++[v]))):MI ks k v (some p)=[]:=if_neg h
theorem Qmk {ks:List Int}{k:PK}{v:List Vl}{p:Pn}(h:p.t=true∧Yq ks p.rs≠Yq ks (p.rs++[v])):MI ks k v (some p)=[(true,k,Yq ks p.rs),(false,k,Yq ks (p.rs++[v]))]:=if_pos h
theorem Qed {h:Hp}{K':Value→Hp→Prop}{a:Option Addr}{R:List PR}{c n:Nat}(hl:n=R.length){fv:Value}{p:PR→Bool}(S:SlP Qi h a R.length R)(hn:R.length≤1000000)(hf:∀ r ∈ R,∀ K2:Value→Hp→Prop,K2 (vb (p r)) h→Yt Tryz.prog fv [vag (Qi r)] h K2)
  (hy:∀(i:Nat) (r:PR),R[i]?=some r→p r=true→(∀ x ∈ R.take i,p x=false)→K' (vi i) h) (hno:(∀ r ∈ R,p r=false)→K' (vi (-1)) h):Qa Tryz.prog 92 [vsl a n c,fv] h K':=by
 subst hl
 exact NK S hn hf hy hno
def Qog (q:Qy)(k:PK)(v:List Vl)(st:En):En:={ st with pn:=K7 k v st.pn,rows:=st.rows++MI (Qe q) k v (atP k st.pn) }
set_option maxHeartbeats 2000000 in
theorem Qb8 {q:Qy}{h0 h:Hp}{g parts N:Nat}{st:En}{e:EvL}{s:Int}{R':Value→Hp→Prop}(X:Y7 q h0 h g st)(B:QOk q)(E:WC e)(HB:EnB q parts N st)(hN:N≤800000)
  (hK:∀ h',h0.le h'→Y7 q h0 h' g (Qog q (s,Zq q e) (Qm q e) st)→R' (Qf []) h'):Qa Tryz.prog 40 [vhp g 0,vi s,vag (Vu e)] h R':=by
 obtain⟨qf,hi,a1,n1,c1,a2,n2,c2,a3,n3,c3,ak,nk,ck,ar,cr,ac,nc,cc,tb,tc,aw,cw,R,RW,l0,M,I⟩:=X
 refine UF ?_
 unfold XP
 have hRl:R.length=st.pn.length:=by have:=congrArg List.length I.p;simpa using this
 have hpl:=HB.pl
 have hkl:=QC q
 have hn4:=B.n2
 have hWl:RW.length=st.rows.length:=by have:=congrArg List.length I.w;simpa [Q7] using this
 have hwl:=HB.wl
 have hks:(R.map (·.k)).Pairwise Qr:=by rw [QiU I.p];exact Y4.1 HB.ps
 have hao:=QmN HB (by omega) I.p
 have hvl:(Qm q e).length=(Qe q).length:=by unfold Qm;rw [List.length_map,hkl]
 intro b1 hb1 h2
 have l2:h.le h2:=Hp.le_set (Hp.le_refl h) hb1 _
 have x1:h2 b1=some (Qc [vi s] 3):=Hp.set_same _ _ _
 clear_value h2
 refine Qfj (M.le l2) I B E fun h4 l4=>⟨_,_,rfl,?_⟩
 intro b7 hb7 h8
 show Hp.store (Hp.set h4 b7 (Qc [vi 0,vi 0] 42)) b7 0 [vi (Zq q e).1,vi (Zq q e).2] _
 refine Qj6 (by rfl) ?_
 have l9:h4.le (h4.set b7 (Qc [vi (Zq q e).1,vi (Zq q e).2] 42)):=Hp.le_set (Hp.le_refl _) hb7 _
 have x7:(h4.set b7 (Qc [vi (Zq q e).1,vi (Zq q e).2] 42)) b7=some (Qc [vi (Zq q e).1,vi (Zq q e).2] 42):=Hp.set_same _ _ _
 generalize h4.set b7 (Qc [vi (Zq q e).1,vi (Zq q e).2] 42)=h9 at l9 x7
 have l49:=Hp.le_trans l4 l9
 have l09:=Hp.le_trans l2 l49
 have M9:=M.le l09
 have x1:=l49 _ _ x1
 have hb7h:h b7=none:=Hp.none_of_le (Hp.le_trans l2 l4) hb7
 refine⟨_,_,_,QQ M9.blk (Nat.le_of_ble_eq_true rfl),s,Qb x1 rfl,_,_,QQ x7 (Nat.le_of_ble_eq_true rfl),_,_,_,Qb M9.blk rfl,?_⟩
 refine Qe2 M9 I B E fun a17 c17 h16 V16=>⟨_,_,_,rfl,Qb (M9.le V16.le0).blk rfl,QQ (V16.le0 _ _ x7) (Nat.le_of_ble_eq_true rfl),Qb (V16.le0 _ _ x1) rfl,QQ (M9.le V16.le0).blk (Nat.le_of_ble_eq_true rfl),?_⟩
 have l016:=Hp.le_trans l09 V16.le0
 obtain⟨hj,lj,Mj,trj,kpj⟩:=M.rebase_new l016
 have x1:=V16.le0 _ _ x1
 have x7:=V16.le0 _ _ x7
 have y1:hj b1=some (Qc [vi s] 3):=kpj _ _ x1 hb1
 have y7:hj b7=some (Qc [vi (Zq q e).1,vi (Zq q e).2] 42):=kpj _ _ x7 hb7h
 have hV:SlP Qv hj a17 (Qm q e).length (Qm q e):=⟨rfl,trj _ _ (Qh.row V16) fun b o hb=>Hp.none_of_le l09 (V16.new b (by rw [hb,QI.at0 (Qh.own V16) b o hb]))⟩
 have Ij:=I.le lj
 refine Yd.frame Mj (QhP (k:=(s,Zq q e)) Ij.t (by omega) hks Ij.k hV hvl (by omega) (fun r hr=>(hao r hr).1) (fun r hr=>(hao r hr).2.1) (Vy B E) ?_ ?_)
 · -- it is there
  intro i r a' c' a2' c2' hk hr hrk lk Tk h19 l19 M19
  refine⟨_,_,_,_,_,_,_,_,_,_,_,rfl,?_⟩
  obtain⟨p,hp,e1,e2,e3⟩:=QnD I.p hr
  have hpk:p.k=(s,Zq q e):=by rw [←e1];exact hrk
  have hat:atP (s,Zq q e) st.pn=some p:=by rw [←hpk];exact Qkp HB.ps (List.mem_of_getElem? hp)
  have hput:K7 (s,Zq q e) (Qm q e) st.pn=st.pn.set i ⟨(s,Zq q e),p.rs++[Qm q e],p.t⟩:=Qho HB.ps hp hpk
  have hacs:ZO r.acs (Qm q e)=Wa (Qe q) (p.rs++[Qm q e]):=by rw [Gx,e2]
  have hset:(R.set i ⟨r.k,a2',c2',ZO r.acs (Qm q e),r.t⟩).map prT=(K7 (s,Zq q e) (Qm q e) st.pn).map (pnT (Qe q)):=by
   rw [hput,List.map_set,List.map_set,I.p]
   congr 1
   simp only [prT,pnT]
   rw [hrk,hacs,e3]
  have hRl2:(R.set i ⟨r.k,a2',c2',ZO r.acs (Qm q e),r.t⟩).length=R.length:=List.length_set
  have hil:=(List.getElem?_eq_some_iff.1 hr).1
  intro b27 hb27 h28 b29 hb29 h30
  refine M19.pair hb27 hb29 (by rfl) (by rfl) fun h32 M32 w27 w29 g27 g29=>⟨_,_,_,QQ w27 (Nat.le_of_ble_eq_true rfl),?_⟩
  refine M32.putK (j:=10) (Nat.le_of_ble_eq_true rfl) fun h27 M27 k27=>?_
  have w27:=k27 _ _ g27 w27
  have w29:=k27 _ _ g29 w29
  have l027:h0.le h27:=Hp.le_trans l0 (Hp.le_trans lj (Hp.le_trans lk M27.le0))
  have Ik:=Ij.le lk
  -- behind all of it
  have fin:∀(hx h':Hp) (aw':Option Addr) (cw':Nat) (RW':List (KR Vl (Bool × PK))) (rows':List Rw),hk.le hx→Yd hx h' g (W4 a1 n1 c1 a2 n2 c2 a3 n3 c3 qf ak nk ck ar st.rd.length cr ac nc cc a' R.length c' st.late aw' RW'.length cw') ar cr st.rd aw' RW'.length cw' (RW'.flatMap (YU Xg))→Q7 RW'=rows'.map Xo→(∀ r ∈ RW',Qg hx r.2.1.1 (r.2.2.flatMap Qv))→rows'=st.rows++MI (Qe q) (s,Zq q e) (Qm q e) (some p)→R' (Qf []) h':=by
   intro hx h' aw' cw' RW' rows' lx Mx hw1 hw2 hrows
   refine hK h' (Hp.le_trans l0 (Hp.le_trans lj (Hp.le_trans lk (Hp.le_trans lx Mx.le0)))) ⟨qf,hx,a1,n1,c1,a2,n2,c2,a3,n3,c3,ak,nk,ck,ar,cr,ac,nc,cc,a',c',aw',cw',R.set i ⟨r.k,a2',c2',ZO r.acs (Qm q e),r.t⟩,RW',Hp.le_trans l0 (Hp.le_trans lj (Hp.le_trans lk lx)),?_,⟨I.f,Ik.qa.le lx,Ik.k.le lx,Ik.c.le lx,Tk.le lx,hset,?_,hw2⟩⟩
   ·rw [hRl2];exact Mx
   ·rw [hw1,hrows];simp only [Qog];rw [hat]
  have e4:(bif (!true) then true else(!r.t))=!r.t:=rfl
  refine⟨r.t,fun _=>Qb w29 rfl,?_⟩
  rw [e4]
  refine⟨fun e5=>?_,fun e5=>?_⟩
  ·have ht:p.t=false:=by rw [←e3];simpa using e5
   refine fin hk h27 aw cw RW st.rows (Hp.le_refl hk) M27 I.w Ik.wi ?_
   rw [Qkn (by rw [ht];simp),List.append_nil]
  ·have ht:p.t=true:=by rw [←e3];simpa using e5
   have hrm:=List.mem_of_getElem? hr
   have hacl:=(hao r hrm).1
   have hkj:=Hp.le_trans lk l19
   refine⟨_,_,_,_,_,_,_,QQ w29 (Nat.le_of_ble_eq_true rfl),?_⟩
   refine VN (r:=r) ⟨rfl,(Ij.t.i r hrm).le (Hp.le_trans lk M27.le0)⟩ (by omega) fun a34 c34 h30 V30=>⟨_,_,_,_,_,_,rfl,_,_,_,Qb (V30.le0 _ _ w27) rfl,?_⟩
   have M30:=M27.le V30.le0
   have z1:=M30.le0 _ _ (lk _ _ y1)
   have z7:=M30.le0 _ _ (lk _ _ y7)
   have S30:=(Tk.le M30.le0).s
   rw [hRl2] at S30
   have hks2:((R.set i ⟨r.k,a2',c2',ZO r.acs (Qm q e),r.t⟩).map (·.k)).Pairwise Qr:=by
    have:(R.set i ⟨r.k,a2',c2',ZO r.acs (Qm q e),r.t⟩).map (·.k)=R.map (·.k):=by
     rw [List.map_set]
     apply List.ext_getElem?
     intro m
     rw [List.getElem?_set]
     split
     ·rename_i hm;subst hm
      rw [if_pos (by rw [List.length_map];exact hil),List.getElem?_map,hr];rfl
     ·rfl
    rw [this];exact hks
   have hxi:(R.set i ⟨r.k,a2',c2',ZO r.acs (Qm q e),r.t⟩)[i]?=some ⟨r.k,a2',c2',ZO r.acs (Qm q e),r.t⟩:=List.getElem?_set_self hil
   refine Qed (R:=R.set i ⟨r.k,a2',c2',ZO r.acs (Qm q e),r.t⟩) hRl2.symm (p:=fun r=>decide (r.k=(s,Zq q e))) (by rw [hRl2];exact S30) (by rw [hRl2];omega)
    (fun r0 _ K2 hk2=>⟨93,#[],#[vhp b1 0,vhp b7 0],rfl,⟨_,Tryz.func93,by kernel_rfl,rfl⟩,Qbz (Qb z1 rfl) (QQ z7 (Nat.le_of_ble_eq_true rfl)) hk2⟩)
    (fun m r2 hr2 hp2 _=>⟨_,rfl,?_⟩) (fun hno=>absurd hrk (of_decide_eq_false (hno ⟨r.k,a2',c2',ZO r.acs (Qm q e),r.t⟩ (List.mem_of_getElem? hxi))))
   have hm:m=i:=QnV hks2 hr2 hxi (by rw [of_decide_eq_true hp2,hrk])
   subst hm
   obtain⟨b,o,ea,hrow⟩:=S30.get Qq (by decide) hxi
   refine⟨_,_,_,Qb (V30.le0 _ _ w27) rfl,b,o,⟨ea,by omega,by omega⟩,_,_,_,_,_,_,_,by rw [Int.toNat_natCast];exact hrow,?_⟩
   have hacl2:=Qjb (acs:=r.acs) (r:=Qm q e) (by omega)
   refine VN (r:=⟨r.k,a2',c2',ZO r.acs (Qm q e),r.t⟩) ⟨rfl,(Tk.i _ (List.mem_of_getElem? hxi)).le M30.le0⟩ (by simp only;omega) fun a50 c50 h46 V46=>⟨_,_,_,_,_,_,rfl,?_⟩
   have M46:=M30.le V46.le0
   have hml:(r.acs.map ZM).length≤1000000:=by rw [List.length_map];omega
   refine QdX ((V30.slp Ym (by decide)).le V46.le0) (V46.slp Ym (by decide)) hml ⟨_,rfl,fun e6=>?_,fun e6=>?_⟩
   ·have hne:r.acs.map ZM≠(ZO r.acs (Qm q e)).map ZM:=by
     have e6:(!decide (r.acs.map ZM=(ZO r.acs (Qm q e)).map ZM))=true:=e6
     simpa using e6
    refine⟨_,_,_,Qb M46.blk rfl,?_⟩
    intro b55 hb55 h56
    obtain⟨hx,lx,Mx,trx,_⟩:=M27.rebase_new (Hp.le_trans V30.le0 V46.le0)
    have o1:=trx _ _ ((Qh.row V30).le V46.le0) fun b o hb=>V30.new b (by rw [hb,QI.at0 (Qh.own V30) b o hb])
    have o2:=trx _ _ (Qh.row V46) fun b o hb=>Hp.none_of_le V30.le0 (V46.new b (by rw [hb,QI.at0 (Qh.own V46) b o hb]))
    refine Mx.rows (m:=2) (news:=[vb true,vi r.k.1,vi r.k.2.1,vi r.k.2.2,vsl a34 (r.acs.map ZM).length c34,vb false,vi r.k.1,vi r.k.2.1,vi r.k.2.2,vsl a50 ((ZO r.acs (Qm q e)).map ZM).length c50]) hb55 rfl (by
     intro u hu
     simp only [List.mem_cons,List.not_mem_nil,or_false] at hu
     rcases hu with rfl|rfl|rfl|rfl|rfl|rfl|rfl|rfl|rfl|rfl<;>rfl) (by omega) fun aw' cw' h58 M58=>⟨_,_,_,rfl,?_⟩
    refine M58.put (j:=12) (Nat.le_of_ble_eq_true rfl) fun h60 M60=>?_
    have:=fin hx h60 aw' cw' (RW++[((true,(s,Zq q e)),(a34,c34),r.acs.map ZM),((false,(s,Zq q e)),(a50,c50),(ZO r.acs (Qm q e)).map ZM)]) (st.rows++MI (Qe q) (s,Zq q e) (Qm q e) (some p)) lx
    refine this ?_ ?_ ?_ rfl
    ·rw [List.length_append,List.flatMap_append]
     have er:(([((true,(s,Zq q e)),(a34,c34),r.acs.map ZM),((false,(s,Zq q e)),(a50,c50),(ZO r.acs (Qm q e)).map ZM)]:List (KR Vl (Bool × PK))).flatMap (YU Xg))=[vb true,vi r.k.1,vi r.k.2.1,vi r.k.2.2,vsl a34 (r.acs.map ZM).length c34,vb false,vi r.k.1,vi r.k.2.1,vi r.k.2.2,vsl a50 ((ZO r.acs (Qm q e)).map ZM).length c50]:=by
      rw [hrk];rfl
     rw [er]
     exact M60
    ·have e7:MI (Qe q) (s,Zq q e) (Qm q e) (some p)=[(true,(s,Zq q e),r.acs.map ZM),(false,(s,Zq q e),(ZO r.acs (Qm q e)).map ZM)]:=by
      have h1:Yq (Qe q) p.rs=r.acs.map ZM:=by rw [e2];rfl
      have h2:Yq (Qe q) (p.rs++[Qm q e])=(ZO r.acs (Qm q e)).map ZM:=by rw [hacs];rfl
      rw [Qmk ⟨ht,by rw [h1,h2];exact hne⟩,h1,h2]
     rw [e7,List.map_append,←I.w]
     unfold Q7
     rw [List.map_append]
     rfl
    ·intro r' hr'
     rcases List.mem_append.1 hr' with q1|q1
     ·exact(Ik.wi r' q1).le lx
     ·simp only [List.mem_cons,List.not_mem_nil,or_false] at q1
      rcases q1 with rfl|rfl
      ·exact o1
      ·exact o2
   ·have heq:r.acs.map ZM=(ZO r.acs (Qm q e)).map ZM:=by
     have e6:(!decide (r.acs.map ZM=(ZO r.acs (Qm q e)).map ZM))=false:=e6
     simpa using e6
    refine fin hk h46 aw cw RW st.rows (Hp.le_refl hk) M46 I.w Ik.wi ?_
    have h1:Yq (Qe q) p.rs=r.acs.map ZM:=by rw [e2];rfl
    have h2:Yq (Qe q) (p.rs++[Qm q e])=(ZO r.acs (Qm q e)).map ZM:=by rw [hacs];rfl
    rw [Qkn (fun q1=>q1.2 (by rw [h1,h2];exact heq)),List.append_nil]
 · -- it is new
  intro i a' c' a2' c2' hk hil hah hna hne lk Tk h19 l19 M19
  refine⟨_,_,_,_,_,_,_,_,_,_,_,rfl,?_⟩
  intro b27 hb27 h28 b29 hb29 h30
  refine M19.pair hb27 hb29 (by rfl) (by rfl) fun h32 M32 w27 w29 g27 g29=>⟨_,_,_,QQ w27 (Nat.le_of_ble_eq_true rfl),?_⟩
  refine M32.putK (j:=10) (Nat.le_of_ble_eq_true rfl) fun h27 M27 k27=>⟨false,fun q=>absurd q (by decide),fun _=>?_,fun q=>absurd q (by decide)⟩
  have keys:=QiU I.p
  have mapm:∀ x ∈ st.pn,∃ r ∈ R,r.k=x.k:=by
   intro x hx
   have:x.k ∈ R.map (·.k):=by rw [keys];exact List.mem_map.2 ⟨x,hx,rfl⟩
   obtain⟨r,hr,e1⟩:=List.mem_map.1 this
   exact⟨r,hr,e1⟩
  have hat:atP (s,Zq q e) st.pn=none:=by
   unfold atP
   rw [List.find?_eq_none]
   intro x hx q1
   obtain⟨r,hr,e1⟩:=mapm x hx
   exact hne r hr (by rw [e1];exact of_decide_eq_true q1)
  have hput:K7 (s,Zq q e) (Qm q e) st.pn=st.pn.take i++⟨(s,Zq q e),[Qm q e],false⟩ :: st.pn.drop i:=by
   refine Qd2 (by omega) (fun x hx=>?_) (fun x hx=>?_) (fun x hx q1=>?_)
   ·have:x.k ∈ (R.take i).map (·.k):=by rw [List.map_take,keys,←List.map_take];exact List.mem_map.2 ⟨x,hx,rfl⟩
    obtain⟨r,hr,e1⟩:=List.mem_map.1 this
    rw [←e1];exact hah r hr
   ·have h1:(R.map (·.k))[i]?=some x.k:=by rw [keys,List.getElem?_map,hx];rfl
    rw [List.getElem?_map,Option.map_eq_some_iff] at h1
    obtain⟨r,hr,e1⟩:=h1
    rw [←e1];exact hna r hr
   ·obtain⟨r,hr,e1⟩:=mapm x hx
    exact hne r hr (e1.trans q1)
  have hRl2:(R.take i++(⟨(s,Zq q e),a2',c2',ZO (Xk (Qe q)) (Qm q e),false⟩:PR) :: R.drop i).length=R.length+1:=by rw [List.length_append,List.length_cons,List.length_take,List.length_drop];omega
  have Ik:=Ij.le lk
  refine hK h27 (Hp.le_trans l0 (Hp.le_trans lj (Hp.le_trans lk M27.le0))) ⟨qf,hk,a1,n1,c1,a2,n2,c2,a3,n3,c3,ak,nk,ck,ar,cr,ac,nc,cc,a',c',aw,cw,_,RW,Hp.le_trans l0 (Hp.le_trans lj lk),?_,⟨I.f,Ik.qa,Ik.k,Ik.c,Tk,?_,?_,Ik.wi⟩⟩
  ·rw [hRl2];exact M27
  ·simp only [Qog]
   rw [hput,List.map_append,List.map_append,List.map_cons,List.map_cons,List.map_take,List.map_drop,List.map_take,List.map_drop,I.p]
   congr 1
  ·simp only [Qog]
   rw [hat,I.w]
   simp [MI]
theorem Qos {q:Qy}(Q:QOk q):QjR q:=by
 have w:q.wh.length≤40:=by
  by_cases h:q.wh=[]
  ·rw [h];exact Nat.zero_le _
  ·exact(Z4 (Q.w h)).2
 have b:q.by_.length≤40:=by
  by_cases h:q.by_=[]
  ·rw [h];exact Nat.zero_le _
  ·exact(Z4 (Q.b h)).2
 refine⟨by omega,by omega,fun a ha=>?_,by have:=Q.n2;omega⟩
 by_cases h:a.1=1
 ·rw [(Q.g a ha).2.2.2 h];exact Nat.zero_le _
 ·have:=(Z4 ((Q.g a ha).2.2.1 h)).2;omega
theorem Qow {q:Qy}(B:QOk q):Ul q=0:=by
 have h1:=B.n1
 have h2:=B.n2
 have hA:Q4 (q.aggs.map Xs)=0:=by
  refine Ju fun x hx=>?_
  obtain⟨a,ha,rfl⟩:=List.mem_map.1 hx
  obtain⟨g1,g2,g3,g4⟩:=B.g a ha
  unfold Xs
  rw [if_neg (by
   rintro(q1|q1|⟨q1,q2⟩)
   ·omega
   ·omega
   ·exact q2 (g4 q1))]
  split
  ·rfl
  ·rename_i h;exact B.ga a ha h
 unfold Ul
 rw [if_neg (by omega),if_neg (by rw [hA];simp)]
 unfold Qgl
 refine Ju fun x hx=>?_
 simp only [List.mem_cons,List.not_mem_nil,or_false] at hx
 rcases hx with rfl|rfl|rfl
 ·split
  ·rfl
  ·rename_i h;exact B.wa h
 ·split
  ·rfl
  ·rename_i h;exact B.ba h
 ·have h3:=B.s
  have h4:=B.l
  have h5:=B.d
  have h6:=B.t
  have h7:=B.r
  unfold Ky
  rw [if_neg (by omega),if_neg (by omega)]
def csE (vA v2 v3:Value)(q:Qy)(vK vR vC:Value):List Value:=[vA,v2,v3,vi q.size,vi q.slide,vi q.delay,vi q.late,vK,vR,vC,vsl none 0 0,vi 0,vsl none 0 0]
theorem Qct {α β:Type}(R:List (KR α β))(r:KR α β):Q7 (R++[r])=Q7 R++[(r.1,r.2.2)]:=by unfold Q7;rw [List.map_append];rfl
def Qp0 (a b:Ag):Prop:=b.1=a.1∧(a.1=1→b.2=[])∧(a.1≠1→Rep (fun e=>ZG e a.2) (tAt a.2 (a.2.length - 1)) a.2.length b.2)
theorem QpO:ElT Tryz.prog 25 96 2 32:=.of (by kernel_rfl) (by kernel_rfl) (by decide)
abbrev owI (a:Option Addr)(n c:Nat)(xs:List Value):Ow:=⟨3,1,a,n,c,xs⟩
def Qpo (q:Qy)(h0 h:Hp)(g parts:Nat):Prop:=
 ∃(qf:Qy) (hi:Hp) (a1:Option Addr) (n1 c1:Nat) (a2:Option Addr) (n2 c2:Nat) (a3:Option Addr) (n3 c3:Nat) (ak:Option Addr) (nk ck:Nat) (ar:Option Addr) (cr:Nat) (ac:Option Addr) (cc:Nat),
  h0.le hi∧QS hi h [owI ac parts cc ((List.replicate parts (-1:Int)).map vi),owI ar parts cr ((List.replicate parts (0:Nat)).map fun n:Nat=>vi n),ZX g 68 (W4 a1 n1 c1 a2 n2 c2 a3 n3 c3 qf ak nk ck ar parts cr ac parts cc none 0 0 0 none 0 0)] ∧
   NL q qf∧QAt hi qf a1 n1 a2 n2 a3 n3∧SlI hi ak nk (Qe q)
theorem Y7.of_owns {q qf:Qy}{h0 hi h:Hp}{g:Nat}{st:En}{a1:Option Addr}{n1 c1:Nat}{a2:Option Addr}{n2 c2:Nat}{a3:Option Addr}{n3 c3:Nat}{ak:Option Addr}{nk ck:Nat}{ar:Option Addr}{cr:Nat}{ac:Option Addr}{cc:Nat}{tb:Option Addr}{tc:Nat}{aw:Option Addr}{cw:Nat}{R:List PR}{RW:List (KR Vl (Bool × PK))}(l0:h0.le hi)
  (O:QS hi h [owI ac st.far.length cc (st.far.map vi),owI ar st.rd.length cr (st.rd.map fun n:Nat=>vi n),ZX g 68 (W4 a1 n1 c1 a2 n2 c2 a3 n3 c3 qf ak nk ck ar st.rd.length cr ac st.far.length cc tb R.length tc st.late aw RW.length cw),⟨83,5,tb,R.length,tc,R.flatMap Qi⟩,⟨89,5,aw,RW.length,cw,RW.flatMap (YU Xg)⟩])
  (F:NL q qf) (Q:QAt hi qf a1 n1 a2 n2 a3 n3) (K:SlI hi ak nk (Qe q)) (hR:∀ r ∈ R,Qg hi r.a (r.acs.flatMap YK)) (hW:∀ r ∈ RW,Qg hi r.2.1.1 (r.2.2.flatMap Qv)) (eR:R.map prT=st.pn.map (pnT (Qe q))) (eW:Q7 RW=st.rows.map Xo):Y7 q h0 h g st:=by
 obtain⟨hj,lj,Oj,kj⟩:=O.rebase (L':=[owI ar st.rd.length cr (st.rd.map fun n:Nat=>vi n),ZX g 68 (W4 a1 n1 c1 a2 n2 c2 a3 n3 c3 qf ak nk ck ar st.rd.length cr ac st.far.length cc tb R.length tc st.late aw RW.length cw),⟨89,5,aw,RW.length,cw,RW.flatMap (YU Xg)⟩]) (by
  refine List.Sublist.cons _ (List.Sublist.cons_cons _ (List.Sublist.cons_cons _ (List.Sublist.cons _ ?_)))
  exact List.Sublist.refl _)
 have keepR:∀(s:Ow) (k:Nat),(k=0∨k=3)→[owI ac st.far.length cc (st.far.map vi),owI ar st.rd.length cr (st.rd.map fun n:Nat=>vi n),ZX g 68 (W4 a1 n1 c1 a2 n2 c2 a3 n3 c3 qf ak nk ck ar st.rd.length cr ac st.far.length cc tb R.length tc st.late aw RW.length cw),⟨83,5,tb,R.length,tc,R.flatMap Qi⟩,⟨89,5,aw,RW.length,cw,RW.flatMap (YU Xg)⟩][k]?=some s→Qg hj s.a s.xs:=by
  intro s k hk hs
  have hrow:=(O.ownV (List.mem_of_getElem? hs)).row
  refine Qg.over hrow fun b o ob hb ho=>kj b ob ho fun t ht q1=>?_
  have hb0:o=0:=(O.own s (List.mem_of_getElem? hs)).at0 b o hb
  subst hb0
  simp only [List.mem_cons,List.not_mem_nil,or_false] at ht
  rcases ht with rfl|rfl|rfl
  ·exact O.apart hs (j:=1) rfl (by omega) hb q1
  ·exact O.apart hs (j:=2) rfl (by omega) hb q1
  ·exact O.apart hs (j:=4) rfl (by omega) hb q1
 have hcl:SlI hj ac st.far.length st.far:=⟨rfl,keepR _ 0 (.inl rfl) rfl⟩
 have hT:SlP Qi hj tb R.length R:=⟨rfl,keepR _ 3 (.inr rfl) rfl⟩
 refine⟨qf,hj,a1,n1,c1,a2,n2,c2,a3,n3,c3,ak,nk,ck,ar,cr,ac,st.far.length,cc,tb,tc,aw,cw,R,RW,Hp.le_trans l0 lj,⟨Oj.blk (List.mem_cons_of_mem _ (List.mem_cons_self ..)),Oj.new _ (List.mem_cons_of_mem _ (List.mem_cons_self ..)) g rfl,Oj.ownV (s:=owI ar st.rd.length cr (st.rd.map fun n:Nat=>vi n)) (List.mem_cons_self ..),Oj.ownV (s:=⟨89,5,aw,RW.length,cw,RW.flatMap (YU Xg)⟩) (by simp),fun q1=>?_,fun q1=>?_,fun b hb q1=>?_⟩,
  ⟨F,Q.le lj,K.le lj,hcl,⟨hT,fun r hr=>(hR r hr).le lj⟩,eR,eW,fun r hr=>(hW r hr).le lj⟩⟩
 ·exact Oj.apart (i:=0) (j:=1) rfl rfl (by decide) (b:=g) q1 rfl
 ·exact Oj.apart (i:=2) (j:=1) rfl rfl (by decide) (b:=g) q1 rfl
 ·exact Oj.apart (i:=0) (j:=2) rfl rfl (by decide) (b:=b) hb q1
set_option maxHeartbeats 1000000 in
theorem Vz {q:Qy}{a1:Option Addr}{n1 c1:Nat}{a2:Option Addr}{n2 c2:Nat}{a3:Option Addr}{n3 c3:Nat}{h:Hp}{p:Int}{R':Value→Hp→Prop}(Q:QAt h q a1 n1 a2 n2 a3 n3)(B:QOk q)
  (hbad:¬(1≤p∧p≤3)→∀ h',h.le h'→R' (Qf [vp none,ifv (some (80,vi 1))]) h')
  (hK:1≤p→p≤3→∀ g h',h.le h'→Qpo q h h' g p.toNat→R' (Qf [vhp g 0,ifv none]) h'):Qa Tryz.prog 10 [qV a1 n1 c1 a2 n2 c2 a3 n3 c3 q,vi p] h R':=by
 refine QfA ?_
 unfold NG
 have hn1:=Q.g.len
 have hn4:=B.n2
 refine VW Q (Qos B) fun h2 l2=>⟨_,rfl,?_⟩
 rw [Zj,decide_eq_true (Qow B)]
 refine⟨fun e=>(by cases e),fun _=>?_⟩
 refine Qhv (fun hp=>⟨_,_,_,_,rfl,fun _=>hbad hp h2 l2,fun e=>(by cases e)⟩) fun hp1 hp3 a7 n7 c7 h6 O6=>⟨_,_,_,_,rfl,fun e=>(by cases e),fun _=>?_⟩
 have l6:=Hp.le_trans l2 O6.le
 obtain⟨parts,rfl⟩:∃ n:Nat,p=(n:Int):=⟨p.toNat,by omega⟩
 rw [Int.toNat_natCast] at O6 hK
 refine Qe7 Vh (z:=[vi 0]) (by kernel_rfl) (n:=parts) (by omega) (by omega) fun b10 hb10=>⟨_,_,_,rfl,?_⟩
 have erep:(List.replicate parts [vi 0]).flatten=(List.replicate parts (0:Nat)).map fun n:Nat=>vi n:=by
  clear hK hbad O6 hp1 hp3
  induction parts with
  | zero=>rfl
  | succ n ih=>rw [List.replicate_succ,List.flatten_cons,ih,List.replicate_succ,List.map_cons];rfl
 rw [erep]
 have hrl:((List.replicate parts (0:Nat)).map fun n:Nat=>vi n).length=parts*1:=by rw [List.length_map,List.length_replicate,Nat.mul_one]
 have l11:h6.le (h6.set b10 (Qc ((List.replicate parts (0:Nat)).map fun n:Nat=>vi n) 3)):=Hp.le_set (Hp.le_refl _) hb10 _
 have hn7:parts=n7:=by rw [(O6.sli:SlI h6 a7 n7 (List.replicate parts (-1:Int))).1,List.length_replicate]
 subst hn7
 have OC:=(QS.nil (Hp.le_refl h2)).push O6.le (s:=owI a7 parts c7 ((List.replicate parts (-1:Int)).map vi)) O6.own (fun b hb=>O6.new b hb)
 have OR:=OC.push l11 (s:=⟨3,1,some ⟨b10,0,none⟩,parts,parts,(List.replicate parts (0:Nat)).map fun n:Nat=>vi n⟩) (QI.new h6 b10 3 _ hrl (by simp only [maxLen];omega)) (fun b hb=>by cases hb;exact hb10)
 generalize h6.set b10 (Qc ((List.replicate parts (0:Nat)).map fun n:Nat=>vi n) 3)=h11 at l11 OR
 intro b13 hb13 h14
 have l14:h11.le h14:=Hp.le_set (Hp.le_refl _) hb13 _
 have OB:=OR.push l14 (s:=ZX b13 68 (csE (vsl a1 n1 c1) (vsl a2 n2 c2) (vsl a3 n3 c3) q (vsl none 0 0) (vsl (some ⟨b10,0,none⟩) parts parts) (vsl a7 parts c7))) (Qep (Hp.set_same _ _ _)) (fun b hb=>by cases hb;exact hb13)
 clear_value h14
 have OA:=OB.push (Hp.le_refl h14) (s:=⟨96,2,none,0,0,[]⟩) (QI.nil _ _ _) (fun b hb=>by cases hb)
 have OK:=OA.push (Hp.le_refl h14) (s:=⟨3,1,none,0,0,[]⟩) (QI.nil _ _ _) (fun b hb=>by cases hb)
 simp only [List.nil_append,List.cons_append] at OK
 refine OK.put (j:=2) rfl (i:=0) (Nat.le_of_ble_eq_true rfl) fun h15 O15 _=>?_
 have Q6:=Q.le l2
 generalize hcs:owI a7 parts c7 ((List.replicate parts (-1:Int)).map vi)=clS at O15
 generalize hrd:(⟨3,1,some ⟨b10,0,none⟩,parts,parts,(List.replicate parts (0:Nat)).map fun n:Nat=>vi n⟩:Ow)=rdS at O15
 refine⟨fun vs hh=>∃(i:Nat) (hi:Hp) (aA:Option Addr) (cA:Nat) (RA:List (KR Nd Int)) (aK:Option Addr) (cK:Nat),vs=[vi i]∧i≤q.aggs.length∧h2.le hi∧RA.length=i ∧
   QS hi hh [clS,rdS,ZX b13 68 (csE (vsl aA i cA) (vsl a2 n2 c2) (vsl a3 n3 c3) q (vsl aK i cK) (vsl (some ⟨b10,0,none⟩) parts parts) (vsl a7 parts c7)),⟨96,2,aA,i,cA,RA.flatMap (YU Ny)⟩,⟨3,1,aK,i,cK,((Qe q).take i).map vi⟩] ∧
   (∀ r ∈ RA,Qg hi r.2.1.1 (r.2.2.flatMap Zo))∧∀(j:Nat) (a b:Ag),q.aggs[j]?=some a→(Q7 RA)[j]?=some b→Qp0 a b,
  fun vs hh=>q.aggs.length - (Qn vs 0).toNat,⟨0,h2,none,0,[],none,0,rfl,Nat.zero_le _,Hp.le_refl h2,rfl,O15,fun r hr=>(by cases hr),fun j a b _ hb=>by simp [Q7] at hb⟩,?_⟩
 rintro vs hh ⟨i,hi,aA,cA,RA,aK,cK,rfl,hi',lhi,hRl,O,hin,hag⟩
 refine⟨i,rfl,fun e1=>?_,fun e1=>?_⟩
 ·have hlt:i < q.aggs.length:=by have:=of_decide_eq_true e1;omega
  have hx:q.aggs[i]?=some q.aggs[i]:=List.getElem?_eq_getElem hlt
  have hg:=B.g _ (List.getElem_mem hlt)
  have hkt:(Qe q).take (i+1)=(Qe q).take i++[(q.aggs[i]).1]:=by
   rw [List.take_succ_eq_append_getElem (by rw [QC];exact hlt)]
   congr 2
   unfold Qe
   rw [List.getElem_map]
  generalize q.aggs[i]=ag at *
  obtain⟨b,o,a',c',ha,hrow,hS⟩:=((Q6.le lhi).g).row Wt (by decide) hx
  refine⟨b,o,⟨ha,by omega,by omega⟩,ag.1,a',ag.2.length,c',by rw [Int.toNat_natCast];exact Hp.row_le O.le hrow,?_⟩
  intro J33
  have hJ:∀(a38:Option Addr) (n38 c38:Nat) (hk h39:Hp) (z:List Nd),hi.le hk→QS hk h39 [clS,rdS,ZX b13 68 (csE (vsl aA i cA) (vsl a2 n2 c2) (vsl a3 n3 c3) q (vsl aK i cK) (vsl (some ⟨b10,0,none⟩) parts parts) (vsl a7 parts c7)),⟨96,2,aA,i,cA,RA.flatMap (YU Ny)⟩,⟨3,1,aK,i,cK,((Qe q).take i).map vi⟩]→n38=z.length→Qg hk a38 (z.flatMap Zo)→Qp0 ag (ag.1,z)→J33 a38 n38 c38 h39:=by
   intro a38 n38 c38 hk h39 z lk Ok hn38 hz hA
   refine⟨_,_,_,Qb (Ok.blk (List.mem_cons_of_mem _ (List.mem_cons_of_mem _ (List.mem_cons_self ..)))) rfl,?_⟩
   intro b41 hb41 h42
   refine Ok.app (j:=3) rfl QpO (tn:=96) (m:=1) (news:=[vi ag.1,vsl a38 n38 c38]) hb41 rfl (by intro u hu;simp at hu;rcases hu with rfl|rfl<;>rfl) (by simp only;omega) (by simp only;omega) fun aA' cA' h44 O44 _=>⟨_,_,_,rfl,?_⟩
   simp only [List.set_cons_succ,List.set_cons_zero] at O44
   refine O44.put (j:=2) rfl (i:=0) (Nat.le_of_ble_eq_true rfl) fun h46 O46 _=>?_
   simp only [List.set_cons_succ,List.set_cons_zero,csE] at O46
   refine⟨_,_,_,Qb (O46.blk (List.mem_cons_of_mem _ (List.mem_cons_of_mem _ (List.mem_cons_self ..)))) rfl,?_⟩
   intro b48 hb48 h49
   refine O46.app (j:=4) rfl Vh (tn:=3) (m:=1) (news:=[vi ag.1]) hb48 rfl (by intro u hu;simp at hu;rcases hu with rfl;rfl) (by simp only;omega) (by simp only;omega) fun aK' cK' h51 O51 _=>⟨_,_,_,rfl,?_⟩
   simp only [List.set_cons_succ,List.set_cons_zero] at O51
   refine O51.put (j:=2) rfl (i:=7) (Nat.le_of_ble_eq_true rfl) fun h53 O53 _=>?_
   simp only [List.set_cons_succ,List.set_cons_zero] at O53
   refine⟨_,isW (by unfold InR;omega),⟨i+1,hk,aA',cA',RA++[(ag.1,(a38,c38),z)],aK',cK',by simp,by omega,Hp.le_trans lhi lk,by simp [hRl],?_,?_,?_⟩,by simp [Qn];omega⟩
   ·rw [hkt,List.map_append,List.flatMap_append]
    have e3:([(ag.1,(a38,c38),z)]:List (KR Nd Int)).flatMap (YU Ny)=[vi ag.1,vsl a38 n38 c38]:=by rw [hn38];rfl
    rw [e3]
    exact O53
   ·intro r hr
    rcases List.mem_append.1 hr with q1|q1
    ·exact(hin r q1).le lk
    ·rw [List.mem_singleton.1 q1];exact hz
   ·intro j a b h1 h2
    have hgl:(Q7 RA).length=i:=by simp [Q7,hRl]
    rw [Qct] at h2
    rcases Nat.lt_or_ge j i with q1|q1
    ·rw [List.getElem?_append_left (by omega)] at h2
     exact hag j a b h1 h2
    ·rw [List.getElem?_append_right (by omega)] at h2
     have hj:j=i:=by
      have:=(List.getElem?_eq_some_iff.1 h2).1
      simp at this
      omega
     subst hj
     rw [hgl,Nat.sub_self] at h2
     cases h2
     rw [hx] at h1
     cases h1
     exact hA
  clear_value J33
  refine⟨fun e2=>?_,fun e2=>?_⟩
  ·have hne:ag.1≠1:=of_decide_eq_true e2
   obtain⟨OE,hlen⟩:=Z4 (hg.2.2.1 hne)
   refine O.frame (U5 hS OE (by omega) fun az nz cz hk z lk NSz Rp h29 l29 O29=>⟨_,_,_,rfl,?_⟩)
   exact hJ az nz cz hk h29 z lk O29 NSz.s.1 NSz.s.2 ⟨rfl,fun q1=>absurd q1 hne,fun _=>Rp⟩
  ·have he:ag.1=1:=Decidable.not_not.1 (of_decide_eq_false e2)
   have hz:=hg.2.2.2 he
   refine hJ a' ag.2.length c' hi hh [] (Hp.le_refl hi) O (by rw [hz]) (.inl rfl) ⟨rfl,fun _=>rfl,fun q1=>absurd he q1⟩
 ·have hge:i=q.aggs.length:=by have:=of_decide_eq_false e1;omega
  subst hge
  rw [List.take_of_length_le (by rw [QC];exact Nat.le_refl _)] at O
  obtain⟨hj,lj,Oj,kj⟩:=O.rebase (L':=[clS,rdS,ZX b13 68 (csE (vsl aA q.aggs.length cA) (vsl a2 n2 c2) (vsl a3 n3 c3) q (vsl aK q.aggs.length cK) (vsl (some ⟨b10,0,none⟩) parts parts) (vsl a7 parts c7))]) (by simp)
  have keepR:∀(s:Ow) (k:Nat),(k=3∨k=4)→[clS,rdS,ZX b13 68 (csE (vsl aA q.aggs.length cA) (vsl a2 n2 c2) (vsl a3 n3 c3) q (vsl aK q.aggs.length cK) (vsl (some ⟨b10,0,none⟩) parts parts) (vsl a7 parts c7)),⟨96,2,aA,q.aggs.length,cA,RA.flatMap (YU Ny)⟩,⟨3,1,aK,q.aggs.length,cK,(Qe q).map vi⟩][k]?=some s→Qg hj s.a s.xs:=by
   intro s k hk hs
   have hrow:=(O.ownV (List.mem_of_getElem? hs)).row
   refine Qg.over hrow fun b o ob hb ho=>kj b ob ho fun t ht q1=>?_
   have hb0:o=0:=(O.own s (List.mem_of_getElem? hs)).at0 b o hb
   subst hb0
   simp only [List.mem_cons,List.not_mem_nil,or_false] at ht
   rcases ht with rfl|rfl|rfl
   ·exact O.apart hs (j:=0) rfl (by omega) hb q1
   ·exact O.apart hs (j:=1) rfl (by omega) hb q1
   ·exact O.apart hs (j:=2) rfl (by omega) hb q1
  have hgA:NT Zo Ny hj aA q.aggs.length (Q7 RA):=⟨RA,rfl,by simp [Q7,hRl],keepR _ 3 (.inl rfl) rfl,fun r hr=>(hin r hr).le lj⟩
  have hkK:SlI hj aK q.aggs.length (Qe q):=⟨by rw [QC],keepR _ 4 (.inr rfl) rfl⟩
  have Qj:=Q6.le (Hp.le_trans lhi lj)
  have l0j:h.le hj:=Hp.le_trans l2 (Hp.le_trans lhi lj)
  have hgl:(Q7 RA).length=q.aggs.length:=by simp [Q7,hRl]
  clear O keepR hin kj
  -- all of it is there
  have fin:∀(hk h':Hp) (w2:Option Addr) (m2 d2:Nat) (w3:Option Addr) (m3 d3:Nat) (wh by_:List Nd),hj.le hk→QS hk h' [clS,rdS,ZX b13 68 (csE (vsl aA q.aggs.length cA) (vsl w2 m2 d2) (vsl w3 m3 d3) q (vsl aK q.aggs.length cK) (vsl (some ⟨b10,0,none⟩) parts parts) (vsl a7 parts c7))]→SlP Zo hk w2 m2 wh→SlP Zo hk w3 m3 by_→NL q { q with aggs:=Q7 RA,wh:=wh,by_:=by_ }→R' (Qf [vhp b13 0,ifv none]) h':=by
   intro hk h' w2 m2 d2 w3 m3 d3 wh by_ lk Ok S2 S3 F
   rw [←hrd,←hcs] at Ok
   exact hK hp1 hp3 b13 h' (Hp.le_trans l0j (Hp.le_trans lk Ok.le)) ⟨{ q with aggs:=Q7 RA,wh:=wh,by_:=by_ },hk,aA,q.aggs.length,cA,w2,m2,d2,w3,m3,d3,aK,q.aggs.length,cK,some ⟨b10,0,none⟩,parts,a7,c7,Hp.le_trans l0j lk,Ok,F,⟨hgA.le lk,S2,S3⟩,hkK.le lk⟩
  have F0:∀ wh by_,(q.wh=[]→wh=[])→(q.wh≠[]→Rep (fun e=>ZG e q.wh) (tAt q.wh (q.wh.length - 1)) q.wh.length wh)→(q.by_=[]→by_=[])→(q.by_≠[]→Rep (fun e=>ZG e q.by_) (tAt q.by_ (q.by_.length - 1)) q.by_.length by_)→NL q { q with aggs:=Q7 RA,wh:=wh,by_:=by_ }:=
   fun wh by_ f1 f2 f3 f4=>⟨rfl,rfl,rfl,rfl,hgl,hag,f1,f2,f3,f4⟩
  intro J62
  have hJ62:∀(hk h':Hp) (w2:Option Addr) (m2 d2:Nat) (wh:List Nd),hj.le hk→QS hk h' [clS,rdS,ZX b13 68 (csE (vsl aA q.aggs.length cA) (vsl w2 m2 d2) (vsl a3 n3 c3) q (vsl aK q.aggs.length cK) (vsl (some ⟨b10,0,none⟩) parts parts) (vsl a7 parts c7))]→SlP Zo hk w2 m2 wh→(q.wh=[]→wh=[])→(q.wh≠[]→Rep (fun e=>ZG e q.wh) (tAt q.wh (q.wh.length - 1)) q.wh.length wh)→J62 h':=by
   intro hk h' w2 m2 d2 wh lk Ok S2 f1 f2
   have hJ70:∀(hl h'':Hp) (w3:Option Addr) (m3 d3:Nat) (by_:List Nd),hk.le hl→QS hl h'' [clS,rdS,ZX b13 68 (csE (vsl aA q.aggs.length cA) (vsl w2 m2 d2) (vsl w3 m3 d3) q (vsl aK q.aggs.length cK) (vsl (some ⟨b10,0,none⟩) parts parts) (vsl a7 parts c7))]→SlP Zo hl w3 m3 by_→(q.by_=[]→by_=[])→(q.by_≠[]→Rep (fun e=>ZG e q.by_) (tAt q.by_ (q.by_.length - 1)) q.by_.length by_)→R' (Qf [vhp b13 0,ifv none]) h'':=
    fun hl h'' w3 m3 d3 by_ ll Ol S3 f3 f4=>fin hl h'' w2 m2 d2 w3 m3 d3 wh by_ (Hp.le_trans lk ll) Ol (S2.le ll) S3 (F0 wh by_ f1 f2 f3 f4)
   refine⟨fun e2=>?_,fun e2=>?_⟩
   ·have hne:q.by_≠[]:=by
     intro q1
     have:=of_decide_eq_true e2
     rw [Q.b.1,q1] at this
     simp at this
    obtain⟨OE,hlen⟩:=Z4 (B.b hne)
    refine Ok.frame (U5 (Qj.b.le lk) OE (by omega) fun az nz cz hl z ll NSz Rp h65 l65 O65=>⟨_,_,_,rfl,?_⟩)
    refine O65.put (j:=2) rfl (i:=2) (Nat.le_of_ble_eq_true rfl) fun h67 O67 _=>?_
    exact hJ70 hl h67 az nz cz z ll O67 NSz.s (fun q1=>absurd q1 hne) (fun _=>Rp)
   ·have he:q.by_=[]:=by
     have:=of_decide_eq_false e2
     rw [Q.b.1] at this
     exact List.length_eq_zero_iff.1 (by omega)
    exact hJ70 hk h' a3 n3 c3 q.by_ (Hp.le_refl hk) Ok (Qj.b.le lk) (fun q1=>q1) (fun q1=>absurd he q1)
  clear_value J62
  refine⟨fun e2=>?_,fun e2=>?_⟩
  ·have hne:q.wh≠[]:=by
    intro q1
    have:=of_decide_eq_true e2
    rw [Q.w.1,q1] at this
    simp at this
   obtain⟨OE,hlen⟩:=Z4 (B.w hne)
   refine Oj.frame (U5 Qj.w OE (by omega) fun az nz cz hl z ll NSz Rp h57 l57 O57=>⟨_,_,_,rfl,?_⟩)
   refine O57.put (j:=2) rfl (i:=1) (Nat.le_of_ble_eq_true rfl) fun h59 O59 _=>?_
   exact hJ62 hl h59 az nz cz z ll O59 NSz.s (fun q1=>absurd q1 hne) (fun _=>Rp)
  ·have he:q.wh=[]:=by
    have:=of_decide_eq_false e2
    rw [Q.w.1] at this
    exact List.length_eq_zero_iff.1 (by omega)
   exact hJ62 hj hh a2 n2 c2 q.wh (Hp.le_refl hj) Oj Qj.w (fun q1=>q1) (fun q1=>absurd he q1)
theorem Qpo.engX {q:Qy}{h0 h:Hp}{g parts:Nat}(X:Qpo q h0 h g parts):Y7 q h0 h g (WX parts):=by
 obtain⟨qf,hi,a1,n1,c1,a2,n2,c2,a3,n3,c3,ak,nk,ck,ar,cr,ac,cc,l0,O,F,Q,K⟩:=X
 have O1:=O.push (Hp.le_refl h) (s:=⟨83,5,none,0,0,[]⟩) (QI.nil _ _ _) (fun b hb=>by cases hb)
 have O2:=O1.push (Hp.le_refl h) (s:=⟨89,5,none,0,0,[]⟩) (QI.nil _ _ _) (fun b hb=>by cases hb)
 simp only [List.cons_append,List.nil_append] at O2
 refine Y7.of_owns (R:=[]) (RW:=[]) (tc:=0) (cw:=0) (tb:=none) (aw:=none) (c1:=c1) (c2:=c2) (c3:=c3) (ck:=ck) (ar:=ar) (cr:=cr) (ac:=ac) (cc:=cc) l0 ?_ F Q K (fun r hr=>by cases hr) (fun r hr=>by cases hr) rfl rfl
 simp only [WX,List.length_replicate]
 exact O2
theorem Nn {q:Qy}{a1:Option Addr}{n1 c1:Nat}{a2:Option Addr}{n2 c2:Nat}{a3:Option Addr}{n3 c3:Nat}{h:Hp}{p:Int}{R':Value→Hp→Prop}(Q:QAt h q a1 n1 a2 n2 a3 n3)(B:QOk q)
  (hbad:¬(1≤p∧p≤3)→∀ h',h.le h'→R' (Qf [vp none,ifv (some (80,vi 1))]) h')
  (hK:1≤p→p≤3→∀ g h',h.le h'→Y7 q h h' g (WX p.toNat)→R' (Qf [vhp g 0,ifv none]) h'):Qa Tryz.prog 10 [qV a1 n1 c1 a2 n2 c2 a3 n3 c3 q,vi p] h R':=
 Vz Q B hbad fun h1 h3 g h' l X=>hK h1 h3 g h' l X.engX
theorem Qbf {ks:List Int}{C:List PR→List Pn→Prop}(h0:C [] [])(h1:∀ r R p L,prT r=pnT ks p→R.map prT=L.map (pnT ks)→C R L→C (r :: R) (p :: L)):∀{R:List PR} {L:List Pn},R.map prT=L.map (pnT ks)→C R L
 | [],[],_=>h0
 | [],_ :: _,h=>by simp at h
 | _ :: _,[],h=>by simp at h
 | r :: R,p :: L,h=>by
  simp only [List.map_cons,List.cons.injEq] at h
  exact h1 r R p L h.1 h.2 (Qbf h0 h1 h.2)
theorem Qjp {ks:List Int}{r:PR}{p:Pn}(h:prT r=pnT ks p):r.k=p.k∧r.acs=Wa ks p.rs∧r.t=p.t:=by
 simp only [prT,pnT,Prod.mk.injEq] at h
 exact h
theorem Qng {ks:List Int}{size u:Int}{R:List PR}{L:List Pn}(h:R.map prT=L.map (pnT ks)):(R.map (Zx size u)).map prT=(YS size u L).map (pnT ks):=by
 refine Qbf (C:=fun R L=>(R.map (Zx size u)).map prT=(YS size u L).map (pnT ks)) rfl (fun r R p L h1 h2 ih=>?_) h
 obtain⟨e1,e2,e3⟩:=Qjp h1
 unfold YS at ih ⊢
 simp only [List.map_cons,ih]
 congr 1
 simp only [prT,pnT,Zx,Qiv,QbM,e1,e2,e3]
theorem Qmo {ks:List Int}{size u:Int}{R:List PR}{L:List Pn}(h:R.map prT=L.map (pnT ks)):(R.filter fun r=>!decide (r.k.1+size≤u)).map prT=(V8 size u L).map (pnT ks):=by
 refine Qbf (C:=fun R L=>(R.filter fun r=>!decide (r.k.1+size≤u)).map prT=(V8 size u L).map (pnT ks)) rfl (fun r R p L h1 h2 ih=>?_) h
 obtain⟨e1,e2,e3⟩:=Qjp h1
 unfold V8 QbM at ih ⊢
 rw [List.filter_cons,List.filter_cons,e1]
 split
 ·rw [List.map_cons,List.map_cons,ih,h1]
 ·exact ih
theorem Qor {ks:List Int}{size u:Int}{R:List PR}{L:List Pn}(h:R.map prT=L.map (pnT ks)):((R.filter (Yk size u)).map Zc).map (fun r=>(r.k,r.acs))=(Qab size u L).map (fun p=>(p.k,Wa ks p.rs)):=by
 refine Qbf (C:=fun R L=>((R.filter (Yk size u)).map Zc).map (fun r=>(r.k,r.acs))=(Qab size u L).map (fun p=>(p.k,Wa ks p.rs))) rfl (fun r R p L h1 h2 ih=>?_) h
 obtain⟨e1,e2,e3⟩:=Qjp h1
 unfold Qab at ih ⊢
 have hc:Yk size u r=(!p.t&&QbM size u p):=by unfold Yk Qiv QbM;rw [e1,e3]
 rw [List.filter_cons,List.filter_cons,hc]
 split
 ·rw [List.map_cons,List.map_cons,List.map_cons,ih]
  simp only [Zc,e1,e2]
 ·exact ih
def Qoc (f d:Int):Int:=if f < 0 then 0 else f - d
theorem QeC {a:Option Addr}{n c:Nat}{l:List Int}{p d:Int}{h:Hp}{R:Value→Hp→Prop}(S:SlI h a n l)(hp:0≤p)(hp':p < n)(hr:InR (l.getD p.toNat 0 - d))
  (hK:R (Qf [vi (Qoc (l.getD p.toNat 0) d),vb (decide (0≤l.getD p.toNat 0))]) h):Qa Tryz.prog 36 [vag [vsl a n c],vi p,vi d] h R:=by
 refine Nj S hp hp' hr ?_
 unfold Qoc at hK
 split
 ·rename_i h1
  rw [if_pos h1,decide_eq_false (by omega)] at hK
  exact hK
 ·rename_i h1
  rw [if_neg h1,decide_eq_true (by omega)] at hK
  exact hK
set_option maxHeartbeats 4000000 in
theorem VC {q:Qy}{h0 h:Hp}{g parts N p:Nat}{st:En}{e:EvL}{R':Value→Hp→Prop}(X:Y7 q h0 h g st)(B:QOk q)(E:WC e)(HB:EnB q parts N st)(hN:N≤700000)(hp:p < parts)(hparts:parts≤1000)
  (hK:∀ h',h0.le h'→Y7 q h0 h' g (XL q p e st)→R' (Qf []) h'):Qa Tryz.prog 14 [vhp g 0,vi p,vag (Vu e)] h R':=by
 refine Vv ?_
 unfold Wl
 have hd:=B.d
 have ht:=B.t
 have hs:=B.s
 have hsl:=B.l
 have hEt:=E.t
 have hfl:=HB.fl
 have hrl:=HB.rl
 have X0:=X
 obtain⟨qf,hi,a1,n1,c1,a2,n2,c2,a3,n3,c3,ak,nk,ck,ar,cr,ac,nc,cc,tb,tc,aw,cw,R,RW,l0,M,I⟩:=X
 have hnc:nc=st.far.length:=I.c.1
 have hfp:st.far.getD p 0 ∈ st.far:=by rw [List.getD_eq_getElem?_getD,List.getElem?_eq_getElem (by omega)];exact List.getElem_mem _
 have hfb:=HB.fb _ hfp
 have F:=I.f
 refine⟨_,_,_,QQ M.blk (Nat.le_of_ble_eq_true rfl),_,Qb M.blk rfl,?_⟩
 refine QeC (p:=(p:Int)) (d:=qf.delay) (I.c.le M.le0) (by omega) (by omega) (by rw [Int.toNat_natCast,F.de];unfold InR;omega) ⟨_,_,rfl,?_⟩
 rw [Int.toNat_natCast,F.de]
 have hn:(decide ((((n2:Nat):Int):Int)=0))=decide (q.wh=[]):=by
  rw [I.qa.w.1]
  refine decide_eq_decide.2 ⟨fun h=>F.wn.1 (List.length_eq_zero_iff.1 (by omega)),fun h=>by rw [F.wn.2 h];rfl⟩
 refine⟨_,_,_,Qb M.blk rfl,_,_,_,fun _=>Qb M.blk rfl,?_⟩
 rw [hn]
 refine⟨fun x hh=>h.le hh∧(q.wh≠[]→x=.t (.ag [.v (vi (ZG e q.wh).1),.v (vi (ZG e q.wh).2)])),fun e1=>?_,fun e1=>⟨Hp.le_refl h,fun hw=>absurd (decide_eq_false hw) e1⟩,?_⟩
 ·have hw:q.wh≠[]:=of_decide_eq_false e1
  have Rp:=F.w1 hw
  have hlq:=(Z4 (B.w hw)).2
  refine QeM Rp.ok (by have:=Rp.len;omega) (I.qa.w.le M.le0) fun h' l'=>⟨_,_,rfl,l',fun _=>by rw [Rp.val e E]⟩
 rintro h14 x15 x16 ⟨l14,e14⟩
 refine⟨fun x hh=>h.le hh∧(q.wh≠[]→x=.t (.ag [.v (vi (Zd true).1),.v (vi (Zd true).2)])),fun e1=>QM ⟨_,_,rfl,l14,fun _=>rfl⟩,fun e1=>⟨l14,fun hw=>absurd (decide_eq_false hw) e1⟩,?_⟩
 rintro h22 x23 x24 ⟨l22,e22⟩
 refine⟨decide (ZG e q.wh=Zd true),fun e1=>?_,?_⟩
 ·have hw:q.wh≠[]:=of_decide_eq_false e1
  have e14:=e14 hw
  have e22:=e22 hw
  cases e14
  cases e22
  exact Xz
 have hask:(bif (decide (q.wh=[])) then true else decide (ZG e q.wh=Zd true))=QiW q e:=by
  unfold QiW
  cases decide (q.wh=[])<;>rfl
 rw [hask]
 intro J58
 have X22:=X0.le l22
 have hJ:∀ h59,Y7 q h0 h59 g (Yf q (st.far.getD p 0) e st)→J58 h59:=by
  intro h59 X59
  have HB2:=Qey B HB E (far:=st.far.getD p 0)
  obtain⟨ws1,ws2⟩:=Qaf (q:=q) (far:=st.far.getD p 0) (e:=e) (st:=st)
  generalize hst2:Yf q (st.far.getD p 0) e st=st2 at X59 HB2 ws1 ws2
  clear M I X0 X22 l14 e14 l22 e22 hn hask
  obtain⟨qf,hi,a1,n1,c1,a2,n2,c2,a3,n3,c3,ak,nk,ck,ar,cr,ac,nc,cc,tb,tc,aw,cw,R,RW,l0,M,I⟩:=X59
  have F:=I.f
  have hrl2:=HB2.rl
  have hfl2:=HB2.fl
  have hnc:nc=st2.far.length:=I.c.1
  have hRl:R.length=st2.pn.length:=by have:=congrArg List.length I.p;simpa using this
  have hpl:=HB2.pl
  have hwl:=HB2.wl
  have hWl:RW.length=st2.rows.length:=by have:=congrArg List.length I.w;simpa [Q7] using this
  have hrm:st2.rd.getD p 0 ∈ st2.rd:=by rw [List.getD_eq_getElem?_getD,List.getElem?_eq_getElem (by omega)];exact List.getElem_mem _
  have hrb:=HB2.rb _ hrm
  have hao:=QmN HB2 (by omega) I.p
  obtain⟨bR,eR,hcR,HR⟩:=M.read (p:=p) (x:=st2.rd.getD p 0+1) (by omega)
  have hbd:ar=some ⟨bR,0,none⟩∧(0:Int)≤(p:Int)∧(p:Int) < ((st2.rd.length:Nat):Int):=⟨eR,by omega,by omega⟩
  refine⟨_,_,_,Qb M.blk rfl,bR,0,hbd,((st2.rd.getD p 0:Nat):Int),hcR,_,isW (by unfold InR;omega),bR,0,hbd,?_⟩
  have ec:((st2.rd.getD p 0:Nat):Int)+1=((st2.rd.getD p 0+1:Nat):Int):=by omega
  rw [ec]
  refine HR _ fun h67 M67=>?_
  refine⟨_,_,_,QQ M67.blk (Nat.le_of_ble_eq_true rfl),?_⟩
  refine Qhg (p:=(p:Int)) (I.c.le M67.le0) (by omega) (by omega) (by omega) fun a71 c71 h70 O70=>⟨_,_,_,rfl,?_⟩
  rw [Int.toNat_natCast] at O70
  obtain⟨hj,lj,Mj,trj,_⟩:=M67.rebase_new O70.le
  have hclk:SlI hj a71 nc (see st2.far p e.1):=⟨by rw [Qan];exact hnc,trj _ _ O70.row fun b o hb=>O70.new b (by rw [hb,QI.at0 O70.own b o hb])⟩
  refine Mj.put (j:=9) (Nat.le_of_ble_eq_true rfl) fun h72 M72=>?_
  have I72:Qkg q qf hj a1 n1 a2 n2 a3 n3 ak nk a71 nc tb R RW (Xh p e st2):=⟨F,I.qa.le lj,I.k.le lj,hclk,I.t.le lj,I.p,I.w,fun r hr=>(I.wi r hr).le lj⟩
  have hstep:XL q p e st=MW q (Xh p e st2):=by unfold XL;rw [hst2]
  rw [hstep] at hK
  have hlr:(st2.rd.set p (st2.rd.getD p 0+1)).length=st2.rd.length:=List.length_set
  refine⟨_,_,_,QQ M72.blk (Nat.le_of_ble_eq_true rfl),_,Qb M72.blk rfl,?_⟩
  rw [F.de]
  refine QhK (hclk.le M72.le0) (by omega) (QgP _ _ _ HB2.fb hEt (by omega)) hd ⟨_,_,rfl,fun e1=>?_,fun e1=>?_⟩
  ·have e2:(KQ q.delay (see st2.far p e.1)).2=false:=by simpa using e1
   have hend:MW q (Xh p e st2)=Xh p e st2:=by
    unfold MW
    rw [if_neg]
    show ¬(KQ q.delay (see st2.far p e.1)).2=true
    rw [e2];decide
   rw [hend] at hK
   refine hK h72 (Hp.le_trans l0 (Hp.le_trans lj M72.le0)) ⟨qf,hj,a1,n1,c1,a2,n2,c2,a3,n3,c3,ak,nk,ck,ar,cr,a71,nc,c71,tb,tc,aw,cw,R,RW,Hp.le_trans l0 lj,?_,I72⟩
   show Yd hj h72 g (W4 a1 n1 c1 a2 n2 c2 a3 n3 c3 qf ak nk ck ar (st2.rd.set p (st2.rd.getD p 0+1)).length cr a71 nc c71 tb R.length tc st2.late aw RW.length cw) ar cr (st2.rd.set p (st2.rd.getD p 0+1)) aw RW.length cw (RW.flatMap (YU Xg))
   rw [hlr]
   exact M72
  ·have e2:(KQ q.delay (see st2.far p e.1)).2=true:=by simpa using e1
   have hend:MW q (Xh p e st2)={ Xh p e st2 with pn:=V8 q.size ((KQ q.delay (see st2.far p e.1)).1 - q.late) (YS q.size (KQ q.delay (see st2.far p e.1)).1 st2.pn),rows:=st2.rows++(Qab q.size (KQ q.delay (see st2.far p e.1)).1 st2.pn).map (QaS (Qe q)) }:=by
    unfold MW
    rw [if_pos (show (KQ q.delay (Xh p e st2).far).2=true from e2)]
    rfl
   rw [hend] at hK
   have hub:-1001≤(KQ q.delay (see st2.far p e.1)).1∧(KQ q.delay (see st2.far p e.1)).1≤9999:=by
    have hsa:=QgP st2.far p e.1 HB2.fb hEt (by omega)
    unfold KQ
    split
    ·simp only
     split
     ·omega
     ·rename_i hne
      have:=hsa _ (QeA hne)
      omega
    ·simp only;omega
   generalize (KQ q.delay (see st2.far p e.1)).1=u at *
   refine⟨_,_,_,QQ M72.blk (Nat.le_of_ble_eq_true rfl),_,Qb M72.blk rfl,?_⟩
   rw [F.sz]
   refine Yd.frame M72 (Qfr (size:=q.size) (upto:=u) I72.t (by omega) (fun r hr=>by have:=(hao r hr).2.2;unfold InR;omega) fun a84 c84 a85 c85 hk lk Tk TN h83 l83 M83=>⟨_,_,_,_,_,_,rfl,?_⟩)
   have Ik:=I72.le lk
   have hNm:∀ r ∈ (R.filter (Yk q.size u)).map Zc,r.acs.length≤1000:=by
    intro r hr
    obtain⟨r0,h0',rfl⟩:=List.mem_map.1 hr
    have:=(hao r0 (List.mem_filter.1 h0').1).1
    have h4:=B.n2
    rw [QC] at this
    show r0.acs.length≤1000
    omega
   have hNeq:((R.filter (Yk q.size u)).map Zc).map (fun r=>((false,r.k),r.acs.map ZM))=((Qab q.size u st2.pn).map (QaS (Qe q))).map Xo:=by
    have:=congrArg (List.map fun x:PK × List AcS=>(((false,x.1),x.2.map ZM):(Bool × PK) × List Vl)) (Qor (size:=q.size) (u:=u) I.p)
    simp only [List.map_map] at this ⊢
    exact this
   have hNl:((R.filter (Yk q.size u)).map Zc).length≤R.length:=by rw [List.length_map];exact List.length_filter_le _ _
   generalize (R.filter (Yk q.size u)).map Zc=NN at *
   refine⟨fun vs hh=>∃(i:Nat) (hx:Hp) (aw':Option Addr) (cw':Nat) (RW':List (KR Vl (Bool × PK))),vs=[vi i]∧i≤NN.length∧hk.le hx∧Yd hx hh g (W4 a1 n1 c1 a2 n2 c2 a3 n3 c3 qf ak nk ck ar st2.rd.length cr a71 nc c71 tb R.length tc st2.late aw' RW'.length cw') ar cr (st2.rd.set p (st2.rd.getD p 0+1)) aw' RW'.length cw' (RW'.flatMap (YU Xg))∧Q7 RW'=st2.rows.map Xo++(NN.take i).map (fun r=>((false,r.k),r.acs.map ZM))∧∀ r ∈ RW',Qg hx r.2.1.1 (r.2.2.flatMap Qv),fun vs hh=>NN.length - (Qn vs 0).toNat,⟨0,hk,aw,cw,RW,rfl,Nat.zero_le _,Hp.le_refl hk,M83,by rw [I.w];simp,Ik.wi⟩,?_⟩
   rintro vs hh ⟨i,hx,aw',cw',RW',rfl,hi',lx,Mx,hw1,hw2⟩
   have hW':RW'.length=st2.rows.length+i:=by
    have:=congrArg List.length hw1
    simp [Q7] at this
    omega
   refine⟨i,rfl,fun e3=>?_,fun e3=>?_⟩
   ·have hlt:i < NN.length:=by have:=of_decide_eq_true e3;omega
    have hxi:NN[i]?=some NN[i]:=List.getElem?_eq_getElem hlt
    have hmem:=List.getElem_mem hlt
    have tk:NN.take (i+1)=NN.take i++[NN[i]]:=List.take_succ_eq_append_getElem hlt
    have lhh:=Hp.le_trans lx Mx.le0
    obtain⟨b,o,ea,hr⟩:=(TN.s.le lhh).get Qq (by decide) hxi
    have hri:=(TN.i _ hmem).le lhh
    have hal:=hNm _ hmem
    generalize NN[i]=r at *
    refine⟨b,o,⟨ea,by omega,by omega⟩,_,_,_,_,_,_,_,by rw [Int.toNat_natCast];exact hr,_,_,_,Qb Mx.blk rfl,?_⟩
    refine VN (r:=r) ⟨rfl,hri⟩ hal fun a107 c107 h103 V103=>⟨_,_,_,_,_,_,rfl,Qb (Mx.le V103.le0).blk rfl,?_⟩
    intro b108 hb108 h109
    obtain⟨hy,ly,My,try_,_⟩:=Mx.rebase_new V103.le0
    have o1:=try_ _ _ (Qh.row V103) fun b o hb=>V103.new b (by rw [hb,QI.at0 (Qh.own V103) b o hb])
    refine My.rows (m:=1) (news:=[vb false,vi r.k.1,vi r.k.2.1,vi r.k.2.2,vsl a107 (r.acs.map ZM).length c107]) hb108 rfl (by
     intro u hu
     simp only [List.mem_cons,List.not_mem_nil,or_false] at hu
     rcases hu with rfl|rfl|rfl|rfl|rfl<;>rfl) (by omega) fun aw2 cw2 h111 M111=>⟨_,_,_,rfl,?_⟩
    refine M111.put (j:=12) (Nat.le_of_ble_eq_true rfl) fun h113 M113=>⟨_,isW (by unfold InR;omega),⟨i+1,hy,aw2,cw2,RW'++[((false,r.k),(a107,c107),r.acs.map ZM)],rfl,by omega,Hp.le_trans lx ly,?_,?_,?_⟩,by simp [Qn];omega⟩
    ·rw [List.length_append,List.flatMap_append]
     exact M113
    ·rw [tk,List.map_append,←List.append_assoc,←hw1]
     unfold Q7
     rw [List.map_append]
     rfl
    ·intro r' hr'
     rcases List.mem_append.1 hr' with q1|q1
     ·exact(hw2 r' q1).le ly
     ·rw [List.mem_singleton.1 q1];exact o1
   ·have hge:i=NN.length:=by have:=of_decide_eq_false e3;omega
    subst hge
    rw [List.take_length] at hw1
    refine⟨_,Qb Mx.blk rfl,_,Qb Mx.blk rfl,_,isW (by rw [F.la];unfold InR;omega),?_⟩
    rw [F.sz,F.la]
    have hml:(R.map (Zx q.size u)).length=R.length:=List.length_map _
    have drp:=fun(K':Value→Hp→Prop) (hK':∀ a' c' h',hx.le h'→Tb h' a' ((R.map (Zx q.size u)).filter fun r=>!decide (r.k.1+q.size≤u - q.late))→K' (vag [vsl a' ((R.map (Zx q.size u)).filter fun r=>!decide (r.k.1+q.size≤u - q.late)).length c']) h')=>
     QfG (h:=hx) (K':=K') (c:=c84) (size:=q.size) (upto:=u - q.late) (Tk.le lx) (by rw [hml];omega) (fun r hr=>by
      obtain⟨r0,h0',rfl⟩:=List.mem_map.1 hr
      have:=(hao r0 h0').2.2
      show InR (r0.k.1+q.size)
      unfold InR;omega) hK'
    rw [hml] at drp
    refine Yd.frame Mx (drp _ fun a121 c121 hz lz Tz h120 l120 M120=>⟨_,_,_,rfl,?_⟩)
    refine M120.put (j:=10) (Nat.le_of_ble_eq_true rfl) fun h122 M122=>?_
    have lall:h0.le hz:=Hp.le_trans l0 (Hp.le_trans lj (Hp.le_trans lk (Hp.le_trans lx lz)))
    have lkz:=Hp.le_trans lx lz
    refine hK h122 (Hp.le_trans lall M122.le0) ⟨qf,hz,a1,n1,c1,a2,n2,c2,a3,n3,c3,ak,nk,ck,ar,cr,a71,nc,c71,a121,c121,aw',cw',(R.map (Zx q.size u)).filter fun r=>!decide (r.k.1+q.size≤u - q.late),RW',lall,?_,⟨F,Ik.qa.le lkz,Ik.k.le lkz,Ik.c.le lkz,Tz,Qmo (Qng I.p),?_,fun r hr=>(hw2 r hr).le lz⟩⟩
    ·show Yd hz h122 g (W4 a1 n1 c1 a2 n2 c2 a3 n3 c3 qf ak nk ck ar (st2.rd.set p (st2.rd.getD p 0+1)).length cr a71 nc c71 a121 _ c121 st2.late aw' RW'.length cw') ar cr (st2.rd.set p (st2.rd.getD p 0+1)) aw' RW'.length cw' (RW'.flatMap (YU Xg))
     rw [hlr]
     exact M122
    ·show Q7 RW'=(st2.rows++(Qab q.size u st2.pn).map (QaS (Qe q))).map Xo
     rw [hw1,List.map_append,hNeq]
 clear_value J58
 refine⟨fun e1=>?_,fun e1=>?_⟩
 ·have hw:Yf q (st.far.getD p 0) e st=(ZH e.1 q.size q.slide).foldl (Xp q (st.far.getD p 0) e) st:=by unfold Yf;rw [if_pos e1]
  rw [hw] at hJ
  have M22:=M.le l22
  have cS:∀{qf:Qy},NL q qf→vi qf.size=vi q.size:=fun F=>by rw [F.sz]
  refine⟨_,Qb M22.blk rfl,_,Qb M22.blk rfl,?_⟩
  rw [F.sz,F.sl]
  refine Qbs (by omega) (by omega) (by omega) (by omega) (by omega) (by omega) fun a30 n30 c30 h29 l29 SS hnew=>⟨_,_,_,rfl,?_⟩
  have hsb:=Uu B E
  have hsm:=GN B (e:=e)
  have hn30:n30=(ZH e.1 q.size q.slide).length:=SS.1
  generalize ZH e.1 q.size q.slide=ss at *
  -- the windows' slice is not the engine's
  refine⟨fun vs hh=>∃(k:Nat) (hb:Hp),vs=[vi k]∧k≤ss.length∧h0.le hb∧SlI hb a30 n30 ss∧Y7 q hb hh g ((ss.take k).foldl (Xp q (st.far.getD p 0) e) st),fun vs hh=>ss.length - (Qn vs 0).toNat,?_,?_⟩
  ·obtain⟨hj,lj,Mj,trj,_⟩:=M22.rebase_new l29
   refine⟨0,hj,rfl,Nat.zero_le _,Hp.le_trans l0 lj,⟨SS.1,trj _ _ SS.2 hnew⟩,?_⟩
   rw [List.take_zero]
   exact⟨qf,hj,a1,n1,c1,a2,n2,c2,a3,n3,c3,ak,nk,ck,ar,cr,ac,nc,cc,tb,tc,aw,cw,R,RW,Hp.le_refl hj,Mj,I.le lj⟩
  rintro vs hh ⟨k,hb,rfl,hk,lb,Sb,Xb⟩
  refine⟨k,rfl,fun e2=>?_,fun e2=>?_⟩
  ·have hlt:k < ss.length:=by have:=of_decide_eq_true e2;omega
   obtain⟨b,o,ea,hc⟩:=(Sb.le Xb.le0).get (i:=k) (by omega)
   have hgd:ss.getD k 0=ss[k]:=by rw [List.getD_eq_getElem?_getD,List.getElem?_eq_getElem hlt];rfl
   have tk:ss.take (k+1)=ss.take k++[ss[k]]:=List.take_succ_eq_append_getElem hlt
   have hsk:=hsb _ (List.getElem_mem hlt)
   have HBk:=K4 (far:=st.far.getD p 0) B E (ss.take k) HB (fun s hs=>hsb s (List.mem_of_mem_take hs))
   rw [List.length_take,Nat.min_eq_left hk] at HBk
   rw [hgd] at hc
   generalize ss[k]=s at *
   intro J54
   have hJ2:∀ h',Y7 q hb h' g (Xp q (st.far.getD p 0) e ((ss.take k).foldl (Xp q (st.far.getD p 0) e) st) s)→J54 h':=by
    intro h' X'
    refine⟨_,isW (by unfold InR;omega),⟨k+1,hb,rfl,by omega,lb,Sb,?_⟩,by simp [Qn];omega⟩
    rw [tk,List.foldl_append]
    exact X'
   clear_value J54
   generalize (ss.take k).foldl (Xp q (st.far.getD p 0) e) st=stk at *
   have Xb0:=Xb
   obtain⟨qf,hi,a1,n1,c1,a2,n2,c2,a3,n3,c3,ak,nk,ck,ar,cr,ac,nc,cc,tb,tc,aw,cw,R,RW,l0,M,I⟩:=Xb
   have F:=I.f
   refine⟨b,o,⟨ea,by omega,by omega⟩,s,by rw [Int.toNat_natCast];exact hc,_,fun _=>Qb M.blk rfl,_,fun _=>isW (by rw [F.sz];unfold InR;omega),_,fun _=>Qb M.blk rfl,_,fun _=>isW (by rw [F.sz,F.la];unfold InR;omega),?_⟩
   have hl:(bif (decide (0≤st.far.getD p 0)) then(decide ((s+qf.size+qf.late:Int)≤Qoc (st.far.getD p 0) q.delay)) else false)=QiK q (st.far.getD p 0) s:=by
    unfold QiK Qoc
    rw [F.sz,F.la]
    by_cases h1:0≤st.far.getD p 0
    ·rw [decide_eq_true h1,if_neg (by omega)];rfl
    ·rw [decide_eq_false h1];rfl
   rw [hl]
   refine⟨fun e3=>?_,fun e3=>?_⟩
   ·have hll:=HBk.ll
    refine⟨_,Qb M.blk rfl,_,isW (by unfold InR;omega),?_⟩
    refine M.put (j:=11) (Nat.le_of_ble_eq_true rfl) fun h48 M48=>hJ2 h48 ?_
    unfold Xp
    rw [if_pos e3]
    exact⟨qf,hi,a1,n1,c1,a2,n2,c2,a3,n3,c3,ak,nk,ck,ar,cr,ac,nc,cc,tb,tc,aw,cw,R,RW,l0,M48,⟨I.f,I.qa,I.k,I.c,I.t,I.p,I.w,I.wi⟩⟩
   ·refine Qb8 Xb0 B E HBk (by omega) fun h52 l52 X52=>⟨rfl,hJ2 h52 ?_⟩
    unfold Xp
    rw [if_neg (by rw [e3];decide)]
    exact X52
  ·have hge:k=ss.length:=by have:=of_decide_eq_false e2;omega
   rw [hge,List.take_length] at Xb
   refine hJ hh ?_
   obtain⟨qf,hi,a1,n1,c1,a2,n2,c2,a3,n3,c3,ak,nk,ck,ar,cr,ac,nc,cc,tb,tc,aw,cw,R,RW,l0,M,I⟩:=Xb
   exact⟨qf,hi,a1,n1,c1,a2,n2,c2,a3,n3,c3,ak,nk,ck,ar,cr,ac,nc,cc,tb,tc,aw,cw,R,RW,Hp.le_trans lb l0,M,I⟩
 ·have hw:Yf q (st.far.getD p 0) e st=st:=by unfold Yf;rw [if_neg (by rw [e1];decide)]
  rw [hw] at hJ
  exact hJ h22 X22
def QcV (u0:Option (TypeId × Value))(u1:Int)(h:Hp)(R:Value→Hp→Prop):Prop:=
 (((Option.isNone u0)=true→R (vb (decide (u1=0))) h)∧((Option.isNone u0)=false→(∃ x2 p3,(Rd Tryz.prog (Instr.typeAssert (ifv u0) 33 80 true) h (Qf [vi x2,vb p3]))∧R (vb (bif (bif p3 then(decide (u1 > 0)) else false) then(decide (x2=u1)) else false)) h)))
theorem Qif {u0 u1 h R}(H:QcV u0 u1 h R):Qa Tryz.prog 9 [ifv u0,vi u1] h R:=
 Qd (cfg:=⟨[],[],[]⟩) Qo mixed Tryz.func9 [.one (.ifc u0),.one (.v (vi u1))] (by kernel_rfl) rfl (by kernel_rfl) H
theorem Qil (v:Value)(w:World):(Instr.typeAssert (.iface 80 v) 33 80 true).run Tryz.prog w=.ok (.tuple #[v,.bool true]) w:=by kernel_rfl
theorem Qib {f g:Int}(hf:0≤f){h:Hp}{R:Value→Hp→Prop}(hK:R (vb (decide (f=g))) h):Qa Tryz.prog 9 [ifv (YA f),vi g] h R:=by
 refine Qif ?_
 unfold QcV
 by_cases h0:f=0
 ·have e:YA f=none:=by simp [YA,h0]
  rw [e]
  refine⟨fun _=>?_,fun e=>by simp at e⟩
  have:decide (g=0)=decide (f=g):=by rw [h0];exact decide_eq_decide.2 eq_comm
  rw [this];exact hK
 ·have e:YA f=some (80,vi f):=by simp [YA,h0]
  rw [e]
  refine⟨fun e=>by simp at e,fun _=>⟨f,true,fun w _=>Qil _ w,?_⟩⟩
  have:(bif (bif true then(decide (g > 0)) else false) then(decide (f=g)) else false)=decide (f=g):=by
   by_cases hg:f=g
   ·simp [hg];omega
   ·simp [hg]
  rw [this];exact hK
end Go.Proofs.YtgmplfdecikgoaaGreatDoor
namespace Go.Vc
open Go
structure Duo (h0 hA hM h:Hp):Prop where
 lA:hA.le h
 lM:hM.le h
 zA:h0.le hA
 zM:h0.le hM
 dj:∀ b,hA b≠none→hM b≠none→h0 b≠none
section
variable {P:Program}{h0 hA hM h:Hp}
theorem Duo.le0 (D:Duo h0 hA hM h):h0.le h:=Hp.le_trans D.zA D.lA
theorem Duo.swap (D:Duo h0 hA hM h):Duo h0 hM hA h:=⟨D.lM,D.lA,D.zM,D.zA,fun b x y=>D.dj b y x⟩
theorem Duo.grow (D:Duo h0 hA hM h){h':Hp}(l:h.le h'):Duo h0 hA hM h':=⟨Hp.le_trans D.lA l,Hp.le_trans D.lM l,D.zA,D.zM,D.dj⟩
theorem Duo.new (l:h0.le h):Duo h0 h h0 h:=⟨Hp.le_refl h,l,l,Hp.le_refl h0,fun _ _ y=>y⟩
theorem Duo.left (D:Duo h0 hA hM h){f:FuncId}{args:List Value}{R:Value→Hp→Prop}(H:Qa P f args hA fun v h1=>h0.le h1∧∀ h2,Duo h0 h1 hM h2→R v h2):Qa P f args h R:=by
 intro w hs
 refine(Qa.frame D.lA H w hs).mono ?_
 rintro e w' ⟨v,h2,rfl,s2,F,h1,l1,kp,z1,k⟩
 refine⟨v,h2,rfl,s2,F,k h2 ⟨l1,fun b o ho=>?_,z1,D.zM,fun b x y=>?_⟩⟩
 ·cases hq:hA b with
  | none=>exact(kp b o (D.lM b o ho) hq).1
  | some o'=>
   cases hz:h0 b with
   | none=>exact absurd hz (D.dj b (by rw [hq];simp) (by rw [ho];simp))
   | some o2=>
    have e1:=D.zM b o2 hz
    rw [ho] at e1
    cases e1
    exact l1 b o (z1 b o hz)
 ·cases hz:h0 b with
  | some o2=>simp
  | none=>
   exfalso
   cases ho:hM b with
   | none=>exact y ho
   | some o=>
    cases hq:hA b with
    | none=>exact x (kp b o (D.lM b o ho) hq).2
    | some o'=>exact D.dj b (by rw [hq];simp) (by rw [ho];simp) hz
theorem Duo.right (D:Duo h0 hA hM h){f:FuncId}{args:List Value}{R:Value→Hp→Prop}(H:Qa P f args hM fun v h1=>h0.le h1∧∀ h2,Duo h0 hA h1 h2→R v h2):Qa P f args h R:=
 D.swap.left (Qa.mono H fun v h1 k=>⟨k.1,fun h2 D2=>k.2 h2 D2.swap⟩)
end
end Go.Vc
namespace Go.Proofs.YtgmplfdecikgoaaGreatDoor
open Go Go.Vc Go.Txt
def QoT (k:PK)(v:Value):List Value:=[vi k.1,vi k.2.1,vi k.2.2,v]
end Go.Proofs.YtgmplfdecikgoaaGreatDoor
namespace Go.Proofs.YtgmplfdecikgoaaGreatDoor
open Go Go.Vc
section
variable {h:Hp}{R':Value→Hp→Prop}
theorem Qc2 {l:List Vl}{a b:Option Addr}{c d:Nat}(S:SlP Qv h a l.length l)(S2:SlP Qv h b l.length l)(hn:l.length≤1000000)(hK:R' (vb true) h):Qa Tryz.prog 52 [vsl a l.length c,vsl b l.length d] h R':=by
 refine Ve ?_
 unfold Km
 refine⟨fun e=>absurd rfl (of_decide_eq_true e),fun _=>?_⟩
 refine⟨fun vs hh=>hh=h∧∃ i:Nat,vs=[vi i]∧i≤l.length,fun vs hh=>l.length - (Qn vs 0).toNat,⟨rfl,0,rfl,Nat.zero_le _⟩,?_⟩
 rintro vs hh ⟨rfl,i,rfl,hi⟩
 refine⟨i,rfl,fun e=>?_,fun _=>hK⟩
 have hlt:i < l.length:=by have:=of_decide_eq_true e;omega
 have hx:l[i]?=some l[i]:=List.getElem?_eq_getElem hlt
 obtain⟨b1,o1,e1,r1⟩:=S.get (sz:=2) (fun _=>rfl) (by decide) hx
 obtain⟨b2,o2,e2,r2⟩:=S2.get (sz:=2) (fun _=>rfl) (by decide) hx
 refine⟨b1,o1,⟨e1,by omega,by omega⟩,_,_,by rw [Int.toNat_natCast];exact r1,b2,o2,⟨e2,by omega,by omega⟩,_,_,by rw [Int.toNat_natCast];exact r2,!decide (l[i]=l[i]),Qdl,fun e3=>(by simp at e3),fun _=>⟨_,isW (by unfold InR;omega),⟨rfl,i+1,rfl,by omega⟩,by simp [Qn];omega⟩⟩
theorem QfR {k:PK}{l:List Vl}{a b:Option Addr}{c d:Nat}(S:SlP Qv h a l.length l)(S2:SlP Qv h b l.length l)(hn:l.length≤1000000)(hK:R' (vb true) h):Qa Tryz.prog 57 [vag (QoT k (vsl a l.length c)),vag (QoT k (vsl b l.length d))] h R':=by
 refine QfF ?_
 unfold Nz
 refine Qc2 S S2 hn ⟨_,rfl,decide (k.2=k.2),fun _=>Xz,?_⟩
 rw [decide_eq_true (rfl:k.1=k.1),decide_eq_true (rfl:k.2=k.2)]
 exact hK
end
def UT (u0:Option Addr)(u1 u2:Nat)(u3:Option Addr)(u4 u5:Nat)(h:Hp)(R:Value→Hp→Prop):Prop:=
 R (vb (bif (decide ((u1:Int)≤130)) then(decide ((u4:Int)≤200)) else false)) h
theorem QaY {u0 u1 u2 u3 u4 u5 h R}(H:UT u0 u1 u2 u3 u4 u5 h R):Qa Tryz.prog 6 [vsl u0 u1 u2,vsl u3 u4 u5] h R:=
 Qd (cfg:=⟨[],[],[]⟩) Qo mixed Tryz.func6 [.one (.v (vsl u0 u1 u2)),.one (.v (vsl u3 u4 u5))] (by kernel_rfl) rfl (by kernel_rfl) H
def Vf (u0 u1:Nat)(u2 u3:Nat)(h:Hp)(R:Value→Hp→Prop):Prop:=
 (∃ a1 n1 c1,(Hp.cell h u0 (u1+8)=some (vsl a1 n1 c1))∧(∃ a2 n2 c2,(Hp.cell h u2 (u3+7)=some (vsl a2 n2 c2))∧(Qa Tryz.prog 54 [vsl a1 n1 c1,vsl a2 n2 c2] h fun v3 h4=>∃ p5,v3=(vb p5)∧(∃ a6 n6 c6,(p5=true→Hp.cell h4 u0 (u1+9)=some (vsl a6 n6 c6))∧(∃ a7 n7 c7,(p5=true→Hp.cell h4 u2 (u3+8)=some (vsl a7 n7 c7))∧(∃(J8:SV→Hp→Prop),(p5=true→(Qa Tryz.prog 54 [vsl a6 n6 c6,vsl a7 n7 c7] h4 fun v9 h10=>∃ p11,v9=(vb p11)∧J8 (.t (.one (.v (vb p11)))) h10))∧(¬(p5=true)→J8 (.t (.one (.v (vb false)))) h4)∧∀ h12 p13,J8 (.t (.one (.v (vb p13)))) h12→(∃ x14,((bif p5 then p13 else false)=true→Hp.cell h12 u0 (u1+11)=some (vi x14))∧(∃ x15,((bif p5 then p13 else false)=true→Hp.cell h12 u2 (u3+10)=some (vi x15))∧(∃ a16 n16 c16,((bif (bif p5 then p13 else false) then(decide (x14=x15)) else false)=true→Hp.cell h12 u0 (u1+10)=some (vsl a16 n16 c16))∧(∃(J17:SV→Hp→Prop),((bif (bif p5 then p13 else false) then(decide (x14=x15)) else false)=true→(Qa Tryz.prog 55 [vhp u2 u3] h12 fun v18 h19=>∃ x20,v18=(vi x20)∧J17 (.t (.one (.v (vi x20)))) h19))∧(¬((bif (bif p5 then p13 else false) then(decide (x14=x15)) else false)=true)→J17 (.t (.one (.v (vi 0)))) h12)∧∀ h21 x22,J17 (.t (.one (.v (vi x22)))) h21→(((bif (bif p5 then p13 else false) then(decide (x14=x15)) else false)=true→Hp.cell h21 u0 (u1+10)=some (vsl a16 n16 c16))∧(∃ a23 n23 c23,((bif (bif (bif p5 then p13 else false) then(decide (x14=x15)) else false) then(decide ((n16:Int)=x22)) else false)=true→Hp.cell h21 u0 (u1+12)=some (vsl a23 n23 c23))∧(∃ a24 n24 c24,((bif (bif (bif p5 then p13 else false) then(decide (x14=x15)) else false) then(decide ((n16:Int)=x22)) else false)=true→Hp.cell h21 u2 (u3+11)=some (vsl a24 n24 c24))∧(∃(J25:SV→Hp→Prop),((bif (bif (bif p5 then p13 else false) then(decide (x14=x15)) else false) then(decide ((n16:Int)=x22)) else false)=true→(Qa Tryz.prog 22 [vsl a23 n23 c23,vsl a24 n24 c24] h21 fun v26 h27=>∃ p28,v26=(vb p28)∧J25 (.t (.one (.v (vb p28)))) h27))∧(¬((bif (bif (bif p5 then p13 else false) then(decide (x14=x15)) else false) then(decide ((n16:Int)=x22)) else false)=true)→J25 (.t (.one (.v (vb false)))) h21)∧∀ h29 p30,J25 (.t (.one (.v (vb p30)))) h29→R (vb (bif (bif (bif (bif p5 then p13 else false) then(decide (x14=x15)) else false) then(decide ((n16:Int)=x22)) else false) then p30 else false)) h29))))))))))))))
theorem Qc8 {u0 u1 u2 u3 h R}(H:Vf u0 u1 u2 u3 h R):Qa Tryz.prog 16 [vhp u0 u1,vhp u2 u3] h R:=
 Qd (cfg:=⟨[],[],[(1,[0,1,2,3,4,5,6,7,8,9,10,11,12,13,14,15,16,17,18,19,20,21,22,23,24,25,26,27,28,29,30,31,32,33,34,35,36,37,38,39,40,41,42,43,44,45,46,47,48,49,50,51,52,53,54])]⟩) Qo mixed Tryz.func16 [.one (.hp u0 u1),.one (.hp u2 u3)] (by kernel_rfl) rfl (by kernel_rfl) H
theorem QcX {q:Qy}{a1:Option Addr}{n1 c1:Nat}{a2:Option Addr}{n2 c2:Nat}{a3:Option Addr}{n3 c3:Nat}{p:Nat}{h:Hp}{R':Value→Hp→Prop}(Q:QAt h q a1 n1 a2 n2 a3 n3)(hp:p≤1000)
  (hK:∀ g h',h.le h'→QbT q h h' g (WX p)→R' (vhp g 0) h'):Qa Tryz.prog 11 [qV a1 n1 c1 a2 n2 c2 a3 n3 c3 q,vi (p:Int)] h R':=by
 refine Qem (by omega) fun b aR cR aF cF h' l hb hB OR OF fR fF=>hK b h' l ⟨h,h,a1,n1,c1,a2,n2,c2,a3,n3,c3,aR,cR,aF,cF,none,0,none,0,[],[],Hp.le_refl h,Q,Yv.nil (Hp.le_refl h),?_,rfl,rfl,fun r hr=>(by cases hr)⟩
 rw [Int.toNat_natCast] at hB OR OF
 have e1:((List.replicate p (0:Int)).map vi)=(WX p).rd.map fun n:Nat=>vi n:=by
  show _=(List.replicate p 0).map _
  rw [List.map_replicate,List.map_replicate];rfl
 rw [e1] at OR
 have l1:(WX p).rd.length=p:=List.length_replicate ..
 have l2:(WX p).far.length=p:=List.length_replicate ..
 have k1:(ZX b 52 (csM a1 n1 c1 a2 n2 c2 a3 n3 c3 q aR (WX p).rd.length cR aF (WX p).far.length cF none 0 0 (WX p).late none 0 0)).own h':=by
  refine Qep ?_
  rw [l1,l2]
  exact hB
 have k2:(owR aR cR (WX p).rd).own h':=by
  show QI _ _ _ _ (WX p).rd.length _ _
  rw [l1];exact OR
 have k3:(owF aF cF (WX p).far).own h':=by
  show QI _ _ _ _ (WX p).far.length _ _
  rw [l2];exact OF
 refine⟨l,fun s hs=>?_,fun s hs x hx=>?_,?_⟩
 ·simp only [List.mem_cons,List.not_mem_nil,or_false] at hs
  rcases hs with rfl|rfl|rfl|rfl
  ·exact k1
  ·exact k2
  ·exact k3
  ·exact QI.nil ..
 ·simp only [List.mem_cons,List.not_mem_nil,or_false] at hs
  rcases hs with rfl|rfl|rfl|rfl
  ·have hx:some (⟨b,0,none⟩:Addr)=some ⟨x,0,none⟩:=hx
   cases hx
   exact hb
  ·exact(fR x hx).1
  ·exact(fF x hx).1
  ·cases hx
 ·have w:∀{s:Ow} {x:Nat},¬(owW none 0 []).at x:=fun {s x} hx=>by cases hx
  refine List.Pairwise.cons (fun s hs x hx hy=>?_) (List.Pairwise.cons (fun s hs x hx hy=>?_) (List.Pairwise.cons (fun s hs x hx hy=>?_) (List.Pairwise.cons (fun s hs=>(by cases hs)) List.Pairwise.nil)))
  ·have hx:some (⟨b,0,none⟩:Addr)=some ⟨x,0,none⟩:=hx
   cases hx
   simp only [List.mem_cons,List.not_mem_nil,or_false] at hs
   rcases hs with rfl|rfl|rfl
   ·exact(fR _ hy).2 rfl
   ·exact(fF _ hy).2.1 rfl
   ·cases hy
  ·simp only [List.mem_cons,List.not_mem_nil,or_false] at hs
   rcases hs with rfl|rfl
   ·exact(fF _ hy).2.2 hx
   ·cases hy
  ·rw [List.mem_singleton.1 hs] at hy
   cases hy
theorem Qlr {q:Qy}{h0 h:Hp}{g:Nat}{st:En}{R':Value→Hp→Prop}(X:QbT q h0 h g st)(hK:R' (vi (st.pn.length:Nat)) h):Qa Tryz.prog 55 [vhp g 0] h R':=by
 refine Qce ?_
 unfold Uc
 obtain⟨hB,hP,a1,n1,c1,a2,n2,c2,a3,n3,c3,ar,cr,af,cf,ap,cp,aw,cw,R,RW,l0,Q,N,O,e1,e2,e3⟩:=X
 have hRl:R.length=st.pn.length:=by have:=congrArg List.length e1;simpa using this
 refine⟨_,_,_,Qb (O.blk (List.mem_cons_self ..)) rfl,?_⟩
 rw [hRl]
 exact hK
theorem Qft {L:List ((Bool × PK) × List Vl)}{a b:Option Addr}{c d:Nat}{h:Hp}{R':Value→Hp→Prop}(T:NT Qv Xg h a L.length L)(T2:NT Qv Xg h b L.length L)(hn:L.length≤4000000)(hl:∀ x ∈ L,x.2.length≤1000000)(hK:R' (vb true) h):Qa Tryz.prog 22 [vsl a L.length c,vsl b L.length d] h R':=by
 refine QfT ?_
 unfold Nr
 refine⟨fun e=>absurd rfl (of_decide_eq_true e),fun _=>?_⟩
 refine⟨fun vs hh=>hh=h∧∃ i:Nat,vs=[vi i]∧i≤L.length,fun vs hh=>L.length - (Qn vs 0).toNat,⟨rfl,0,rfl,Nat.zero_le _⟩,?_⟩
 rintro vs hh ⟨rfl,i,rfl,hi⟩
 refine⟨i,rfl,fun e=>?_,fun _=>hK⟩
 have hlt:i < L.length:=by have:=of_decide_eq_true e;omega
 have hx:L[i]?=some L[i]:=List.getElem?_eq_getElem hlt
 have hm:=hl _ (List.getElem_mem hlt)
 generalize L[i]=x at hx hm
 obtain⟨k,l⟩:=x
 obtain⟨b1,o1,a1,c1,e1,r1,S1⟩:=T.row Mn (by decide) hx
 obtain⟨b2,o2,a2,c2,e2,r2,S2⟩:=T2.row Mn (by decide) hx
 have hb1:a=some ⟨b1,o1,none⟩∧(0:Int)≤(i:Int)∧(i:Int) < ((L.length:Nat):Int):=⟨e1,by omega,by omega⟩
 have hb2:b=some ⟨b2,o2,none⟩∧(0:Int)≤(i:Int)∧(i:Int) < ((L.length:Nat):Int):=⟨e2,by omega,by omega⟩
 have q1:hh.row b1 (o1+i*5+1) 4=some (QoT k.2 (vsl a1 l.length c1)):=Hp.row_sub r1 (i:=1) (k:=4) (by decide)
 have q2:hh.row b2 (o2+i*5+1) 4=some (QoT k.2 (vsl a2 l.length c2)):=Hp.row_sub r2 (i:=1) (k:=4) (by decide)
 refine⟨b1,o1,hb1,_,_,_,_,_,_,q1,b2,o2,hb2,_,_,_,_,_,_,q2,?_⟩
 refine QfR (k:=k.2) S1 S2 hm ⟨_,rfl,b1,o1,hb1,_,Hp.row_cell r1 (i:=0) rfl,b2,o2,hb2,_,Hp.row_cell r2 (i:=0) rfl,_,Qpl (by kernel_rfl),?_⟩
 refine⟨fun e3=>?_,fun _=>⟨_,isW (by unfold InR;omega),⟨rfl,i+1,rfl,by omega⟩,by simp [Qn];omega⟩⟩
 simp at e3
theorem Y7.see {q:Qy}{h0 h:Hp}{g:Nat}{st:En}(X:Y7 q h0 h g st):∃(a1:Option Addr) (n1 c1:Nat) (a2:Option Addr) (n2 c2:Nat) (a3:Option Addr) (n3 c3:Nat) (qf:Qy) (ak:Option Addr) (nk ck:Nat) (ar:Option Addr) (cr:Nat) (ac:Option Addr) (cc:Nat) (tb:Option Addr) (tc:Nat) (aw:Option Addr) (cw:Nat),
  h g=some (Qc (W4 a1 n1 c1 a2 n2 c2 a3 n3 c3 qf ak nk ck ar st.rd.length cr ac st.far.length cc tb st.pn.length tc st.late aw (st.rows.map Xo).length cw) 68)∧SlI h ar st.rd.length (st.rd.map fun n:Nat=>(n:Int))∧SlI h ac st.far.length st.far∧NT Qv Xg h aw (st.rows.map Xo).length (st.rows.map Xo):=by
 obtain⟨qf,hi,a1,n1,c1,a2,n2,c2,a3,n3,c3,ak,nk,ck,ar,cr,ac,nc,cc,tb,tc,aw,cw,R,RW,l0,M,I⟩:=X
 have hRl:R.length=st.pn.length:=by have:=congrArg List.length I.p;simpa using this
 have hWl:RW.length=(st.rows.map Xo).length:=by have:=congrArg List.length I.w;simpa [Q7] using this
 have hnc:nc=st.far.length:=I.c.1
 subst hnc
 refine⟨a1,n1,c1,a2,n2,c2,a3,n3,c3,qf,ak,nk,ck,ar,cr,ac,cc,tb,tc,aw,cw,?_,?_,I.c.le M.le0,⟨RW,I.w,rfl,M.w.row,fun r hr=>(I.wi r hr).le M.le0⟩⟩
 ·rw [←hRl,←hWl];exact M.blk
 ·have:=M.r
  rw [Qg8] at this
  exact this.sli
theorem QbT.see {q:Qy}{h0 h:Hp}{g:Nat}{st:En}(X:QbT q h0 h g st):∃(a1:Option Addr) (n1 c1:Nat) (a2:Option Addr) (n2 c2:Nat) (a3:Option Addr) (n3 c3:Nat) (ar:Option Addr) (cr:Nat) (af:Option Addr) (cf:Nat) (ap:Option Addr) (cp:Nat) (aw:Option Addr) (cw:Nat),
  h g=some (Qc (csM a1 n1 c1 a2 n2 c2 a3 n3 c3 q ar st.rd.length cr af st.far.length cf ap st.pn.length cp st.late aw (st.rows.map Xo).length cw) 52)∧SlI h ar st.rd.length (st.rd.map fun n:Nat=>(n:Int))∧SlI h af st.far.length st.far∧NT Qv Xg h aw (st.rows.map Xo).length (st.rows.map Xo):=by
 obtain⟨hB,hP,a1,n1,c1,a2,n2,c2,a3,n3,c3,ar,cr,af,cf,ap,cp,aw,cw,R,RW,l0,Q,N,O,e1,e2,e3⟩:=X
 have hRl:R.length=st.pn.length:=by have:=congrArg List.length e1;simpa using this
 have hWl:RW.length=(st.rows.map Xo).length:=by have:=congrArg List.length e2;simpa [Q7] using this
 have lB:=Hp.le_trans N.le0 O.le
 refine⟨a1,n1,c1,a2,n2,c2,a3,n3,c3,ar,cr,af,cf,ap,cp,aw,cw,?_,?_,(O.ownV (s:=owF af cf st.far) (by simp)).sli,⟨RW,e2,rfl,(O.ownV (s:=owW aw cw RW) (by simp)).row,fun r hr=>(e3 r hr).le lB⟩⟩
 ·rw [←hRl,←hWl];exact O.blk (List.mem_cons_self ..)
 ·have:=O.ownV (s:=owR ar cr st.rd) (by simp)
  unfold owR at this
  simp only [Qg8] at this
  exact this.sli
theorem Qc7 {q:Qy}{h0 h1 h:Hp}{g m parts N:Nat}{st:En}{R':Value→Hp→Prop}(X:Y7 q h0 h g st)(Y:QbT q h1 h m st)(B:QOk q)(HB:EnB q parts N st)(hp:parts≤1000)(hN:N≤1000000)(hK:R' (vb true) h):Qa Tryz.prog 16 [vhp g 0,vhp m 0] h R':=by
 refine Qc8 ?_
 unfold Vf
 have hrl:=HB.rl
 have hfl:=HB.fl
 have hwl:=HB.wl
 have hwo:=HB.wo
 have hn4:=B.n2
 have hY:=Qlr (R':=fun v h'=>∃ x:Int,v=vi x∧h'=h∧x=(st.pn.length:Nat)) Y ⟨_,rfl,rfl,rfl⟩
 obtain⟨a1,n1,c1,a2,n2,c2,a3,n3,c3,qf,ak,nk,ck,ar,cr,ac,cc,tb,tc,aw,cw,k1,s1,s2,g1⟩:=X.see
 obtain⟨a1',n1',c1',a2',n2',c2',a3',n3',c3',ar',cr',af',cf',ap',cp',aw',cw',k2,s3,s4,g2⟩:=Y.see
 refine⟨_,_,_,Qb k1 rfl,_,_,_,Qb k2 rfl,?_⟩
 refine Ud s1 s3 (by omega) (by omega) ⟨_,rfl,?_⟩
 rw [decide_eq_true rfl]
 refine⟨_,_,_,fun _=>Qb k1 rfl,_,_,_,fun _=>Qb k2 rfl,fun x h'=>h'=h∧x=.t (.one (.v (vb true))),fun _=>Ud s2 s4 (by omega) (by omega) ⟨_,rfl,rfl,by rw [decide_eq_true rfl]⟩,fun e=>absurd rfl e,?_⟩
 rintro h' p9 ⟨rfl,e⟩
 cases e
 refine⟨_,fun _=>Qb k1 rfl,_,fun _=>Qb k2 rfl,_,_,_,fun _=>Qb k1 rfl,?_⟩
 rw [decide_eq_true (rfl:((st.late:Nat):Int)=_)]
 refine⟨fun x h2=>h2=h'∧x=.t (.one (.v (vi (st.pn.length:Nat)))),fun _=>Qa.mono hY ?_,fun e=>absurd rfl e,?_⟩
 ·rintro v h2 ⟨x,rfl,rfl,rfl⟩
  exact⟨_,rfl,rfl,rfl⟩
 rintro h2 x22 ⟨rfl,e⟩
 cases e
 refine⟨fun _=>Qb k1 rfl,_,_,_,fun _=>Qb k1 rfl,_,_,_,fun _=>Qb k2 rfl,?_⟩
 rw [decide_eq_true (rfl:((st.pn.length:Nat):Int)=_)]
 refine⟨fun x h3=>h3=h2∧x=.t (.one (.v (vb true))),fun _=>Qft g1 g2 (by rw [List.length_map];omega) (fun x hx=>?_) ⟨_,rfl,rfl,rfl⟩,fun e=>absurd rfl e,?_⟩
 ·obtain⟨w,hw,rfl⟩:=List.mem_map.1 hx
  have:=hwo w hw
  show w.2.2.length≤1000000
  omega
 rintro h3 p30 ⟨rfl,e⟩
 cases e
 exact hK
end Go.Proofs.YtgmplfdecikgoaaGreatDoor
