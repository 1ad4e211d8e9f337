/-
  Laws and contracts on which the statement's proof stands, part 3. Conditions: those stated at each.
-/
import Derived.Lib.Join
import Derived.Sort.Grow
import Derived.Lib.Overlaps
import Derived.Lib.AppendZerosOnto
import Derived.Test.YtgmplfdecikgoaaGreatDoorSh2
set_option linter.unusedVariables false
set_option maxRecDepth 100000
namespace Go.Proofs.YtgmplfdecikgoaaGreatDoor
open Go Go.Vc
def Qen (u0:Int)(h:Hp)(R:Value→Hp→Prop):Prop:=
 (((bif (decide (u0=1)) then true else(decide (u0=2)))=true→R (vi 0) h)∧((bif (decide (u0=1)) then true else(decide (u0=2)))=false→(((bif (decide (u0≥3)) then(decide (u0≤5)) else false)=true→R (vi 1) h)∧((bif (decide (u0≥3)) then(decide (u0≤5)) else false)=false→(((bif (decide (u0≥6)) then(decide (u0≤12)) else false)=true→R (vi 2) h)∧((bif (decide (u0≥6)) then(decide (u0≤12)) else false)=false→R (vi (-1)) h))))))
theorem QjF {u0 h R}(H:Qen u0 h R):Qa Tryz.prog 151 [vi u0] h R:=
 Qd (cfg:=⟨[],[],[]⟩) Qo mixed Tryz.func151 [.one (.v (vi u0))] (by kernel_rfl) rfl (by kernel_rfl) H
def GL (u0:Option Addr)(u1 u2:Nat)(h:Hp)(R:Value→Hp→Prop):Prop:=
 (((decide ((u1:Int) > 40))=true→R (vi 2) h)∧((decide ((u1:Int) > 40))=false→(∃(I3:List Value→Hp→Prop) (m4:List Value→Hp→Nat),I3 [vsl none 0 0,vi 0] h∧∀ vs5 h6,I3 vs5 h6→∃ a7 n7 c7 x8,vs5=[vsl a7 n7 c7,vi x8]∧(((decide (x8 < (u1:Int)))=true→(∃ b11 o12,(u0=some ⟨b11,o12,none⟩∧(0:Int)≤x8∧x8 < (u1:Int))∧(∃ x13 x14 x15 x16 x17 x18,(Hp.row h6 b11 (o12+x8.toNat*6) 6=some [vi x13,vi x14,vi x15,vi x16,vi x17,vi x18])∧(Qa Tryz.prog 151 [vi x13] h6 fun v19 h20=>∃ x21,v19=(vi x21)∧(((decide (x21 < 0))=true→R (vi 3) h20)∧((decide (x21 < 0))=false→(((bif (bif (bif (bif (decide (x13≠1)) then(bif (decide (x17≠0)) then true else(decide (x18≠0))) else false) then true else(bif (decide (x13≠2)) then(decide (x16≠0)) else false)) then true else(bif (decide (x21 < 2)) then(decide (x15≠0)) else false)) then true else(bif (decide (x21 < 1)) then(decide (x14≠0)) else false))=true→R (vi 3) h20)∧((bif (bif (bif (bif (decide (x13≠1)) then(bif (decide (x17≠0)) then true else(decide (x18≠0))) else false) then true else(bif (decide (x13≠2)) then(decide (x16≠0)) else false)) then true else(bif (decide (x21 < 2)) then(decide (x15≠0)) else false)) then true else(bif (decide (x21 < 1)) then(decide (x14≠0)) else false))=false→(((bif (decide (x16 < 0)) then true else(decide (x16 > 3)))=true→R (vi 1) h20)∧((bif (decide (x16 < 0)) then true else(decide (x16 > 3)))=false→(Qa Tryz.prog 35 [vag [vi x17,vi x18]] h20 fun v25 h26=>∃ x27,v25=(vi x27)∧(((decide (x27 > 0))=true→R (vi 3) h26)∧((decide (x27 > 0))=false→(∃ x29,(IsW x29 ((n7:Int) - x21))∧(∃ b30 o31,(((decide (x29 < 0))=false∧(decide (x21 > 0))=true)→(a7=some ⟨b30,o31,none⟩∧(0:Int)≤x29∧x29 < (n7:Int)))∧(∃ x32,(((decide (x29 < 0))=false∧(decide (x21 > 0))=true)→Hp.cell h26 b30 (o31+x29.toNat*1)=some (vi x32))∧(∃ x33,(((bif (decide (x29 < 0)) then true else(bif (decide (x21 > 0)) then(decide (x32≠x14)) else false))=false∧(decide (x21 > 1))=true)→IsW x33 (x29+1))∧(∃ b34 o35,(((bif (decide (x29 < 0)) then true else(bif (decide (x21 > 0)) then(decide (x32≠x14)) else false))=false∧(decide (x21 > 1))=true)→(a7=some ⟨b34,o35,none⟩∧(0:Int)≤x33∧x33 < (n7:Int)))∧(∃ x36,(((bif (decide (x29 < 0)) then true else(bif (decide (x21 > 0)) then(decide (x32≠x14)) else false))=false∧(decide (x21 > 1))=true)→Hp.cell h26 b34 (o35+x33.toNat*1)=some (vi x36))∧(((bif (bif (decide (x29 < 0)) then true else(bif (decide (x21 > 0)) then(decide (x32≠x14)) else false)) then true else(bif (decide (x21 > 1)) then(decide (x36≠x15)) else false))=true→R (vi 3) h26)∧((bif (bif (decide (x29 < 0)) then true else(bif (decide (x21 > 0)) then(decide (x32≠x14)) else false)) then true else(bif (decide (x21 > 1)) then(decide (x36≠x15)) else false))=false→(∃ a38 n38 c38,(Rd Tryz.prog (Instr.sliceAt 48 (vsl a7 n7 c7) none (some (vi x29)) none) h26 (vsl a38 n38 c38))∧(Ql Tryz.prog (Builtin.append_ #[48,48] 48 #[vsl none 0 0,vsl a38 n38 c38]) h26 fun v39 h40=>∃ a41 n41 c41,v39=(vsl a41 n41 c41)∧(∀ b42,h40 b42=none→let h43:= Hp.set h40 b42 (Qc [vi x8] 3);(Ql Tryz.prog (Builtin.append_ #[48,48] 48 #[vsl a41 n41 c41,(vsl (some (⟨b42,0,none⟩:Addr)) 1 1)]) h43 fun v44 h45=>∃ a46 n46 c46,v44=(vsl a46 n46 c46)∧(∃ x48,(IsW x48 (x8+1))∧(I3 [vsl a46 n46 c46,vi x48] h45∧m4 [vsl a46 n46 c46,vi x48] h45 < m4 vs5 h6)))))))))))))))))))))))))))∧((decide (x8 < (u1:Int)))=false→(((decide ((n7:Int)≠1))=true→R (vi 3) h6)∧((decide ((n7:Int)≠1))=false→R (vi 0) h6)))))))
theorem Qfc {u0 u1 u2 h R}(H:GL u0 u1 u2 h R):Qa Tryz.prog 153 [vsl u0 u1 u2] h R:=
 Qd (cfg:=⟨[],[(5,([3,4],[.one (.slice),.one (.int .i64)],[]))],[(18,[0,1,2,3,4,5,6,7,8,9,10,11,12,13,14,15,16,17,18,19,20,21,22,23,24,25,26,27,28])]⟩) Qo mixed Tryz.func153 [.one (.v (vsl u0 u1 u2))] (by kernel_rfl) rfl (by kernel_rfl) H
def QcL (u0:Option Addr)(u1 u2:Nat)(u3:Int)(h:Hp)(R:Value→Hp→Prop):Prop:=
 (∃ b1 o2,(u0=some ⟨b1,o2,none⟩∧(0:Int)≤u3∧u3 < (u1:Int))∧(∃ x3 x4 x5 x6 x7 x8,(Hp.row h b1 (o2+u3.toNat*6) 6=some [vi x3,vi x4,vi x5,vi x6,vi x7,vi x8])∧(((decide (x3=1))=true→R (Qf [vi x7,vb true]) h)∧((decide (x3=1))=false→(((decide (x3=2))=true→R (Qf [vi 1,vb true]) h)∧((decide (x3=2))=false→(Qa Tryz.prog 186 [vsl u0 u1 u2,vi x4] h fun v11 h12=>∃ x13 p14,v11=(Qf [vi x13,vb p14])∧(Qa Tryz.prog 151 [vi x3] h12 fun v15 h16=>∃ x17,v15=(vi x17)∧(let J24:Int→Bool→Hp→Prop:=fun x34 p35 h36=>(((bif (!p14) then true else(!p35))=true→R (Qf [vi 0,vb false]) h36)∧((bif (!p14) then true else(!p35))=false→(((decide (x3=5))=true→R (Qf [vi 2,vb true]) h36)∧((decide (x3=5))=false→(let J41:Int→Prop:=fun x42=>(((bif (bif (decide (x13≠0)) then(decide (x13≠x42)) else false) then true else(bif (decide (x34≠0)) then(decide (x34≠x42)) else false))=true→R (Qf [vi 0,vb false]) h36)∧((bif (bif (decide (x13≠0)) then(decide (x13≠x42)) else false) then true else(bif (decide (x34≠0)) then(decide (x34≠x42)) else false))=false→(let J46:Int→Prop:=fun x47=>R (Qf [vi x47,vb true]) h36;(((bif (decide (x3=11)) then true else(decide (x3=12)))=true→(J46 2))∧((bif (decide (x3=11)) then true else(decide (x3=12)))=false→(J46 x42))))));(((bif (bif (decide (x3=4)) then true else(decide (x3=9))) then true else(decide (x3=10)))=true→(J41 2))∧((bif (bif (decide (x3=4)) then true else(decide (x3=9))) then true else(decide (x3=10)))=false→(J41 1))))))));(((decide (x17=2))=true→(Qa Tryz.prog 186 [vsl u0 u1 u2,vi x5] h16 fun v18 h19=>∃ x20 p21,v18=(Qf [vi x20,vb p21])∧(J24 x20 p21 h19)))∧((decide (x17=2))=false→(J24 x13 p14 h16))))))))))))
theorem Qjf {u0 u1 u2 u3 h R}(H:QcL u0 u1 u2 u3 h R):Qa Tryz.prog 186 [vsl u0 u1 u2,vi u3] h R:=
 Qd (cfg:=⟨[],[],[]⟩) Qo mixed Tryz.func186 [.one (.v (vsl u0 u1 u2)),.one (.v (vi u3))] (by kernel_rfl) rfl (by kernel_rfl) H
def Qf9 (u0:Option Addr)(u1 u2:Nat)(h:Hp)(R:Value→Hp→Prop):Prop:=
 (∃ x1,(IsW x1 ((u1:Int) - 1))∧(Qa Tryz.prog 186 [vsl u0 u1 u2,vi x1] h fun v2 h3=>∃ x4 p5,v2=(Qf [vi x4,vb p5])∧(((!p5)=true→R (Qf [vi 0,vi 3]) h3)∧((!p5)=false→R (Qf [vi x4,vi 0]) h3))))
theorem Qk8 {u0 u1 u2 h R}(H:Qf9 u0 u1 u2 h R):Qa Tryz.prog 154 [vsl u0 u1 u2] h R:=
 Qd (cfg:=⟨[],[],[]⟩) Qo mixed Tryz.func154 [.one (.v (vsl u0 u1 u2))] (by kernel_rfl) rfl (by kernel_rfl) H
def Zo (n:Nd):List Value:=[vi n.op,vi n.x,vi n.y,vi n.n,vi n.v.1,vi n.v.2]
theorem QD (n:Nd):(Zo n).length=6:=rfl
theorem V7 (n:Nd):∀ u ∈ Zo n,u.oneCell'=true:=by
 intro u hu
 simp [Zo] at hu
 rcases hu with rfl|rfl|rfl|rfl|rfl|rfl<;>rfl
theorem Qk3 (l:List Nd):∀ u ∈ l.flatMap Zo,u.oneCell'=true:=by
 intro u hu
 obtain⟨v,_,hv⟩:=List.mem_flatMap.1 hu
 exact V7 v u hv
theorem Ql6:ElT Tryz.prog 26 160 6 48:=.of (by kernel_rfl) (by kernel_rfl) (by decide)
theorem N9 {op:Int}{h:Hp}{R:Value→Hp→Prop}(hK:R (vi (arI op)) h):Qa Tryz.prog 151 [vi op] h R:=by
 refine QjF ?_
 unfold Qen
 unfold arI at hK
 refine⟨fun e=>?_,fun e=>⟨fun e2=>?_,fun e2=>⟨fun e3=>?_,fun e3=>?_⟩⟩⟩
 ·rw [if_pos (by simp [Bool.cond_eq_ite] at e;omega)] at hK;exact hK
 ·rw [if_neg (by simp [Bool.cond_eq_ite] at e;omega),if_pos (by simp [Bool.cond_eq_ite] at e2;omega)] at hK;exact hK
 ·rw [if_neg (by simp [Bool.cond_eq_ite] at e;omega),if_neg (by simp [Bool.cond_eq_ite] at e2;omega),if_pos (by simp [Bool.cond_eq_ite] at e3;omega)] at hK;exact hK
 ·rw [if_neg (by simp [Bool.cond_eq_ite] at e;omega),if_neg (by simp [Bool.cond_eq_ite] at e2;omega),if_neg (by simp [Bool.cond_eq_ite] at e3;omega)] at hK;exact hK
theorem Qdm (v:Int × Int):(v≠(0,0))=(v.1≠0∨v.2≠0):=by
 refine propext ⟨fun h=>?_,fun h e=>?_⟩
 ·by_cases h1:v.1=0
  ·by_cases h2:v.2=0
   ·exact absurd (Prod.ext h1 h2) h
   ·exact .inr h2
  ·exact .inl h1
 ·rw [e] at h;simp at h
theorem Uo {n:Nd}{st s:List Int}(ha:0≤arI n.op)(h:ZI n st=some s):(s.length:Int)=st.length - arI n.op∧st.reverse.take s.length=s.reverse:=by
 unfold ZI at h
 rcases QK ha with h1|h1|h1
 ·rw [if_pos h1] at h
  cases h
  refine⟨by omega,?_⟩
  rw [List.take_of_length_le (by simp)]
 ·rw [if_neg (by omega),if_pos h1] at h
  match st,h with
  | a :: t,h=>
   simp only at h
   split at h
   ·cases h
    refine⟨by simp;omega,?_⟩
    rw [List.reverse_cons,List.take_left' (by simp)]
   ·cases h
 ·rw [if_neg (by omega),if_neg (by omega)] at h
  match st,h with
  | b :: a :: t,h=>
   simp only at h
   split at h
   ·cases h
    refine⟨by simp;omega,?_⟩
    rw [List.reverse_cons,List.reverse_cons,List.append_assoc,List.take_left' (by simp)]
   ·cases h
theorem Qia {n:Nd}{l:List Nd}{st:List Int}{i:Nat}(h0:QT n=0)(h:ZI n st=none):Zb st i (n :: l)=3:=by
 rw [Zb,if_neg (fun q=>q h0),h]
theorem Qjc {n:Nd}{l:List Nd}{st s:List Int}{i:Nat}(h0:QT n=0)(h:ZI n st=some s):Zb st i (n :: l)=Zb (i :: s) (i+1) l:=by
 rw [Zb,if_neg (fun q=>q h0),h]
theorem Uj {n:Nd}{l:List Nd}{st:List Int}{i:Nat}{f:Int}(h0:QT n=f)(hf:f≠0):Zb st i (n :: l)=f:=by
 rw [Zb,if_pos (by rw [h0];exact hf),h0]
theorem Qfb {a:Option Addr}{k c:Nat}{l:List Nd}{h:Hp}{R:Value→Hp→Prop}(S:SlP Zo h a k l)(hK:∀ h',h.le h'→R (vi (YL l)) h'):Qa Tryz.prog 153 [vsl a k c] h R:=by
 refine Qfc ?_
 unfold GL
 have hk:=S.1
 subst hk
 refine⟨fun e=>?_,fun e=>?_⟩
 ·have:YL l=2:=by unfold YL;rw [if_pos (by have:=of_decide_eq_true e;omega)]
  rw [this] at hK;exact hK h (Hp.le_refl h)
 have h40:l.length≤40:=by have:=of_decide_eq_false e;omega
 have e1:YL l=Zb [] 0 l:=by unfold YL;rw [if_neg (by omega)]
 rw [e1] at hK
 refine⟨fun vs hh=>∃(i:Nat) (a:Option Addr) (c:Nat) (st:List Int),vs=[vsl a st.length c,vi i]∧i≤l.length∧st.length≤i∧Zb [] 0 l=Zb st i (l.drop i)∧Qh h hh 3 1 a st.length c (st.reverse.map vi),fun vs hh=>l.length - (Qn vs 1).toNat,
  ⟨0,none,0,[],rfl,Nat.zero_le _,Nat.le_refl _,rfl,Qh.nil (Hp.le_refl h) _ _⟩,?_⟩
 rintro vs hh ⟨i,a1,c1,st,rfl,hi,hst,hc,O⟩
 refine⟨_,_,_,_,rfl,fun q=>?_,fun q=>?_⟩
 ·have hlt:i < l.length:=by have:=of_decide_eq_true q;omega
  have hx:l[i]?=some l[i]:=List.getElem?_eq_getElem hlt
  rw [Qet hlt] at hc
  obtain⟨b,o,ha,hr⟩:=(S.le O.le).get QD (by decide) hx
  generalize l[i]=n at *
  refine⟨b,o,⟨ha,by omega,by omega⟩,_,_,_,_,_,_,hr,N9 ⟨_,rfl,fun q2=>?_,fun q2=>⟨fun q3=>?_,fun q3=>⟨fun q4=>?_,fun q4=>U9 (v:=n.v) ⟨_,rfl,fun q5=>?_,fun q5=>?_⟩⟩⟩⟩⟩
  ·have hf:QT n=3:=by unfold QT;rw [if_pos (of_decide_eq_true q2)]
   rw [Uj hf (by decide)] at hc
   rw [hc] at hK;exact hK hh O.le
  ·have c2:¬ arI n.op < 0:=of_decide_eq_false q2
   simp only [ZJ,cor] at q3
   have c3:=of_decide_eq_true q3
   have hf:QT n=3:=by unfold QT;rw [if_neg c2,if_pos (by rw [Qdm];omega)]
   rw [Uj hf (by decide)] at hc
   rw [hc] at hK;exact hK hh O.le
  ·have c2:¬ arI n.op < 0:=of_decide_eq_false q2
   simp only [ZJ,cor] at q3 q4
   have c3:=of_decide_eq_false q3
   have c4:=of_decide_eq_true q4
   have hf:QT n=1:=by unfold QT;rw [if_neg c2,if_neg (by rw [Qdm];omega),if_pos (by omega)]
   rw [Uj hf (by decide)] at hc
   rw [hc] at hK;exact hK hh O.le
  ·have c2:¬ arI n.op < 0:=of_decide_eq_false q2
   simp only [ZJ,cor] at q3 q4
   have c3:=of_decide_eq_false q3
   have c4:=of_decide_eq_false q4
   have hf:QT n=3:=by
    unfold QT;rw [if_neg c2,if_neg (by rw [Qdm];omega),if_neg (by omega),if_pos]
    intro hg
    rw [if_pos hg] at q5
    cases q5
   rw [Uj hf (by decide)] at hc
   rw [hc] at hK;exact hK hh O.le
  have c2:¬ arI n.op < 0:=of_decide_eq_false q2
  simp only [ZJ,cor] at q3 q4
  have c3:=of_decide_eq_false q3
  have c4:=of_decide_eq_false q4
  have hf:QT n=0:=by
   unfold QT;rw [if_neg c2,if_neg (by rw [Qdm];omega),if_neg (by omega),if_neg]
   intro hg
   rw [if_neg hg] at q5
   cases q5
  have har:0≤arI n.op:=by omega
  have SI:SlI hh a1 st.length st.reverse:=by have:=O.sli;exact this
  refine⟨_,isW (by unfold InR;rcases QK har with h|h|h<;>omega),?_⟩
  have hbad:ZI n st=none→R (vi 3) hh:=fun hp=>by
   rw [Qia hf hp] at hc
   rw [hc] at hK;exact hK hh O.le
  have hgood:∀ s,ZI n st=some s→∀ x:Int,x=(st.length:Nat) - arI n.op→∀ K:Value→Hp→Prop,(∀(a46:Option Addr) (n46 c46:Nat) (h45:Hp),Qh h h45 3 1 a46 n46 c46 ((((i:Int) :: s).reverse).map vi)→n46=s.length+1→K (vsl a46 n46 c46) h45) →
    ∃(a38:Option Addr) (n38 c38:Nat),(Rd Tryz.prog (Instr.sliceAt 48 (vsl a1 st.length c1) none (some (vi x)) none) hh (vsl a38 n38 c38))∧(Ql Tryz.prog (Builtin.append_ #[48,48] 48 #[(vsl none 0 0),(vsl a38 n38 c38)]) hh fun v39 h40=>∃(a41:Option Addr) (n41 c41:Nat),v39=(vsl a41 n41 c41)∧(∀(b42:Nat),h40 b42=none→Ql Tryz.prog (Builtin.append_ #[48,48] 48 #[(vsl a41 n41 c41),(vsl (some (⟨b42,0,none⟩:Addr)) 1 1)]) (Hp.set h40 b42 (Qc [(vi i)] 3)) K)):=by
   intro s hs x hx K hK
   rw [hx]
   obtain⟨p1,p2⟩:=Uo har hs
   have hcap:=O.own.cap
   rw [←p1]
   refine⟨_,_,_,Wz (e:=3) (by kernel_rfl) (by kernel_rfl) (by omega) (by omega),?_⟩
   rw [Int.toNat_natCast]
   have ST:SlI hh a1 s.length s.reverse:=by
    have:=SI.take (i:=s.length) (by omega)
    rw [p2] at this
    exact this
   refine Qh.append Vh (Qh.nil O.le _ _) ST.2 (m:=s.length) (by simp) (QaU _) (by omega) (by omega) fun a' c' h' O' _ _=>⟨_,_,_,rfl,fun b42 hb42=>?_⟩
   rw [Nat.zero_add,List.nil_append] at *
   refine Qh.append Vh (Qh.set hb42 _ O') (Qg.new _ _ [vi i] _) (m:=1) rfl (by simp [Value.oneCell']) (by omega) (by omega) fun a2 c2 h2 O2 _ _=>hK _ _ _ _ ?_ rfl
   rw [List.reverse_cons,List.map_append]
   exact O2
  have hnext:∀ s,ZI n st=some s→∀(a46:Option Addr) (n46 c46:Nat) (h45:Hp),Qh h h45 3 1 a46 n46 c46 ((((i:Int) :: s).reverse).map vi)→n46=s.length+1→∃(x48:Int),IsW x48 ((i:Int)+1)∧(∃(i':Nat) (a:Option Addr) (c:Nat) (st:List Int),[vsl a46 n46 c46,vi x48]=[vsl a st.length c,vi i']∧i'≤l.length∧st.length≤i'∧Zb [] 0 l=Zb st i' (l.drop i')∧Qh h h45 3 1 a st.length c (st.reverse.map vi))∧l.length - (Qn [vsl a46 n46 c46,vi x48] 1).toNat < l.length - (Qn [vsl a1 st.length c1,vi i] 1).toNat:=by
   intro s hs a46 n46 c46 h45 O45 hn
   subst hn
   obtain⟨p1,p2⟩:=Uo har hs
   refine⟨_,isW (by unfold InR;omega),⟨i+1,a46,c46,(i:Int) :: s,rfl,by omega,by simp;omega,?_,O45⟩,by simp [Qn];omega⟩
   rw [hc,Qjc hf hs]
  rcases QK har with h0|h0|h0
  ·have hs:ZI n st=some st:=by unfold ZI;rw [if_pos h0]
   rw [h0]
   refine⟨0,0,fun g=>(by cases g.2),0,fun g=>(by cases g.2),0,fun g=>(by cases g.2),0,0,fun g=>(by cases g.2),0,fun g=>(by cases g.2),fun g=>?_,fun _=>hgood st hs _ (by rw [h0]) _ fun a46 n46 c46 h45 O e=>⟨_,_,_,rfl,hnext st hs a46 n46 c46 h45 O e⟩⟩
   exfalso
   simp only [ZJ,cor] at g
   have:=of_decide_eq_true g
   omega
  ·match st with
   | []=>
    have hs:ZI n []=none:=by unfold ZI;rw [if_neg (by omega),if_pos h0]
    have:=hbad hs
    rw [h0]
    exact⟨0,0,fun g=>(by cases g.1),0,fun g=>(by cases g.1),0,fun g=>(by cases g.1),0,0,fun g=>(by cases g.1),0,fun g=>(by cases g.1),fun _=>this,fun g=>(by cases g)⟩
   | z :: s=>
    obtain⟨q,p,hq,hcell⟩:=SI.get (i:=s.length) (by simp)
    have ez:((z :: s).reverse).getD s.length 0=z:=by
     rw [List.getD_eq_getElem?_getD,List.reverse_cons,List.getElem?_append_right (by simp)]
     simp
    rw [ez] at hcell
    have hx29:(((z :: s).length:Nat):Int) - arI n.op=(s.length:Nat):=by rw [h0];simp
    by_cases hz:z=n.x
    ·have hs:ZI n (z :: s)=some s:=by unfold ZI;rw [if_neg (by omega),if_pos h0];simp [hz]
     have hx30:=hx29
     rw [hx29,h0]
     refine⟨q,p,fun g=>⟨hq,by omega,by simp;omega⟩,z,fun g=>hcell,0,fun g=>(by cases g.2),0,0,fun g=>(by cases g.2),0,fun g=>(by cases g.2),fun g=>?_,fun _=>hgood s hs _ hx30.symm _ fun a46 n46 c46 h45 O e=>⟨_,_,_,rfl,hnext s hs a46 n46 c46 h45 O e⟩⟩
     exfalso
     simp only [ZJ,cor] at g
     have:=of_decide_eq_true g
     omega
    ·have hs:ZI n (z :: s)=none:=by unfold ZI;rw [if_neg (by omega),if_pos h0];simp [hz]
     have:=hbad hs
     rw [hx29,h0]
     refine⟨q,p,fun g=>⟨hq,by omega,by simp;omega⟩,z,fun g=>hcell,0,fun g=>(by cases g.2),0,0,fun g=>(by cases g.2),0,fun g=>(by cases g.2),fun _=>this,fun g=>?_⟩
     exfalso
     simp only [ZJ,cor] at g
     have:=of_decide_eq_false g
     omega
  ·match st with
   | []=>
    have hs:ZI n []=none:=by unfold ZI;rw [if_neg (by omega),if_neg (by omega)]
    have:=hbad hs
    rw [h0]
    exact⟨0,0,fun g=>(by cases g.1),0,fun g=>(by cases g.1),0,fun g=>(by cases g.1),0,0,fun g=>(by cases g.1),0,fun g=>(by cases g.1),fun _=>this,fun g=>(by cases g)⟩
   | [z]=>
    have hs:ZI n [z]=none:=by unfold ZI;rw [if_neg (by omega),if_neg (by omega)]
    have:=hbad hs
    rw [h0]
    exact⟨0,0,fun g=>(by cases g.1),0,fun g=>(by cases g.1),0,fun g=>(by cases g.1),0,0,fun g=>(by cases g.1),0,fun g=>(by cases g.1),fun _=>this,fun g=>(by cases g)⟩
   | z :: y :: s=>
    obtain⟨q,p,hq,hcell⟩:=SI.get (i:=s.length) (by simp;omega)
    obtain⟨q',p',hq',hcell'⟩:=SI.get (i:=s.length+1) (by simp)
    have ey:((z :: y :: s).reverse).getD s.length 0=y:=by
     rw [List.getD_eq_getElem?_getD,List.reverse_cons,List.reverse_cons,List.append_assoc,List.getElem?_append_right (by simp)]
     simp
    have ez:((z :: y :: s).reverse).getD (s.length+1) 0=z:=by
     rw [List.getD_eq_getElem?_getD,List.reverse_cons,List.reverse_cons,List.append_assoc,List.getElem?_append_right (by simp)]
     simp
    rw [ey] at hcell
    rw [ez] at hcell'
    have hx29:(((z :: y :: s).length:Nat):Int) - arI n.op=(s.length:Nat):=by rw [h0];simp;omega
    have hw:IsW (((s.length+1:Nat):Int)) ((s.length:Nat)+1):=isW (by have hst2:(z :: y :: s).length≤i:=hst;simp at hst2;unfold InR;omega)
    by_cases hz:y=n.x∧z=n.y
    ·have hs:ZI n (z :: y :: s)=some s:=by unfold ZI;rw [if_neg (by omega),if_neg (by omega)];simp [hz.1,hz.2]
     have hx30:=hx29
     rw [hx29,h0]
     refine⟨q,p,fun g=>⟨hq,by omega,by simp;omega⟩,y,fun g=>hcell,((s.length+1:Nat):Int),fun g=>hw,q',p',fun g=>⟨hq',by omega,by simp;omega⟩,z,fun g=>hcell',fun g=>?_,fun _=>hgood s hs _ hx30.symm _ fun a46 n46 c46 h45 O e=>⟨_,_,_,rfl,hnext s hs a46 n46 c46 h45 O e⟩⟩
     exfalso
     simp only [ZJ,cor] at g
     have:=of_decide_eq_true g
     omega
    ·have hs:ZI n (z :: y :: s)=none:=by unfold ZI;rw [if_neg (by omega),if_neg (by omega)];simp;intro h1 h2;exact hz ⟨h1,h2⟩
     have:=hbad hs
     rw [hx29,h0]
     refine⟨q,p,fun g=>⟨hq,by omega,by simp;omega⟩,y,fun g=>hcell,((s.length+1:Nat):Int),fun g=>hw,q',p',fun g=>⟨hq',by omega,by simp;omega⟩,z,fun g=>hcell',fun _=>this,fun g=>?_⟩
     exfalso
     simp only [ZJ,cor] at g
     have:=of_decide_eq_false g
     omega
 ·have hge:i=l.length:=by have:=of_decide_eq_false q;omega
  subst hge
  rw [List.drop_eq_nil_of_le (Nat.le_refl _),Zb] at hc
  refine⟨fun q2=>?_,fun q2=>?_⟩
  ·rw [if_neg (by have:=of_decide_eq_true q2;omega)] at hc
   rw [hc] at hK;exact hK hh O.le
  ·rw [if_pos (by have:=of_decide_eq_false q2;omega)] at hc
   rw [hc] at hK;exact hK hh O.le
theorem Q9 {op:Int}{h:Hp}{R:Value→Hp→Prop}(hK:R (vi (arI op)) h):Qa Tryz.prog 78 [vi op] h R:=by
 refine Qfy ?_
 unfold Np
 unfold arI at hK
 refine⟨fun e=>?_,fun e=>⟨fun e2=>?_,fun e2=>⟨fun e3=>?_,fun e3=>?_⟩⟩⟩
 all_goals simp only [ZJ,cor] at *
 ·rw [if_pos (of_decide_eq_true e)] at hK;exact hK
 ·rw [if_neg (of_decide_eq_false e),if_pos (by have:=of_decide_eq_true e2;omega)] at hK;exact hK
 ·rw [if_neg (of_decide_eq_false e),if_neg (by have:=of_decide_eq_false e2;omega),if_pos (by have:=of_decide_eq_true e3;omega)] at hK;exact hK
 ·rw [if_neg (of_decide_eq_false e),if_neg (by have:=of_decide_eq_false e2;omega),if_neg (by have:=of_decide_eq_false e3;omega)] at hK;exact hK
def Qa4 (u0:Option Addr)(u1 u2:Nat)(u3:Int)(u4:Int)(u5:Int)(u6:Int)(u7:Int)(u8:Int)(u9:Int)(u10:Int)(h:Hp)(R:Value→Hp→Prop):Prop:=
 (∃ b1 o2,(u0=some ⟨b1,o2,none⟩∧(0:Int)≤u3∧u3 < (u1:Int))∧(∃ x3 x4 x5 x6 x7 x8,(Hp.row h b1 (o2+u3.toNat*6) 6=some [vi x3,vi x4,vi x5,vi x6,vi x7,vi x8])∧(((decide (x3=1))=true→R (vag [vi x7,vi x8]) h)∧((decide (x3=1))=false→(((decide (x3=2))=true→(((decide (x6=0))=true→(Qa Tryz.prog 146 [vi u4] h fun v9 h10=>∃ x11 x12,v9=(vag [vi x11,vi x12])∧R (vag [vi x11,vi x12]) h10))∧((decide (x6=0))=false→(((decide (x6=1))=true→R (vag [vi u5,vi u6]) h)∧((decide (x6=1))=false→(((decide (x6=2))=true→R (vag [vi u7,vi u8]) h)∧((decide (x6=2))=false→R (vag [vi u9,vi u10]) h)))))))∧((decide (x3=2))=false→(((decide (x3=3))=true→(Qa Tryz.prog 145 [vsl u0 u1 u2,vi x4,vag [vi u4,vi u5,vi u6,vi u7,vi u8,vi u9,vi u10]] h fun v16 h17=>∃ x18 x19,v16=(vag [vi x18,vi x19])∧(((decide (x18=1))=true→(∃ x20,(IsW x20 (-x19))∧(Qa Tryz.prog 146 [vi x20] h17 fun v21 h22=>∃ x23 x24,v21=(vag [vi x23,vi x24])∧R (vag [vi x23,vi x24]) h22)))∧((decide (x18=1))=false→R (vag [vi 0,vi 0]) h17))))∧((decide (x3=3))=false→(((decide (x3=4))=true→(Qa Tryz.prog 145 [vsl u0 u1 u2,vi x4,vag [vi u4,vi u5,vi u6,vi u7,vi u8,vi u9,vi u10]] h fun v26 h27=>∃ x28 x29,v26=(vag [vi x28,vi x29])∧(((decide (x28=2))=true→(Qa Tryz.prog 180 [(vb (decide (x29=0)))] h27 fun v30 h31=>∃ x32 x33,v30=(vag [vi x32,vi x33])∧R (vag [vi x32,vi x33]) h31))∧((decide (x28=2))=false→R (vag [vi 0,vi 0]) h27))))∧((decide (x3=4))=false→(((decide (x3=5))=true→(Qa Tryz.prog 145 [vsl u0 u1 u2,vi x4,vag [vi u4,vi u5,vi u6,vi u7,vi u8,vi u9,vi u10]] h fun v35 h36=>∃ x37 x38,v35=(vag [vi x37,vi x38])∧(Qa Tryz.prog 180 [(vb (decide (x37=0)))] h36 fun v39 h40=>∃ x41 x42,v39=(vag [vi x41,vi x42])∧R (vag [vi x41,vi x42]) h40)))∧((decide (x3=5))=false→(Qa Tryz.prog 145 [vsl u0 u1 u2,vi x4,vag [vi u4,vi u5,vi u6,vi u7,vi u8,vi u9,vi u10]] h fun v44 h45=>∃ x46 x47,v44=(vag [vi x46,vi x47])∧(Qa Tryz.prog 145 [vsl u0 u1 u2,vi x5,vag [vi u4,vi u5,vi u6,vi u7,vi u8,vi u9,vi u10]] h45 fun v48 h49=>∃ x50 x51,v48=(vag [vi x50,vi x51])∧(Qa Tryz.prog 181 [vi x3,vag [vi x46,vi x47],vag [vi x50,vi x51]] h49 fun v52 h53=>∃ x54 x55,v52=(vag [vi x54,vi x55])∧R (vag [vi x54,vi x55]) h53)))))))))))))))
theorem Qhl {u0 u1 u2 u3 u4 u5 u6 u7 u8 u9 u10 h R}(H:Qa4 u0 u1 u2 u3 u4 u5 u6 u7 u8 u9 u10 h R):Qa Tryz.prog 145 [vsl u0 u1 u2,vi u3,vag [vi u4,vi u5,vi u6,vi u7,vi u8,vi u9,vi u10]] h R:=
 Qd (cfg:=⟨[],[],[(26,[0,1,2,3,4,5,7,8,9,10,6,11,12,13])]⟩) Qo mixed Tryz.func145 [.one (.v (vsl u0 u1 u2)),.one (.v (vi u3)),.ag [.v (vi u4),.v (vi u5),.v (vi u6),.v (vi u7),.v (vi u8),.v (vi u9),.v (vi u10)]] (by kernel_rfl) rfl (by kernel_rfl) H
def Qgi (u0:Option Addr)(u1 u2:Nat)(u3:Int)(u4:Int)(u5:Int)(u6:Int)(u7:Int)(u8:Int)(u9:Int)(h:Hp)(R:Value→Hp→Prop):Prop:=
 (∃ x1,(IsW x1 ((u1:Int) - 1))∧(Qa Tryz.prog 145 [vsl u0 u1 u2,vi x1,vag [vi u3,vi u4,vi u5,vi u6,vi u7,vi u8,vi u9]] h fun v2 h3=>∃ x4 x5,v2=(vag [vi x4,vi x5])∧R (vag [vi x4,vi x5]) h3))
theorem QlH {u0 u1 u2 u3 u4 u5 u6 u7 u8 u9 h R}(H:Qgi u0 u1 u2 u3 u4 u5 u6 u7 u8 u9 h R):Qa Tryz.prog 99 [vsl u0 u1 u2,vag [vi u3,vi u4,vi u5,vi u6,vi u7,vi u8,vi u9]] h R:=
 Qd (cfg:=⟨[],[],[]⟩) Qo mixed Tryz.func99 [.one (.v (vsl u0 u1 u2)),.ag [.v (vi u3),.v (vi u4),.v (vi u5),.v (vi u6),.v (vi u7),.v (vi u8),.v (vi u9)]] (by kernel_rfl) rfl (by kernel_rfl) H
section
variable {a:Option Addr}{m c:Nat}{l:List Nd}{h:Hp}
theorem QgI (S:SlP Zo h a m l)(W:WfL l){e:EvL}:∀(k:Nat) (i:Int),i.toNat=k→0≤i→i < l.length→∀(R:Value→Hp→Prop),R (vag (Qv (vAt e l i.toNat))) h→Qa Tryz.prog 145 [vsl a m c,vi i,vag (Vu e)] h R:=by
 intro k
 induction k using Nat.strongRecOn with
 | _ k ih=>
  intro i hik h0 h1 R hK
  refine Qhl ?_
  unfold Qa4
  have hm:=S.1
  have hx:l[i.toNat]?=some (l[i.toNat]'(by omega)):=List.getElem?_eq_getElem (by omega)
  have Wn:=W _ _ hx
  have hv:vAt e l i.toNat=_:=Z8 (YI e) hx Wn
  rw [hv] at hK
  clear hv
  obtain⟨b,o,ha,hr⟩:=S.get QD (by decide) hx
  generalize l[i.toNat]'(by omega)=n at *
  have hX:1≤arI n.op→∀(R:Value→Hp→Prop),R (vag (Qv (vAt e l n.x.toNat))) h→Qa Tryz.prog 145 [vsl a m c,vi n.x,vag (Vu e)] h R:=fun h2 R hR=>by
   have:=Wn.x h2
   exact ih n.x.toNat (by omega) n.x rfl (by omega) (by omega) R hR
  have hY:2≤arI n.op→∀(R:Value→Hp→Prop),R (vag (Qv (vAt e l n.y.toNat))) h→Qa Tryz.prog 145 [vsl a m c,vi n.y,vag (Vu e)] h R:=fun h2 R hR=>by
   have:=Wn.y h2
   exact ih n.y.toNat (by omega) n.y rfl (by omega) (by omega) R hR
  have ar:=ar0 Wn.a
  have hfold:vAt e l=fAt (0,0) (Xf e) l:=rfl
  rw [←hfold] at hK
  generalize vAt e l n.x.toNat=vx at *
  generalize vAt e l n.y.toNat=vy at *
  unfold Xf at hK
  refine⟨b,o,⟨ha,h0,by omega⟩,_,_,_,_,_,_,hr,fun q=>?_,fun q1=>⟨fun q=>?_,fun q2=>⟨fun q=>?_,fun q3=>⟨fun q=>?_,fun q4=>⟨fun q=>?_,fun q5=>?_⟩⟩⟩⟩⟩
  ·rw [if_pos (of_decide_eq_true q)] at hK;exact hK
  ·rw [if_neg (of_decide_eq_false q1),if_pos (of_decide_eq_true q)] at hK
   unfold Qak at hK
   refine⟨fun p=>?_,fun p=>⟨fun p2=>?_,fun p2=>⟨fun p3=>?_,fun p3=>?_⟩⟩⟩
   ·rw [if_pos (of_decide_eq_true p)] at hK;exact YT ⟨_,_,rfl,hK⟩
   ·rw [if_neg (of_decide_eq_false p),if_pos (of_decide_eq_true p2)] at hK;exact hK
   ·rw [if_neg (of_decide_eq_false p),if_neg (of_decide_eq_false p2),if_pos (of_decide_eq_true p3)] at hK;exact hK
   ·rw [if_neg (of_decide_eq_false p),if_neg (of_decide_eq_false p2),if_neg (of_decide_eq_false p3)] at hK;exact hK
  ·rw [if_neg (of_decide_eq_false q1),if_neg (of_decide_eq_false q2),if_pos (of_decide_eq_true q)] at hK
   have:=of_decide_eq_true q
   refine hX (by omega) _ ⟨_,_,rfl,fun p=>?_,fun p=>?_⟩
   ·unfold Qa0 at hK
    rw [if_pos (of_decide_eq_true p)] at hK
    exact⟨_,Jt _,YT ⟨_,_,rfl,hK⟩⟩
   ·unfold Qa0 at hK
    rw [if_neg (of_decide_eq_false p)] at hK
    exact hK
  ·rw [if_neg (of_decide_eq_false q1),if_neg (of_decide_eq_false q2),if_neg (of_decide_eq_false q3),if_pos (of_decide_eq_true q)] at hK
   have:=of_decide_eq_true q
   refine hX (by omega) _ ⟨_,_,rfl,fun p=>?_,fun p=>?_⟩
   ·unfold JG at hK
    rw [if_pos (of_decide_eq_true p)] at hK
    exact XB ⟨_,_,rfl,hK⟩
   ·unfold JG at hK
    rw [if_neg (of_decide_eq_false p)] at hK
    exact hK
  ·rw [if_neg (of_decide_eq_false q1),if_neg (of_decide_eq_false q2),if_neg (of_decide_eq_false q3),if_neg (of_decide_eq_false q4),if_pos (of_decide_eq_true q)] at hK
   have:=of_decide_eq_true q
   exact hX (by omega) _ ⟨_,_,rfl,XB ⟨_,_,rfl,hK⟩⟩
  ·have p1:=of_decide_eq_false q1
   have p2:=of_decide_eq_false q2
   have p3:=of_decide_eq_false q3
   have p4:=of_decide_eq_false q4
   have p5:=of_decide_eq_false q5
   rw [if_neg p1,if_neg p2,if_neg p3,if_neg p4,if_neg p5] at hK
   have h2:arI n.op=2:=by rcases QK Wn.a with h|h|h<;>omega
   exact hX (by omega) _ ⟨_,_,rfl,hY (by omega) _ ⟨_,_,rfl,Qn1 ⟨_,_,rfl,hK⟩⟩⟩
theorem QlP (S:SlP Zo h a m l)(W:WfL l)(hl:0 < l.length)(hm:l.length≤1000000){e:EvL}{R:Value→Hp→Prop}(hK:R (vag (Qv (ZG e l))) h):Qa Tryz.prog 99 [vsl a m c,vag (Vu e)] h R:=by
 refine QlH ?_
 unfold Qgi
 have hm:=S.1
 refine⟨_,isW (by unfold InR;omega),QgI S W _ ((m:Int) - 1) rfl (by omega) (by omega) _ ⟨_,_,rfl,?_⟩⟩
 have e1:((m:Int) - 1).toNat=l.length - 1:=by omega
 rw [e1]
 exact hK
end
section
variable {a:Option Addr}{m c:Nat}{l:List Nd}{h:Hp}
theorem Qd6 (op a b:Int):tyG op (some a) (some b)=if op=5 then some 2 else if (a≠0∧a≠Wm op)∨(b≠0∧b≠Wm op) then none else if op=11∨op=12 then some 2 else some (Wm op):=rfl
def QdZ:Option Int→Value
 | some t=>Qf [vi t,vb true]
 | none=>Qf [vi 0,vb false]
theorem Qid (S:SlP Zo h a m l)(W:WfL l):∀(k:Nat) (i:Int),i.toNat=k→0≤i→i < l.length→∀(R:Value→Hp→Prop),R (QdZ (tAt l i.toNat)) h→Qa Tryz.prog 186 [vsl a m c,vi i] h R:=by
 intro k
 induction k using Nat.strongRecOn with
 | _ k ih=>
  intro i hik h0 h1 R hK
  refine Qjf ?_
  unfold QcL
  have hm:=S.1
  have hx:l[i.toNat]?=some (l[i.toNat]'(by omega)):=List.getElem?_eq_getElem (by omega)
  have Wn:=W _ _ hx
  have hv:tAt l i.toNat=_:=Z8 YM hx Wn
  rw [hv] at hK
  clear hv
  obtain⟨b,o,ha,hr⟩:=S.get QD (by decide) hx
  generalize l[i.toNat]'(by omega)=n at *
  have hX:1≤arI n.op→∀(R:Value→Hp→Prop),R (QdZ (tAt l n.x.toNat)) h→Qa Tryz.prog 186 [vsl a m c,vi n.x] h R:=fun h2 R hR=>by
   have:=Wn.x h2
   exact ih n.x.toNat (by omega) n.x rfl (by omega) (by omega) R hR
  have hY:2≤arI n.op→∀(R:Value→Hp→Prop),R (QdZ (tAt l n.y.toNat)) h→Qa Tryz.prog 186 [vsl a m c,vi n.y] h R:=fun h2 R hR=>by
   have:=Wn.y h2
   exact ih n.y.toNat (by omega) n.y rfl (by omega) (by omega) R hR
  have ar:=ar0 Wn.a
  have hfold:tAt l=fAt none tyF l:=rfl
  rw [←hfold] at hK
  generalize tAt l n.x.toNat=vx at *
  generalize tAt l n.y.toNat=vy at *
  refine⟨b,o,⟨ha,h0,by omega⟩,_,_,_,_,_,_,hr,fun q=>?_,fun q1=>⟨fun q=>?_,fun q2=>?_⟩⟩
  ·unfold tyF at hK
   rw [if_pos (of_decide_eq_true q)] at hK;exact hK
  ·unfold tyF at hK
   rw [if_neg (of_decide_eq_false q1),if_pos (of_decide_eq_true q)] at hK;exact hK
  have p1:=of_decide_eq_false q1
  have p2:=of_decide_eq_false q2
  rw [Wv p1 p2] at hK
  have h1:1≤arI n.op:=by rcases QK Wn.a with h|h|h<;>omega
  -- what is done once both kinds are there
  have hJ:∀(x:Option Int) (p14 p35:Bool) (x13 x34:Int),QdZ vx=Qf [vi x13,vb p14]→QdZ x=Qf [vi x34,vb p35]→R (QdZ (tyG n.op vx x)) h →
    (((bif (!p14) then true else(!p35))=true→R (Qf [(vi 0),(vb false)]) h)∧((bif (!p14) then true else(!p35))=false→(((decide ((n.op:Int)=5))=true→R (Qf [(vi 2),(vb true)]) h)∧((decide ((n.op:Int)=5))=false→(let J41:Int→Prop:=fun(x42:Int)=>(((bif (bif (decide ((x13:Int)≠0)) then(decide ((x13:Int)≠x42)) else false) then true else(bif (decide ((x34:Int)≠0)) then(decide ((x34:Int)≠x42)) else false))=true→R (Qf [(vi 0),(vb false)]) h)∧((bif (bif (decide ((x13:Int)≠0)) then(decide ((x13:Int)≠x42)) else false) then true else(bif (decide ((x34:Int)≠0)) then(decide ((x34:Int)≠x42)) else false))=false→(let J46:Int→Prop:=fun(x47:Int)=>R (Qf [(vi x47),(vb true)]) h;(((bif (decide ((n.op:Int)=11)) then true else(decide ((n.op:Int)=12)))=true→(J46 2))∧((bif (decide ((n.op:Int)=11)) then true else(decide ((n.op:Int)=12)))=false→(J46 x42))))));(((bif (bif (decide ((n.op:Int)=4)) then true else(decide ((n.op:Int)=9))) then true else(decide ((n.op:Int)=10)))=true→(J41 2))∧((bif (bif (decide ((n.op:Int)=4)) then true else(decide ((n.op:Int)=9))) then true else(decide ((n.op:Int)=10)))=false→(J41 1)))))))):=by
   intro x p14 p35 x13 x34 e1 e2 hR
   match vx,x,e1,e2,hR with
   | none,x,e1,e2,hR=>
    cases e1
    rw [(GF n.op x).1] at hR
    exact⟨fun _=>hR,fun g=>(by cases g)⟩
   | some t,none,e1,e2,hR=>
    cases e1
    cases e2
    rw [(GF n.op _).2] at hR
    exact⟨fun _=>hR,fun g=>(by cases g)⟩
   | some t,some u,e1,e2,hR=>
    cases e1
    cases e2
    rw [Qd6] at hR
    refine⟨fun g=>(by cases g),fun _=>⟨fun g=>?_,fun g=>?_⟩⟩
    ·rw [if_pos (of_decide_eq_true g)] at hR;exact hR
    rw [if_neg (of_decide_eq_false g)] at hR
    intro J41
    have hw:J41 (Wm n.op):=by
     refine⟨fun g=>?_,fun g=>?_⟩
     ·simp only [ZJ,cor] at g
      rw [if_pos (of_decide_eq_true g)] at hR;exact hR
     ·simp only [ZJ,cor] at g
      rw [if_neg (of_decide_eq_false g)] at hR
      intro J46
      refine⟨fun g=>?_,fun g=>?_⟩
      ·simp only [ZJ,cor] at g
       rw [if_pos (of_decide_eq_true g)] at hR;exact hR
      ·simp only [ZJ,cor] at g
       rw [if_neg (of_decide_eq_false g)] at hR;exact hR
    clear_value J41
    unfold Wm at hw
    refine⟨fun g=>?_,fun g=>?_⟩
    ·simp only [ZJ,cor] at g
     have:=of_decide_eq_true g
     rw [if_pos (by omega)] at hw;exact hw
    ·simp only [ZJ,cor] at g
     have:=of_decide_eq_false g
     rw [if_neg (by omega)] at hw;exact hw
  have out:∀ x:Option Int,∃(t:Int) (p:Bool),QdZ x=Qf [vi t,vb p]:=by
   intro x
   cases x with
   | none=>exact⟨_,_,rfl⟩
   | some t=>exact⟨_,_,rfl⟩
  obtain⟨t1,p1',o1⟩:=out vx
  refine hX h1 _ ⟨t1,p1',o1,N9 ⟨_,rfl,?_⟩⟩
  intro J24
  refine⟨fun g=>?_,fun g=>?_⟩
  ·have h2:=of_decide_eq_true g
   obtain⟨t2,p2',o2⟩:=out vy
   rw [if_pos h2] at hK
   exact hY (by omega) _ ⟨t2,p2',o2,hJ _ _ _ _ _ o1 o2 hK⟩
  ·rw [if_neg (of_decide_eq_false g)] at hK
   exact hJ _ _ _ _ _ o1 o1 hK
theorem QlW (S:SlP Zo h a m l)(W:WfL l)(hl:0 < l.length)(hm:l.length≤1000000){R:Value→Hp→Prop}(hK:R (Qf [vi (Zk l).1,vi (Zk l).2]) h):Qa Tryz.prog 154 [vsl a m c] h R:=by
 refine Qk8 ?_
 unfold Qf9
 have hm:=S.1
 refine⟨_,isW (by unfold InR;omega),Qid S W _ ((m:Int) - 1) rfl (by omega) (by omega) _ ?_⟩
 have e1:((m:Int) - 1).toNat=l.length - 1:=by omega
 rw [e1]
 unfold Zk at hK
 cases ht:tAt l (l.length - 1) with
 | none=>
  rw [ht] at hK
  exact⟨_,_,rfl,fun _=>hK,fun g=>(by cases g)⟩
 | some t=>
  rw [ht] at hK
  exact⟨_,_,rfl,fun g=>(by cases g),fun _=>hK⟩
end
theorem Qfi {e:EvL}{n:Int}(hn:0≤n∧n≤3){h:Hp}{R:Value→Hp→Prop}(hK:R (vag (Qv (Qak e n))) h):Qa Tryz.prog 85 [vag (Vu e),vi n] h R:=by
 refine Qfz ?_
 unfold ND
 refine Qz ⟨_,_,rfl,?_⟩
 have r:n=0∨n=1∨n=2∨n=3:=by omega
 rcases r with rfl|rfl|rfl|rfl
 ·exact⟨_,_,fun w _=>by kernel_rfl,hK⟩
 ·exact⟨_,_,fun w _=>by kernel_rfl,hK⟩
 ·exact⟨_,_,fun w _=>by kernel_rfl,hK⟩
 ·exact⟨_,_,fun w _=>by kernel_rfl,hK⟩
theorem Qp3:ElT Tryz.prog 85 42 2 16:=.of (by kernel_rfl) (by kernel_rfl) (by decide)
theorem Qd4 {β:Type}{d:β}{F:Nd→β→β→β}{l:List Nd}{outs:List β}{i k:Nat}(ho:outs.take i=fwd d F (l.take i))(hi:i≤l.length)(hk:k < i):outs[k]?=some (fAt d F l k):=by
 have h1:outs[k]?=(outs.take i)[k]?:=by rw [List.getElem?_take,if_pos hk]
 rw [h1,ho]
 have hlen:(fwd d F (l.take i)).length=i:=by rw [Ww,List.length_take];omega
 rw [←UA l hk hi,List.getD_eq_getElem?_getD,List.getElem?_eq_getElem (by omega)]
 rfl
theorem Qjg {β:Type}{d:β}{F:Nd→β→β→β}{l:List Nd}{outs:List β}{i:Nat}{n:Nd}(ho:outs.take i=fwd d F (l.take i))(hn:l[i]?=some n)(hl:outs.length=l.length):(outs.set i (fAt d F l i)).take (i+1)=fwd d F (l.take (i+1)):=by
 have hlt:=(List.getElem?_eq_some_iff.1 hn).1
 rw [QnG l hn,←ho,List.take_succ_eq_append_getElem (by rw [List.length_set];omega),List.take_set_of_le (Nat.le_refl _),List.getElem_set_self]
section
variable {a:Option Addr}{m c:Nat}{l:List Nd}{h:Hp}
theorem Qbx (S:SlP Zo h a m l)(W:WfL l)(hl:0 < l.length)(hm:l.length≤1000000){e:EvL}{R:Value→Hp→Prop}(hK:∀ h',h.le h'→R (vag (Qv (ZG e l))) h'):Qa Tryz.prog 37 [vsl a m c,vag (Vu e)] h R:=by
 refine QhD ?_
 unfold Qba
 obtain rfl:=S.1
 refine Vec.make (enc:=Qv) (x:=(0,0)) Qp3 (z:=[vi 0,vi 0]) (by kernel_rfl) rfl rfl hm (by omega) fun a3 h2 V2=>⟨_,_,_,rfl,?_⟩
 refine⟨fun vs hh=>∃(i:Nat) (outs:List (Int × Int)),vs=[vi i]∧i≤l.length∧outs.length=l.length∧outs.take i=fwd (0,0) (Xf e) (l.take i)∧Vec Qv 2 42 h hh a3 l.length outs,fun vs hh=>l.length - (Qn vs 0).toNat,
  ⟨0,_,rfl,Nat.zero_le _,by simp,rfl,V2⟩,?_⟩
 rintro vs hh ⟨i,outs,rfl,hi,hlo,ho,V⟩
 refine⟨i,rfl,fun q=>?_,fun q=>?_⟩
 ·have hlt:i < l.length:=by have:=of_decide_eq_true q;omega
  have hx:l[i]?=some l[i]:=List.getElem?_eq_getElem hlt
  have Wn:=W _ _ hx
  have hv:vAt e l i=_:=Z8 (YI e) hx Wn
  have hset:=Qjg ho hx hlo
  obtain⟨b,o,ha,hr⟩:=(S.le V.le0).get QD (by decide) hx
  generalize l[i]=n at *
  have hout:outs[i]?=some (outs[i]'(by omega)):=List.getElem?_eq_getElem (by omega)
  obtain⟨b3,o3,ha3,hput⟩:=V.put Ym (x':=vAt e l i) (k:=0) (vs:=Qv (vAt e l i)) hout (by rw [Ym];decide) (by rw [Ym];decide) rfl
  have A3:∀{x:Int},0≤x→x < l.length→a3=some ⟨b3,o3,none⟩∧(0:Int)≤x∧x < (l.length:Nat):=fun h0 h1=>⟨ha3,h0,h1⟩
  have rdo:∀{x:Int},0≤x→x < i→hh.row b3 (o3+x.toNat*2) 2=some (Qv (vAt e l x.toNat)):=by
   intro x h0 h1
   obtain⟨b',o',ha',hr'⟩:=(V.slp Ym (by decide)).get Ym (by decide) (Qd4 ho hi (k:=x.toNat) (by omega))
   rw [ha3] at ha'
   cases ha'
   exact hr'
  intro J83
  have hJ:∀ h',Vec Qv 2 42 h h' a3 l.length (outs.set i (vAt e l i))→J83 h':=by
   intro h' V'
   exact⟨_,isW (by unfold InR;omega),⟨i+1,_,rfl,by omega,by rw [List.length_set];exact hlo,hset,V'⟩,by simp [Qn];omega⟩
  clear_value J83
  have fin:∀{v:Int × Int},v=vAt e l i→hh.store b3 (o3+i*2) (Qv v) J83:=by
   rintro v rfl
   exact hput _ hJ
  have ar:=ar0 Wn.a
  have hfold:vAt e l=fAt (0,0) (Xf e) l:=rfl
  rw [←hfold] at hv
  unfold Xf at hv
  have Ai:a3=some ⟨b3,o3,none⟩∧(0:Int)≤i∧(i:Int) < (l.length:Nat):=A3 (by omega) (by omega)
  refine⟨b,o,⟨ha,by omega,by omega⟩,_,_,_,_,_,_,hr,fun q=>?_,fun q1=>⟨fun q=>?_,fun q2=>⟨fun q=>?_,fun q3=>⟨fun q=>?_,fun q4=>⟨fun q=>?_,fun q5=>?_⟩⟩⟩⟩⟩
  ·rw [if_pos (of_decide_eq_true q)] at hv
   exact⟨b3,o3,Ai,fin hv.symm⟩
  ·rw [if_neg (of_decide_eq_false q1),if_pos (of_decide_eq_true q)] at hv
   exact Qfi (Wn.f (of_decide_eq_true q)) ⟨_,_,rfl,b3,o3,Ai,fin hv.symm⟩
  ·rw [if_neg (of_decide_eq_false q1),if_neg (of_decide_eq_false q2),if_pos (of_decide_eq_true q)] at hv
   have:=of_decide_eq_true q
   have hX:=Wn.x (by omega)
   exact⟨b3,o3,A3 (by omega) (by omega),_,_,rdo hX.1 hX.2,QhA ⟨_,_,rfl,b3,o3,Ai,fin hv.symm⟩⟩
  ·rw [if_neg (of_decide_eq_false q1),if_neg (of_decide_eq_false q2),if_neg (of_decide_eq_false q3),if_pos (of_decide_eq_true q)] at hv
   have:=of_decide_eq_true q
   have hX:=Wn.x (by omega)
   exact⟨b3,o3,A3 (by omega) (by omega),_,_,rdo hX.1 hX.2,KL ⟨_,_,rfl,b3,o3,Ai,fin hv.symm⟩⟩
  ·rw [if_neg (of_decide_eq_false q1),if_neg (of_decide_eq_false q2),if_neg (of_decide_eq_false q3),if_neg (of_decide_eq_false q4),if_pos (of_decide_eq_true q)] at hv
   have:=of_decide_eq_true q
   have hX:=Wn.x (by omega)
   exact⟨b3,o3,A3 (by omega) (by omega),_,Hp.row_cell (rdo hX.1 hX.2) (i:=0) rfl,QM ⟨_,_,rfl,b3,o3,Ai,fin hv.symm⟩⟩
  ·have p1:=of_decide_eq_false q1
   have p2:=of_decide_eq_false q2
   have p3:=of_decide_eq_false q3
   have p4:=of_decide_eq_false q4
   have p5:=of_decide_eq_false q5
   rw [if_neg p1,if_neg p2,if_neg p3,if_neg p4,if_neg p5] at hv
   have h2:arI n.op=2:=by rcases QK Wn.a with h|h|h<;>omega
   have hX:=Wn.x (by omega)
   have hY:=Wn.y (by omega)
   exact⟨b3,o3,A3 (by omega) (by omega),_,_,rdo hX.1 hX.2,b3,o3,A3 (by omega) (by omega),_,_,rdo hY.1 hY.2,QcN ⟨_,_,rfl,b3,o3,Ai,fin hv.symm⟩⟩
 ·have hge:i=l.length:=by have:=of_decide_eq_false q;omega
  subst hge
  obtain⟨b',o',ha',hr'⟩:=(V.slp Ym (by decide)).get Ym (by decide) (Qd4 ho (Nat.le_refl _) (k:=l.length - 1) (by omega))
  refine⟨_,isW (by unfold InR;omega),b',o',⟨ha',by omega,by omega⟩,_,_,?_,hK hh V.le0⟩
  have e1:(((l.length:Nat):Int) - 1).toNat=l.length - 1:=by omega
  rw [e1]
  exact hr'
theorem QgN {x y:Int}{R:Value→Hp→Prop}(hK:R (Qf [vi (if x=0 then y else if y=0∨x=y then x else 0),vb (decide (x=0∨y=0∨x=y))]) h):Qa Tryz.prog 165 [vi x,vi y] h R:=by
 refine Qhc ?_
 unfold Qbw
 refine⟨fun q=>?_,fun q=>?_⟩
 ·have q:=of_decide_eq_true q
  rw [if_pos q,decide_eq_true (.inl q)] at hK;exact hK
 have q:=of_decide_eq_false q
 rw [if_neg q] at hK
 intro J3
 refine⟨fun q2=>⟨fun _=>?_,fun q3=>?_⟩,fun q2=>⟨fun q3=>?_,fun q3=>?_⟩⟩
 ·have q2:=of_decide_eq_true q2
  rw [if_pos (.inl q2),decide_eq_true (.inr (.inl q2))] at hK;exact hK
 ·rw [q2] at q3;cases q3
 ·have q3:=of_decide_eq_true q3
  rw [if_pos (.inr q3),decide_eq_true (.inr (.inr q3))] at hK;exact hK
 ·have q2:=of_decide_eq_false q2
  have q3:=of_decide_eq_false q3
  rw [if_neg (by omega),decide_eq_false (by omega)] at hK;exact hK
def Qj9 (x:Int):List Value:=[vi x]
theorem UE (x:Int):(Qj9 x).length=1:=rfl
theorem U1 (S:SlP Zo h a m l)(O:OkE l)(hm:l.length≤1000000){R:Value→Hp→Prop}(hK:∀ h',h.le h'→R (Qf [vi (Zk l).1,ifv (YA (Zk l).2)]) h'):Qa Tryz.prog 125 [vsl a m c] h R:=by
 have W:=O.wf
 have hl:=O.pos
 refine Qg2 ?_
 unfold QaD
 obtain rfl:=S.1
 refine Vec.make (enc:=Qj9) (x:=0) Vh (z:=[vi 0]) (by kernel_rfl) rfl rfl hm (by omega) fun a3 h2 V2=>⟨_,_,_,rfl,?_⟩
 refine⟨fun vs hh=>∃(i:Nat) (outs:List Int),vs=[vi i]∧i≤l.length∧outs.length=l.length∧(outs.map some).take i=fwd none tyF (l.take i)∧Vec Qj9 1 3 h hh a3 l.length outs,fun vs hh=>l.length - (Qn vs 0).toNat,
  ⟨0,_,rfl,Nat.zero_le _,by simp,rfl,V2⟩,?_⟩
 rintro vs hh ⟨i,outs,rfl,hi,hlo,ho,V⟩
 have get:∀{k:Nat},k < i→∃ t,outs[k]?=some t∧tAt l k=some t:=by
  intro k hk
  have:=Qd4 ho hi hk
  rw [List.getElem?_map,Option.map_eq_some_iff] at this
  obtain⟨t,h1,h2⟩:=this
  exact⟨t,h1,h2.symm⟩
 refine⟨i,rfl,fun q=>?_,fun q=>?_⟩
 ·have hlt:i < l.length:=by have:=of_decide_eq_true q;omega
  have hx:l[i]?=some l[i]:=List.getElem?_eq_getElem hlt
  have Wn:=W _ _ hx
  have hv:tAt l i=_:=Z8 YM hx Wn
  have hset:=fun t (e:tAt l i=some t)=>(by
   have:=Qjg (outs:=outs.map some) ho hx (by simpa using hlo)
   rw [show fAt none tyF l i=some t from e,←List.map_set] at this
   exact this:((outs.set i t).map some).take (i+1)=fwd none tyF (l.take (i+1)))
  obtain⟨b,o,ha,hr⟩:=(S.le V.le0).get QD (by decide) hx
  generalize l[i]=n at *
  have hout:outs[i]?=some (outs[i]'(by omega)):=List.getElem?_eq_getElem (by omega)
  obtain⟨b3,o3,ha3,_⟩:=V.put UE (x':=0) (k:=0) (vs:=[vi 0]) hout (by decide) (by decide) rfl
  have A3:∀{x:Int},0≤x→x < l.length→a3=some ⟨b3,o3,none⟩∧(0:Int)≤x∧x < (l.length:Nat):=fun h0 h1=>⟨ha3,h0,h1⟩
  have put:∀(outs':List Int) (hh':Hp),outs'.length=l.length→Vec Qj9 1 3 h hh' a3 l.length outs'→∀(t:Int) (K:Hp→Prop),(∀ h',Vec Qj9 1 3 h h' a3 l.length (outs'.set i t)→K h')→hh'.store b3 (o3+i*1) [vi t] K:=by
   intro outs' hh' h1 V' t K hK
   obtain⟨b',o',ha',hp⟩:=V'.put UE (i:=i) (x:=outs'[i]'(by omega)) (x':=t) (k:=0) (vs:=[vi t]) (List.getElem?_eq_getElem (by omega)) (Nat.succ_pos 0) (Nat.le_refl 1) rfl
   rw [ha3] at ha'
   cases ha'
   exact hp K hK
  intro J95
  have hJ:∀ t,tAt l i=some t→∀ h',Vec Qj9 1 3 h h' a3 l.length (outs.set i t)→J95 h':=by
   intro t e h' V'
   exact⟨_,isW (by unfold InR;omega),⟨i+1,_,rfl,by omega,by rw [List.length_set];exact hlo,hset t e,V'⟩,by simp [Qn];omega⟩
  clear_value J95
  have ar:=ar0 Wn.a
  have hfold:tAt l=fAt none tyF l:=rfl
  rw [←hfold] at hv
  have Ai:a3=some ⟨b3,o3,none⟩∧(0:Int)≤i∧(i:Int) < (l.length:Nat):=A3 (by omega) (by omega)
  refine⟨b,o,⟨ha,by omega,by omega⟩,_,_,_,_,_,_,hr,?_⟩
  intro J39
  have bad:tAt l i=none→∀ h',h.le h'→R (Qf [vi 0,ifv (YA 3)]) h':=by
   intro e h' l'
   have:Zk l=(0,3):=by
    unfold Zk
    cases ht:tAt l (l.length - 1) with
    | none=>rfl
    | some t=>exact absurd e (O.b.ty W (by rw [ht];simp) i (Nat.zero_le _) hlt)
   rw [this] at hK
   exact hK h' l'
  have hJ39:¬ n.op=1→¬ n.op=2→¬ n.op=5→J39 (Wm n.op):=by
   intro p1 p2 p5
   have har:1≤arI n.op:=by rcases QK Wn.a with h|h|h<;>omega
   rw [Wv p1 p2] at hv
   have hX:=Wn.x har
   obtain⟨tx,ox,ex⟩:=get (k:=n.x.toNat) (by omega)
   have hy:∃ ty,2≤arI n.op→outs[n.y.toNat]?=some ty∧tAt l n.y.toNat=some ty:=by
    by_cases h2:2≤arI n.op
    ·have hY:=Wn.y h2
     obtain⟨ty,q⟩:=get (k:=n.y.toNat) (by omega)
     exact⟨ty,fun _=>q⟩
    ·exact⟨0,fun h=>absurd h h2⟩
   obtain⟨ty,hy⟩:=hy
   have hv2:tAt l i=tyG n.op (some tx) (some (if arI n.op=2 then ty else tx)):=by
    rw [hv,ex]
    by_cases h2:arI n.op=2
    ·rw [if_pos h2,if_pos h2,(hy (by omega)).2]
    ·rw [if_neg h2,if_neg h2]
   rw [Qd6,if_neg p5] at hv2
   have hw0:Wm n.op≠0:=by unfold Wm;split<;>decide
   generalize hwd:Wm n.op=want at *
   refine Q9 ⟨_,rfl,fun b64 hb64=>?_⟩
   intro h65
   have S65:SlI h65 (some ⟨b64,0,none⟩) 2 [n.x,n.y]:=⟨rfl,Qg.new _ _ [vi n.x,vi n.y] _⟩
   have V65:Vec Qj9 1 3 h h65 a3 l.length outs:=V.keep0 (Hp.le_set (Hp.le_refl hh) hb64 _)
   clear_value h65
   refine⟨_,_,_,Wz (e:=3) (by kernel_rfl) (by kernel_rfl) (by omega) (by rcases QK Wn.a with h|h|h<;>omega),?_⟩
   have rdo:∀{x t:Int},0≤x→outs[x.toNat]?=some t→h65.cell b3 (o3+x.toNat*1)=some (vi t):=by
    intro x t h0 h1
    obtain⟨b',o',ha',hr'⟩:=(V65.slp UE (by decide)).cell (j:=0) UE (by decide) h1 rfl
    rw [ha3] at ha'
    cases ha'
    exact hr'
   refine⟨fun vs h'=>h'=h65∧∃ j:Nat,vs=[vi j]∧(j:Int)≤arI n.op∧(1≤j→tx=0∨tx=want)∧(2≤j→ty=0∨ty=want),fun vs hh=>(arI n.op).toNat - (Qn vs 0).toNat,⟨rfl,0,rfl,by omega,by omega,by omega⟩,?_⟩
   rintro vs h71 ⟨rfl,j,rfl,hj,f1,f2⟩
   refine⟨j,rfl,fun g=>?_,fun g=>?_⟩
   ·have hj2:(j:Int) < arI n.op:=by have:=of_decide_eq_true g;omega
    have fact:∃ x t:Int,[n.x,n.y].getD j 0=x∧0≤x∧x < l.length∧outs[x.toNat]?=some t∧(¬(t=0∨t=want)→tAt l i=none)∧(j=0→t=tx)∧(j=1→t=ty):=by
     by_cases hj0:j=0
     ·subst hj0
      refine⟨n.x,tx,rfl,hX.1,by omega,ox,fun hb=>?_,fun _=>rfl,fun h=>by omega⟩
      rw [hv2,if_pos (by omega)]
     ·have hj1:j=1:=by rcases QK Wn.a with h|h|h<;>omega
      subst hj1
      have hY:=Wn.y (by omega)
      refine⟨n.y,ty,rfl,hY.1,by omega,(hy (by omega)).1,fun hb=>?_,fun h=>by omega,fun _=>rfl⟩
      rw [hv2,if_pos]
      rw [if_pos (by rcases QK Wn.a with h|h|h<;>omega)]
      omega
    obtain⟨x,t,e0,h0,h1,e1,hb,u1,u2⟩:=fact
    obtain⟨q,p,hq,hcell⟩:=S65.get (i:=j) (by rcases QK Wn.a with h|h|h<;>omega)
    rw [e0] at hcell
    refine⟨q,p,⟨hq,by omega,by omega⟩,_,hcell,b3,o3,A3 h0 h1,_,rdo h0 e1,QgN ⟨_,_,rfl,fun g=>?_,fun g=>?_⟩⟩
    ·rw [QjH] at g
     have g:=of_decide_eq_true g
     exact bad (hb (by omega)) h71 V65.le0
    ·rw [QjH] at g
     have g:=of_decide_eq_false g
     refine⟨_,isW (by unfold InR;rcases QK Wn.a with h|h|h<;>omega),⟨rfl,j+1,rfl,by omega,fun _=>?_,fun h=>?_⟩,by simp [Qn];omega⟩
     ·by_cases hj0:j=0
      ·have:=u1 hj0;omega
      ·exact f1 (by omega)
     ·have:=u2 (by rcases QK Wn.a with h|h|h<;>omega);omega
   ·have hje:(j:Int)=arI n.op:=by have:=of_decide_eq_false g;omega
    have hfine:tAt l i=some (if n.op=11∨n.op=12 then 2 else want):=by
     rw [hv2,if_neg]
     ·split<;>rfl
     ·have:=f1 (by omega)
      by_cases h2:arI n.op=2
      ·rw [if_pos h2]
       have:=f2 (by omega)
       omega
      ·rw [if_neg h2]
       omega
    refine⟨b3,o3,Ai,put outs _ hlo V65 want _ fun h89 V89=>⟨fun g=>?_,fun g=>?_⟩⟩
    ·rw [cor] at g
     have g:=of_decide_eq_true g
     rw [if_pos g] at hfine
     refine⟨b3,o3,Ai,put _ h89 (by rw [List.length_set];exact hlo) V89 2 _ fun h92 V92=>hJ 2 hfine h92 ?_⟩
     rw [List.set_set] at V92
     exact V92
    ·rw [cor] at g
     have g:=of_decide_eq_false g
     rw [if_neg g] at hfine
     exact hJ want hfine h89 V89
  clear_value J39
  refine⟨fun q=>?_,fun q1=>⟨fun q=>?_,fun q2=>⟨fun q=>?_,fun q5=>?_⟩⟩⟩
  ·have e:tAt l i=some n.v.1:=by rw [hv];unfold tyF;exact if_pos (of_decide_eq_true q)
   exact⟨b3,o3,Ai,put outs hh hlo V _ _ (hJ _ e)⟩
  ·have e:tAt l i=some 1:=by rw [hv];unfold tyF;rw [if_neg (of_decide_eq_false q1)];exact if_pos (of_decide_eq_true q)
   exact⟨b3,o3,Ai,put outs hh hlo V _ _ (hJ _ e)⟩
  ·have h5:=of_decide_eq_true q
   have hX:=Wn.x (by omega)
   obtain⟨tx,ox,ex⟩:=get (k:=n.x.toNat) (by omega)
   have e:tAt l i=some 2:=by
    rw [hv,Wv (by omega) (by omega),if_neg (by omega),ex,Qd6,if_pos h5]
   exact⟨b3,o3,Ai,put outs hh hlo V _ _ (hJ _ e)⟩
  ·have p1:=of_decide_eq_false q1
   have p2:=of_decide_eq_false q2
   have p5:=of_decide_eq_false q5
   have hw:=hJ39 p1 p2 p5
   unfold Wm at hw
   intro J35
   refine⟨fun g=>⟨fun _=>?_,fun g2=>?_⟩,fun g1=>⟨fun g=>⟨fun _=>?_,fun g2=>?_⟩,fun g2=>⟨fun g=>?_,fun g=>?_⟩⟩⟩
   ·rw [if_pos (.inl (of_decide_eq_true g))] at hw;exact hw
   ·rw [g] at g2;cases g2
   ·rw [if_pos (.inr (.inl (of_decide_eq_true g)))] at hw;exact hw
   ·rw [g] at g2;cases g2
   ·rw [if_pos (.inr (.inr (of_decide_eq_true g)))] at hw;exact hw
   ·have a1:=of_decide_eq_false g1
    have a2:=of_decide_eq_false g2
    have a3:=of_decide_eq_false g
    rw [if_neg (by omega)] at hw;exact hw
 ·have hge:i=l.length:=by have:=of_decide_eq_false q;omega
  subst hge
  obtain⟨t,ot,et⟩:=get (k:=l.length - 1) (by omega)
  obtain⟨b',o',ha',hr'⟩:=(V.slp UE (by decide)).cell (j:=0) UE (by decide) ot rfl
  refine⟨_,isW (by unfold InR;omega),b',o',⟨ha',by omega,by omega⟩,t,?_,?_⟩
  ·have e1:(((l.length:Nat):Int) - 1).toNat=l.length - 1:=by omega
   rw [e1]
   exact hr'
  ·have:Zk l=(t,0):=by unfold Zk;rw [et]
   rw [this] at hK
   exact hK hh V.le0
end
abbrev Uq:=Vec Zo 6 160
theorem QfZ {a:Option Addr}{n c:Nat}{l:List Nd}{h:Hp}{R:Value→Hp→Prop}(S:SlP Zo h a n l)(hn:n≤1000000)(hK:∀ a' c' h',Uq h h' a' c' l→R (vsl a' l.length c') h') :
  Qa Tryz.prog 166 [vsl a n c] h R:=by
 refine XU ?_
 unfold ZV
 have hl:=S.1
 subst hl
 have hfl:(l.flatMap Zo).length=l.length*6:=by rw [Qs QD]
 refine⟨_,Qb6 (e:=160) (by kernel_rfl),fun e=>?_,fun e=>?_⟩
 ·have h0:l.flatMap Zo=[]:=by
   rcases S.2 with h1|⟨b,o,ha,_⟩
   ·exact h1
   ·rw [ha] at e;cases e
  rw [h0] at hfl
  have hn0:l=[]:=List.eq_nil_of_length_eq_zero (by simp at hfl;omega)
  subst hn0
  exact hK none 0 h (Qh.nil (Hp.le_refl h) _ _)
 ·intro b3 hb3 h4
  have O0:Qh h h4 160 6 (some ⟨b3,0,none⟩) 0 0 []:=Qh.mk_new (Hp.le_refl h) hb3 _ [] rfl (by simp [maxLen])
  refine Qh.append Ql6 O0 (S.le (Hp.le_set (Hp.le_refl h) hb3 _)).2 hfl (Qk3 l) (by omega) (by omega) fun a' c' h' O' _ _=>⟨_,_,_,rfl,?_⟩
  rw [Nat.zero_add,List.nil_append] at *
  exact hK a' c' h' O'
inductive Qg4 (l:List Nd)(f:Nat):Nat→Nat→Prop where
 | nil:Qg4 l f f 0
 | cons {g e k:Nat}:Blk l g e→Qg4 l f g k→Qg4 l f e (k+1)
theorem Qg4.open {l:List Nd}{f g i k:Nat}{n:Nd}(B:Blk l g (i+1))(Q:Qg4 l f g k)(hn:l[i]?=some n):Qg4 l f i (k+(arI n.op).toNat):=by
 cases B with
 | leaf h ha=>
  rw [hn] at h
  cases h
  rw [ha]
  exact Q
 | one B h ha _=>
  rw [hn] at h
  cases h
  rw [ha]
  exact .cons B Q
 | two B B' h ha _ _=>
  rw [hn] at h
  cases h
  rw [ha]
  exact .cons B' (.cons B Q)
section
variable {a:Option Addr}{m c:Nat}{l:List Nd}{h:Hp}
theorem Qi3 (S:SlP Zo h a m l)(hcap:m≤c)(W:WfL l)(hm:l.length≤1000000){f:Nat}{e:Nat}(B:Blk l f (e+1)){i0:Int}(hi0:i0=e){R:Value→Hp→Prop}(hK:∀ a' c' h',Uq h h' a' c' (ZS l f (e+1))→R (vsl a' (ZS l f (e+1)).length c') h') :
  Qa Tryz.prog 130 [vsl a m c,vi i0] h R:=by
 subst hi0
 refine Qi6 ?_
 unfold Qcs
 have hlt:=B.lt
 obtain rfl:=S.1
 have opAt:∀{i:Nat},i < l.length→∀{hh:Hp},h.le hh→∃ n b o,l[i]?=some n∧a=some ⟨b,o,none⟩∧hh.cell b (o+i*6)=some (vi n.op):=by
  intro i hi hh hl
  have hx:l[i]?=some l[i]:=List.getElem?_eq_getElem hi
  obtain⟨b,o,ha,hr⟩:=(S.le hl).get QD (by decide) hx
  exact⟨_,b,o,hx,ha,Hp.row_cell hr (i:=0) rfl⟩
 obtain⟨n,b,o,hn,ha,hc⟩:=opAt (i:=e) (by omega) (Hp.le_refl h)
 have wn:=W _ _ hn
 refine⟨b,o,⟨ha,by omega,by omega⟩,_,hc,Q9 ⟨_,rfl,?_⟩⟩
 have Q0:=Qg4.open B .nil hn
 rw [Nat.zero_add] at Q0
 refine⟨fun vs hh=>hh=h∧∃ from' need:Nat,vs=[vi from',vi need]∧from'≤e∧need≤2*(e+1 - from')∧Qg4 l f from' need,fun vs hh=>(Qn vs 0).toNat,⟨rfl,e,(arI n.op).toNat,by rw [show (((arI n.op).toNat:Nat):Int)=arI n.op by have:=wn.a;omega],Nat.le_refl _,by rcases QK wn.a with h|h|h<;>omega,Q0⟩,?_⟩
 rintro vs hh ⟨rfl,from',need,rfl,hfe,hnd,Q⟩
 refine⟨from',need,rfl,fun g=>?_,fun g=>?_⟩
 ·have g:=of_decide_eq_true g
  cases Q with
  | nil=>exact absurd g (by decide)
  | @cons g' _ k B' Q'=>
   have hlt':=B'.lt
   obtain⟨i,rfl⟩:∃ i,from'=i+1:=⟨from' - 1,by omega⟩
   obtain⟨n',b',o',hn',ha',hc'⟩:=opAt (i:=i) (by omega) (Hp.le_refl hh)
   have wn':=W _ _ hn'
   have Q2:=Qg4.open B' Q' hn'
   have hI:IsW ((i:Nat):Int) (((i+1:Nat):Int) - 1):=by
    have:=isW (e:=(((i+1:Nat):Int) - 1)) (by unfold InR;omega)
    rw [show (((i+1:Nat):Int) - 1)=(i:Int) by omega] at this ⊢
    exact this
   have r2:=QK wn'.a
   refine⟨i,hI,b',o',⟨ha',by omega,by omega⟩,_,hc',Q9 ⟨_,rfl,_,isW (by unfold InR;omega),_,isW (by unfold InR;omega),⟨rfl,i,k+(arI n'.op).toNat,?_,by omega,by omega,Q2⟩,by simp [Qn]⟩⟩
   rw [show ((k+(arI n'.op).toNat:Nat):Int)=((k+1:Nat):Int)+(arI n'.op - 1) by have:=wn'.a;omega]
 have g:=of_decide_eq_false g
 have h0:need=0:=by omega
 subst h0
 cases Q
 refine⟨_,isW (by unfold InR;omega),_,_,_,QiT (e:=160) (by kernel_rfl) (by kernel_rfl) (by omega) (by omega) (by omega),?_⟩
 have hsz:szT Tryz.prog 160=6:=by kernel_rfl
 rw [hsz,show ((e:Int)+1).toNat=e+1 by omega,Int.toNat_natCast]
 have Sseg:SlP Zo hh (QaR a f c 6) (e+1 - f) (seg l f (e+1)):=(S.drop QD (i:=f) (c:=c) (by omega) hcap).take QD (by omega)
 have hsl:(seg l f (e+1)).length=e+1 - f:=Sseg.1.symm
 have sget:∀{i:Nat} {n:Nd},(seg l f (e+1))[i]?=some n→l[f+i]?=some n:=by
  intro i n hi
  unfold seg at hi
  rw [List.getElem?_take] at hi
  split at hi
  ·rw [List.getElem?_drop] at hi;exact hi
  ·cases hi
 have ecut:ZS l f (e+1)=(seg l f (e+1)).map (shN (-(f:Int))):=rfl
 rw [ecut] at hK
 generalize seg l f (e+1)=s at *
 refine QfZ Sseg (by omega) fun a29 c29 h28 V28=>⟨_,_,_,rfl,?_⟩
 refine⟨fun vs h'=>∃(i:Nat) (outs:List Nd),vs=[vi i]∧i≤s.length∧outs.length=s.length∧outs.take i=(s.take i).map (shN (-(f:Int)))∧outs.drop i=s.drop i∧Uq hh h' a29 c29 outs,fun vs hh=>s.length - (Qn vs 0).toNat,⟨0,s,rfl,Nat.zero_le _,rfl,rfl,rfl,V28⟩,?_⟩
 rintro vs h34 ⟨i,outs,rfl,hi,hlo,ht,hd,V⟩
 refine⟨i,rfl,fun g=>?_,fun g=>?_⟩
 ·have hlt2:i < s.length:=by have:=of_decide_eq_true g;omega
  have hx:s[i]?=some s[i]:=List.getElem?_eq_getElem hlt2
  have hox:outs[i]?=some s[i]:=by
   have:=congrArg List.head? hd
   rw [List.head?_drop,List.head?_drop,hx] at this
   exact this
  have wn2:=W _ _ (sget hx)
  have hset:(outs.set i (shN (-(f:Int)) s[i])).take (i+1)=(s.take (i+1)).map (shN (-(f:Int))):=by
   rw [List.take_succ_eq_append_getElem (by rw [List.length_set];omega),List.take_set_of_le (Nat.le_refl _),List.getElem_set_self,ht,List.take_succ_eq_append_getElem hlt2,List.map_append]
   rfl
  have hset2:∀ n',(outs.set i n').drop (i+1)=s.drop (i+1):=by
   intro n'
   have:(outs.drop i).drop 1=(s.drop i).drop 1:=by rw [hd]
   rw [List.drop_drop,List.drop_drop] at this
   rw [List.drop_set_of_lt (Nat.lt_succ_self i)]
   exact this
  generalize s[i]=y at *
  intro J70
  have hJ:∀ h',Uq hh h' a29 c29 (outs.set i (shN (-(f:Int)) y))→J70 h':=by
   intro h' V'
   exact⟨_,isW (by unfold InR;omega),⟨i+1,_,rfl,by omega,by rw [List.length_set];exact hlo,hset,hset2 _,V'⟩,by simp [Qn];omega⟩
  clear_value J70
  have acc:∀{h':Hp} {outs':List Nd} {z:Nd},Uq hh h' a29 c29 outs'→outs'[i]?=some z→outs'.length=s.length→∃ b o,(a29=some ⟨b,o,none⟩∧(0:Int)≤i∧(i:Int) < (s.length:Nat))∧h'.row b (o+(i:Int).toNat*6) 6=some (Zo z):=by
   intro h' outs' z V' hz hl'
   obtain⟨b,o,ha,hr⟩:=(V'.slp QD (by decide)).get QD (by decide) hz
   exact⟨b,o,⟨ha,by omega,by omega⟩,hr⟩
  obtain⟨b1,o1,A1,r1⟩:=acc V hox hlo
  refine⟨b1,o1,A1,_,Hp.row_cell r1 (i:=0) rfl,Q9 ⟨_,rfl,?_⟩⟩
  intro J53
  have hJ53:∀ h' (z:Nd),z={ y with x:=(shN (-(f:Int)) y).x }→Uq hh h' a29 c29 (outs.set i z)→J53 h':=by
   rintro h' z hz V'
   have hz1:(outs.set i z)[i]?=some z:=List.getElem?_set_self (by omega)
   obtain⟨b2,o2,A2,r2⟩:=acc V' hz1 (by rw [List.length_set];exact hlo)
   have eop:z.op=y.op:=by rw [hz]
   have ey:z.y=y.y:=by rw [hz]
   refine⟨b2,o2,A2,_,Hp.row_cell r2 (i:=0) rfl,Q9 ⟨_,rfl,fun g=>?_,fun g=>?_⟩⟩
   ·have g:=of_decide_eq_true g
    rw [eop] at g
    have hy:=wn2.y (by omega)
    have hfin:({ z with y:=y.y - f }:Nd)=shN (-(f:Int)) y:=by
     rw [hz]
     unfold shN
     simp only
     rw [if_pos (show 1 < arI y.op by omega)]
     rfl
    obtain⟨b3,o3,ha3,hp⟩:=V'.put QD (x':={ z with y:=y.y - f }) (k:=2) (vs:=[vi (y.y - f)]) hz1 (Nat.succ_pos 0) (show 2+1≤6 by decide) rfl
    refine⟨b2,o2,A2,_,Hp.row_cell r2 (i:=2) rfl,_,isW (by rw [ey];unfold InR;omega),b3,o3,⟨ha3,A2.2⟩,?_⟩
    rw [ey]
    refine hp _ fun h67 V67=>hJ h67 ?_
    rw [List.set_set,hfin] at V67
    exact V67
   ·have g:=of_decide_eq_false g
    rw [eop] at g
    have hfin:z=shN (-(f:Int)) y:=by
     rw [hz]
     unfold shN
     simp only
     rw [if_neg (show ¬ 1 < arI y.op by omega)]
    rw [hfin] at V'
    exact hJ h' V'
  clear_value J53
  refine⟨fun g=>?_,fun g=>?_⟩
  ·have g:=of_decide_eq_true g
   have hX:=wn2.x (by omega)
   obtain⟨b3,o3,ha3,hp⟩:=V.put QD (x':={ y with x:=y.x - f }) (k:=1) (vs:=[vi (y.x - f)]) hox (Nat.succ_pos 0) (show 1+1≤6 by decide) rfl
   refine⟨b1,o1,A1,_,Hp.row_cell r1 (i:=1) rfl,_,isW (by unfold InR;omega),b3,o3,⟨ha3,A1.2⟩,?_⟩
   refine hp _ fun h50 V50=>hJ53 h50 _ ?_ V50
   unfold shN
   simp only
   rw [if_pos (show 0 < arI y.op by omega)]
   rfl
  ·have g:=of_decide_eq_false g
   refine hJ53 h34 y ?_ ?_
   ·unfold shN
    simp only
    rw [if_neg (show ¬ 0 < arI y.op by omega)]
   ·have:outs.set i y=outs:=by
     refine List.ext_getElem? fun k=>?_
     rw [List.getElem?_set]
     split
     ·rename_i h1;subst h1;rw [if_pos (by omega),hox]
     ·rfl
    rw [this]
    exact V
 ·have hge:i=s.length:=by have:=of_decide_eq_false g;omega
  subst hge
  rw [List.take_of_length_le (by omega),List.take_of_length_le (Nat.le_refl _)] at ht
  rw [ht] at V
  have:=hK a29 c29 h34 V
  rw [List.length_map] at this
  exact this
theorem KJ {op:Int}{a2:Option Addr}{m2 c2:Nat}{l2:List Nd}(S:SlP Zo h a m l)(S2:SlP Zo h a2 m2 l2)(W2:WfL l2)(hm:l.length≤1000000)(hm2:l2.length≤1000000){R:Value→Hp→Prop}
  (hK:∀ a' c' h',Uq h h' a' c' (ZU op l l2)→R (vsl a' (ZU op l l2).length c') h'):Qa Tryz.prog 128 [vi op,vsl a m c,vsl a2 m2 c2] h R:=by
 refine Qht ?_
 unfold Qbp
 obtain rfl:=S.1
 obtain rfl:=S2.1
 refine QfZ S hm fun a3 c3 h2 V2=>⟨_,_,_,rfl,_,isW (by unfold InR;omega),?_⟩
 refine⟨fun vs hh=>∃(i:Nat) (a:Option Addr) (c:Nat),vs=[vsl a (l++(l2.take i).map (shN l.length)).length c,vi i]∧i≤l2.length∧Uq h hh a c (l++(l2.take i).map (shN l.length)),fun vs hh=>l2.length - (Qn vs 1).toNat,
  ⟨0,a3,c3,by simp,Nat.zero_le _,by simpa using V2⟩,?_⟩
 rintro vs hh ⟨i,a4,c4,rfl,hi,V⟩
 have hlen:(l++(l2.take i).map (shN l.length)).length=l.length+i:=by simp;omega
 refine⟨_,_,_,_,rfl,fun g=>?_,fun g=>?_⟩
 ·have hlt:i < l2.length:=by have:=of_decide_eq_true g;omega
  have hx:l2[i]?=some l2[i]:=List.getElem?_eq_getElem hlt
  have wn:=W2 _ _ hx
  obtain⟨b,o,ha,hr⟩:=(S2.le V.le0).get QD (by decide) hx
  have tk:(l2.take (i+1)).map (shN l.length)=(l2.take i).map (shN l.length)++[shN l.length l2[i]]:=by
   rw [List.take_succ_eq_append_getElem hlt,List.map_append];rfl
  generalize l2[i]=y at *
  refine⟨b,o,⟨ha,by omega,by omega⟩,_,_,_,_,_,_,hr,Q9 ⟨_,rfl,?_⟩⟩
  intro J28
  have fin:∀(x' y':Int),x'=(shN (l.length:Int) y).x→y'=(shN (l.length:Int) y).y→∀(b49:Nat),hh b49=none→Ql Tryz.prog (Builtin.append_ #[26,26] 26 #[(vsl a4 (l++(l2.take i).map (shN l.length)).length c4),(vsl (some (⟨b49,0,none⟩:Addr)) 1 1)]) (Hp.set hh b49 (Qc [(vi y.op),(vi x'),(vi y'),(vi y.n),(vi y.v.1),(vi y.v.2)] 160)) fun v51 h52=>∃(a53:Option Addr) (n53 c53:Nat),v51=(vsl a53 n53 c53)∧(∃(x55:Int),(IsW x55 ((i:Int)+1))∧((∃(i':Nat) (a:Option Addr) (c:Nat),[vsl a53 n53 c53,vi x55]=[vsl a (l++(l2.take i').map (shN l.length)).length c,vi i']∧i'≤l2.length∧Uq h h52 a c (l++(l2.take i').map (shN l.length)))∧l2.length - (Qn [vsl a53 n53 c53,vi x55] 1).toNat < l2.length - (Qn [vsl a4 (l++(l2.take i).map (shN l.length)).length c4,vi i] 1).toNat)):=by
   rintro x' y' rfl rfl b49 hb49
   refine V.app (x:=shN (l.length:Int) y) Ql6 QD V7 (by omega) (by omega) hb49 fun a' c' h' V'=>⟨_,_,_,rfl,_,isW (by unfold InR;omega),⟨i+1,a',c',?_,by omega,?_⟩,by simp [Qn];omega⟩
   ·rw [tk,←List.append_assoc];rfl
   ·rw [tk,←List.append_assoc];exact V'
  have hJ:∀ x',x'=(shN (l.length:Int) y).x→J28 x':=by
   intro x' hx'
   refine Q9 ⟨_,rfl,?_⟩
   intro J45
   refine⟨fun g=>?_,fun g=>?_⟩
   ·have g:=of_decide_eq_true g
    have hy:=wn.y (by omega)
    refine⟨_,isW (by unfold InR;omega),fin _ _ hx' ?_⟩
    unfold shN
    simp only
    rw [if_pos (show 1 < arI y.op by omega)]
   ·have g:=of_decide_eq_false g
    refine fin _ _ hx' ?_
    unfold shN
    simp only
    rw [if_neg (show ¬ 1 < arI y.op by omega)]
  clear_value J28
  refine⟨fun g=>?_,fun g=>?_⟩
  ·have g:=of_decide_eq_true g
   have hX:=wn.x (by omega)
   refine⟨_,isW (by unfold InR;omega),hJ _ ?_⟩
   unfold shN
   simp only
   rw [if_pos (show 0 < arI y.op by omega)]
  ·have g:=of_decide_eq_false g
   refine hJ _ ?_
   unfold shN
   simp only
   rw [if_neg (show ¬ 0 < arI y.op by omega)]
 ·have hge:i=l2.length:=by have:=of_decide_eq_false g;omega
  subst hge
  rw [List.take_of_length_le (Nat.le_refl _)] at V hlen ⊢
  refine Q9 ⟨_,rfl,?_⟩
  intro J62
  have hJ:∀ y',y'=(if 1 < arI op then((l.length+l2.length:Nat):Int) - 1 else 0)→J62 y':=by
   rintro y' rfl b66 hb66
   intro h67
   exact V.app (x:=⟨op,(l.length:Int) - 1,if 1 < arI op then((l.length+l2.length:Nat):Int) - 1 else 0,0,(0,0)⟩) Ql6 QD V7 (by omega) (by omega) hb66 fun a' c' h' V'=>⟨_,_,_,rfl,hK a' c' h' V'⟩
  clear_value J62
  refine⟨fun g=>?_,fun g=>?_⟩
  ·have g:=of_decide_eq_true g
   refine⟨_,isW (by unfold InR;omega),hJ _ ?_⟩
   rw [if_pos (show 1 < arI op by omega),hlen]
  ·have g:=of_decide_eq_false g
   refine hJ _ ?_
   rw [if_neg (show ¬ 1 < arI op by omega)]
end
open Go.Txt
structure QY (h0 h:Hp)(g:Nat)(s:RS):Prop where
 b:∃ a c,h g=some (Qc [vsl a s.ws.length c,vi s.deep,ifv (YA s.f)] 136)∧SlB h0 a s.ws.length s.ws∧s.ws.length≤c
 l:h0.le h
 n:h0 g=none
 w:∀ x ∈ s.ws,x.length≤1000000
theorem K0 {h0 h:Hp}{g:Nat}(l:h0.le h)(hg:h0 g=none)(o:Obj):h0.le (h.set g o):=fun b p hb=>by
 rw [Hp.set_other _ _ (fun e=>by rw [e,hg] at hb;cases hb)]
 exact l b p hb
theorem Kq {a:Option Addr}{n c:Nat}{l:List Wd}{w:Wd}{h:Hp}(S:SlB h a n l)(hn:n≤1000000){R:Value→Hp→Prop}(hK:R (vi (if w ∈ l then(l.idxOf w:Int) else -1)) h):Qa Tryz.prog 106 [vsl a n c,vs (bs w)] h R:=by
 refine Kd ?_
 unfold Ys
 have hl:=S.1
 refine⟨fun v hh=>hh=h∧∃ i:Nat,v=[vi i]∧i≤n∧w ∉ l.take i,fun v _=>n - (Qn v 0).toNat,⟨rfl,0,rfl,Nat.zero_le _,by simp⟩,?_⟩
 rintro v hh ⟨rfl,i,rfl,hi,hno⟩
 refine⟨i,rfl,fun e=>?_,fun e=>?_⟩
 ·have hlt:i < n:=by have:=of_decide_eq_true e;omega
  obtain⟨b,o,ha,hc⟩:=SlP.get1 S hlt
  refine⟨b,o,⟨ha,by omega,by omega⟩,_,hc,_,Qt,fun e2=>?_,fun e2=>?_⟩
  ·have e3:=of_decide_eq_true e2
   have hx:l.getD i []=l[i]'(by omega):=by rw [List.getD_eq_getElem?_getD,List.getElem?_eq_getElem (by omega)];rfl
   rw [hx] at e3
   have hm:w ∈ l:=by rw [e3];exact List.getElem_mem _
   have hidx:l.idxOf w=i:=by
    have hsp:l=l.take i++l[i]'(by omega) :: l.drop (i+1):=by rw [←List.drop_eq_getElem_cons,List.take_append_drop]
    rw [hsp,List.idxOf_append,if_neg hno,←e3,List.idxOf_cons_self,List.length_take]
    omega
   rw [if_pos hm,hidx] at hK
   exact hK
  ·have e3:=of_decide_eq_false e2
   have hx:l.getD i []=l[i]'(by omega):=by rw [List.getD_eq_getElem?_getD,List.getElem?_eq_getElem (by omega)];rfl
   rw [hx] at e3
   refine⟨_,isW (by unfold InR;omega),⟨rfl,i+1,rfl,by omega,?_⟩,?_⟩
   ·rw [List.take_succ_eq_append_getElem (by omega)]
    intro hm
    rcases List.mem_append.1 hm with h1|h1
    ·exact hno h1
    ·exact e3 (by simpa using h1)
   ·show n - ((i:Int)+1).toNat < n - (i:Int).toNat
    omega
 ·have hge:i=n:=by have:=of_decide_eq_false e;omega
  rw [hge,List.take_of_length_le (by omega)] at hno
  rw [if_neg hno] at hK
  exact hK
theorem NZ {a:Option Addr}{n c:Nat}{l:List Wd}{w:Wd}{h:Hp}(S:SlB h a n l)(hn:n≤1000000){R:Value→Hp→Prop}(hK:R (vb (decide (w ∈ l))) h):Qa Tryz.prog 107 [vsl a n c,vs (bs w)] h R:=by
 refine XW ?_
 unfold Z5
 refine Kq S hn ⟨_,rfl,?_⟩
 have:decide ((if w ∈ l then(l.idxOf w:Int) else -1)≥0)=decide (w ∈ l):=by
  by_cases hm:w ∈ l
  ·simp [hm]
  ·simp [hm]
 rw [this]
 exact hK
def At (g:Nat):Nat→Prop:=fun b=>b=g
theorem X4 (h:Hp)(g:Nat)(o:Obj):Mut (At g) h (At g) (h.set g o):=⟨fun b o2 hb ho=>by rw [Hp.set_other _ _ (fun e=>hb e)];exact ho,fun b hb=>.inl hb⟩
theorem J0 {h:Hp}{g:Nat}{x y z:Value}{T:TypeId}(hb:h g=some (Qc [x,y,z] T)):h.cell g 0=some x∧h.cell g (0+1)=some y∧h.cell g (0+2)=some z:=⟨Qb hb rfl,Qb hb rfl,Qb hb rfl⟩
theorem Qdh {h:Hp}{g:Nat}{x y z x':Value}{T:TypeId}(hb:h g=some (Qc [x,y,z] T)){K:Hp→Prop}(hK:K (h.set g (Qc [x',y,z] T))):h.store g 0 [x'] K:=QX hb (by simp) hK
theorem QoO {h:Hp}{g:Nat}{x y z y':Value}{T:TypeId}(hb:h g=some (Qc [x,y,z] T)){K:Hp→Prop}(hK:K (h.set g (Qc [x,y',z] T))):h.store g (0+1) [y'] K:=QX hb (by simp) hK
theorem QkV {h:Hp}{g:Nat}{x y z z':Value}{T:TypeId}(hb:h g=some (Qc [x,y,z] T)){K:Hp→Prop}(hK:K (h.set g (Qc [x,y,z'] T))):h.store g (0+2) [z'] K:=QX hb (by simp) hK
theorem Qkm (h:Hp):SlB h none 0 []:=⟨rfl,(QI.nil h 9 1).row⟩
theorem YZ {h0 h:Hp}{g:Nat}{s:RS}(D:QY h0 h g s){f:Int}(hf:f≠0){R:Value→Hp→Prop}(hK:∀ h',QY h0 h' g (s.fail f)→Mut (At g) h (At g) h'→R (Qf []) h'):Qa Tryz.prog 105 [vhp g 0,ifv (some (80,vi f))] h R:=by
 obtain⟨a,c,hb,hS,hc⟩:=D.b
 refine VM ?_
 unfold Kh
 refine⟨_,(J0 hb).2.2,?_⟩
 intro J5
 refine⟨fun e=>?_,fun e=>?_⟩
 ·have e0:s.f=0:=by unfold YA at e;split at e<;>simp_all
  refine QkV hb (Qdh (Hp.set_same _ _ _) ?_)
  refine hK _ ⟨⟨none,0,?_,Qkm _,Nat.le_refl _⟩,K0 (K0 D.l D.n _) D.n _,D.n,fun x hx=>by cases hx⟩ ((X4 _ _ _).trans (X4 _ _ _))
  rw [Hp.set_same]
  show _=some (Qc [vsl none 0 0,vi s.deep,ifv (YA (if s.f=0 then f else s.f))] 136)
  rw [if_pos e0]
  unfold YA
  rw [if_neg hf]
 ·have e0:s.f≠0:=by intro e1;rw [e1] at e;cases e
  refine Qdh hb ?_
  refine hK _ ⟨⟨none,0,?_,Qkm _,Nat.le_refl _⟩,K0 D.l D.n _,D.n,fun x hx=>by cases hx⟩ (X4 _ _ _)
  rw [Hp.set_same]
  show _=some (Qc [vsl none 0 0,vi s.deep,ifv (YA (if s.f=0 then f else s.f))] 136)
  rw [if_neg e0]
theorem Q1 {h0 h:Hp}{g:Nat}{s:RS}(D:QY h0 h g s){wa:Option Addr}{wn wc:Nat}{l:List Wd}(S:SlB h wa wn l)(hwn:wn≤1000)(hwl:s.ws.length≤1000000){R:Value→Hp→Prop}(hK:∀ h',QY h0 h' g (s.is l).2→Mut (At g) h (At g) h'→R (vs (bs (s.is l).1)) h'):Qa Tryz.prog 61 [vhp g 0,vsl wa wn wc] h R:=by
 obtain⟨a,c,hb,hS,hc⟩:=D.b
 refine NQ ?_
 unfold Jb
 obtain⟨ws,dp,f⟩:=s
 simp only at hb hS hc hwl
 have hcell:=(J0 hb).1
 cases ws with
 | nil=>
  refine⟨_,_,_,hcell,none,0,0,fun e=>by simp at e,0,0,fun e=>by simp at e,⟨#[]⟩,fun e=>by simp at e,fun v hh=>hh=h∧v=.t (.one (.v (vb false))),fun e=>by simp at e,fun _=>⟨rfl,rfl⟩,?_⟩
  rintro h10 p11 ⟨rfl,e⟩
  cases e
  refine⟨fun _=>hK _ D (Mut.of_le (Hp.le_refl _)),fun e=>by simp at e⟩
 | cons w r=>
  obtain⟨b,o,ha,hc0⟩:=SlP.get1 (SlP.le D.l hS) (i:=0) (by simp)
  have hc1:h.cell b (o+(0:Int).toNat*1)=some (vs (bs w)):=hc0
  refine⟨_,_,_,hcell,_,_,_,fun _=>hcell,b,o,fun _=>⟨ha,by decide,by simp⟩,_,fun _=>hc1,fun v hh=>hh=h∧v=.t (.one (.v (vb (decide (w ∈ l))))),fun _=>NZ S (by omega) ⟨_,rfl,rfl,rfl⟩,fun e=>absurd (by simp;omega) e,?_⟩
  rintro h10 p11 ⟨rfl,e⟩
  cases e
  refine⟨fun e=>?_,fun e=>?_⟩
  ·have hno:w ∉ l:=by
    intro hm
    simp [hm] at e
    omega
   have h1:(⟨w :: r,dp,f⟩:RS).is l=([],⟨w :: r,dp,f⟩):=by unfold RS.is;simp only;rw [if_neg hno]
   rw [h1] at hK
   exact hK _ D (Mut.of_le (Hp.le_refl _))
  ·have hm:w ∈ l:=by
    rcases Decidable.em (w ∈ l) with hm|hm
    ·exact hm
    ·simp [hm] at e
   have h1:(⟨w :: r,dp,f⟩:RS).is l=(w,⟨r,dp,f⟩):=by unfold RS.is;simp only;rw [if_pos hm]
   rw [h1] at hK
   have hsz:szT Tryz.prog 9=1:=by kernel_rfl
   have hr:=YY (P:=Tryz.prog) (h:=h10) (t:=75) (e:=9) (by kernel_rfl) (by kernel_rfl) (a:=a) (n:=(w :: r).length) (c:=c) (x:=1) (by decide) (by simp;omega)
   rw [hsz] at hr
   refine⟨_,_,_,hcell,b,o,⟨ha,by decide,by simp⟩,_,hc1,_,_,_,hcell,_,_,_,hr,Qdh hb ?_⟩
   have hS2:=SlP.drop Yi hS (i:=1) (by simp) hc
   exact hK _ ⟨⟨_,_,Hp.set_same _ _ _,⟨rfl,hS2.2⟩,by simp at hc ⊢;omega⟩,K0 D.l D.n _,D.n,fun x hx=>D.w x (List.mem_cons_of_mem _ hx)⟩ (X4 _ _ _)
theorem QY.le {h0 h h':Hp}{g:Nat}{s:RS}(D:QY h0 h g s)(l:h.le h'):QY h0 h' g s:=by
 obtain⟨a,c,hb,hS,hc⟩:=D.b
 exact⟨⟨a,c,l g _ hb,hS,hc⟩,Hp.le_trans D.l l,D.n,D.w⟩
theorem WO (h:Hp)(b:Nat)(w:Wd):SlB (h.set b (Qc [vs (bs w)] 9)) (some ⟨b,0,none⟩) 1 [w]:=⟨rfl,(QI.new h b 9 (sz:=1) (n:=1) [vs (bs w)] rfl (by decide)).row⟩
theorem Zi {h0 h:Hp}{g:Nat}{s:RS}(D:QY h0 h g s)(hwl:s.ws.length≤1000000){w:Wd}{R:Value→Hp→Prop}(hK:∀ h',QY h0 h' g (s.must w)→Mut (At g) h (At g) h'→R (Qf []) h'):Qa Tryz.prog 59 [vhp g 0,vs (bs w)] h R:=by
 refine Gw ?_
 unfold W5
 intro b1 hb1 h2
 have hl:h.le h2:=Hp.le_set (Hp.le_refl h) hb1 _
 unfold RS.must at hK
 refine Q1 (D.le hl) (WO h b1 w) (by decide) hwl fun h4 D4 M4=>⟨_,rfl,_,Qt (b:=[]),fun e=>?_,fun e=>?_⟩
 ·rw [if_pos (of_decide_eq_true e)] at hK
  exact YZ D4 (by decide) fun h5 D5 M5=>⟨rfl,hK h5 D5 (((Mut.of_le hl).trans M4).trans M5)⟩
 ·rw [if_neg (of_decide_eq_false e)] at hK
  exact hK h4 D4 ((Mut.of_le hl).trans M4)
structure YF (hB h:Hp)(a:Option Addr)(n:Nat)(l:List Nd):Prop where
 s:SlP Zo h a n l
 nw:∀ b o,a=some ⟨b,o,none⟩→hB b=none
theorem YF.base {hB hC h:Hp}{a:Option Addr}{n:Nat}{l:List Nd}(N:YF hC h a n l)(hh:∀ b,hC b=none→hB b=none):YF hB h a n l:=⟨N.s,fun b o e=>hh b (N.nw b o e)⟩
theorem YF.mut {hB h h':Hp}{g:Nat}{a:Option Addr}{n:Nat}{l:List Nd}(N:YF hB h a n l)(hg:hB g≠none)(M:Mut (At g) h (At g) h'):YF hB h' a n l:=by
 have ne:∀ b o,a=some ⟨b,o,none⟩→b≠g:=fun b o e q=>hg (by rw [←q];exact N.nw b o e)
 refine⟨⟨N.s.1,(Qg.del N.s.2 ne).le fun b o hb=>?_⟩,N.nw⟩
 by_cases e:b=g
 ·subst e;simp [Hp.del] at hb
 ·refine M.keep b o (fun h=>e h) ?_
  simpa [Hp.del,e] using hb
theorem Yu (hB h:Hp):YF hB h none 0 []:=⟨⟨rfl,(QI.nil h 160 6).row⟩,fun b o e=>by cases e⟩
theorem _root_.Go.Vc.Mut.up {h h':Hp}{g:Nat}(M:Mut (At g) h (At g) h')(hg:h' g≠none):∀ b,h' b=none→h b=none:=by
 intro b hb
 cases e:h b with
 | none=>rfl
 | some o=>
  by_cases q:b=g
  ·subst q;exact absurd hb hg
  ·rw [M.keep b o (fun h=>q h) e] at hb;cases hb
theorem Qo3 {h h':Hp}(l:h.le h'):∀ b,h' b=none→h b=none:=fun b hb=>Hp.none_of_le l hb
theorem WK {h:Hp}(n:Nd){R:Value→Hp→Prop}(hK:∀ a c h',YF h h' a 1 [n]→1≤c→h.le h'→R (vsl a 1 c) h'):Qa Tryz.prog 183 [vag (Zo n)] h R:=by
 refine Qfq ?_
 unfold Ng
 intro b1 hb1 h2
 refine hK _ _ _ ⟨⟨rfl,(QI.new h b1 160 (sz:=6) (n:=1) (Zo n) rfl (by decide)).row⟩,fun b o e=>?_⟩ (by decide) (Hp.le_set (Hp.le_refl h) hb1 _)
 cases e
 exact hb1
theorem QY.al {h0 h:Hp}{g:Nat}{s:RS}(D:QY h0 h g s):h g≠none:=by
 obtain⟨a,c,hb,_⟩:=D.b
 rw [hb];simp
theorem QB {h0 h:Hp}{g:Nat}{s:RS}(D:QY h0 h g s){op:Int}{ax ay:Option Addr}{nx ny cx cy:Nat}{x y:List Nd}(X:SlP Zo h ax nx x)(Y:SlP Zo h ay ny y)(Wy:WfL y)(hx:x.length≤1000)(hy:y.length≤1000){R:Value→Hp→Prop}
  (hK:∀ a c h',QY h0 h' g (QO op x y s).2→YF h h' a (QO op x y s).1.length (QO op x y s).1→Mut (At g) h (At g) h'→R (vsl a (QO op x y s).1.length c) h'):Qa Tryz.prog 149 [vhp g 0,vi op,vsl ax nx cx,vsl ay ny cy] h R:=by
 refine VP ?_
 unfold WS
 have hnx:=X.1
 have hny:=Y.1
 unfold QO at hK
 refine⟨_,isW (by unfold InR;omega),fun e=>?_,fun e=>?_⟩
 ·have e2:=of_decide_eq_true e
  rw [if_pos (by omega)] at hK
  refine YZ D (by decide) fun h3 D3 M3=>⟨rfl,WK QiX fun a c h5 N5 _ l5=>⟨_,_,_,rfl,?_⟩⟩
  exact hK a c h5 (D3.le l5) (N5.base (M3.up D3.al)) (M3.trans (Mut.of_le l5))
 ·have e2:=of_decide_eq_false e
  rw [if_neg (by omega)] at hK
  refine KJ X Y Wy (by omega) (by omega) fun a' c' h' V=>⟨_,_,_,rfl,?_⟩
  refine hK a' c' h' (D.le V.le0) ⟨V.slp QD (by decide),fun b o e=>?_⟩ (Mut.of_le V.le0)
  obtain rfl:=(Qh.own V).at0 b o e
  exact Qh.new V b e
end Go.Proofs.YtgmplfdecikgoaaGreatDoor
namespace Go.Txt
open Go.Lib
theorem Qgv:∀(l:List UInt8) (a u:Nat),parseUint10 a l=.ok u→(∀ c ∈ l,isD c)∧u=X8 a l
 | [],a,u,h=>by
  rw [parseUint10] at h
  injection h with h
  exact⟨by simp,h.symm⟩
 | c :: l,a,u,h=>by
  rw [parseUint10] at h
  split at h
  ·rename_i hc
   split at h
   ·cases h
   ·split at h
    ·cases h
    ·obtain⟨h1,h2⟩:=Qgv l _ u h
     refine⟨fun x hx=>?_,?_⟩
     ·rcases List.mem_cons.1 hx with rfl|hx
      ·exact hc
      ·exact h1 x hx
     ·rw [h2,Nat.mul_comm];rfl
  ·cases h
theorem Qn5 {l:List UInt8}(hl:l≠[])(most:Int):ZT l most false=GM most 0 l:=by
 unfold ZT
 rw [if_neg]
 rintro(h|⟨h,_⟩)
 ·exact hl h
 ·cases h
theorem Qdk {l:List UInt8}(hl:l≠[]){most:Int}(hm:0≤most):ZT l most false=if (∀ c ∈ l,isD c)∧(X8 0 l:Int)≤most then(X8 0 l:Int) else -1:=by
 rw [Qn5 hl]
 exact Jg most l 0 hm
theorem Qny {l:List UInt8}{most:Int}(hm:0≤most):-1≤ZT l most false∧ZT l most false≤most:=by
 by_cases hl:l=[]
 ·subst hl;unfold ZT;simp;omega
 ·rw [Qdk hl hm]
  split<;>omega
theorem Qcr {c:UInt8}{r:List UInt8}(hc:isD c){v:Int}(h:atoiAll (c :: r)=.ok v):(∀ x ∈ c :: r,isD x)∧v=X8 0 (c :: r):=by
 have hc':=hc
 unfold isD at hc'
 unfold atoiAll at h
 simp only at h
 rw [if_neg (by omega)] at h
 unfold parseMag at h
 rw [if_neg (by simp)] at h
 cases hp:parseUint10 0 (c :: r) with
 | ok u=>
  rw [hp] at h
  simp only at h
  rw [if_neg (show ¬(c.toNat=45∧9223372036854775808 < u) by omega),if_neg (show ¬ c.toNat=45 by omega)] at h
  split at h
  ·cases h
  ·injection h with h
   obtain⟨h1,h2⟩:=Qgv _ _ _ hp
   exact⟨h1,by rw [←h,h2]⟩
 | range=>rw [hp] at h;cases h
 | _=>rw [hp] at h;cases h
theorem QdF {l:List UInt8}(hl:l≠[])(hd:∀ x ∈ l,isD x)(hv:X8 0 l≤1000000000000):atoiAll l=.ok (X8 0 l):=by
 match l,hl with
 | c :: r,hl=>
  have hc:=hd c (List.mem_cons_self ..)
  unfold isD at hc
  have hp:=U3 (c :: r) 0 hd (by omega)
  unfold atoiAll
  simp only
  rw [if_neg (by omega)]
  unfold parseMag
  rw [if_neg (by simp),hp]
  simp only
  rw [if_neg (by omega),if_neg (by omega),if_neg (by omega)]
theorem QnT {c:UInt8}{r:List UInt8}{v:Int}(h:atoiAll (c :: r)=.ok v){most:Int}(hm:0≤most):ZT (c :: r) most false=if isD c∧v≤most then v else -1:=by
 by_cases hc:isD c
 ·obtain⟨h1,h2⟩:=Qcr hc h
  rw [Qdk (by simp) hm,h2]
  by_cases h3:(X8 0 (c :: r):Int)≤most
  ·rw [if_pos ⟨h1,h3⟩,if_pos ⟨hc,h3⟩]
  ·rw [if_neg (fun e=>h3 e.2),if_neg (fun e=>h3 e.2)]
 ·rw [Qdk (by simp) hm,if_neg (fun e=>hc (e.1 c (List.mem_cons_self ..))),if_neg (fun e=>hc e.1)]
theorem Ql0 {l:List UInt8}(h:∀ v,atoiAll l≠.ok v){most:Int}(hm:0≤most)(hm2:most≤1000000000000):ZT l most false=-1:=by
 by_cases hl:l=[]
 ·subst hl;unfold ZT;simp
 ·rw [Qdk hl hm]
  by_cases h3:(∀ c ∈ l,isD c)∧(X8 0 l:Int)≤most
  ·exact absurd (QdF hl h3.1 (by omega)) (h _)
  ·rw [if_neg h3]
end Go.Txt
namespace Go.Proofs.YtgmplfdecikgoaaGreatDoor
open Go Go.Vc Go.Txt
def QkF:List Wd:=[[],QJ,QJ,Kl,Ks,Kn]
structure QgF (h:Hp):Prop where
 p:VF h
 e:Qbt h
 f:∃ a c,Hp.cell h 9 0=some (vsl a 4 c)∧SlB h a 4 Q5
 a:∃ a c,Hp.cell h 0 0=some (vsl a 6 c)∧SlB h a 6 QkF
theorem QgF.le {h h':Hp}(T:QgF h)(l:h.le h'):QgF h':=by
 obtain⟨p,e,⟨a,c,h1,h2⟩,b,d,h3,h4⟩:=T
 exact⟨p.le l,e.le l,⟨a,c,Hp.cell_le l h1,SlP.le l h2⟩,b,d,Hp.cell_le l h3,SlP.le l h4⟩
structure Qai (h0 h:Hp)(g:Nat):Prop where
 t:QgF h0
 l:h0.le h
 n:h0 g=none
theorem Qai.mut {h0 h h':Hp}{g:Nat}(E:Qai h0 h g)(M:Mut (At g) h (At g) h'):Qai h0 h' g:=
 ⟨E.t,fun b o hb=>M.keep b o (fun e=>by rw [show b=g from e,E.n] at hb;cases hb) (E.l b o hb),E.n⟩
theorem Qai.now {h0 h:Hp}{g:Nat}(E:Qai h0 h g):QgF h:=E.t.le E.l
structure QmE {α:Type}(enc:α→List Value)(h:Hp)(g:Nat)(a:Option Addr)(n:Nat)(l:List α):Prop where
 s:SlP enc h a n l
 ne:∀ b o,a=some ⟨b,o,none⟩→b≠g
theorem QmE.mut {α:Type}{enc:α→List Value}{h h':Hp}{g:Nat}{a:Option Addr}{n:Nat}{l:List α}(N:QmE enc h g a n l)(M:Mut (At g) h (At g) h'):QmE enc h' g a n l:=by
 refine⟨⟨N.s.1,(Qg.del N.s.2 N.ne).le fun b o hb=>?_⟩,N.ne⟩
 by_cases e:b=g
 ·subst e;simp [Hp.del] at hb
 ·refine M.keep b o (fun h=>e h) ?_
  simpa [Hp.del,e] using hb
theorem QY.c0 {h0 h:Hp}{g:Nat}{s:RS}(D:QY h0 h g s):∃ a c,h.cell g 0=some (vsl a s.ws.length c):=by
 obtain⟨a,c,hb,_⟩:=D.b
 exact⟨a,c,(J0 hb).1⟩
theorem QY.c1 {h0 h:Hp}{g:Nat}{s:RS}(D:QY h0 h g s):h.cell g (0+1)=some (vi s.deep):=by
 obtain⟨a,c,hb,_⟩:=D.b
 exact(J0 hb).2.1
theorem QY.c2 {h0 h:Hp}{g:Nat}{s:RS}(D:QY h0 h g s):h.cell g (0+2)=some (ifv (YA s.f)):=by
 obtain⟨a,c,hb,_⟩:=D.b
 exact(J0 hb).2.2
theorem QY.put1 {h0 h:Hp}{g:Nat}{s:RS}(D:QY h0 h g s){d:Int}{K:Hp→Prop}(hK:∀ h',QY h0 h' g ⟨s.ws,d,s.f⟩→Mut (At g) h (At g) h'→K h'):h.store g (0+1) [vi d] K:=by
 obtain⟨a,c,hb,hS,hc⟩:=D.b
 exact QoO hb (hK _ ⟨⟨a,c,Hp.set_same _ _ _,hS,hc⟩,K0 D.l D.n _,D.n,D.w⟩ (X4 _ _ _))
theorem QY.put2 {h0 h:Hp}{g:Nat}{s:RS}(D:QY h0 h g s){f:Int}{K:Hp→Prop}(hK:∀ h',QY h0 h' g ⟨s.ws,s.deep,f⟩→Mut (At g) h (At g) h'→K h'):h.store g (0+2) [ifv (YA f)] K:=by
 obtain⟨a,c,hb,hS,hc⟩:=D.b
 exact QkV hb (hK _ ⟨⟨a,c,Hp.set_same _ _ _,hS,hc⟩,K0 D.l D.n _,D.n,D.w⟩ (X4 _ _ _))
theorem Qpd {c:UInt8}:(decide (((c.toNat:Nat):Int) < 48)=false∧decide (((c.toNat:Nat):Int) > 57)=false)↔isD c:=by
 unfold isD
 constructor
 ·rintro⟨h1,h2⟩
  have h1:=of_decide_eq_false h1
  have h2:=of_decide_eq_false h2
  omega
 ·intro h
  exact⟨decide_eq_false (by omega),decide_eq_false (by omega)⟩
theorem WA {h0 h:Hp}{g:Nat}{s:RS}(D:QY h0 h g s)(E:Qai h0 h g)(hl:s.ws.length≤1000000){most:Int}(hm:0≤most)(hm2:most≤1000000000000){R:Value→Hp→Prop}(hK:∀ h',QY h0 h' g (s.number most).2→Mut (At g) h (At g) h'→R (vi (s.number most).1) h'):Qa Tryz.prog 63 [vhp g 0,vi most] h R:=by
 have hfail:(s.number most)=(0,s.fail 4)→Qa Tryz.prog 105 [vhp g 0,ifv (some (80,vi 4))] h fun v2 h3=>v2=Qf []∧R (vi 0) h3:=by
  intro e
  rw [e] at hK
  exact YZ D (by decide) fun h' D' M=>⟨rfl,hK h' D' M⟩
 obtain⟨a,c,hb,hS,hc⟩:=D.b
 refine UX ?_
 unfold XZ
 have hcell:=(J0 hb).1
 have hw:=D.w
 obtain⟨ws,dp,f⟩:=s
 simp only at hb hS hc hcell hw hl
 refine⟨_,_,_,hcell,fun e=>?_,fun e=>?_⟩
 ·have:ws=[]:=by
   have:=of_decide_eq_true e
   exact List.length_eq_zero_iff.1 (by omega)
  subst this
  exact hfail rfl
 cases ws with
 | nil=>simp at e
 | cons w r=>
  obtain⟨b,o,ha,hc0⟩:=SlP.get1 (SlP.le D.l hS) (i:=0) (by simp)
  have hc1:h.cell b (o+(0:Int).toNat*1)=some (vs (bs w)):=hc0
  have hlen:(0:Int) < (((w :: r).length:Nat):Int):=by simp
  have hwl:=hw w (List.mem_cons_self ..)
  refine⟨_,_,_,hcell,b,o,⟨ha,by decide,hlen⟩,_,hc1,?_⟩
  refine strconv_Atoi_ok hwl E.now.e (fun v hv=>?_) fun hn x e=>?_
  ·match w,hv with
   | [],hv=>exact absurd hv (by simp [Lib.atoiAll])
   | c0 :: cs,hv=>
   have hx:Rd Tryz.prog (Instr.index 9 (vs (bs (c0 :: cs))) (vi 0)) h (vk .u8 (c0.toNat:Nat)):=Ki (by kernel_rfl) (l:=c0 :: cs) (i:=0) (by decide) (by simp)
   refine⟨_,_,rfl,_,_,_,fun _=>hcell,b,o,fun _=>⟨ha,by decide,hlen⟩,_,fun _=>hc1,_,fun _=>hx,_,_,_,fun _=>hcell,b,o,fun _=>⟨ha,by decide,hlen⟩,_,fun _=>hc1,_,fun _=>hx,?_⟩
   have hnat:=QnT hv hm
   have hnum:(⟨(c0 :: cs) :: r,dp,f⟩:RS).number most=if ZT (c0 :: cs) most false < 0 then(0,(⟨(c0 :: cs) :: r,dp,f⟩:RS).fail 4) else(ZT (c0 :: cs) most false,⟨r,dp,f⟩):=rfl
   have hcond:(bif (bif (bif (Option.isSome (none:Option (TypeId × Value))) then true else(decide (((c0.toNat:Nat):Int) < 48))) then true else(decide (((c0.toNat:Nat):Int) > 57))) then true else(decide ((v:Int) > most)))=!decide (isD c0∧v≤most):=by
    have hi:=@Qpd c0
    rw [show (decide (v > most))=!decide (v≤most) by rw [QjH];exact decide_eq_decide.2 (by omega)]
    cases h1:decide (((c0.toNat:Nat):Int) < 48)<;>cases h2:decide (((c0.toNat:Nat):Int) > 57)<;>simp only [h1,h2] at hi<;>simp at hi<;>simp [hi]
   rw [hcond]
   refine⟨fun e=>?_,fun e=>?_⟩
   ·have e2:¬(isD c0∧v≤most):=by rw [QjH] at e;exact of_decide_eq_true e
    rw [if_neg e2] at hnat
    rw [hnat,if_pos (by decide)] at hnum
    exact hfail hnum
   ·have e2:isD c0∧v≤most:=by rw [QjH] at e;exact Decidable.not_not.1 (of_decide_eq_false e)
    rw [if_pos e2] at hnat
    obtain⟨_,hv2⟩:=Qcr e2.1 hv
    rw [hnat,if_neg (by omega)] at hnum
    rw [hnum] at hK
    have hsz:szT Tryz.prog 9=1:=by kernel_rfl
    have hr:=YY (P:=Tryz.prog) (h:=h) (t:=75) (e:=9) (by kernel_rfl) (by kernel_rfl) (a:=a) (n:=((c0 :: cs) :: r).length) (c:=c) (x:=1) (by decide) (by simp;omega)
    rw [hsz] at hr
    refine⟨_,_,_,hcell,_,_,_,hr,Qdh hb ?_⟩
    have hS2:=SlP.drop Yi hS (i:=1) (by simp) hc
    exact hK _ ⟨⟨_,_,Hp.set_same _ _ _,⟨rfl,hS2.2⟩,by simp at hc ⊢;omega⟩,K0 D.l D.n _,D.n,fun x hx=>hw x (List.mem_cons_of_mem _ hx)⟩ (X4 _ _ _)
  ·have no:∀{p:Prop},Option.isSome (some e)=false→p:=fun q=>by cases q
   refine⟨x,some e,rfl,none,0,0,no,0,0,no,⟨#[]⟩,no,0,no,none,0,0,(fun q=>by cases q),0,0,(fun q=>by cases q),⟨#[]⟩,(fun q=>by cases q),0,(fun q=>by cases q),(fun _=>?_),(fun q=>by cases q)⟩
   have hnat:=Ql0 hn hm hm2
   refine hfail ?_
   show (if ZT w most false < 0 then(0,(⟨w :: r,dp,f⟩:RS).fail 4) else(ZT w most false,⟨r,dp,f⟩))=_
   rw [hnat,if_pos (by decide)]
structure SOk (n:Nat)(s:RS):Prop where
 good:s.good
 len:s.ws.length < n
 big:s.ws.length≤1000
 d0:0≤s.deep
 d1:s.deep+s.ws.length≤1000000
theorem SOk.goes {n:Nat}{s t:RS}(S:SOk n s)(G:Yr t s):SOk n t:=by
 have h1:=G.len
 have h2:=G.deep
 have:=S.len
 have:=S.big
 have:=S.d0
 have:=S.d1
 exact⟨G.ok,by omega,by omega,by omega,by omega⟩
def Zf (f:FuncId)(P:Ps)(n:Nat):Prop:=∀{h0 h:Hp} {g:Nat} {s:RS},QY h0 h g s→Qai h0 h g→SOk n s→∀{R:Value→Hp→Prop},(∀ a c h',QY h0 h' g (P s).2→YF h h' a (P s).1.length (P s).1→Mut (At g) h (At g) h'→R (vsl a (P s).1.length c) h')→Qa Tryz.prog f [vhp g 0] h R
def QhW (f:FuncId):Prop:=∃ fn,Tryz.prog.funcs[f]?=some fn∧(fn.name == "runtime.NumGoroutine")=false∧fn.body.isNone=false
theorem Qjl {f:FuncId}(B:QhW f){g:Nat}{h:Hp}{K:Value→Hp→Prop}(H:Qa Tryz.prog f [vhp g 0] h K):Yt Tryz.prog (.func (.func f) #[vhp g 0] #[]) [] h K:=⟨f,_,_,rfl,B,H⟩
theorem Jc {f:FuncId}{P:Ps}{n:Nat}(B:QhW f)(F:Zf f P n)(kp:KP P n){h0 h:Hp}{g:Nat}{s:RS}(D:QY h0 h g s)(E:Qai h0 h g)(S:SOk n s)(hd:s.deep+s.ws.length < 1000000){R:Value→Hp→Prop}(hK:∀ a c h',QY h0 h' g (Xc P s).2→YF h h' a (Xc P s).1.length (Xc P s).1→Mut (At g) h (At g) h'→R (vsl a (Xc P s).1.length c) h'):Qa Tryz.prog 185 [vhp g 0,.func (.func f) #[vhp g 0] #[]] h R:=by
 refine Gl ?_
 unfold Kc
 have d0:=S.d0
 refine⟨_,D.c1,_,isW (by unfold InR;omega),D.put1 fun h3 D3 M3=>⟨_,D3.c1,?_⟩⟩
 intro J9
 have key:∀(h10:Hp) (u:RS),QY h0 h10 g u→Mut (At g) h (At g) h10→SOk n u→Xc P s=((P u).1,⟨(P u).2.ws,(P u).2.deep - 1,(P u).2.f⟩)→J9 h10:=by
  intro h10 u D10 M10 Su hP
  rw [hP] at hK
  have k:=kp u Su.good (Nat.le_of_lt Su.len)
  have hdp:=k.deep
  have du:=Su.d0
  have du1:=Su.d1
  have hg:=D.al
  refine Qjl B (F D10 (E.mut M10) Su fun a c h' D' N' M'=>⟨_,_,_,rfl,_,D'.c1,_,isW (by unfold InR;omega),D'.put1 fun h4 D4 M4=>?_⟩)
  exact hK a c h4 D4 ((N'.base (M10.up D10.al)).mut hg M4) ((M10.trans M').trans M4)
 clear_value J9
 refine⟨fun e=>?_,fun e=>?_⟩
 ·have e2:s.deep+1 > 12:=of_decide_eq_true e
  refine YZ D3 (by decide) fun h4 D4 M4=>⟨rfl,key h4 _ D4 (M3.trans M4) ⟨RS.fail_good _ _,by have:=S.len;exact Nat.lt_of_le_of_lt (Nat.zero_le _) this,Nat.zero_le _,by show 0≤s.deep+1;omega,by show s.deep+1+((0:Nat):Int)≤1000000;omega⟩ ?_⟩
  unfold Xc
  simp only [if_pos e2]
 ·have e2:¬ s.deep+1 > 12:=of_decide_eq_false e
  refine key h3 _ D3 M3 ⟨S.good,S.len,S.big,by show 0≤s.deep+1;omega,by show s.deep+1+(s.ws.length:Int)≤1000000;omega⟩ ?_
  unfold Xc
  simp only [if_neg e2]
structure QOk (q:Qy):Prop where
 n1:1≤q.aggs.length
 n2:q.aggs.length≤4
 g:∀ a ∈ q.aggs,1≤a.1∧a.1≤5∧(a.1≠1→YL a.2=0)∧(a.1=1→a.2=[])
 w:q.wh≠[]→YL q.wh=0
 b:q.by_≠[]→YL q.by_=0
 s:1≤q.size∧q.size≤1000
 l:1≤q.slide∧q.slide≤1000
 d:0≤q.delay∧q.delay≤1000
 t:0≤q.late∧q.late≤1000
 r:q.slide≤q.size∧q.size≤4*q.slide
 ga:∀ a ∈ q.aggs,a.1≠1→Zr a.2 (if a.1=2 then 0 else 1)=0
 wa:q.wh≠[]→Zr q.wh 2=0
 ba:q.by_≠[]→Zr q.by_ 0=0
theorem GU {l:List Nd}{k:Int}(h:Zr l k=0):YL l=0:=by
 unfold Zr at h
 split at h
 ·rename_i q;exact absurd h q
 ·rename_i q;exact Decidable.not_not.1 q
theorem QpE {q:Qy}(h:Ul q=0):QOk q:=by
 unfold Ul at h
 split at h
 ·cases h
 rename_i h1
 split at h
 ·rename_i h2;exact absurd h h2
 rename_i h2
 have h2:=Qew (Decidable.not_not.1 h2)
 have h3:=Qew h
 have ha:∀ a ∈ q.aggs,Xs a=0:=fun a ha=>h2 _ (List.mem_map.2 ⟨a,ha,rfl⟩)
 have hw:=h3 (if q.wh=[] then 0 else Zr q.wh 2) (by simp)
 have hb:=h3 (if q.by_=[] then 0 else Zr q.by_ 0) (by simp)
 have hn:=h3 (Ky q) (by simp)
 have hga:∀ a ∈ q.aggs,1≤a.1∧a.1≤5∧(a.1≠1→Zr a.2 (if a.1=2 then 0 else 1)=0)∧(a.1=1→a.2=[]):=by
  intro a h4
  have h5:=ha a h4
  unfold Xs at h5
  split at h5
  ·cases h5
  ·rename_i h6
   refine⟨by omega,by omega,fun h7=>?_,fun h7=>?_⟩
   ·rw [if_neg h7] at h5;exact h5
   ·exact Decidable.byContradiction fun h8=>h6 (.inr (.inr ⟨h7,h8⟩))
 have hwa:q.wh≠[]→Zr q.wh 2=0:=fun h4=>by rw [if_neg h4] at hw;exact hw
 have hba:q.by_≠[]→Zr q.by_ 0=0:=fun h4=>by rw [if_neg h4] at hb;exact hb
 have hnn:¬(q.size < 1∨q.size > 1000∨q.slide < 1∨q.slide > 1000∨q.delay < 0∨q.delay > 1000∨q.late < 0∨q.late > 1000)∧¬(q.slide > q.size∨q.size > 4*q.slide):=by
  unfold Ky at hn
  split at hn
  ·cases hn
  ·rename_i h4
   split at hn
   ·cases hn
   ·rename_i h5;exact⟨h4,h5⟩
 exact⟨by omega,by omega,fun a h4=>⟨(hga a h4).1,(hga a h4).2.1,fun h5=>GU ((hga a h4).2.2.1 h5),(hga a h4).2.2.2⟩,fun h4=>GU (hwa h4),fun h4=>GU (hba h4),by omega,by omega,by omega,by omega,by omega,fun a h4 h5=>(hga a h4).2.2.1 h5,hwa,hba⟩
end Go.Proofs.YtgmplfdecikgoaaGreatDoor
namespace Go.Proofs.YtgmplfdecikgoaaGreatDoor
open Go Go.Vc
def VT (u0:Option Addr)(u1 u2:Nat)(u3:Int)(h:Hp)(R:Value→Hp→Prop):Prop:=
 (Qa Tryz.prog 124 [vsl u0 u1 u2] h fun v1 h2=>∃ e3,v1=(ifv e3)∧(((Option.isSome e3)=true→R (ifv e3) h2)∧((Option.isSome e3)=false→(Qa Tryz.prog 125 [vsl u0 u1 u2] h2 fun v5 h6=>∃ x7 e8,v5=(Qf [vi x7,ifv e8])∧(let J11:Option (TypeId × Value)→Prop:=fun e12=>R (ifv e12) h6;(((bif (bif (bif (Option.isNone e8) then(decide (u3≠0)) else false) then(decide (x7≠u3)) else false) then(decide (x7≠0)) else false)=true→(J11 (some (80,(vi 3)))))∧((bif (bif (bif (Option.isNone e8) then(decide (u3≠0)) else false) then(decide (x7≠u3)) else false) then(decide (x7≠0)) else false)=false→(J11 e8))))))))
theorem QeE {u0 u1 u2 u3 h R}(H:VT u0 u1 u2 u3 h R):Qa Tryz.prog 76 [vsl u0 u1 u2,vi u3] h R:=
 Qd (cfg:=⟨[],[],[]⟩) Qo mixed Tryz.func76 [.one (.v (vsl u0 u1 u2)),.one (.v (vi u3))] (by kernel_rfl) rfl (by kernel_rfl) H
def Un (u0:Option Addr)(u1 u2:Nat)(u3:Option Addr)(u4 u5:Nat)(u6:Option Addr)(u7 u8:Nat)(u9:Int)(u10:Int)(u11:Int)(u12:Int)(h:Hp)(R:Value→Hp→Prop):Prop:=
 (∀ b1,h b1=none→let h2:= Hp.set h b1 (Qc [vi u9,vi u10] 3);(∃(I4:List Value→Hp→Prop) (m5:List Value→Hp→Nat),I4 [vi 0] h2∧∀ vs6 h7,I4 vs6 h7→∃ x8,vs6=[vi x8]∧(((decide (x8 < ((2:Nat):Int)))=true→(∃ b11 o12,((some (⟨b1,0,none⟩:Addr))=some ⟨b11,o12,none⟩∧(0:Int)≤x8∧x8 < ((2:Nat):Int))∧(∃ x13,(Hp.cell h7 b11 (o12+x8.toNat*1)=some (vi x13))∧(((bif (decide (x13 < 1)) then true else(decide (x13 > 1000)))=true→R (ifv (some (80,(vi 1)))) h7)∧((bif (decide (x13 < 1)) then true else(decide (x13 > 1000)))=false→(∃ x15,(IsW x15 (x8+1))∧(I4 [vi x15] h7∧m5 [vi x15] h7 < m5 vs6 h7)))))))∧((decide (x8 < ((2:Nat):Int)))=false→(∀ b16,h7 b16=none→let h17:= Hp.set h7 b16 (Qc [vi u11,vi u12] 3);(∃(I19:List Value→Hp→Prop) (m20:List Value→Hp→Nat),I19 [vi 0] h17∧∀ vs21 h22,I19 vs21 h22→∃ x23,vs21=[vi x23]∧(((decide (x23 < ((2:Nat):Int)))=true→(∃ b26 o27,((some (⟨b16,0,none⟩:Addr))=some ⟨b26,o27,none⟩∧(0:Int)≤x23∧x23 < ((2:Nat):Int))∧(∃ x28,(Hp.cell h22 b26 (o27+x23.toNat*1)=some (vi x28))∧(((bif (decide (x28 < 0)) then true else(decide (x28 > 1000)))=true→R (ifv (some (80,(vi 1)))) h22)∧((bif (decide (x28 < 0)) then true else(decide (x28 > 1000)))=false→(∃ x30,(IsW x30 (x23+1))∧(I19 [vi x30] h22∧m20 [vi x30] h22 < m20 vs21 h22)))))))∧((decide (x23 < ((2:Nat):Int)))=false→(∃ x31,((decide (u10 > u9))=false→IsW x31 (4*u10))∧(((bif (decide (u10 > u9)) then true else(decide (u9 > x31)))=true→R (ifv (some (80,(vi 3)))) h22)∧((bif (decide (u10 > u9)) then true else(decide (u9 > x31)))=false→R (ifv none) h22)))))))))))
theorem Qcc {u0 u1 u2 u3 u4 u5 u6 u7 u8 u9 u10 u11 u12 h R}(H:Un u0 u1 u2 u3 u4 u5 u6 u7 u8 u9 u10 u11 u12 h R):Qa Tryz.prog 77 [vag [vsl u0 u1 u2,vsl u3 u4 u5,vsl u6 u7 u8,vi u9,vi u10,vi u11,vi u12]] h R:=
 Qd (cfg:=⟨[],[(2,([13],[.one (.int .i64)],[])),(8,([31],[.one (.int .i64)],[]))],[]⟩) Qo mixed Tryz.func77 [.ag [.v (vsl u0 u1 u2),.v (vsl u3 u4 u5),.v (vsl u6 u7 u8),.v (vi u9),.v (vi u10),.v (vi u11),.v (vi u12)]] (by kernel_rfl) rfl (by kernel_rfl) H
def Gi (u0:Option Addr)(u1 u2:Nat)(u3:Option Addr)(u4 u5:Nat)(u6:Option Addr)(u7 u8:Nat)(u9:Int)(u10:Int)(u11:Int)(u12:Int)(h:Hp)(R:Value→Hp→Prop):Prop:=
 (((bif (decide ((u1:Int) < 1)) then true else(decide ((u1:Int) > 4)))=true→R (ifv (some (80,(vi 2)))) h)∧((bif (decide ((u1:Int) < 1)) then true else(decide ((u1:Int) > 4)))=false→(∃(I3:List Value→Hp→Prop) (m4:List Value→Hp→Nat),I3 [vi 0] h∧∀ vs5 h6,I3 vs5 h6→∃ x7,vs5=[vi x7]∧(((decide (x7 < (u1:Int)))=true→(let J25:Hp→Prop:=fun h26=>(∃ x27,(IsW x27 (x7+1))∧(I3 [vi x27] h26∧m4 [vi x27] h26 < m4 vs5 h6));(∃ b10 o11,(u0=some ⟨b10,o11,none⟩∧(0:Int)≤x7∧x7 < (u1:Int))∧(∃ x12 a13 n13 c13,(Hp.row h6 b10 (o11+x7.toNat*2) 2=some [vi x12,vsl a13 n13 c13])∧(((bif (bif (decide (x12 < 1)) then true else(decide (x12 > 5))) then true else(bif (decide (x12=1)) then(decide ((n13:Int) > 0)) else false))=true→R (ifv (some (80,(vi 3)))) h6)∧((bif (bif (decide (x12 < 1)) then true else(decide (x12 > 5))) then true else(bif (decide (x12=1)) then(decide ((n13:Int) > 0)) else false))=false→(((decide (x12=1))=true→(J25 h6))∧((decide (x12=1))=false→(let J19:Int→Prop:=fun x20=>(Qa Tryz.prog 76 [vsl a13 n13 c13,vi x20] h6 fun v21 h22=>∃ e23,v21=(ifv e23)∧(((Option.isSome e23)=true→R (ifv e23) h22)∧((Option.isSome e23)=false→(J25 h22))));(((decide (x12=2))=true→(J19 0))∧((decide (x12=2))=false→(J19 1))))))))))))∧((decide (x7 < (u1:Int)))=false→(let J33:Hp→Prop:=fun h34=>(let J40:Hp→Prop:=fun h41=>(Qa Tryz.prog 77 [vag [vsl u0 u1 u2,vsl u3 u4 u5,vsl u6 u7 u8,vi u9,vi u10,vi u11,vi u12]] h41 fun v42 h43=>∃ e44,v42=(ifv e44)∧R (ifv e44) h43);(((decide ((u7:Int) > 0))=true→(Qa Tryz.prog 76 [vsl u6 u7 u8,vi 0] h34 fun v35 h36=>∃ e37,v35=(ifv e37)∧(((Option.isSome e37)=true→R (ifv e37) h36)∧((Option.isSome e37)=false→(J40 h36)))))∧((decide ((u7:Int) > 0))=false→(J40 h34))));(((decide ((u4:Int) > 0))=true→(Qa Tryz.prog 76 [vsl u3 u4 u5,vi 2] h6 fun v28 h29=>∃ e30,v28=(ifv e30)∧(((Option.isSome e30)=true→R (ifv e30) h29)∧((Option.isSome e30)=false→(J33 h29)))))∧((decide ((u4:Int) > 0))=false→(J33 h6)))))))))
theorem Qdr {u0 u1 u2 u3 u4 u5 u6 u7 u8 u9 u10 u11 u12 h R}(H:Gi u0 u1 u2 u3 u4 u5 u6 u7 u8 u9 u10 u11 u12 h R):Qa Tryz.prog 29 [vag [vsl u0 u1 u2,vsl u3 u4 u5,vsl u6 u7 u8,vi u9,vi u10,vi u11,vi u12]] h R:=
 Qd (cfg:=⟨[],[(4,([23],[.one (.int .i64)],[]))],[]⟩) Qo mixed Tryz.func29 [.ag [.v (vsl u0 u1 u2),.v (vsl u3 u4 u5),.v (vsl u6 u7 u8),.v (vi u9),.v (vi u10),.v (vi u11),.v (vi u12)]] (by kernel_rfl) rfl (by kernel_rfl) H
def QcO (u0:Int)(u1:Int)(u2:Int)(u3:Int)(u4:Int)(u5:Int)(h:Hp)(R:Value→Hp→Prop):Prop:=
 (Qa Tryz.prog 78 [vi u0] h fun v1 h2=>∃ x3,v1=(vi x3)∧(((decide (x3 < 0))=true→R (ifv (some (80,(vi 3)))) h2)∧((decide (x3 < 0))=false→(∃ p5,((decide (u0≠1))=true→Rd Tryz.prog ((eqGuard .neq 42 (.tmp 15) (.tmp 16) (vag [vi u4,vi u5]) (vag [vi 0,vi 0]) >>= fun _=>binOp .neq 42 (vag [vi u4,vi u5]) (vag [vi 0,vi 0]))) h2 (vb p5))∧(((bif (bif (bif (bif (decide (u0≠1)) then p5 else false) then true else(bif (decide (u0≠2)) then(decide (u3≠0)) else false)) then true else(bif (decide (x3 < 2)) then(decide (u2≠0)) else false)) then true else(bif (decide (x3 < 1)) then(decide (u1≠0)) else false))=true→R (ifv (some (80,(vi 3)))) h2)∧((bif (bif (bif (bif (decide (u0≠1)) then p5 else false) then true else(bif (decide (u0≠2)) then(decide (u3≠0)) else false)) then true else(bif (decide (x3 < 2)) then(decide (u2≠0)) else false)) then true else(bif (decide (x3 < 1)) then(decide (u1≠0)) else false))=false→(((bif (decide (u0=2)) then(bif (decide (u3 < 0)) then true else(decide (u3 > 3))) else false)=true→R (ifv (some (80,(vi 1)))) h2)∧((bif (decide (u0=2)) then(bif (decide (u3 < 0)) then true else(decide (u3 > 3))) else false)=false→(Qa Tryz.prog 147 [vag [vi u4,vi u5]] h2 fun v8 h9=>∃ e10,v8=(ifv e10)∧R (ifv e10) h9)))))))))
theorem Qja {u0 u1 u2 u3 u4 u5 h R}(H:QcO u0 u1 u2 u3 u4 u5 h R):Qa Tryz.prog 164 [vag [vi u0,vi u1,vi u2,vi u3,vi u4,vi u5]] h R:=
 Qd (cfg:=⟨[],[],[]⟩) Qo mixed Tryz.func164 [.ag [.v (vi u0),.v (vi u1),.v (vi u2),.v (vi u3),.v (vi u4),.v (vi u5)]] (by kernel_rfl) rfl (by kernel_rfl) H
def NM (u0:Option Addr)(u1 u2:Nat)(h:Hp)(R:Value→Hp→Prop):Prop:=
 (((decide ((u1:Int) > 40))=true→R (ifv (some (80,(vi 2)))) h)∧((decide ((u1:Int) > 40))=false→(∃(I3:List Value→Hp→Prop) (m4:List Value→Hp→Nat),I3 [vsl none 0 0,vi 0] h∧∀ vs5 h6,I3 vs5 h6→∃ a7 n7 c7 x8,vs5=[vsl a7 n7 c7,vi x8]∧(((decide (x8 < (u1:Int)))=true→(∃ b11 o12,(u0=some ⟨b11,o12,none⟩∧(0:Int)≤x8∧x8 < (u1:Int))∧(∃ x13 x14 x15 x16 x17 x18,(Hp.row h6 b11 (o12+x8.toNat*6) 6=some [vi x13,vi x14,vi x15,vi x16,vi x17,vi x18])∧(Qa Tryz.prog 164 [vag [vi x13,vi x14,vi x15,vi x16,vi x17,vi x18]] h6 fun v19 h20=>∃ e21,v19=(ifv e21)∧(((Option.isSome e21)=true→R (ifv e21) h20)∧((Option.isSome e21)=false→(Qa Tryz.prog 78 [vi x13] h20 fun v23 h24=>∃ x25,v23=(vi x25)∧(((decide (x25 > (n7:Int)))=true→R (ifv (some (80,(vi 3)))) h24)∧((decide (x25 > (n7:Int)))=false→(∃ x27,(IsW x27 ((n7:Int) - x25))∧(∃ a28 n28 c28,(Rd Tryz.prog (Instr.sliceAt 48 (vsl a7 n7 c7) (some (vi x27)) none none) h24 (vsl a28 n28 c28))∧(∃ b29 o30,((decide (x25 > 0))=true→(a28=some ⟨b29,o30,none⟩∧(0:Int)≤0∧0 < (n28:Int)))∧(∃ x31,((decide (x25 > 0))=true→Hp.cell h24 b29 (o30+(0:Int).toNat*1)=some (vi x31))∧(∃ b32 o33,(((bif (decide (x25 > 0)) then(decide (x31≠x14)) else false)=false∧(decide (x25 > 1))=true)→(a28=some ⟨b32,o33,none⟩∧(0:Int)≤1∧1 < (n28:Int)))∧(∃ x34,(((bif (decide (x25 > 0)) then(decide (x31≠x14)) else false)=false∧(decide (x25 > 1))=true)→Hp.cell h24 b32 (o33+(1:Int).toNat*1)=some (vi x34))∧(((bif (bif (decide (x25 > 0)) then(decide (x31≠x14)) else false) then true else(bif (decide (x25 > 1)) then(decide (x34≠x15)) else false))=true→R (ifv (some (80,(vi 3)))) h24)∧((bif (bif (decide (x25 > 0)) then(decide (x31≠x14)) else false) then true else(bif (decide (x25 > 1)) then(decide (x34≠x15)) else false))=false→(∃ x36,(IsW x36 ((n7:Int) - x25))∧(∃ a37 n37 c37,(Rd Tryz.prog (Instr.sliceAt 48 (vsl a7 n7 c7) none (some (vi x36)) none) h24 (vsl a37 n37 c37))∧(∀ b38,h24 b38=none→let h39:= Hp.set h24 b38 (Qc [vi x8] 3);(Ql Tryz.prog (Builtin.append_ #[48,48] 48 #[vsl a37 n37 c37,(vsl (some (⟨b38,0,none⟩:Addr)) 1 1)]) h39 fun v40 h41=>∃ a42 n42 c42,v40=(vsl a42 n42 c42)∧(∃ x44,(IsW x44 (x8+1))∧(I3 [vsl a42 n42 c42,vi x44] h41∧m4 [vsl a42 n42 c42,vi x44] h41 < m4 vs5 h6)))))))))))))))))))))))∧((decide (x8 < (u1:Int)))=false→(((decide ((n7:Int)≠1))=true→R (ifv (some (80,(vi 3)))) h6)∧((decide ((n7:Int)≠1))=false→R (ifv none) h6)))))))
theorem QfK {u0 u1 u2 h R}(H:NM u0 u1 u2 h R):Qa Tryz.prog 124 [vsl u0 u1 u2] h R:=
 Qd (cfg:=⟨[],[(5,([3,15],[.one (.slice),.one (.int .i64)],[]))],[(14,[0,1,2,3,4,5,6,7,8,9,10,11,12,13,14,15,16,17,18,19,20,21])]⟩) Qo mixed Tryz.func124 [.one (.v (vsl u0 u1 u2))] (by kernel_rfl) rfl (by kernel_rfl) H
def Mc (u0:Int)(u1:Int)(h:Hp)(R:Value→Hp→Prop):Prop:=
 (let J4:Bool→Prop:=fun p5=>((p5=true→R (ifv none) h)∧(p5=false→R (ifv (some (80,(vi 3)))) h));(((bif (decide (u0=0)) then(decide (u1=0)) else false)=true→(J4 (bif (decide (u0=0)) then(decide (u1=0)) else false)))∧((bif (decide (u0=0)) then(decide (u1=0)) else false)=false→(((bif (bif (decide (u0=1)) then(decide (u1≥(-1000000000))) else false) then(decide (u1≤1000000000)) else false)=true→(J4 (bif (bif (decide (u0=1)) then(decide (u1≥(-1000000000))) else false) then(decide (u1≤1000000000)) else false)))∧((bif (bif (decide (u0=1)) then(decide (u1≥(-1000000000))) else false) then(decide (u1≤1000000000)) else false)=false→(J4 (bif (decide (u0=2)) then(bif (decide (u1=0)) then true else(decide (u1=1))) else false)))))))
theorem QdS {u0 u1 h R}(H:Mc u0 u1 h R):Qa Tryz.prog 147 [vag [vi u0,vi u1]] h R:=
 Qd (cfg:=⟨[],[],[]⟩) Qo mixed Tryz.func147 [.ag [.v (vi u0),.v (vi u1)]] (by kernel_rfl) rfl (by kernel_rfl) H
theorem Qex {v:Int × Int}{h:Hp}{R:Value→Hp→Prop}(hK:R (ifv (YA (if Qp v then 0 else 3))) h):Qa Tryz.prog 147 [vag (Qv v)] h R:=by
 refine QdS ?_
 unfold Mc
 intro J4
 have yes:Qp v→J4 true:=fun hg=>⟨fun _=>by rw [if_pos hg] at hK;exact hK,fun e=>by cases e⟩
 have no:¬ Qp v→J4 false:=fun hg=>⟨fun e=>(by cases e),fun _=>by rw [if_neg hg] at hK;exact hK⟩
 refine⟨fun e=>?_,fun e=>⟨fun e2=>?_,fun e2=>?_⟩⟩
 ·rw [e];exact yes (by unfold Qp;simp [Bool.cond_eq_ite] at e;omega)
 ·rw [e2];exact yes (by unfold Qp;simp [Bool.cond_eq_ite] at e2;omega)
 ·by_cases hg:Qp v
  ·have:(bif (decide (v.1=2)) then(bif (decide (v.2=0)) then true else(decide (v.2=1))) else false)=true:=by
    unfold Qp at hg
    simp [Bool.cond_eq_ite] at e e2 ⊢
    omega
   rw [this];exact yes hg
  ·have:(bif (decide (v.1=2)) then(bif (decide (v.2=0)) then true else(decide (v.2=1))) else false)=false:=by
    unfold Qp at hg
    simp [Bool.cond_eq_ite]
    omega
   rw [this];exact no hg
theorem QhL (v:Int × Int):(v=(0,0))=(v.1=0∧v.2=0):=propext ⟨fun h=>by rw [h];exact⟨rfl,rfl⟩,fun h=>Prod.ext h.1 h.2⟩
theorem QiJ {n:Nd}{h:Hp}{R:Value→Hp→Prop}(hK:R (ifv (YA (QT n))) h):Qa Tryz.prog 164 [vag (Zo n)] h R:=by
 refine Qja ?_
 unfold QcO
 unfold QT at hK
 refine Q9 ⟨_,rfl,fun q=>?_,fun q=>⟨_,fun _=>Qdl (a:=n.v) (b:=(0,0)),fun q2=>?_,fun q2=>⟨fun q3=>?_,fun q3=>Qex (v:=n.v) ⟨_,rfl,?_⟩⟩⟩⟩
 ·rw [if_pos (of_decide_eq_true q)] at hK;exact hK
 all_goals
  have c1:=of_decide_eq_false q
  simp only [ZJ,cor,QjH] at *
 ·have c2:=of_decide_eq_true q2
  rw [if_neg c1,if_pos (by simp only [ne_eq,QhL] at c2 ⊢;omega)] at hK
  exact hK
 ·have c2:=of_decide_eq_false q2
  have c3:=of_decide_eq_true q3
  rw [if_neg c1,if_neg (by simp only [ne_eq,QhL] at c2 ⊢;omega),if_pos c3] at hK
  exact hK
 ·have c2:=of_decide_eq_false q2
  have c3:=of_decide_eq_false q3
  rw [if_neg c1,if_neg (by simp only [ne_eq,QhL] at c2 ⊢;omega),if_neg c3] at hK
  by_cases hg:Qp n.v
  ·rw [if_neg (by simp [hg])] at hK
   rw [if_pos hg];exact hK
  ·rw [if_pos hg] at hK
   rw [if_neg hg];exact hK
theorem Qfk {a:Option Addr}{k c:Nat}{l:List Nd}{h:Hp}{R:Value→Hp→Prop}(S:SlP Zo h a k l)(hK:∀ h',h.le h'→R (ifv (YA (YL l))) h'):Qa Tryz.prog 124 [vsl a k c] h R:=by
 refine QfK ?_
 unfold NM
 have hk:=S.1
 subst hk
 refine⟨fun e=>?_,fun e=>?_⟩
 ·have:YL l=2:=by unfold YL;rw [if_pos (by have:=of_decide_eq_true e;omega)]
  rw [this] at hK;exact hK h (Hp.le_refl h)
 have h40:l.length≤40:=by have:=of_decide_eq_false e;omega
 have e1:YL l=Zb [] 0 l:=by unfold YL;rw [if_neg (by omega)]
 rw [e1] at hK
 refine⟨fun vs hh=>∃(i:Nat) (a:Option Addr) (c:Nat) (st:List Int),vs=[vsl a st.length c,vi i]∧i≤l.length∧st.length≤i∧Zb [] 0 l=Zb st i (l.drop i)∧Qh h hh 3 1 a st.length c (st.reverse.map vi),fun vs hh=>l.length - (Qn vs 1).toNat,
  ⟨0,none,0,[],rfl,Nat.zero_le _,Nat.le_refl _,rfl,Qh.nil (Hp.le_refl h) _ _⟩,?_⟩
 rintro vs hh ⟨i,a1,c1,st,rfl,hi,hst,hc,O⟩
 refine⟨_,_,_,_,rfl,fun q=>?_,fun q=>?_⟩
 ·have hlt:i < l.length:=by have:=of_decide_eq_true q;omega
  have hx:l[i]?=some l[i]:=List.getElem?_eq_getElem hlt
  rw [Qet hlt] at hc
  obtain⟨b,o,ha,hr⟩:=(S.le O.le).get QD (by decide) hx
  generalize l[i]=n at *
  refine⟨b,o,⟨ha,by omega,by omega⟩,_,_,_,_,_,_,hr,QiJ (n:=n) ⟨_,rfl,fun q2=>?_,fun q2=>Q9 ⟨_,rfl,?_⟩⟩⟩
  ·rw [Zj] at q2
   have hf:QT n≠0:=by simpa using q2
   rw [Uj rfl hf] at hc
   rw [hc] at hK;exact hK hh O.le
  rw [Zj] at q2
  have hf:QT n=0:=by simpa using q2
  have har:0≤arI n.op:=QbE hf
  have SI:SlI hh a1 st.length st.reverse:=by have:=O.sli;exact this
  have hbad:ZI n st=none→R (ifv (YA 3)) hh:=fun hp=>by
   rw [Qia hf hp] at hc
   rw [hc] at hK;exact hK hh O.le
  have hcap:=O.own.cap
  have hgood:∀ s,ZI n st=some s→∀ x:Int,x=(st.length:Nat) - arI n.op→∀ K:Value→Hp→Prop,(∀(a46:Option Addr) (n46 c46:Nat) (h45:Hp),Qh h h45 3 1 a46 n46 c46 ((((i:Int) :: s).reverse).map vi)→n46=s.length+1→K (vsl a46 n46 c46) h45) →
    ∃(a38:Option Addr) (n38 c38:Nat),(Rd Tryz.prog (Instr.sliceAt 48 (vsl a1 st.length c1) none (some (vi x)) none) hh (vsl a38 n38 c38))∧(∀(b42:Nat),hh b42=none→Ql Tryz.prog (Builtin.append_ #[48,48] 48 #[(vsl a38 n38 c38),(vsl (some (⟨b42,0,none⟩:Addr)) 1 1)]) (Hp.set hh b42 (Qc [(vi i)] 3)) K):=by
   intro s hs x hx K hK
   rw [hx]
   obtain⟨p1,p2⟩:=Uo har hs
   rw [←p1]
   refine⟨_,_,_,Wz (e:=3) (by kernel_rfl) (by kernel_rfl) (by omega) (by omega),fun b42 hb42=>?_⟩
   rw [Int.toNat_natCast]
   have OC:Qh h hh 3 1 a1 s.length c1 (s.reverse.map vi):=by
    have:=O.cut (m:=s.length) (by omega)
    rw [Nat.mul_one,←List.map_take,p2] at this
    exact this
   refine Qh.append Vh (Qh.set hb42 _ OC) (Qg.new _ _ [vi i] _) (m:=1) rfl (by simp [Value.oneCell']) (by omega) (by omega) fun a2 c2 h2 O2 _ _=>hK _ _ _ _ ?_ rfl
   rw [List.reverse_cons,List.map_append]
   exact O2
  have hnext:∀ s,ZI n st=some s→∀(a46:Option Addr) (n46 c46:Nat) (h45:Hp),Qh h h45 3 1 a46 n46 c46 ((((i:Int) :: s).reverse).map vi)→n46=s.length+1→∃(x48:Int),IsW x48 ((i:Int)+1)∧(∃(i':Nat) (a:Option Addr) (c:Nat) (st:List Int),[vsl a46 n46 c46,vi x48]=[vsl a st.length c,vi i']∧i'≤l.length∧st.length≤i'∧Zb [] 0 l=Zb st i' (l.drop i')∧Qh h h45 3 1 a st.length c (st.reverse.map vi))∧l.length - (Qn [vsl a46 n46 c46,vi x48] 1).toNat < l.length - (Qn [vsl a1 st.length c1,vi i] 1).toNat:=by
   intro s hs a46 n46 c46 h45 O45 hn
   subst hn
   obtain⟨p1,p2⟩:=Uo har hs
   refine⟨_,isW (by unfold InR;omega),⟨i+1,a46,c46,(i:Int) :: s,rfl,by omega,by simp;omega,?_,O45⟩,by simp [Qn];omega⟩
   rw [hc,Qjc hf hs]
  refine⟨fun q3=>?_,fun q3=>?_⟩
  ·have hlt2:=of_decide_eq_true q3
   have:ZI n st=none:=by
    cases hp:ZI n st with
    | none=>rfl
    | some s=>have:=(Uo har hp).1;omega
   exact hbad this
  have hge:=of_decide_eq_false q3
  have hw:∀{K:Int→Prop},K ((st.length:Nat) - arI n.op)→∃ x,IsW x (((st.length:Nat):Int) - arI n.op)∧K x:=fun hk=>⟨_,isW (by unfold InR;omega),hk⟩
  refine hw ?_
  have hsz:szT Tryz.prog 3=1:=by kernel_rfl
  have rdl:=fun(x:Int) (h0:0≤x) (h1:x≤st.length)=>YY (P:=Tryz.prog) (h:=hh) (t:=48) (e:=3) (by kernel_rfl) (by kernel_rfl) (a:=a1) (n:=st.length) (c:=c1) h0 h1
  rw [hsz] at rdl
  refine⟨_,_,_,rdl _ (by omega) (by omega),?_⟩
  have SD:=SI.drop (i:=((st.length:Nat) - arI n.op).toNat) (c:=c1) (by omega) hcap
  rcases QK har with h0|h0|h0
  ·have hs:ZI n st=some st:=by unfold ZI;rw [if_pos h0]
   rw [h0]
   refine⟨0,0,fun g=>(by cases g),0,fun g=>(by cases g),0,0,fun g=>(by cases g.2),0,fun g=>(by cases g.2),fun g=>?_,fun _=>⟨_,isW (by unfold InR;omega),hgood st hs _ (by rw [h0]) _ fun a46 n46 c46 h45 O e=>⟨_,_,_,rfl,hnext st hs a46 n46 c46 h45 O e⟩⟩⟩
   exfalso
   simp only [ZJ,cor] at g
   have:=of_decide_eq_true g
   omega
  ·match st with
   | []=>exfalso;simp at hge;omega
   | z :: s=>
    have hx29:(((z :: s).length:Nat):Int) - arI n.op=(s.length:Nat):=by rw [h0];simp
    rw [hx29] at SD ⊢
    rw [Int.toNat_natCast] at SD ⊢
    have ed:((z :: s).reverse).drop s.length=[z]:=by rw [List.reverse_cons,List.drop_left' (by simp)]
    rw [ed] at SD
    obtain⟨q,p,hq,hcell⟩:=SD.get (i:=0) (by simp)
    rw [h0]
    by_cases hz:z=n.x
    ·have hs:ZI n (z :: s)=some s:=by unfold ZI;rw [if_neg (by omega),if_pos h0];simp [hz]
     refine⟨q,p,fun g=>⟨hq,by omega,by simp⟩,z,fun g=>hcell,0,0,fun g=>(by cases g.2),0,fun g=>(by cases g.2),fun g=>?_,fun _=>?_⟩
     ·exfalso
      simp only [ZJ,cor] at g
      have:=of_decide_eq_true g
      omega
     ·exact⟨_,isW (by have:(z :: s).length≤i:=hst;unfold InR;omega),hgood s hs _ hx29.symm _ fun a46 n46 c46 h45 O e=>⟨_,_,_,rfl,hnext s hs a46 n46 c46 h45 O e⟩⟩
    ·have hs:ZI n (z :: s)=none:=by unfold ZI;rw [if_neg (by omega),if_pos h0];simp [hz]
     have:=hbad hs
     refine⟨q,p,fun g=>⟨hq,by omega,by simp⟩,z,fun g=>hcell,0,0,fun g=>(by cases g.2),0,fun g=>(by cases g.2),fun _=>this,fun g=>?_⟩
     exfalso
     simp only [ZJ,cor] at g
     have:=of_decide_eq_false g
     omega
  ·match st with
   | []=>exfalso;simp at hge;omega
   | [z]=>exfalso;simp at hge;omega
   | z :: y :: s=>
    have hx29:(((z :: y :: s).length:Nat):Int) - arI n.op=(s.length:Nat):=by rw [h0];simp;omega
    rw [hx29] at SD ⊢
    rw [Int.toNat_natCast] at SD ⊢
    have ed:((z :: y :: s).reverse).drop s.length=[y,z]:=by rw [List.reverse_cons,List.reverse_cons,List.append_assoc,List.drop_left' (by simp)];rfl
    rw [ed] at SD
    have en:(z :: y :: s).length - s.length=2:=by simp;omega
    rw [en] at SD ⊢
    obtain⟨q,p,hq,hcell⟩:=SD.get (i:=0) (by simp)
    obtain⟨q',p',hq',hcell'⟩:=SD.get (i:=1) (by simp)
    rw [h0]
    by_cases hz:y=n.x∧z=n.y
    ·have hs:ZI n (z :: y :: s)=some s:=by unfold ZI;rw [if_neg (by omega),if_neg (by omega)];simp [hz.1,hz.2]
     refine⟨q,p,fun g=>⟨hq,by omega,by decide⟩,y,fun g=>hcell,q',p',fun g=>⟨hq',by omega,by decide⟩,z,fun g=>hcell',fun g=>?_,fun _=>?_⟩
     ·exfalso
      simp only [ZJ,cor] at g
      have:=of_decide_eq_true g
      omega
     ·exact⟨_,isW (by have:(z :: y :: s).length≤i:=hst;unfold InR;omega),hgood s hs _ hx29.symm _ fun a46 n46 c46 h45 O e=>⟨_,_,_,rfl,hnext s hs a46 n46 c46 h45 O e⟩⟩
    ·have hs:ZI n (z :: y :: s)=none:=by unfold ZI;rw [if_neg (by omega),if_neg (by omega)];simp;intro h1 h2;exact hz ⟨h1,h2⟩
     have:=hbad hs
     refine⟨q,p,fun g=>⟨hq,by omega,by decide⟩,y,fun g=>hcell,q',p',fun g=>⟨hq',by omega,by decide⟩,z,fun g=>hcell',fun _=>this,fun g=>?_⟩
     exfalso
     simp only [ZJ,cor] at g
     have:=of_decide_eq_false g
     omega
 ·have hge:i=l.length:=by have:=of_decide_eq_false q;omega
  subst hge
  rw [List.drop_eq_nil_of_le (Nat.le_refl _),Zb] at hc
  refine⟨fun q2=>?_,fun q2=>?_⟩
  ·rw [if_neg (by have:=of_decide_eq_true q2;omega)] at hc
   rw [hc] at hK;exact hK hh O.le
  ·rw [if_pos (by have:=of_decide_eq_false q2;omega)] at hc
   rw [hc] at hK;exact hK hh O.le
open Go.Txt
def Ny:Int→Value→List Value:=fun k v=>[vi k,v]
theorem Wt (k:Int)(v:Value):(Ny k v).length=2:=rfl
structure QAt (h:Hp)(q:Qy)(a1:Option Addr)(n1:Nat)(a2:Option Addr)(n2:Nat)(a3:Option Addr)(n3:Nat):Prop where
 g:NT Zo Ny h a1 n1 q.aggs
 w:SlP Zo h a2 n2 q.wh
 b:SlP Zo h a3 n3 q.by_
theorem QAt.le {h h':Hp}{q:Qy}{a1 a2 a3:Option Addr}{n1 n2 n3:Nat}(Q:QAt h q a1 n1 a2 n2 a3 n3)(l:h.le h'):QAt h' q a1 n1 a2 n2 a3 n3:=⟨Q.g.le l,Q.w.le l,Q.b.le l⟩
abbrev qV (a1:Option Addr)(n1 c1:Nat)(a2:Option Addr)(n2 c2:Nat)(a3:Option Addr)(n3 c3:Nat)(q:Qy):Value:=vag [vsl a1 n1 c1,vsl a2 n2 c2,vsl a3 n3 c3,vi q.size,vi q.slide,vi q.delay,vi q.late]
structure QjR (q:Qy):Prop where
 w:q.wh.length≤1000000
 b:q.by_.length≤1000000
 g:∀ a ∈ q.aggs,a.2.length≤1000000
 n:q.aggs.length≤1000000
theorem Jm {a:Option Addr}{k c:Nat}{l:List Nd}{kind:Int}{h:Hp}{R:Value→Hp→Prop}(S:SlP Zo h a k l)(hl:l.length≤1000000)(hK:∀ h',h.le h'→R (ifv (YA (Zr l kind))) h'):Qa Tryz.prog 76 [vsl a k c,vi kind] h R:=by
 refine QeE ?_
 unfold VT
 unfold Zr at hK
 refine Qfk S fun h2 l2=>⟨_,rfl,fun e=>?_,fun e=>?_⟩
 ·rw [Zj] at e
  have e2:YL l≠0:=by simpa using e
  rw [if_pos e2] at hK
  exact hK h2 l2
 ·rw [Zj] at e
  have e2:YL l=0:=by simpa using e
  rw [if_neg (fun h=>h e2)] at hK
  refine U1 (S.le l2) (Z4 e2).1 hl fun h6 l6=>⟨_,_,rfl,?_⟩
  have hc:(bif (bif (bif (Option.isNone (YA (Zk l).2)) then(decide ((kind:Int)≠0)) else false) then(decide (((Zk l).1:Int)≠kind)) else false) then(decide (((Zk l).1:Int)≠0)) else false)=decide ((((Zk l).2=0∧kind≠0)∧(Zk l).1≠kind)∧(Zk l).1≠0):=by
   rw [WG,ZJ,ZJ,ZJ]
  rw [hc]
  intro J11
  refine⟨fun q=>?_,fun q=>?_⟩
  ·have q:=of_decide_eq_true q
   rw [if_neg (fun h=>h q.1.1.1),if_pos ⟨q.1.1.2,q.1.2,q.2⟩] at hK
   exact hK h6 (Hp.le_trans l2 l6)
  ·have q:=of_decide_eq_false q
   have:=hK h6 (Hp.le_trans l2 l6)
   by_cases h5:(Zk l).2≠0
   ·rw [if_pos h5] at this;exact this
   ·have h5:(Zk l).2=0:=Decidable.not_not.1 h5
    rw [if_neg (fun h=>h h5),if_neg (fun h=>q ⟨⟨⟨h5,h.1⟩,h.2.1⟩,h.2.2⟩)] at this
    show R (ifv (YA (Zk l).2)) h6
    rw [h5];exact this
theorem Qgc (h:Hp)(b:Nat)(x y:Int)(T:TypeId){i:Nat}(hi:i < 2):(h.set b (Qc [vi x,vi y] T)).cell b (0+(i:Int).toNat*1)=some (vi (if i=0 then x else y)):=by
 match i,hi with
 | 0,_=>exact Qb (Hp.set_same _ _ _) rfl
 | 1,_=>exact Qb (Hp.set_same _ _ _) rfl
theorem Qb2 {q:Qy}{a1:Option Addr}{n1 c1:Nat}{a2:Option Addr}{n2 c2:Nat}{a3:Option Addr}{n3 c3:Nat}{h:Hp}{R:Value→Hp→Prop}(hK:∀ h',h.le h'→R (ifv (YA (Ky q))) h'):Qa Tryz.prog 77 [qV a1 n1 c1 a2 n2 c2 a3 n3 c3 q] h R:=by
 refine Qcc ?_
 unfold Un
 intro b1 hb1 h2
 have l2:h.le h2:=Hp.le_set (Hp.le_refl h) hb1 _
 refine⟨fun vs' hh=>hh=h2∧∃ i:Nat,vs'=[vi i]∧i≤2∧(1≤i→1≤q.size∧q.size≤1000)∧(2≤i→1≤q.slide∧q.slide≤1000),fun vs' hh=>2 - (Qn vs' 0).toNat,⟨rfl,0,rfl,by omega,by omega,by omega⟩,?_⟩
 rintro vs' hh ⟨rfl,i,rfl,hi,i1,i2⟩
 refine⟨i,rfl,fun e=>?_,fun e=>?_⟩
 ·have hlt:i < 2:=by have:=of_decide_eq_true e;omega
  refine⟨b1,0,⟨rfl,by omega,by omega⟩,_,Qgc h b1 q.size q.slide 3 hlt,?_⟩
  rw [cor]
  refine⟨fun g=>?_,fun g=>?_⟩
  ·have g:=of_decide_eq_true g
   have e1:Ky q=1:=by
    unfold Ky
    rw [if_pos]
    split at g<;>omega
   rw [e1] at hK
   exact hK _ l2
  ·have g:=of_decide_eq_false g
   refine⟨_,isW (by unfold InR;omega),⟨rfl,i+1,rfl,by omega,fun h=>?_,fun h=>?_⟩,by simp [Qn];omega⟩
   ·by_cases h0:i=0
    ·rw [if_pos h0] at g;omega
    ·exact i1 (by omega)
   ·have h0:¬ i=0:=by omega
    rw [if_neg h0] at g;omega
 ·have hge:i=2:=by have:=of_decide_eq_false e;omega
  subst hge
  have j1:=i1 (by omega)
  have j2:=i2 (by omega)
  intro b16 hb16 h17
  have l17:h.le h17:=Hp.le_set l2 hb16 _
  refine⟨fun vs' hh=>hh=h17∧∃ i:Nat,vs'=[vi i]∧i≤2∧(1≤i→0≤q.delay∧q.delay≤1000)∧(2≤i→0≤q.late∧q.late≤1000),fun vs' hh=>2 - (Qn vs' 0).toNat,⟨rfl,0,rfl,by omega,by omega,by omega⟩,?_⟩
  rintro vs' hh ⟨rfl,i,rfl,hi,i1,i2⟩
  refine⟨i,rfl,fun e=>?_,fun e=>?_⟩
  ·have hlt:i < 2:=by have:=of_decide_eq_true e;omega
   refine⟨b16,0,⟨rfl,by omega,by omega⟩,_,Qgc h2 b16 q.delay q.late 3 hlt,?_⟩
   rw [cor]
   refine⟨fun g=>?_,fun g=>?_⟩
   ·have g:=of_decide_eq_true g
    have e1:Ky q=1:=by
     unfold Ky
     rw [if_pos]
     split at g<;>omega
    rw [e1] at hK
    exact hK _ l17
   ·have g:=of_decide_eq_false g
    refine⟨_,isW (by unfold InR;omega),⟨rfl,i+1,rfl,by omega,fun h=>?_,fun h=>?_⟩,by simp [Qn];omega⟩
    ·by_cases h0:i=0
     ·rw [if_pos h0] at g;omega
     ·exact i1 (by omega)
    ·have h0:¬ i=0:=by omega
     rw [if_neg h0] at g;omega
  ·have hge:i=2:=by have:=of_decide_eq_false e;omega
   subst hge
   have j3:=i1 (by omega)
   have j4:=i2 (by omega)
   refine⟨4*q.slide,fun _=>isW (by unfold InR;omega),?_⟩
   rw [cor]
   have hn:Ky q=if q.slide > q.size∨q.size > 4*q.slide then 3 else 0:=by
    unfold Ky
    rw [if_neg (by omega)]
   rw [hn] at hK
   refine⟨fun g=>?_,fun g=>?_⟩
   ·rw [if_pos (of_decide_eq_true g)] at hK
    exact hK _ l17
   ·rw [if_neg (of_decide_eq_false g)] at hK
    exact hK _ l17
theorem Qix {α:Type}{l:List α}{g:α→Int}{i:Nat}(hi:i < l.length)(h:∀ y ∈ l.take i,g y=0)(h2:g l[i]=0):∀ y ∈ l.take (i+1),g y=0:=by
 intro y hy
 rw [List.take_succ_eq_append_getElem hi] at hy
 rcases List.mem_append.1 hy with h3|h3
 ·exact h y h3
 ·rw [List.mem_singleton.1 h3];exact h2
theorem Xy {α:Type}{l:List α}:l=[]↔l.length=0:=List.length_eq_zero_iff.symm
theorem VW {q:Qy}{a1:Option Addr}{n1 c1:Nat}{a2:Option Addr}{n2 c2:Nat}{a3:Option Addr}{n3 c3:Nat}{h:Hp}{R:Value→Hp→Prop}(Q:QAt h q a1 n1 a2 n2 a3 n3)(B:QjR q)(hK:∀ h',h.le h'→R (ifv (YA (Ul q))) h'):Qa Tryz.prog 29 [qV a1 n1 c1 a2 n2 c2 a3 n3 c3 q] h R:=by
 refine Qdr ?_
 unfold Gi
 have hn1:=Q.g.len
 have hn2:=Q.w.1
 have hn3:=Q.b.1
 have hB:=B.n
 rw [cor]
 refine⟨fun e=>?_,fun e=>?_⟩
 ·have e:=of_decide_eq_true e
  have:Ul q=2:=by unfold Ul;rw [if_pos (by omega)]
  rw [this] at hK
  exact hK h (Hp.le_refl h)
 have e:=of_decide_eq_false e
 have hq:Ul q=if Q4 (q.aggs.map Xs)≠0 then Q4 (q.aggs.map Xs) else Qgl q:=by unfold Ul;rw [if_neg (by omega)]
 rw [hq] at hK
 clear hq
 refine⟨fun vs' hh=>h.le hh∧∃ i:Nat,vs'=[vi i]∧i≤n1∧∀ y ∈ q.aggs.take i,Xs y=0,fun vs' hh=>n1 - (Qn vs' 0).toNat,⟨Hp.le_refl h,0,rfl,Nat.zero_le _,by simp⟩,?_⟩
 rintro vs' hh ⟨lh,i,rfl,hi,hz⟩
 refine⟨i,rfl,fun g=>?_,fun g=>?_⟩
 ·have hlt:i < n1:=by have:=of_decide_eq_true g;omega
  have hlt2:i < q.aggs.length:=by omega
  have hx:q.aggs[i]?=some q.aggs[i]:=List.getElem?_eq_getElem hlt2
  have hbig:=B.g _ (List.mem_of_getElem? hx)
  have hall:=@Qix _ q.aggs Xs i hlt2 hz
  generalize q.aggs[i]=y at hx hbig hall
  obtain⟨k,l⟩:=y
  obtain⟨b,o,a',c',ha,hrow,hS⟩:=(Q.g.le lh).row Wt (by decide) hx
  have bad:∀ f,f≠0→Xs (k,l)=f→∀ h',h.le h'→R (ifv (YA f)) h':=by
   intro f hf hk h' l'
   have h1:=Qgt (g:=Xs) hz hx (by rw [hk];exact hf)
   rw [h1,hk,if_pos hf] at hK
   exact hK h' l'
  intro J25
  refine⟨b,o,⟨ha,by omega,by omega⟩,k,a',l.length,c',by rw [Int.toNat_natCast];exact hrow,?_⟩
  have good:Xs (k,l)=0→∀ h',h.le h'→J25 h':=fun hk h' l'=>⟨_,isW (by unfold InR;omega),⟨l',i+1,rfl,by omega,hall hk⟩,by simp [Qn];omega⟩
  clear_value J25
  rw [cor,ZJ,cor]
  have hnil:l≠[]↔(l.length:Int) > 0:=by rw [ne_eq,Xy];omega
  refine⟨fun g2=>?_,fun g2=>⟨fun g3=>?_,fun g3=>?_⟩⟩
  ·have g2:=of_decide_eq_true g2
   refine bad 3 (by decide) ?_ hh lh
   unfold Xs
   rw [if_pos (by simp only [hnil];omega)]
  ·have g2:=of_decide_eq_false g2
   have g3:=of_decide_eq_true g3
   refine good ?_ hh lh
   unfold Xs
   rw [if_neg (by simp only [hnil];omega),if_pos g3]
  ·have g2:=of_decide_eq_false g2
   have g3:=of_decide_eq_false g3
   have hf:Xs (k,l)=Zr l (if k=2 then 0 else 1):=by
    unfold Xs
    rw [if_neg (by simp only [hnil];omega),if_neg g3]
   intro J19
   have hJ:J19 (if k=2 then 0 else 1):=by
    refine Jm hS hbig fun h' l'=>⟨_,rfl,fun g4=>?_,fun g4=>?_⟩
    ·rw [Zj] at g4
     exact bad _ (by simpa using g4) hf h' (Hp.le_trans lh l')
    ·rw [Zj] at g4
     exact good (by rw [hf];simpa using g4) h' (Hp.le_trans lh l')
   clear_value J19
   refine⟨fun g4=>?_,fun g4=>?_⟩
   ·rw [if_pos (of_decide_eq_true g4)] at hJ;exact hJ
   ·rw [if_neg (of_decide_eq_false g4)] at hJ;exact hJ
 ·have hge:i=n1:=by have:=of_decide_eq_false g;omega
  have hz0:Q4 (q.aggs.map Xs)=0:=Ju (by
   intro x hx
   obtain⟨y,hy,rfl⟩:=List.mem_map.1 hx
   exact hz y (by rw [List.take_of_length_le (by omega)];exact hy))
  rw [hz0,if_neg (fun h=>h rfl)] at hK
  unfold Qgl at hK
  have Q:=Q.le lh
  intro J33
  have hJ33:∀ h',hh.le h'→(if q.wh=[] then 0 else Zr q.wh 2)=0→J33 h':=by
   intro h' l' hw
   rw [hw,Q4,if_neg (fun h=>h rfl)] at hK
   unfold J33
   intro J40
   have hJ40:∀ h2,h'.le h2→(if q.by_=[] then 0 else Zr q.by_ 0)=0→J40 h2:=by
    intro h2 l2 hb
    rw [hb,Q4,if_neg (fun h=>h rfl)] at hK
    refine Qb2 (q:=q) fun h3 l3=>⟨_,rfl,?_⟩
    have:=hK h3 (Hp.le_trans lh (Hp.le_trans l' (Hp.le_trans l2 l3)))
    rw [Q4,Q4] at this
    by_cases hn:Ky q≠0
    ·rw [if_pos hn] at this;exact this
    ·rw [if_neg hn] at this
     rw [Decidable.not_not.1 hn];exact this
   clear_value J40
   refine⟨fun g2=>?_,fun g2=>?_⟩
   ·have hne:¬ q.by_=[]:=by have:=of_decide_eq_true g2;rw [Xy];omega
    rw [if_neg hne] at hJ40 hK
    refine Jm (Q.le l').b B.b fun h2 l2=>⟨_,rfl,fun g4=>?_,fun g4=>?_⟩
    ·rw [Zj] at g4
     rw [Q4,if_pos (by simpa using g4)] at hK
     exact hK h2 (Hp.le_trans lh (Hp.le_trans l' l2))
    ·rw [Zj] at g4
     exact hJ40 h2 l2 (by simpa using g4)
   ·have hnil:q.by_=[]:=by have:=of_decide_eq_false g2;rw [Xy];omega
    exact hJ40 h' (Hp.le_refl h') (if_pos hnil)
  clear_value J33
  refine⟨fun g2=>?_,fun g2=>?_⟩
  ·have hne:¬ q.wh=[]:=by have:=of_decide_eq_true g2;rw [Xy];omega
   rw [if_neg hne] at hJ33 hK
   refine Jm Q.w B.w fun h2 l2=>⟨_,rfl,fun g4=>?_,fun g4=>?_⟩
   ·rw [Zj] at g4
    rw [Q4,if_pos (by simpa using g4)] at hK
    exact hK h2 (Hp.le_trans lh l2)
   ·rw [Zj] at g4
    exact hJ33 h2 l2 (by simpa using g4)
  ·have hnil:q.wh=[]:=by have:=of_decide_eq_false g2;rw [Xy];omega
   exact hJ33 hh (Hp.le_refl hh) (if_pos hnil)
end Go.Proofs.YtgmplfdecikgoaaGreatDoor
namespace Go.Vc
open Go
section
variable {α:Type}
def ftE (fs:List (α × (Nat→Prop))):Nat→Prop:=fun b=>∃ x ∈ fs,x.2 b
def QpI (fs:List (α × (Nat→Prop))):Prop:=fs.Pairwise fun x y=>∀ b,x.2 b→¬ y.2 b
def Yh (P:α→Hp→(Nat→Prop)→Prop)(l:List α)(h:Hp)(F:Nat→Prop):Prop:=
 ∃ fs:List (α × (Nat→Prop)),fs.map Prod.fst=l∧F=ftE fs∧QpI fs∧∀ x ∈ fs,P x.1 h x.2
variable {P:α→Hp→(Nat→Prop)→Prop}
theorem Yh.fp (fp:∀ x,Fp (P x))(l:List α):Fp (Yh P l) where
 al:=by
  rintro h F ⟨fs,_,rfl,_,H⟩ b ⟨x,hx,hb⟩
  exact(fp x.1).al (H x hx) b hb
 keep:=by
  rintro h h' F ⟨fs,e,rfl,A,H⟩ hk
  exact⟨fs,e,rfl,A,fun x hx=>(fp x.1).keep (H x hx) fun b hb=>hk b ⟨x,hx,hb⟩⟩
theorem Yh.nil (h:Hp):Yh P [] h (fun _=>False):=⟨[],rfl,by funext b;simp [ftE],List.Pairwise.nil,fun x hx=>by cases hx⟩
theorem Yh.perm {l l':List α}{h:Hp}{F:Nat→Prop}(E:Yh P l h F)(p:l'.Perm l):Yh P l' h F:=by
 obtain⟨fs,rfl,rfl,A,H⟩:=E
 have key:∀{m m':List α},m.Perm m'→∀ gs:List (α × (Nat→Prop)),gs.map Prod.fst=m'→∃ gs':List (α × (Nat→Prop)),gs'.map Prod.fst=m∧gs'.Perm gs:=by
  intro m m' q
  induction q with
  | nil=>intro gs e;exact⟨gs,e,List.Perm.refl _⟩
  | cons x q ih=>
   intro gs e
   match gs,e with
   | g :: gs,e=>
    simp only [List.map_cons,List.cons.injEq] at e
    obtain⟨gs',e2,p2⟩:=ih gs e.2
    exact⟨g :: gs',by rw [List.map_cons,e2,e.1],p2.cons g⟩
  | swap x y q=>
   intro gs e
   match gs,e with
   | g1 :: g2 :: gs,e=>
    simp only [List.map_cons,List.cons.injEq] at e
    exact⟨g2 :: g1 :: gs,by simp [e],List.Perm.swap _ _ _⟩
  | trans q1 q2 ih1 ih2=>
   intro gs e
   obtain⟨g1,e1,p1⟩:=ih2 gs e
   obtain⟨g2,e2,p2⟩:=ih1 g1 e1
   exact⟨g2,e2,p2.trans p1⟩
 obtain⟨gs,e,q⟩:=key p fs rfl
 refine⟨gs,e,?_,?_,fun x hx=>H x (q.mem_iff.1 hx)⟩
 ·funext b
  apply propext
  constructor
  ·rintro⟨x,hx,hb⟩;exact⟨x,q.mem_iff.2 hx,hb⟩
  ·rintro⟨x,hx,hb⟩;exact⟨x,q.mem_iff.1 hx,hb⟩
 ·exact(q.pairwise_iff (fun {x y} hxy b hb hb2=>hxy b hb2 hb)).2 A
theorem Yh.cons {l:List α}{x:α}{h:Hp}{F G:Nat→Prop}(E:Yh P l h F)(X:P x h G)(d:∀ b,G b→¬ F b):Yh P (x :: l) h (fun b=>G b∨F b):=by
 obtain⟨fs,rfl,rfl,A,H⟩:=E
 refine⟨(x,G) :: fs,rfl,?_,List.pairwise_cons.2 ⟨fun y hy b hb hb2=>d b hb ⟨y,hy,hb2⟩,A⟩,?_⟩
 ·funext b
  apply propext
  constructor
  ·rintro(hb|⟨y,hy,hb⟩)
   ·exact⟨_,List.mem_cons_self ..,hb⟩
   ·exact⟨y,List.mem_cons_of_mem _ hy,hb⟩
  ·rintro⟨y,hy,hb⟩
   rcases List.mem_cons.1 hy with rfl|hy
   ·exact .inl hb
   ·exact .inr ⟨y,hy,hb⟩
 ·intro y hy
  rcases List.mem_cons.1 hy with rfl|hy
  ·exact X
  ·exact H y hy
theorem Yh.uncons {l:List α}{x:α}{h:Hp}{F:Nat→Prop}(E:Yh P (x :: l) h F):∃ G F',P x h G∧Yh P l h F'∧(∀ b,G b→¬ F' b)∧∀ b,F b↔(G b∨F' b):=by
 obtain⟨fs,e,rfl,A,H⟩:=E
 match fs,e with
 | (y,G) :: fs,e=>
  simp only [List.map_cons,List.cons.injEq] at e
  obtain⟨rfl,rfl⟩:=e
  obtain⟨A1,A2⟩:=List.pairwise_cons.1 A
  refine⟨G,ftE fs,H _ (List.mem_cons_self ..),⟨fs,rfl,rfl,A2,fun z hz=>H z (List.mem_cons_of_mem _ hz)⟩,?_,?_⟩
  ·rintro b hb ⟨z,hz,hb2⟩;exact A1 z hz b hb hb2
  ·intro b
   constructor
   ·rintro⟨z,hz,hb⟩
    rcases List.mem_cons.1 hz with rfl|hz
    ·exact .inl hb
    ·exact .inr ⟨z,hz,hb⟩
   ·rintro(hb|⟨z,hz,hb⟩)
    ·exact⟨_,List.mem_cons_self ..,hb⟩
    ·exact⟨z,List.mem_cons_of_mem _ hz,hb⟩
theorem QdJ {l:List α}{i:Nat}(hi:i < l.length):(l[i] :: l.eraseIdx i).Perm l:=by
 rw [List.eraseIdx_eq_take_drop_succ]
 have e:l=l.take i++l[i] :: l.drop (i+1):=by rw [←List.drop_eq_getElem_cons,List.take_append_drop]
 have p:=(List.perm_middle (a:=l[i]) (l₁:=l.take i) (l₂:=l.drop (i+1)))
 rw [←e] at p
 exact p.symm
theorem Yh.at (fp:∀ x,Fp (P x)){l:List α}{h:Hp}{F:Nat→Prop}(E:Yh P l h F){i:Nat}{x:α}(hx:l[i]?=some x):∃ G,P x h G∧(∀ b,G b→F b) ∧
  ∀(h':Hp) (G':Nat→Prop) (x':α),Mut G h G' h'→P x' h' G'→∃ F',Yh P (l.set i x') h' F'∧Mut F h F' h':=by
 obtain⟨hi,rfl⟩:=List.getElem?_eq_some_iff.1 hx
 have p:(l[i] :: l.eraseIdx i).Perm l:=QdJ hi
 obtain⟨G,F1,X,E1,d,hF⟩:=(E.perm p).uncons
 refine⟨G,X,fun b hb=>(hF b).2 (.inl hb),fun h' G' x' M X'=>?_⟩
 obtain⟨k,d'⟩:=M.apart ((Yh.fp fp _).al E1) d
 have E2:=((Yh.fp fp _).keep E1 k).cons X' d'
 have p2:(l.set i x').Perm (x' :: l.eraseIdx i):=by
  have hi2:i < (l.set i x').length:=by rw [List.length_set];exact hi
  have:=QdJ hi2
  rw [List.getElem_set_self,List.eraseIdx_set_eq] at this
  exact this.symm
 refine⟨_,E2.perm p2,⟨fun b o hb ho=>M.keep b o (fun q=>hb ((hF b).2 (.inl q))) ho,fun b hb=>?_⟩⟩
 rcases hb with hb|hb
 ·rcases M.new b hb with q|q
  ·exact .inl ((hF b).2 (.inl q))
  ·exact .inr q
 ·exact .inl ((hF b).2 (.inr hb))
end
def UV (e:TypeId)(sz:Nat)(a:Option Addr)(n c:Nat)(xs:List Value)(h:Hp)(F:Nat→Prop):Prop:=QI h e sz a n c xs∧F=fun b=>a=some ⟨b,0,none⟩
theorem UV.fp (e:TypeId)(sz:Nat)(a:Option Addr)(n c:Nat)(xs:List Value):Fp (UV e sz a n c xs) where
 al:=by
  rintro h F ⟨⟨_,O⟩,rfl⟩ b hb
  rcases O with ⟨ha,_⟩|⟨g,cur,ha,hg,_⟩
  ·rw [ha] at hb;cases hb
  ·rw [ha] at hb;cases hb;rw [hg];simp
 keep:=by
  rintro h h' F ⟨⟨h1,O⟩,rfl⟩ hk
  refine⟨⟨h1,?_⟩,rfl⟩
  rcases O with O|⟨g,cur,ha,hg,O⟩
  ·exact .inl O
  ·exact .inr ⟨g,cur,ha,hk g ha _ hg,O⟩
structure Qdz (a:Option Addr)(h h':Hp):Prop where
 keep:∀ b o,h b=some o→a≠some ⟨b,0,none⟩→h' b=some o
theorem Qdz.trans {a:Option Addr}{h h' h'':Hp}(x:Qdz a h h')(y:Qdz a h' h''):Qdz a h h'':=⟨fun b o ho hn=>y.keep b o (x.keep b o ho hn) hn⟩
section
variable {α:Type}{enc:α→List Value}{sz:Nat}{T:TypeId}{h0 h:Hp}{a:Option Addr}{c:Nat}{l:List α}
theorem Vec.putF (he:∀ x,(enc x).length=sz)(V:Vec enc sz T h0 h a c l){i:Nat}{x x':α}(hx:l[i]?=some x){k:Nat}{vs:List Value}(hv:0 < vs.length)(hk:k+vs.length≤sz)(hx':enc x'=QP (enc x) k vs) :
  ∃ b o,a=some ⟨b,o,none⟩∧∀ K:Hp→Prop,(∀ h',Vec enc sz T h0 h' a c (l.set i x')→Qdz a h h'→K h')→h.store b (o+i*sz+k) vs K:=by
 have hi:i < l.length:=(List.getElem?_eq_some_iff.1 hx).1
 have hb:(i+1)*sz≤l.length*sz:=Nat.mul_le_mul_right _ hi
 rw [Nat.succ_mul] at hb
 rcases V.own.2 with ⟨ha,hn,_⟩|⟨g,cur,ha,_⟩
 ·omega
 ·refine⟨g,0,ha,fun K hK=>?_⟩
  rw [Nat.add_assoc]
  refine Qh.store V (j:=i*sz+k) hv (by omega) ha fun ob V'=>hK _ ?_ ⟨fun b o ho hn=>?_⟩
  ·unfold Vec
   rw [←QbX he hk l i x x' hx hx',List.length_set]
   exact V'
  ·have e:b≠g:=fun q=>hn (by rw [ha,q])
   rw [Hp.set_other _ _ e];exact ho
variable {P:Program}
theorem Vec.ownF (V:Vec enc sz T h0 h a c l):UV T sz a l.length c (l.flatMap enc) h (fun b=>a=some ⟨b,0,none⟩):=⟨V.own,rfl⟩
end
end Go.Vc
namespace Go.Proofs.YtgmplfdecikgoaaGreatDoor
open Go Go.Vc
def Zl (u0:Option Addr)(u1 u2:Nat)(u3:Value)(h:Hp)(R:Value→Hp→Prop):Prop:=
 (∃(I2:List Value→Hp→Prop) (m3:List Value→Hp→Nat),I2 [vi 0] h∧∀ vs4 h5,I2 vs4 h5→∃ x6,vs4=[vi x6]∧(((decide (x6 < (u1:Int)))=true→(∃ b9 o10,(u0=some ⟨b9,o10,none⟩∧(0:Int)≤x6∧x6 < (u1:Int))∧(∃ x11 x12 x13 a14 n14 c14 p15,(Hp.row h5 b9 (o10+x6.toNat*5) 5=some [vi x11,vi x12,vi x13,vsl a14 n14 c14,vb p15])∧(Yt Tryz.prog u3 [vag [vi x11,vi x12,vi x13,vsl a14 n14 c14,vb p15]] h5 fun v16 h17=>∃ p18,v16=(vb p18)∧((p18=true→R (vi x6) h17)∧(p18=false→(∃ x20,(IsW x20 (x6+1))∧(I2 [vi x20] h17∧m3 [vi x20] h17 < m3 vs4 h5))))))))∧((decide (x6 < (u1:Int)))=false→R (vi (-1)) h5)))
theorem YG {u0 u1 u2 u3 h R}(H:Zl u0 u1 u2 u3 h R):Qa Tryz.prog 92 [vsl u0 u1 u2,u3] h R:=
 Qd (cfg:=⟨[],[(2,([8],[.one (.int .i64)],[]))],[]⟩) Qo mixed Tryz.func92 [.one (.v (vsl u0 u1 u2)),.one (.v u3)] (by kernel_rfl) rfl (by kernel_rfl) H
def Jy (u0:Int)(u1:Int)(u2:Int)(u3:Option Addr)(u4 u5:Nat)(u6:Bool)(h:Hp)(R:Value→Hp→Prop):Prop:=
 (let J30:Int→Int→Int→Option Addr→Nat→Nat→Hp→Prop:=fun x41 x42 x43 a44 n44 c44 h45=>R (vag [vi x41,vi x42,vi x43,vsl a44 n44 c44]) h45;(∃(I2:List Value→Hp→Prop) (m3:List Value→Hp→Nat),I2 [vi 0,vi u0,vi u1,vi u2,vsl none 0 0] h∧∀ vs4 h5,I2 vs4 h5→∃ x6 x7 x8 x9 a10 n10 c10,vs4=[vi x6,vi x7,vi x8,vi x9,vsl a10 n10 c10]∧(((decide (x6 < (u4:Int)))=true→(∃ b13 o14,(u3=some ⟨b13,o14,none⟩∧(0:Int)≤x6∧x6 < (u4:Int))∧(∃ x15 x16 x17 x18,(Hp.row h5 b13 (o14+x6.toNat*4) 4=some [vi x15,vi x16,vi x17,vi x18])∧(Qa Tryz.prog 96 [vag [vi x15,vi x16,vi x17,vi x18]] h5 fun v19 h20=>∃ x21 x22,v19=(vag [vi x21,vi x22])∧(∀ b23,h20 b23=none→let h24:= Hp.set h20 b23 (Qc [vi x21,vi x22] 42);(Ql Tryz.prog (Builtin.append_ #[85,85] 85 #[vsl a10 n10 c10,(vsl (some (⟨b23,0,none⟩:Addr)) 1 1)]) h24 fun v25 h26=>∃ a27 n27 c27,v25=(vsl a27 n27 c27)∧(∃ x29,(IsW x29 (x6+1))∧(I2 [vi x29,vi x7,vi x8,vi x9,vsl a27 n27 c27] h26∧m3 [vi x29,vi x7,vi x8,vi x9,vsl a27 n27 c27] h26 < m3 vs4 h5))))))))∧((decide (x6 < (u4:Int)))=false→(J30 x7 x8 x9 a10 n10 c10 h5)))))
theorem QbG {u0 u1 u2 u3 u4 u5 u6 h R}(H:Jy u0 u1 u2 u3 u4 u5 u6 h R):Qa Tryz.prog 44 [vag [vi u0,vi u1,vi u2,vsl u3 u4 u5,vb u6]] h R:=
 Qd (cfg:=⟨[],[(3,([14],[.one (.int .i64)],[(2,[.int .i64,.int .i64,.int .i64,.slice])]))],[(5,[0,1,2,3,4,5,6,7])]⟩) Qo mixed Tryz.func44 [.ag [.v (vi u0),.v (vi u1),.v (vi u2),.v (vsl u3 u4 u5),.v (vb u6)]] (by kernel_rfl) rfl (by kernel_rfl) H
structure WC (e:EvL):Prop where
 t:0≤e.1∧e.1≤9999
 k:Qp e.2.1∧e.2.1.1≠2
 a:Qp e.2.2.1∧e.2.2.1.1≠2
 b:Qp e.2.2.2∧e.2.2.2.1≠2
theorem QgT {v:Int × Int}(h:Qc3 v=0):Qp v∧v.1≠2:=by
 unfold Qc3 at h
 split at h
 ·cases h
 ·rename_i h1
  constructor
  ·exact Classical.byContradiction fun q=>h1 (.inl q)
  ·exact fun q=>h1 (.inr q)
theorem Qha {e:EvL}(h:QgR e=0):WC e:=by
 unfold QgR at h
 split at h
 ·cases h
 ·rename_i h0
  simp only [QhJ] at h
  split at h
  ·rename_i h1
   split at h
   ·rename_i h2
    split at h
    ·rename_i h3
     exact⟨by omega,QgT h1,QgT h2,QgT h3⟩
    ·rename_i h3;exact absurd h h3
   ·rename_i h2;exact absurd h h2
  ·rename_i h1;exact absurd h h1
abbrev ev0:EvL:=(0,(0,0),(0,0),(0,0))
theorem QmS:WC ev0:=Qha (by decide +kernel)
theorem Kf (n:Int):Qp (YP n)∧(YP n).1≠2:=by
 unfold YP Qp
 split
 ·simp
 ·simp;omega
theorem UQ (b:Bool):Qp (Zd b):=by
 unfold Zd Qp
 cases b<;>simp
theorem UC:Qp (0,0):=by unfold Qp;simp
theorem Qi4 (a b:Int × Int):Qp (Qad a b)∧(Qad a b).1≠1:=by
 unfold Qad Qp
 split
 ·simp
 ·split<;>simp
theorem Qbv (a:Int × Int):Qp (JG a)∧(JG a).1≠1:=by
 unfold JG
 split
 ·exact⟨UQ _,by unfold Zd;simp⟩
 ·exact⟨UC,by simp⟩
theorem Qh9 (a:Int × Int):Qp (Qa0 a)∧(Qa0 a).1≠2:=by
 unfold Qa0
 split
 ·exact Kf _
 ·exact⟨UC,by simp⟩
def opV (op:Int)(a b:Int × Int):Int × Int:=if op=3 then Qa0 a else if op=4 then JG a else if op=5 then Zd (decide (a.1=0)) else doV op a b
def QfP (op:Int):Int:=if op=5∨op=11∨op=12 then 2 else Wm op
theorem Ml {op:Int}{a b:Option Int}{t:Int}(h:tyG op a b=some t):t=QfP op:=by
 unfold QfP
 cases a with
 | none=>cases b<;>cases h
 | some a=>
  cases b with
  | none=>cases h
  | some b=>
   unfold tyG at h
   simp only at h
   split at h
   ·rename_i h1;rw [if_pos (.inl h1)];simpa using h.symm
   ·split at h
    ·cases h
    ·split at h
     ·rename_i h1 _ h2;rw [if_pos (.inr h2)];simpa using h.symm
     ·rename_i h1 _ h2;rw [if_neg (by omega)];simpa using h.symm
theorem Qds {op:Int}(ho:3≤op∧op≤12)(a b:Int × Int):Qp (opV op a b)∧((opV op a b).1=0∨(opV op a b).1=QfP op):=by
 have key:∀ v:Int × Int,Qp v→v.1=0∨v.1=1∨v.1=2:=by
  intro v h
  unfold Qp at h
  omega
 unfold opV QfP Wm
 split
 ·rename_i h;have:=Qh9 a;have:=key _ this.1;exact⟨(Qh9 a).1,by subst h;simp;omega⟩
 ·split
  ·rename_i _ h;have:=Qbv a;have:=key _ this.1;exact⟨(Qbv a).1,by subst h;simp;omega⟩
  ·split
   ·rename_i _ _ h;exact⟨UQ _,by subst h;simp [Zd]⟩
   ·unfold doV
    split
    ·rename_i h;have:=Qi4 a b;have:=key _ this.1;exact⟨(Qi4 a b).1,by subst h;simp;omega⟩
    ·split
     ·rename_i h;have:=Qbv (Qad (JG a) (JG b));have:=key _ this.1;exact⟨(Qbv _).1,by subst h;simp;omega⟩
     ·split
      ·split
       ·rename_i h;have:=Kf (w64 (a.2+b.2));have:=key _ this.1;exact⟨(Kf _).1,by subst h;simp;omega⟩
       ·split
        ·rename_i h;have:=Kf (w64 (a.2 - b.2));have:=key _ this.1;exact⟨(Kf _).1,by subst h;simp;omega⟩
        ·split
         ·rename_i h;have:=Kf (w64 (a.2*b.2));have:=key _ this.1;exact⟨(Kf _).1,by subst h;simp;omega⟩
         ·split
          ·rename_i h;exact⟨UQ _,by subst h;simp [Zd]⟩
          ·split
           ·rename_i h;exact⟨UQ _,by subst h;simp [Zd]⟩
           ·exact⟨UC,.inl rfl⟩
      ·exact⟨UC,.inl rfl⟩
theorem Gu (e:EvL){n:Nd}(h1:¬ n.op=1)(h2:¬ n.op=2)(a b:Int × Int):Xf e n a b=opV n.op a b:=by
 unfold Xf opV
 rw [if_neg h1,if_neg h2]
theorem QjT {e:EvL}(E:WC e)(n:Int):Qp (Qak e n)∧(Qak e n).1≠2:=by
 unfold Qak
 split
 ·exact Kf _
 ·split
  ·exact E.k
  ·split
   ·exact E.a
   ·exact E.b
theorem QeL {n:Nd}(h:QT n=0):Qp n.v:=by
 unfold QT at h
 split at h
 ·cases h
 ·split at h
  ·cases h
  ·split at h
   ·cases h
   ·split at h
    ·cases h
    ·rename_i hg;exact Classical.byContradiction fun q=>hg q
theorem VY {l:List Nd}(O:OkE l){e:EvL}(E:WC e){i:Nat}(hi:i < l.length):Qp (vAt e l i)∧∀ t,tAt l i=some t→(vAt e l i).1=0∨(vAt e l i).1=t:=by
 have hx:l[i]?=some l[i]:=List.getElem?_eq_getElem hi
 have W:=O.wf i _ hx
 have h0:=O.n _ (List.getElem_mem hi)
 have hv:vAt e l i=_:=Z8 (YI e) hx W
 have ht:tAt l i=_:=Z8 YM hx W
 rw [hv,ht]
 generalize l[i]=n at *
 have ar:=ar0 W.a
 by_cases h1:n.op=1
 ·have e1:∀ a b,Xf e n a b=n.v:=fun a b=>if_pos h1
  have e2:∀ a b,tyF n a b=some n.v.1:=fun a b=>if_pos h1
  rw [e1,e2]
  exact⟨QeL h0,fun t ht=>by cases ht;exact .inr rfl⟩
 ·by_cases h2:n.op=2
  ·have e1:∀ a b,Xf e n a b=Qak e n.n:=fun a b=>by unfold Xf;rw [if_neg h1,if_pos h2]
   have e2:∀ a b,tyF n a b=some 1:=fun a b=>by unfold tyF;rw [if_neg h1,if_pos h2]
   rw [e1,e2]
   have:=QjT E n.n
   refine⟨this.1,fun t ht=>?_⟩
   cases ht
   have h:=this.1
   unfold Qp at h
   omega
  ·rw [Gu e h1 h2,Wv h1 h2]
   have ho:3≤n.op∧n.op≤12:=by rcases QK W.a with q|q|q<;>omega
   have:=Qds ho
   exact⟨(this _ _).1,fun t ht=>by rw [Ml ht];exact(this _ _).2⟩
theorem Qeb {l:List Nd}(O:OkE l){i:Nat}(hi:i < l.length){t:Int}(h:tAt l i=some t):t=0∨t=1∨t=2:=by
 have hx:l[i]?=some l[i]:=List.getElem?_eq_getElem hi
 have W:=O.wf i _ hx
 have h0:=O.n _ (List.getElem_mem hi)
 have ht:tAt l i=_:=Z8 YM hx W
 rw [ht] at h
 generalize l[i]=n at *
 by_cases h1:n.op=1
 ·have e2:∀ a b,tyF n a b=some n.v.1:=fun a b=>if_pos h1
  rw [e2] at h
  cases h
  have:=QeL h0
  unfold Qp at this
  omega
 ·by_cases h2:n.op=2
  ·have e2:∀ a b,tyF n a b=some 1:=fun a b=>by unfold tyF;rw [if_neg h1,if_pos h2]
   rw [e2] at h
   cases h
   omega
  ·rw [Wv h1 h2] at h
   rw [Ml h]
   unfold QfP Wm
   split
   ·omega
   ·split<;>omega
structure Rep (P:EvL→Int × Int)(T:Option Int)(k:Nat)(z:List Nd):Prop where
 ok:OkE z
 len:z.length≤k
 val:∀ e,WC e→ZG e z=P e
 ty:∀ t,T=some t→∃ t',tAt z (z.length - 1)=some t'∧(t'=0∨t'=t)
abbrev cst (v:Int × Int):List Nd:=[⟨1,0,0,0,v⟩]
theorem QmY {v:Int × Int}(h:Qp v):OkE (cst v):=by
 refine KW ?_
 have hF:QT ⟨1,0,0,0,v⟩=0:=by
  unfold QT
  rw [if_neg (show ¬ arI 1 < 0 by decide),if_neg (by simp),if_neg (by simp),if_neg (by simp [h])]
 rw [Zb,if_neg (fun q=>q hF)]
 rfl
theorem Rep.cst {P:EvL→Int × Int}{T:Option Int}{k:Nat}{v:Int × Int}(h:Qp v)(hk:1≤k)(hP:∀ e,WC e→v=P e)(hT:∀ t,T=some t→v.1=0∨v.1=t):Rep P T k (cst v):=
 ⟨QmY h,hk,fun e E=>hP e E,fun t ht=>⟨v.1,rfl,hT t ht⟩⟩
theorem Rep.leaf {n:Nd}(h:QT n=0)(ha:arI n.op=0):OkE [n]:=by
 refine KW ?_
 rw [Zb,if_neg (fun q=>q h)]
 unfold ZI
 rw [if_pos ha]
 rfl
open Go.Txt
def YK (a:AcS):List Value:=QhQ a.1 a.2
theorem YJ (a:AcS):(YK a).length=4:=rfl
theorem Qki (a:AcS):∀ u ∈ YK a,u.oneCell'=true:=by
 intro u hu
 simp only [YK,QhQ,List.mem_cons,List.not_mem_nil,or_false] at hu
 rcases hu with rfl|rfl|rfl|rfl<;>rfl
def AcB (a:AcS):Prop:=0≤a.2.1∧a.2.1≤1000000000∧-1000000000000000000≤a.2.2.1∧a.2.2.1≤1000000000000000000
theorem Vy {q:Qy}(B:QOk q){e:EvL}(E:WC e):∀ v ∈ Qm q e,ZQ v:=by
 intro v hv
 unfold Qm at hv
 obtain⟨a,ha,rfl⟩:=List.mem_map.1 hv
 split
 ·unfold ZQ;decide
 ·rename_i h1
  obtain⟨O,_⟩:=Z4 ((B.g a ha).2.2.1 h1)
  exact(VY O E (by have:=O.pos;omega)).1.small
theorem Qhx {ks:List Int}{rs:List (List Vl)}(hl:∀ r ∈ rs,r.length=ks.length)(hv:∀ r ∈ rs,∀ v ∈ r,ZQ v)(hn:rs.length≤1000000000):∀ a ∈ Wa ks rs,AcB a:=by
 have hcol:∀(rs:List (List Vl)),(∀ r ∈ rs,∀ v ∈ r,ZQ v)→∀ c ∈ Yl ks.length rs,c.length≤rs.length∧∀ v ∈ c,ZQ v:=by
  intro rs
  induction rs using QbB with
  | h0=>
   intro _ c hc
   rw [List.eq_of_mem_replicate hc]
   exact⟨Nat.le_refl _,fun v hv=>by cases hv⟩
  | h1 rs r ih=>
   intro hv c hc
   have ih:=ih fun x hx=>hv x (List.mem_append_left _ hx)
   rw [XJ] at hc
   unfold XR at hc
   obtain⟨i,hi,rfl⟩:=List.mem_iff_getElem.1 hc
   rw [List.length_zipWith] at hi
   rw [List.getElem_zipWith]
   obtain⟨h1,h2⟩:=ih _ (List.getElem_mem (by omega:i < (Yl ks.length rs).length))
   refine⟨by simp;omega,fun v hv2=>?_⟩
   rcases List.mem_append.1 hv2 with h3|h3
   ·exact h2 v h3
   ·rw [List.mem_singleton.1 h3]
    exact hv r (by simp) _ (List.getElem_mem _)
 intro a ha
 rw [Qfe ks hl] at ha
 obtain⟨i,hi,rfl⟩:=List.mem_iff_getElem.1 ha
 rw [List.length_zipWith] at hi
 rw [List.getElem_zipWith]
 obtain⟨h1,h2⟩:=hcol rs hv _ (List.getElem_mem (by omega:i < (Yl ks.length rs).length))
 generalize (Yl ks.length rs)[i]=c at h1 h2
 have:=GE (k:=ks[i]) c (0,0,0) h2 (Int.le_refl _)
 unfold AcB MO
 simp only at this ⊢
 omega
theorem Qmv:ElT Tryz.prog 81 101 4 32:=.of (by kernel_rfl) (by kernel_rfl) (by decide)
theorem Qjb {acs:List AcS}{r:List Vl}(h:r.length=acs.length):(ZO acs r).length=acs.length:=by unfold ZO;rw [List.length_zipWith];omega
abbrev QnE:=Vec YK 4 101
end Go.Proofs.YtgmplfdecikgoaaGreatDoor
namespace Go.Proofs.YtgmplfdecikgoaaGreatDoor.D
open Go Go.Vd
open Go.Vc (Hp IsW QaT Qc vag vb vi vs vsl)
def cI (x y:Int):Int:=if x < y then -1 else if x > y then 1 else 0
def cV (a b:Int × Int):Int:=if cI a.1 b.1≠0 then cI a.1 b.1 else cI a.2 b.2
structure PRow where
 s:Int
 k:Int × Int
 a:Option Addr
 n:Nat
 c:Nat
 t:Bool
 deriving Inhabited
def PRow.enc (r:PRow):List Value:=[vi r.s,vi r.k.1,vi r.k.2,vsl r.a r.n r.c,vb r.t]
def PRow.cf (x y:PRow):Int:=if x.s≠y.s then x.s - y.s else cV x.k y.k
end Go.Proofs.YtgmplfdecikgoaaGreatDoor.D
namespace Go.Proofs.YtgmplfdecikgoaaGreatDoor
open Go Go.Vc Go.Txt
structure PR where
 k:PK
 a:Option Addr
 c:Nat
 acs:List AcS
 t:Bool
def QeB (r:PR):D.PRow:=⟨r.k.1,r.k.2,r.a,r.acs.length,r.c,r.t⟩
theorem Qmw (r:D.PRow):∀ u ∈ r.enc,u.oneCell'=true:=by
 intro u hu
 simp only [D.PRow.enc,List.mem_cons,List.not_mem_nil,or_false] at hu
 rcases hu with rfl|rfl|rfl|rfl|rfl<;>rfl
section
variable {h0 h:Hp}{a:Option Addr}{c:Nat}{R:List PR}
theorem QbY:ElT Tryz.prog 64 83 5 56:=.of (by kernel_rfl) (by kernel_rfl) (by decide)
end
theorem Qff:ElT Tryz.prog 85 42 2 16:=.of (by kernel_rfl) (by kernel_rfl) (by decide)
theorem Qky (v:Vl):∀ u ∈ Qv v,u.oneCell'=true:=by
 intro u hu
 simp only [Qv,List.mem_cons,List.not_mem_nil,or_false] at hu
 rcases hu with rfl|rfl<;>rfl
abbrev Qij:=Vec Qv 2 42
def ZM (a:AcS):Vl:=QdU a.1 a.2
theorem VN {r:PR}{h:Hp}{R':Value→Hp→Prop}(S:SlP YK h r.a r.acs.length r.acs)(hn:r.acs.length≤1000)
  (hK:∀ a c h',Qij h h' a c (r.acs.map ZM)→R' (vag [vi r.k.1,vi r.k.2.1,vi r.k.2.2,vsl a (r.acs.map ZM).length c]) h'):Qa Tryz.prog 44 [vag (QeB r).enc] h R':=by
 refine QbG ?_
 unfold Jy
 intro J30
 have hJ:∀ a c h',Qij h h' a c (r.acs.map ZM)→J30 r.k.1 r.k.2.1 r.k.2.2 a (r.acs.map ZM).length c h':=hK
 clear_value J30
 refine⟨fun vs hh=>∃(i:Nat) (a:Option Addr) (c:Nat),vs=[vi i,vi r.k.1,vi r.k.2.1,vi r.k.2.2,vsl a ((r.acs.take i).map ZM).length c]∧i≤r.acs.length∧Qij h hh a c ((r.acs.take i).map ZM),fun vs hh=>r.acs.length - (Qn vs 0).toNat,⟨0,none,0,rfl,Nat.zero_le _,Qh.nil (Hp.le_refl h) _ _⟩,?_⟩
 rintro vs hh ⟨i,a,c,rfl,hi,V⟩
 refine⟨_,_,_,_,_,_,_,rfl,fun e=>?_,fun e=>?_⟩
 ·have hlt:i < r.acs.length:=by
   have:=of_decide_eq_true e
   have h2:(QeB r).n=r.acs.length:=rfl
   omega
  have hx:r.acs[i]?=some r.acs[i]:=List.getElem?_eq_getElem hlt
  have tk:r.acs.take (i+1)=r.acs.take i++[r.acs[i]]:=List.take_succ_eq_append_getElem hlt
  obtain⟨b,o,ea,hr⟩:=(S.le V.le0).get YJ (by decide) hx
  have h2:(QeB r).n=r.acs.length:=rfl
  refine⟨b,o,⟨ea,by omega,by omega⟩,_,_,_,_,by rw [Int.toNat_natCast];exact hr,Qc4 (k:=(r.acs[i]).1) (s:=(r.acs[i]).2) ⟨_,_,rfl,?_⟩⟩
  intro b23 hb23 h24
  have hl:((r.acs.take i).map ZM).length=i:=by rw [List.length_map,List.length_take];omega
  refine Vec.app Qff (fun v=>rfl) Qky V (by rw [hl];omega) (by rw [hl];omega) (x:=ZM r.acs[i]) hb23 fun a' c' h' V'=>⟨_,_,_,rfl,_,isW (by unfold InR;omega),⟨i+1,a',c',?_,by omega,?_⟩,by simp [Qn];omega⟩
  ·rw [tk,List.map_append];rfl
  ·rw [tk,List.map_append];exact V'
 ·have hge:i=r.acs.length:=by
   have:=of_decide_eq_false e
   have h2:(QeB r).n=r.acs.length:=rfl
   omega
  rw [hge,List.take_length] at V ⊢
  exact hJ a c hh V
end Go.Proofs.YtgmplfdecikgoaaGreatDoor
namespace Go.Proofs.YtgmplfdecikgoaaGreatDoor
open Go Go.Vc
theorem QgO {at_ size slide:Int}{h:Hp}{R:Value→Hp→Prop}(hs:1≤slide)(hz:0≤size)(hz2:size≤1048576)(ha:-1048576≤at_)(ha2:at_≤1048576)
  (hK:∀ a n c h',h.le h'→SlI h' a n (ZH at_ size slide)→(∀ g o,a=some ⟨g,o,none⟩→h g=none)→R (vsl a n c) h'):Qa Tryz.prog 47 [vi at_,vi size,vi slide] h R:=by
 refine Qiw ?_
 unfold QcK
 refine⟨_,isW (by unfold InR;omega),_,isW (by unfold InR;omega),
  fun vs hh=>∃(a:Option Addr) (n c:Nat) (k:Nat),vs=[vsl a n c,vi (at_ - size+1+k)]∧k≤size.toNat∧Qh h hh 3 1 a n c ((upto (Zp slide) (at_ - size) k).map vi),
  fun vs hh=>(at_+1 - Qn vs 1).toNat,⟨none,0,0,0,by simp,Nat.zero_le _,Qh.nil (Hp.le_refl h) _ _⟩,?_⟩
 rintro vs hh ⟨a,n,c,k,rfl,hk,O⟩
 have hn:n=(upto (Zp slide) (at_ - size) k).length:=O.sli.1
 have hn2:=JC (Zp slide) (at_ - size) k
 refine⟨a,n,c,_,rfl,fun e=>?_,fun e=>?_⟩
 ·have hlt:at_ - size+1+k≤at_:=by simpa using e
  have stp:∀ a' c' h',Qh h h' 3 1 a' (upto (Zp slide) (at_ - size) (k+1)).length c' ((upto (Zp slide) (at_ - size) (k+1)).map vi) →
    (∃ y:Int,IsW y (at_ - size+1+k+1)∧(∃(a:Option Addr) (n c:Nat) (k':Nat),[vsl a' (upto (Zp slide) (at_ - size) (k+1)).length c',vi y]=[vsl a n c,vi (at_ - size+1+k')]∧k'≤size.toNat∧Qh h h' 3 1 a n c ((upto (Zp slide) (at_ - size) k').map vi)) ∧
     (at_+1 - Qn [vsl a' (upto (Zp slide) (at_ - size) (k+1)).length c',vi y] 1).toNat < (at_+1 - Qn [vsl a n c,vi (at_ - size+1+k)] 1).toNat):=by
   intro a' c' h' O'
   refine⟨_,isW (by unfold InR;omega),⟨a',_,c',k+1,by simp;omega,by omega,O'⟩,by simp [Qn];omega⟩
  refine⟨by omega,fun e=>?_,fun e=>?_⟩
  ·intro b hb h11
   refine Qh.append (m:=1) Vh (O.set hb _) (Qg.new hh b [vi (at_ - size+1+k)] _) rfl (QaU [_]) (by omega) (by omega) fun a' c' h' O' _ _=>⟨_,_,_,rfl,?_⟩
   have hu:upto (Zp slide) (at_ - size) (k+1)=upto (Zp slide) (at_ - size) k++[at_ - size+1+k]:=by
    have e2:(at_ - size+((k+1:Nat):Int))=at_ - size+1+k:=by omega
    have hm:Zp slide (at_ - size+1+k)=true:=by simpa [Zp] using e
    rw [upto,e2,hm];rfl
   have:=stp a' c' h'
   rw [hu,List.map_append,List.length_append,←hn] at this
   exact this O'
  ·have hu:upto (Zp slide) (at_ - size) (k+1)=upto (Zp slide) (at_ - size) k:=by
    have e2:(at_ - size+((k+1:Nat):Int))=at_ - size+1+k:=by omega
    have hm:Zp slide (at_ - size+1+k)=false:=by simpa [Zp] using e
    rw [upto,e2,hm];simp
   have:=stp a c hh
   rw [hu,←hn] at this
   exact this O
 ·have hge:k=size.toNat:=by simp at e;omega
  subst hge
  exact hK a n c hh O.le O.sli fun g o e=>O.new g (by rw [e,QI.at0 O.own g o e])
theorem Qbs {at_ size slide:Int}{h:Hp}{R:Value→Hp→Prop}(hs:1≤slide)(hsl2:slide≤1048576)(hz:0≤size)(hz2:size≤1048576)(ha:-1048576≤at_)(ha2:at_≤1048576)
  (hK:∀ a n c h',h.le h'→SlI h' a n (ZH at_ size slide)→(∀ g o,a=some ⟨g,o,none⟩→h g=none)→R (vsl a n c) h'):Qa Tryz.prog 39 [vi at_,vi size,vi slide] h R:=by
 refine Qb3 ?_
 unfold Uh
 have h1:at_.tdiv slide*slide+at_.tmod slide=at_:=Int.tdiv_mul_add_tmod at_ slide
 have h2:at_.tmod slide < slide:=Int.tmod_lt_of_pos at_ (by omega)
 have h3:-slide < at_.tmod slide:=Int.lt_tmod_of_pos at_ (by omega)
 have h4:Zp slide (at_.tdiv slide*slide)=true:=YH.2 ⟨at_.tdiv slide,Int.mul_comm _ _⟩
 have h5:-1048576≤at_.tdiv slide∧at_.tdiv slide≤1048576:=by
  have:=Int.natAbs_tdiv_le_natAbs at_ slide
  omega
 refine⟨⟨by omega,by unfold InR;omega⟩,_,isW (by unfold InR;omega),?_⟩
 intro J5
 have fin:∀ x:Int,Zp slide x=true→x≤at_→at_ < x+slide→J5 x:=by
  intro x hx1 hx2 hx3
  have up:∀(y:Int) (k:Nat),Zp slide y=true→y+k < y+slide→∀ n,upto (Zp slide) y (k+n)=upto (Zp slide) (y+k) n:=by
   intro y k hy hk n
   exact Ms _ k y n fun z z1 z2=>JP hs hy z1 (by omega)
  refine⟨fun vs hh=>∃(a:Option Addr) (n c:Nat) (x:Int),vs=[vsl a n c,vi x]∧Zp slide x=true∧x≤at_∧at_ - size < x+slide∧(SlI hh a n (upto (Zp slide) x (at_ - x).toNat)∧∀ g o,a=some ⟨g,o,none⟩→h g=none)∧h.le hh∧-4194304≤x,
   fun vs hh=>(Qn vs 1 - (at_ - size)).toNat,⟨none,0,0,x,rfl,hx1,hx2,by omega,?_,Hp.le_refl h,by omega⟩,?_⟩
  ·have:=up x (at_ - x).toNat hx1 (by omega) 0
   rw [Nat.add_zero] at this
   rw [this]
   exact⟨⟨rfl,.inl rfl⟩,fun g o e=>by cases e⟩
  rintro vs hh ⟨a,n,c,y,rfl,hy1,hy2,hy3,⟨S,hnew⟩,hle,hy4⟩
  refine⟨a,n,c,y,rfl,_,isW (by unfold InR;omega),fun e=>?_,fun e=>?_⟩
  ·have hlt:at_ - size < y:=by simpa using e
   intro b hb h16
   have hn:=S.1
   have hn2:=JC (Zp slide) y (at_ - y).toNat
   refine Qh.append (n:=1) (m:=n) (c2:=c) Vh (Qh.mk_new hle hb _ (n:=1) [vi y] rfl (by decide)) (S.2.le (Hp.le_set (Hp.le_refl hh) hb _)) (by rw [hn,List.length_map,Nat.mul_one]) (QaU _) (by omega) (by omega) fun a' c' h' O' _ _=>⟨_,_,_,rfl,_,isW (by unfold InR;omega),⟨a',_,c',_,rfl,?_,by omega,by omega,?_,O'.le,by omega⟩,by simp [Qn];omega⟩
   ·rw [YH] at hy1 ⊢
    exact Int.dvd_sub hy1 (Int.dvd_refl _)
   ·have hm:Zp slide (y - slide)=true:=by
     rw [YH] at hy1 ⊢
     exact Int.dvd_sub hy1 (Int.dvd_refl _)
    have e1:=up (y - slide) (slide - 1).toNat hm (by omega) ((at_ - y).toNat+1)
    have e2:(slide - 1).toNat+((at_ - y).toNat+1)=(at_ - (y - slide)).toNat:=by omega
    have e3:y - slide+((slide - 1).toNat:Int)=y - 1:=by omega
    have e4:y - 1+1=y:=by omega
    rw [e2,e3,Mg,e4,hy1,if_pos rfl] at e1
    rw [e1]
    exact⟨O'.sli (l:=y :: upto (Zp slide) y (at_ - y).toNat),fun g o e=>O'.new g (by rw [e,QI.at0 O'.own g o e])⟩
  ·have hge:y≤at_ - size:=by simpa using e
   refine hK a n c hh hle ?_ hnew
   have e1:=up y (at_ - size - y).toNat hy1 (by omega) size.toNat
   have e2:(at_ - size - y).toNat+size.toNat=(at_ - y).toNat:=by omega
   have e3:y+((at_ - size - y).toNat:Int)=at_ - size:=by omega
   rw [e2,e3] at e1
   rw [e1] at S
   exact S
 refine⟨fun e=>?_,fun e=>?_⟩
 ·have hlt:at_ < at_.tdiv slide*slide:=by simpa using e
  refine⟨_,isW (by unfold InR;omega),fin _ ?_ (by omega) (by omega)⟩
  rw [YH] at h4 ⊢
  exact Int.dvd_sub h4 (Int.dvd_refl _)
 ·have hge:at_.tdiv slide*slide≤at_:=by simpa using e
  exact fin _ h4 hge (by omega)
theorem Qiq {p:Int→Bool}{lo:Int}:∀{n:Nat} {x:Int},x ∈ upto p lo n→lo < x∧x≤lo+n
 | 0,x,h=>by cases h
 | n+1,x,h=>by
  rw [upto] at h
  rcases List.mem_append.1 h with h1|h1
  ·have:=Qiq h1;omega
  ·split at h1
   ·rw [List.mem_singleton.1 h1];omega
   ·cases h1
theorem Qkc {t size slide x:Int}(hz:0≤size)(h:x ∈ ZH t size slide):t - size < x∧x≤t:=by
 have:=Qiq h
 omega
theorem Qj5 {t size slide:Int}:(ZH t size slide).length≤size.toNat:=JC _ _ _
open Go.Txt
def prT (r:PR):PK × List AcS × Bool:=(r.k,r.acs,r.t)
section
variable {ks:List Int}{A:List Ad}{R:List PR}
end
section
variable {h0 h:Hp}{a:Option Addr}{c:Nat}{R:List PR}
end
structure Qdc (q:Qy)(x:Ad):Prop where
 l:x.2.length=q.aggs.length
 v:∀ v ∈ x.2,ZQ v
 s:-1000≤x.1.1∧x.1.1≤9999
theorem Uu {q:Qy}(B:QOk q){e:EvL}(E:WC e):∀ s ∈ ZH e.1 q.size q.slide,-1000≤s∧s≤9999:=by
 intro s hs
 have h1:=B.s
 have h2:=E.t
 have:=Qkc (by omega) hs
 omega
theorem GN {q:Qy}(B:QOk q){e:EvL}:(ZH e.1 q.size q.slide).length≤1000:=by
 have h1:=B.s
 have:=Qj5 (t:=e.1) (size:=q.size) (slide:=q.slide)
 omega
theorem QC (q:Qy):(Qe q).length=q.aggs.length:=by unfold Qe;rw [List.length_map]
theorem UR {ks:List Int}{rs:List (List Vl)}(hl:∀ r ∈ rs,r.length=ks.length):(Wa ks rs).map (·.1)=ks:=by
 rw [Qfe ks hl,List.map_zipWith]
 have hc:=UK (n:=ks.length) hl
 generalize Yl ks.length rs=cs at hc
 clear hl
 induction ks generalizing cs with
 | nil=>rfl
 | cons k ks ih=>
  match cs,hc with
  | c :: cs,hc=>
   rw [List.zipWith_cons_cons,ih cs (by simpa using hc)]
   rfl
end Go.Proofs.YtgmplfdecikgoaaGreatDoor
namespace Go.Proofs.YtgmplfdecikgoaaGreatDoor
open Go Go.Vc
def Qgk (u0:Option Addr)(u1 u2:Nat)(u3:Option Addr)(u4 u5:Nat)(u6:Option Addr)(u7 u8:Nat)(u9:Int)(u10:Int)(u11:Int)(u12:Int)(u13:Int)(u14:Int)(u15:Int)(u16:Int)(u17:Int)(u18:Int)(u19:Int)(h:Hp)(R:Value→Hp→Prop):Prop:=
 (((decide ((u4:Int)=0))=true→R (vb true) h)∧((decide ((u4:Int)=0))=false→(Qa Tryz.prog 99 [vsl u3 u4 u5,vag [vi u13,vi u14,vi u15,vi u16,vi u17,vi u18,vi u19]] h fun v2 h3=>∃ x4 x5,v2=(vag [vi x4,vi x5])∧R (vb (bif (decide (x4=2)) then(decide (x5=1)) else false)) h3)))
theorem Qlc {u0 u1 u2 u3 u4 u5 u6 u7 u8 u9 u10 u11 u12 u13 u14 u15 u16 u17 u18 u19 h R}(H:Qgk u0 u1 u2 u3 u4 u5 u6 u7 u8 u9 u10 u11 u12 u13 u14 u15 u16 u17 u18 u19 h R):Qa Tryz.prog 46 [vag [vsl u0 u1 u2,vsl u3 u4 u5,vsl u6 u7 u8,vi u9,vi u10,vi u11,vi u12],vag [vi u13,vi u14,vi u15,vi u16,vi u17,vi u18,vi u19]] h R:=
 Qd (cfg:=⟨[],[],[]⟩) Qo mixed Tryz.func46 [.ag [.v (vsl u0 u1 u2),.v (vsl u3 u4 u5),.v (vsl u6 u7 u8),.v (vi u9),.v (vi u10),.v (vi u11),.v (vi u12)],.ag [.v (vi u13),.v (vi u14),.v (vi u15),.v (vi u16),.v (vi u17),.v (vi u18),.v (vi u19)]] (by kernel_rfl) rfl (by kernel_rfl) H
def Qea (u0:Option Addr)(u1 u2:Nat)(u3:Option Addr)(u4 u5:Nat)(u6:Option Addr)(u7 u8:Nat)(u9:Int)(u10:Int)(u11:Int)(u12:Int)(u13:Int)(u14:Int)(u15:Int)(u16:Int)(u17:Int)(u18:Int)(u19:Int)(h:Hp)(R:Value→Hp→Prop):Prop:=
 (((decide ((u7:Int)=0))=true→R (vag [vi 0,vi 0]) h)∧((decide ((u7:Int)=0))=false→(Qa Tryz.prog 99 [vsl u6 u7 u8,vag [vi u13,vi u14,vi u15,vi u16,vi u17,vi u18,vi u19]] h fun v2 h3=>∃ x4 x5,v2=(vag [vi x4,vi x5])∧R (vag [vi x4,vi x5]) h3)))
theorem Qkh {u0 u1 u2 u3 u4 u5 u6 u7 u8 u9 u10 u11 u12 u13 u14 u15 u16 u17 u18 u19 h R}(H:Qea u0 u1 u2 u3 u4 u5 u6 u7 u8 u9 u10 u11 u12 u13 u14 u15 u16 u17 u18 u19 h R):Qa Tryz.prog 49 [vag [vsl u0 u1 u2,vsl u3 u4 u5,vsl u6 u7 u8,vi u9,vi u10,vi u11,vi u12],vag [vi u13,vi u14,vi u15,vi u16,vi u17,vi u18,vi u19]] h R:=
 Qd (cfg:=⟨[],[],[]⟩) Qo mixed Tryz.func49 [.ag [.v (vsl u0 u1 u2),.v (vsl u3 u4 u5),.v (vsl u6 u7 u8),.v (vi u9),.v (vi u10),.v (vi u11),.v (vi u12)],.ag [.v (vi u13),.v (vi u14),.v (vi u15),.v (vi u16),.v (vi u17),.v (vi u18),.v (vi u19)]] (by kernel_rfl) rfl (by kernel_rfl) H
def Nu (u0 u1:Nat)(u2:Option Addr)(u3 u4:Nat)(u5:Option Addr)(u6 u7:Nat)(u8:Option Addr)(u9 u10:Nat)(u11:Int)(u12:Int)(u13:Int)(u14:Int)(u15:Int)(u16:Int)(u17:Int)(u18:Int)(u19:Int)(u20:Int)(u21:Int)(h:Hp)(R:Value→Hp→Prop):Prop:=
 (∃(I2:List Value→Hp→Prop) (m3:List Value→Hp→Nat),I2 [vi 0] h∧∀ vs4 h5,I2 vs4 h5→∃ x6,vs4=[vi x6]∧(((decide (x6 < (u3:Int)))=true→(∃ b8 o9,(u2=some ⟨b8,o9,none⟩∧(0:Int)≤x6∧x6 < (u3:Int))∧(∃ x10,(Hp.cell h5 b8 (o9+x6.toNat*2)=some (vi x10))∧(let J20:Int→Int→Hp→Prop:=fun x38 x39 h40=>(∃ a41 n41 c41,(Hp.cell h40 u0 (u1+3)=some (vsl a41 n41 c41))∧(∃ a42 n42 c42,(Hp.cell h40 u0 (u1+3)=some (vsl a42 n42 c42))∧(∃ b43 o44,(a42=some ⟨b43,o44,none⟩∧(0:Int)≤x6∧x6 < (n42:Int))∧(∃ a45 n45 c45,(Hp.cell h40 b43 (o44+x6.toNat*1)=some (vsl a45 n45 c45))∧(∀ b46,h40 b46=none→let h47:= Hp.set h40 b46 (Qc [vi x38,vi x39] 42);(Ql Tryz.prog (Builtin.append_ #[85,85] 85 #[vsl a45 n45 c45,(vsl (some (⟨b46,0,none⟩:Addr)) 1 1)]) h47 fun v48 h49=>∃ a50 n50 c50,v48=(vsl a50 n50 c50)∧((Hp.cell h49 u0 (u1+3)=some (vsl a41 n41 c41))∧(∃ b51 o52,(a41=some ⟨b51,o52,none⟩∧(0:Int)≤x6∧x6 < (n41:Int))∧(Hp.store h49 b51 (o52+x6.toNat*1) [vsl a50 n50 c50] fun h53=>(∃ x55,(IsW x55 (x6+1))∧(I2 [vi x55] h53∧m3 [vi x55] h53 < m3 vs4 h5)))))))))));(((decide (x10 > 1))=true→(∃ b11 o12,(u2=some ⟨b11,o12,none⟩∧(0:Int)≤x6∧x6 < (u3:Int))∧(∃ a13 n13 c13,(Hp.cell h5 b11 ((o12+x6.toNat*2)+1)=some (vsl a13 n13 c13))∧(Qa Tryz.prog 99 [vsl a13 n13 c13,vag [vi u15,vi u16,vi u17,vi u18,vi u19,vi u20,vi u21]] h5 fun v14 h15=>∃ x16 x17,v14=(vag [vi x16,vi x17])∧(J20 x16 x17 h15)))))∧((decide (x10 > 1))=false→(J20 0 0 h5)))))))∧((decide (x6 < (u3:Int)))=false→R (Qf []) h5)))
theorem QfL {u0 u1 u2 u3 u4 u5 u6 u7 u8 u9 u10 u11 u12 u13 u14 u15 u16 u17 u18 u19 u20 u21 h R}(H:Nu u0 u1 u2 u3 u4 u5 u6 u7 u8 u9 u10 u11 u12 u13 u14 u15 u16 u17 u18 u19 u20 u21 h R):Qa Tryz.prog 51 [vhp u0 u1,vag [vsl u2 u3 u4,vsl u5 u6 u7,vsl u8 u9 u10,vi u11,vi u12,vi u13,vi u14],vag [vi u15,vi u16,vi u17,vi u18,vi u19,vi u20,vi u21]] h R:=
 Qd (cfg:=⟨[],[(2,([6],[.one (.int .i64)],[]))],[(6,[0,1,2,3,4,5,6,7,8]),(7,[0,1,2,3,4,5,6,7,8,9,10,11,12,13,14,15,16])]⟩) Qo mixed Tryz.func51 [.one (.hp u0 u1),.ag [.v (vsl u2 u3 u4),.v (vsl u5 u6 u7),.v (vsl u8 u9 u10),.v (vi u11),.v (vi u12),.v (vi u13),.v (vi u14)],.ag [.v (vi u15),.v (vi u16),.v (vi u17),.v (vi u18),.v (vi u19),.v (vi u20),.v (vi u21)]] (by kernel_rfl) rfl (by kernel_rfl) H
def Nv (u0 u1:Nat)(u2:Option Addr)(u3 u4:Nat)(u5:Option Addr)(u6 u7:Nat)(u8:Option Addr)(u9 u10:Nat)(u11:Int)(u12:Int)(u13:Int)(u14:Int)(h:Hp)(R:Value→Hp→Prop):Prop:=
 (∃ x1,(Hp.cell h u0 u1=some (vi x1))∧(∃ x2 x3,(Hp.row h u0 (u1+1) 2=some [vi x2,vi x3])∧(let J34:Int→Int→Int→Option Addr→Nat→Nat→Hp→Prop:=fun x45 x46 x47 a48 n48 c48 h49=>R (vag [vi x45,vi x46,vi x47,vsl a48 n48 c48]) h49;(∃(I5:List Value→Hp→Prop) (m6:List Value→Hp→Nat),I5 [vi 0,vi x1,vi x2,vi x3,vsl none 0 0] h∧∀ vs7 h8,I5 vs7 h8→∃ x9 x10 x11 x12 a13 n13 c13,vs7=[vi x9,vi x10,vi x11,vi x12,vsl a13 n13 c13]∧(((decide (x9 < (u3:Int)))=true→(∃ b16 o17,(u2=some ⟨b16,o17,none⟩∧(0:Int)≤x9∧x9 < (u3:Int))∧(∃ x18,(Hp.cell h8 b16 (o17+x9.toNat*2)=some (vi x18))∧(∃ a19 n19 c19,(Hp.cell h8 u0 (u1+3)=some (vsl a19 n19 c19))∧(∃ b20 o21,(a19=some ⟨b20,o21,none⟩∧(0:Int)≤x9∧x9 < (n19:Int))∧(∃ a22 n22 c22,(Hp.cell h8 b20 (o21+x9.toNat*1)=some (vsl a22 n22 c22))∧(Qa Tryz.prog 101 [vi x18,vsl a22 n22 c22] h8 fun v23 h24=>∃ x25 x26,v23=(vag [vi x25,vi x26])∧(∀ b27,h24 b27=none→let h28:= Hp.set h24 b27 (Qc [vi x25,vi x26] 42);(Ql Tryz.prog (Builtin.append_ #[85,85] 85 #[vsl a13 n13 c13,(vsl (some (⟨b27,0,none⟩:Addr)) 1 1)]) h28 fun v29 h30=>∃ a31 n31 c31,v29=(vsl a31 n31 c31)∧(∃ x33,(IsW x33 (x9+1))∧(I5 [vi x33,vi x10,vi x11,vi x12,vsl a31 n31 c31] h30∧m6 [vi x33,vi x10,vi x11,vi x12,vsl a31 n31 c31] h30 < m6 vs7 h8)))))))))))∧((decide (x9 < (u3:Int)))=false→(J34 x10 x11 x12 a13 n13 c13 h8)))))))
theorem QfD {u0 u1 u2 u3 u4 u5 u6 u7 u8 u9 u10 u11 u12 u13 u14 h R}(H:Nv u0 u1 u2 u3 u4 u5 u6 u7 u8 u9 u10 u11 u12 u13 u14 h R):Qa Tryz.prog 50 [vhp u0 u1,vag [vsl u2 u3 u4,vsl u5 u6 u7,vsl u8 u9 u10,vi u11,vi u12,vi u13,vi u14]] h R:=
 Qd (cfg:=⟨[],[(3,([6],[.one (.int .i64)],[(2,[.int .i64,.int .i64,.int .i64,.slice])]))],[(1,[0,1,2,3,4,5,6,7,8,9,10]),(5,[0,1,2,3,4,5,6,7,8,9,10,11,12,13,14,15])]⟩) Qo mixed Tryz.func50 [.one (.hp u0 u1),.ag [.v (vsl u2 u3 u4),.v (vsl u5 u6 u7),.v (vsl u8 u9 u10),.v (vi u11),.v (vi u12),.v (vi u13),.v (vi u14)]] (by kernel_rfl) rfl (by kernel_rfl) H
def Qf7 (u0 u1:Nat)(u2 u3:Nat)(h:Hp)(R:Value→Hp→Prop):Prop:=
 (∃ x1,(Hp.cell h u0 u1=some (vi x1))∧(∃ x2,(Hp.cell h u2 u3=some (vi x2))∧(((decide (x1≠x2))=true→(∃ x3,(Hp.cell h u0 u1=some (vi x3))∧(∃ x4,(Hp.cell h u2 u3=some (vi x4))∧R (vb (decide (x3 < x4))) h)))∧((decide (x1≠x2))=false→(∃ x6,(Hp.cell h u0 (u1+1)=some (vi x6))∧(∃ x7,(Hp.cell h u2 (u3+1)=some (vi x7))∧(((decide (x6≠x7))=true→(∃ x8,(Hp.cell h u0 (u1+1)=some (vi x8))∧(∃ x9,(Hp.cell h u2 (u3+1)=some (vi x9))∧R (vb (decide (x8 < x9))) h)))∧((decide (x6≠x7))=false→(∃ x11,(Hp.cell h u0 ((u1+1)+1)=some (vi x11))∧(∃ x12,(Hp.cell h u2 ((u3+1)+1)=some (vi x12))∧R (vb (decide (x11 < x12))) h))))))))))
theorem QlV {u0 u1 u2 u3 h R}(H:Qf7 u0 u1 u2 u3 h R):Qa Tryz.prog 100 [vhp u0 u1,vhp u2 u3] h R:=
 Qd (cfg:=⟨[],[],[(1,[0,1,2,3,4,5,6,7,8]),(2,[0,1,2,3,4,5,6,7,8,9]),(3,[0,1,2,3,4,5,6,7,8,9,10]),(4,[0,1,2,3,4,5,6,7,8,9,10,11]),(5,[0,1,2,3,4,5,6,7,8,9,10,11])]⟩) Qo mixed Tryz.func100 [.one (.hp u0 u1),.one (.hp u2 u3)] (by kernel_rfl) rfl (by kernel_rfl) H
def Qf8 (u0:Option Addr)(u1 u2:Nat)(u3:Int)(u4:Int)(u5:Int)(u6:Int)(h:Hp)(R:Value→Hp→Prop):Prop:=
 (Ql Tryz.prog (Instr.makeSlice 123 (vi u6) (vi u6)) h fun v1 h2=>∃ a3 n3 c3,v1=(vsl a3 n3 c3)∧(∀ b4,h2 b4=none→let h5:= Hp.set h2 b4 (Qc [vi u3,vi u4,vi u5,vsl a3 n3 c3,vb false] 125);(let J23:Int→Hp→Prop:=fun x25 h26=>(∃ b27 o28,((decide (x25 < (u1:Int)))=true→(u0=some ⟨b27,o28,none⟩∧(0:Int)≤x25∧x25 < (u1:Int)))∧(∃ q29,((decide (x25 < (u1:Int)))=true→Hp.cell h26 b27 (o28+x25.toNat*1)=some (vp q29))∧(∃ b30 o31,((decide (x25 < (u1:Int)))=true→q29=some ⟨b30,o31,none⟩)∧(∃ x32,((decide (x25 < (u1:Int)))=true→Hp.cell h26 b30 o31=some (vi x32))∧(∃ b33 o34,((bif (decide (x25 < (u1:Int))) then(decide (x32=u3)) else false)=true→(u0=some ⟨b33,o34,none⟩∧(0:Int)≤x25∧x25 < (u1:Int)))∧(∃ q35,((bif (decide (x25 < (u1:Int))) then(decide (x32=u3)) else false)=true→Hp.cell h26 b33 (o34+x25.toNat*1)=some (vp q35))∧(∃ b36 o37,((bif (decide (x25 < (u1:Int))) then(decide (x32=u3)) else false)=true→q35=some ⟨b36,o37,none⟩)∧(∃ x38 x39,((bif (decide (x25 < (u1:Int))) then(decide (x32=u3)) else false)=true→Hp.row h26 b36 (o37+1) 2=some [vi x38,vi x39])∧(∃ p40,((bif (decide (x25 < (u1:Int))) then(decide (x32=u3)) else false)=true→Rd Tryz.prog ((eqGuard .eql 42 (.tmp 56) (.tmp 57) (vag [vi x38,vi x39]) (vag [vi u4,vi u5]) >>= fun _=>binOp .eql 42 (vag [vi x38,vi x39]) (vag [vi u4,vi u5]))) h26 (vb p40))∧(((bif (bif (decide (x25 < (u1:Int))) then(decide (x32=u3)) else false) then p40 else false)=true→(∃ b41 o42,(u0=some ⟨b41,o42,none⟩∧(0:Int)≤x25∧x25 < (u1:Int))∧(∃ q43,(Hp.cell h26 b41 (o42+x25.toNat*1)=some (vp q43))∧R (Qf [vsl u0 u1 u2,vp q43]) h26)))∧((bif (bif (decide (x25 < (u1:Int))) then(decide (x32=u3)) else false) then p40 else false)=false→(∃ a45 n45 c45,(Rd Tryz.prog (Instr.sliceAt 49 (vsl u0 u1 u2) none (some (vi x25)) none) h26 (vsl a45 n45 c45))∧(Ql Tryz.prog (Builtin.append_ #[49,49] 49 #[vsl none 0 0,vsl a45 n45 c45]) h26 fun v46 h47=>∃ a48 n48 c48,v46=(vsl a48 n48 c48)∧(∀ b49,h47 b49=none→let h50:= Hp.set h47 b49 (Qc [vhp b4 0] 116);(Ql Tryz.prog (Builtin.append_ #[49,49] 49 #[vsl a48 n48 c48,(vsl (some (⟨b49,0,none⟩:Addr)) 1 1)]) h50 fun v51 h52=>∃ a53 n53 c53,v51=(vsl a53 n53 c53)∧(∃ a54 n54 c54,(Rd Tryz.prog (Instr.sliceAt 49 (vsl u0 u1 u2) (some (vi x25)) none none) h52 (vsl a54 n54 c54))∧(Ql Tryz.prog (Builtin.append_ #[49,49] 49 #[vsl a53 n53 c53,vsl a54 n54 c54]) h52 fun v55 h56=>∃ a57 n57 c57,v55=(vsl a57 n57 c57)∧R (Qf [vsl a57 n57 c57,vhp b4 0]) h56)))))))))))))))));(∃(I7:List Value→Hp→Prop) (m8:List Value→Hp→Nat),I7 [vi 0] h5∧∀ vs9 h10,I7 vs9 h10→∃ x11,vs9=[vi x11]∧(((decide (x11 < (u1:Int)))=true→(∃ b14 o15,(u0=some ⟨b14,o15,none⟩∧(0:Int)≤x11∧x11 < (u1:Int))∧(∃ q16,(Hp.cell h10 b14 (o15+x11.toNat*1)=some (vp q16))∧(Qa Tryz.prog 100 [vp q16,vhp b4 0] h10 fun v17 h18=>∃ p19,v17=(vb p19)∧(((!p19)=true→(J23 x11 h18))∧((!p19)=false→(∃ x22,(IsW x22 (x11+1))∧(I7 [vi x22] h18∧m8 [vi x22] h18 < m8 vs9 h10))))))))∧((decide (x11 < (u1:Int)))=false→(J23 x11 h10)))))))
theorem Qmh {u0 u1 u2 u3 u4 u5 u6 h R}(H:Qf8 u0 u1 u2 u3 u4 u5 u6 h R):Qa Tryz.prog 48 [vsl u0 u1 u2,vi u3,vag [vi u4,vi u5],vi u6] h R:=
 Qd (cfg:=⟨[19],[(3,([11],[.one (.int .i64)],[]))],[(1,[0,1,2,3,4,5,6]),(7,[0,1,2,3,4,5,6,7,8,9,10,11,12,13,14,15,16,17,18,19,20,21,22,23,24,25]),(8,[0,1,2,3,4,5,6])]⟩) Qo mixed Tryz.func48 [.one (.v (vsl u0 u1 u2)),.one (.v (vi u3)),.ag [.v (vi u4),.v (vi u5)],.one (.v (vi u6))] (by kernel_rfl) rfl (by kernel_rfl) H
def NI (u0:Int)(u1:Option Addr)(u2 u3:Nat)(h:Hp)(R:Value→Hp→Prop):Prop:=
 (∃(I2:List Value→Hp→Prop) (m3:List Value→Hp→Nat),I2 [vi 0,vi 0,vi 0,vi 0] h∧∀ vs4 h5,I2 vs4 h5→∃ x6 x7 x8 x9,vs4=[vi x6,vi x7,vi x8,vi x9]∧(((decide (x9 < (u2:Int)))=true→(let J25:Int→Int→Int→Prop:=fun x32 x33 x34=>(∃ x35,(IsW x35 (x9+1))∧(I2 [vi x32,vi x33,vi x34,vi x35] h5∧m3 [vi x32,vi x33,vi x34,vi x35] h5 < m3 vs4 h5));(∃ b12 o13,(u1=some ⟨b12,o13,none⟩∧(0:Int)≤x9∧x9 < (u2:Int))∧(∃ x14 x15,(Hp.row h5 b12 (o13+x9.toNat*2) 2=some [vi x14,vi x15])∧(((bif (decide (u0≠1)) then(decide (x14=0)) else false)=true→(J25 x6 x7 x8))∧((bif (decide (u0≠1)) then(decide (x14=0)) else false)=false→(let J20:Int→Prop:=fun x21=>(∃ x22,(IsW x22 (x6+1))∧(∃ x23,(IsW x23 (x7+x15))∧(J25 x22 x23 x21)));(((bif (bif (decide (x6=0)) then true else(bif (decide (u0=4)) then(decide (x15 < x8)) else false)) then true else(bif (decide (u0=5)) then(decide (x15 > x8)) else false))=true→(J20 x15))∧((bif (bif (decide (x6=0)) then true else(bif (decide (u0=4)) then(decide (x15 < x8)) else false)) then true else(bif (decide (u0=5)) then(decide (x15 > x8)) else false))=false→(J20 x8))))))))))∧((decide (x9 < (u2:Int)))=false→(((decide (u0 < 3))=true→(Qa Tryz.prog 146 [vi x6] h5 fun v36 h37=>∃ x38 x39,v36=(vag [vi x38,vi x39])∧R (vag [vi x38,vi x39]) h37))∧((decide (u0 < 3))=false→(((decide (x6=0))=true→R (vag [vi 0,vi 0]) h5)∧((decide (x6=0))=false→(((decide (u0=3))=true→(Qa Tryz.prog 146 [vi x7] h5 fun v42 h43=>∃ x44 x45,v42=(vag [vi x44,vi x45])∧R (vag [vi x44,vi x45]) h43))∧((decide (u0=3))=false→(Qa Tryz.prog 146 [vi x8] h5 fun v47 h48=>∃ x49 x50,v47=(vag [vi x49,vi x50])∧R (vag [vi x49,vi x50]) h48))))))))))
theorem QfC {u0 u1 u2 u3 h R}(H:NI u0 u1 u2 u3 h R):Qa Tryz.prog 101 [vi u0,vsl u1 u2 u3] h R:=
 Qd (cfg:=⟨[],[(5,([5,6,7,8],[.one (.int .i64),.one (.int .i64),.one (.int .i64),.one (.int .i64)],[]))],[]⟩) Qo mixed Tryz.func101 [.one (.v (vi u0)),.one (.v (vsl u1 u2 u3))] (by kernel_rfl) rfl (by kernel_rfl) H
open Go.Txt
theorem Qfn {k:Int}(hk:1≤k){a:Option Addr}{n c:Nat}{l:List (Int × Int)}{h:Hp}{R:Value→Hp→Prop}(S:SlP Qv h a n l)(hv:∀ v ∈ l,ZQ v)(hn:n≤1048576)
  (hK:R (vag (Qv (QdU k (l.foldl (Q8 k) (0,0,0))))) h):Qa Tryz.prog 101 [vi k,vsl a n c] h R:=by
 refine QfC ?_
 unfold NI
 have hl:=S.1
 refine⟨fun vs hh=>hh=h∧∃ i:Nat,i≤n∧vs=[vi ((l.take i).foldl (Q8 k) (0,0,0)).1,vi ((l.take i).foldl (Q8 k) (0,0,0)).2.1,vi ((l.take i).foldl (Q8 k) (0,0,0)).2.2,vi i],
  fun vs hh=>n - (Qn vs 3).toNat,⟨rfl,0,Nat.zero_le _,by simp⟩,?_⟩
 rintro vs hh ⟨rfl,i,hi,rfl⟩
 refine⟨_,_,_,_,rfl,fun e=>?_,fun e=>?_⟩
 ·have hlt:i < n:=by simpa using e
  have hx:l[i]?=some l[i]:=List.getElem?_eq_getElem (by omega)
  obtain⟨b,o,ea,hr⟩:=S.get Ym (by decide) hx
  have tk:l.take (i+1)=l.take i++[l[i]]:=List.take_succ_eq_append_getElem (by omega)
  have B:=GE (k:=k) (l.take i) (0,0,0) (fun v hm=>hv v (List.mem_of_mem_take hm)) (by decide)
  have hs:=hv l[i] (List.getElem_mem _)
  have st:((l.take (i+1)).foldl (Q8 k) (0,0,0))=Q8 k ((l.take i).foldl (Q8 k) (0,0,0)) l[i]:=by rw [tk,List.foldl_append];rfl
  have len:(l.take i).length≤i:=by rw [List.length_take];exact Nat.min_le_left _ _
  simp only at B
  have go:∀ x y z:Int,(x,y,z)=((l.take (i+1)).foldl (Q8 k) (0,0,0))→∃ u:Int,IsW u ((i:Int)+1)∧((hh=hh∧∃ j:Nat,j≤n∧[vi x,vi y,vi z,vi u]=[vi ((l.take j).foldl (Q8 k) (0,0,0)).1,vi ((l.take j).foldl (Q8 k) (0,0,0)).2.1,vi ((l.take j).foldl (Q8 k) (0,0,0)).2.2,vi j]) ∧
    n - (Qn [vi x,vi y,vi z,vi u] 3).toNat < n - (Qn [vi ((l.take i).foldl (Q8 k) (0,0,0)).1,vi ((l.take i).foldl (Q8 k) (0,0,0)).2.1,vi ((l.take i).foldl (Q8 k) (0,0,0)).2.2,vi (i:Int)] 3).toNat):=by
   intro x y z e
   refine⟨_,isW (by unfold InR;omega),⟨rfl,i+1,hlt,?_⟩,by simp [Qn];omega⟩
   rw [←e]
   simp
  generalize hG:(l.take i).foldl (Q8 k) (0,0,0)=G at *
  generalize hG2:(l.take (i+1)).foldl (Q8 k) (0,0,0)=G2 at *
  unfold ZQ at hs
  have i1:InR (G.1+1):=by unfold InR;omega
  have i2:InR (G.2.1+l[i].2):=by unfold InR;omega
  intro J23
  refine⟨b,o,⟨ea,by omega,by omega⟩,_,_,by simpa [Qv] using hr,fun e=>?_,fun e=>?_⟩
  ·have e':k≠1∧l[i].1=0:=by simpa [Bool.cond_eq_ite] using e
   refine go _ _ _ ?_
   rw [st,Q8,if_pos e']
  ·have e':¬(k≠1∧l[i].1=0):=by simpa [Bool.cond_eq_ite] using e
   intro J20
   refine⟨fun e=>?_,fun e=>?_⟩
   ·have e2:G.1=0∨(k=4∧l[i].2 < G.2.2)∨(k=5∧l[i].2 > G.2.2):=by simp [Bool.cond_eq_ite] at e;omega
    refine⟨_,isW i1,_,isW i2,go _ _ _ ?_⟩
    rw [st,Q8,if_neg e',if_pos e2]
   ·have e2:¬(G.1=0∨(k=4∧l[i].2 < G.2.2)∨(k=5∧l[i].2 > G.2.2)):=by simp [Bool.cond_eq_ite] at e;omega
    refine⟨_,isW i1,_,isW i2,go _ _ _ ?_⟩
    rw [st,Q8,if_neg e',if_neg e2]
 ·have hge:i=n:=by simp at e;omega
  have ht:l.take i=l:=List.take_of_length_le (by omega)
  rw [ht]
  generalize hG:l.foldl (Q8 k) (0,0,0)=G at *
  unfold QdU at hK
  refine⟨fun e=>?_,fun e=>⟨fun e2=>?_,fun e2=>⟨fun e3=>?_,fun e3=>?_⟩⟩⟩
  ·have e:k=1∨k=2:=by simp at e;omega
   rw [if_pos e] at hK
   exact YT ⟨_,_,rfl,hK⟩
  all_goals have e:¬(k=1∨k=2):=by simp at e;omega
  all_goals rw [if_neg e] at hK
  ·have e2:G.1=0:=by simpa using e2
   rw [if_pos e2] at hK
   exact hK
  all_goals have e2:¬ G.1=0:=by simpa using e2
  all_goals rw [if_neg e2] at hK
  ·have e3:k=3:=by simpa using e3
   rw [if_pos e3] at hK
   exact YT ⟨_,_,rfl,hK⟩
  ·have e3:¬ k=3:=by simpa using e3
   rw [if_neg e3] at hK
   exact YT ⟨_,_,rfl,hK⟩
theorem Qck {l:List Nd}(hx:YL l=0){a:Option Addr}{n c:Nat}{h:Hp}(S:SlP Zo h a n l){e:EvL}{R:Value→Hp→Prop}(hK:R (vag (Qv (ZG e l))) h):Qa Tryz.prog 99 [vsl a n c,vag (Vu e)] h R:=by
 obtain⟨O,hl⟩:=Z4 hx
 exact QlP S O.wf (by have:=O.pos;omega) (by omega) hK
section
variable {q:Qy}{a1:Option Addr}{n1 c1:Nat}{a2:Option Addr}{n2 c2:Nat}{a3:Option Addr}{n3 c3:Nat}{h:Hp}{R:Value→Hp→Prop}
theorem Qlv {e:EvL}(Q:QAt h q a1 n1 a2 n2 a3 n3)(B:QOk q)(hK:R (vb (QiW q e)) h):Qa Tryz.prog 46 [qV a1 n1 c1 a2 n2 c2 a3 n3 c3 q,vag (Vu e)] h R:=by
 refine Qlc ?_
 unfold Qgk
 have hn:=Q.w.1
 unfold QiW at hK
 refine⟨fun e1=>?_,fun e1=>?_⟩
 ·have e1:=of_decide_eq_true e1
  have hb:q.wh=[]:=List.length_eq_zero_iff.1 (by omega)
  rw [decide_eq_true hb] at hK
  exact hK
 ·have e1:=of_decide_eq_false e1
  have hb:q.wh≠[]:=fun e2=>e1 (by rw [hn,e2];rfl)
  refine Qck (B.w hb) Q.w ⟨_,_,rfl,?_⟩
  rw [decide_eq_false hb] at hK
  have e2:(bif (decide ((ZG e q.wh).1=2)) then(decide ((ZG e q.wh).2=1)) else false)=(false||decide (ZG e q.wh=Zd true)):=by
   rw [ZJ,Bool.false_or]
   exact decide_eq_decide.2 (Prod.ext_iff (y:=Zd true)).symm
  rw [e2]
  exact hK
theorem QjY {e:EvL}(Q:QAt h q a1 n1 a2 n2 a3 n3)(B:QOk q)(hK:R (vag (Qv (Zq q e))) h):Qa Tryz.prog 49 [qV a1 n1 c1 a2 n2 c2 a3 n3 c3 q,vag (Vu e)] h R:=by
 refine Qkh ?_
 unfold Qea
 unfold Zq at hK
 have hn:=Q.b.1
 refine⟨fun e1=>?_,fun e1=>?_⟩
 ·have e1:=of_decide_eq_true e1
  have hb:q.by_=[]:=List.length_eq_zero_iff.1 (by omega)
  rw [if_pos hb] at hK
  exact hK
 ·have e1:=of_decide_eq_false e1
  have hb:q.by_≠[]:=fun e2=>e1 (by rw [hn,e2];rfl)
  refine Qck (B.b hb) Q.b ⟨_,_,rfl,?_⟩
  rw [if_neg hb] at hK
  exact hK
theorem QlA {b1 b2:Nat}{k k':PK}(x1:h.cell b1 0=some (vi k.1))(x2:h.cell b1 1=some (vi k.2.1))(x3:h.cell b1 2=some (vi k.2.2))(y1:h.cell b2 0=some (vi k'.1))(y2:h.cell b2 1=some (vi k'.2.1))(y3:h.cell b2 2=some (vi k'.2.2))(hK:R (vb (decide (Qr k k'))) h):Qa Tryz.prog 100 [vhp b1 0,vhp b2 0] h R:=by
 refine QlV ?_
 unfold Qf7
 refine⟨_,x1,_,y1,fun e=>⟨_,x1,_,y1,?_⟩,fun e=>⟨_,x2,_,y2,fun e2=>⟨_,x2,_,y2,?_⟩,fun e2=>⟨_,x3,_,y3,?_⟩⟩⟩
 ·have e:=of_decide_eq_true e
  rw [show decide (k.1 < k'.1)=decide (Qr k k') from decide_eq_decide.2 (by unfold Qr;omega)]
  exact hK
 ·have e:=Decidable.not_not.1 (of_decide_eq_false e)
  have e2:=of_decide_eq_true e2
  rw [show decide (k.2.1 < k'.2.1)=decide (Qr k k') from decide_eq_decide.2 (by unfold Qr;omega)]
  exact hK
 ·have e:=Decidable.not_not.1 (of_decide_eq_false e)
  have e2:=Decidable.not_not.1 (of_decide_eq_false e2)
  rw [show decide (k.2.2 < k'.2.2)=decide (Qr k k') from decide_eq_decide.2 (by unfold Qr;omega)]
  exact hK
end
structure PN where
 k:PK
 b:Nat
 t:Nat
 cs:List (List Vl)
 told:Bool
abbrev QoK:=XQ Qv 2 42 85
def Yy (x:PN):List Value:=[vi x.k.1,vi x.k.2.1,vi x.k.2.2,vsl (some ⟨x.t,0,none⟩) x.cs.length x.cs.length,vb x.told]
def Qm3 (x:PN)(h:Hp)(F:Nat→Prop):Prop:=h x.b=some (Qc (Yy x) 125)∧∃ G,QoK h G x.t x.cs∧¬ G x.b∧F=fun b=>b=x.b∨G b
theorem YE (x:PN):Fp (Qm3 x) where
 al:=by
  rintro h F ⟨h1,G,D,hd,rfl⟩ b (rfl|hb)
  ·rw [h1];simp
  ·exact D.al b hb
 keep:=by
  rintro h h' F ⟨h1,G,D,hd,rfl⟩ hk
  exact⟨hk x.b (.inl rfl) _ h1,G,D.keep fun b hb=>hk b (.inr hb),hd,rfl⟩
structure Yv (h0 h:Hp)(a:Option Addr)(c:Nat)(R:List PN):Prop where
 v:Qh h0 h 116 1 a R.length c (R.map fun r=>vhp r.b 0)
 i:∃ F,Yh Qm3 R h F∧(∀ b,F b→h0 b=none)∧∀ b,F b→a≠some ⟨b,0,none⟩
section
variable {h0 h:Hp}{a:Option Addr}{c:Nat}{R:List PN}
theorem Yv.nil (hl:h0.le h):Yv h0 h none 0 []:=⟨Qh.nil hl _ _,_,Yh.nil h,fun b hb=>hb.elim,fun b hb=>hb.elim⟩
theorem Yv.le0 (N:Yv h0 h a c R):h0.le h:=N.v.le
theorem Yv.le (N:Yv h0 h a c R){h':Hp}(l:h.le h'):Yv h0 h' a c R:=by
 obtain⟨F,E,n1,n2⟩:=N.i
 exact⟨N.v.mono l,F,(Yh.fp YE R).keep E fun b _ o ho=>l b o ho,n1,n2⟩
theorem Yv.ptr (N:Yv h0 h a c R){i:Nat}{r:PN}(hr:R[i]?=some r):∃ b o,a=some ⟨b,o,none⟩∧h.cell b (o+i*1)=some (vhp r.b 0):=by
 exact N.v.row.get1 (by rw [List.getElem?_map,hr];rfl)
theorem Yv.cells (N:Yv h0 h a c R){i:Nat}{r:PN}(hr:R[i]?=some r):h r.b=some (Qc (Yy r) 125)∧Qi0 Qv h (some ⟨r.t,0,none⟩) r.cs.length r.cs:=by
 obtain⟨F,E,n1,n2⟩:=N.i
 obtain⟨G,X,_,_⟩:=E.at YE hr
 obtain⟨h1,G',D,_,_⟩:=X
 exact⟨h1,D.r⟩
theorem Yv.inner (N:Yv h0 h a c R){i:Nat}{r:PN}(hr:R[i]?=some r):∃ G,QoK h G r.t r.cs∧¬ G r.b∧h r.b=some (Qc (Yy r) 125)∧(∀ b,G b→h0 b=none) ∧
  ∀(h':Hp) (G':Nat→Prop) (cs':List (List Vl)),Mut G h G' h'→QoK h' G' r.t cs'→cs'.length=r.cs.length→Yv h0 h' a c (R.set i { r with cs:=cs' }):=by
 obtain⟨F,E,n1,n2⟩:=N.i
 obtain⟨G0,X,hGF,H⟩:=E.at YE hr
 obtain⟨h1,G,D,hd,rfl⟩:=X
 refine⟨G,D,hd,h1,fun b hb=>n1 b (hGF b (.inr hb)),fun h' G' cs' M D' hlen=>?_⟩
 have hb':h' r.b=some (Qc (Yy r) 125):=M.keep r.b _ hd h1
 have hG':¬ G' r.b:=fun q=>by
  rcases M.new r.b q with q|q
  ·exact hd q
  ·rw [h1] at q;cases q
 have M2:Mut (fun b=>b=r.b∨G b) h (fun b=>b=r.b∨G' b) h':=⟨fun b o hb ho=>M.keep b o (fun q=>hb (.inr q)) ho,fun b hb=>by
  rcases hb with hb|hb
  ·exact .inl (.inl hb)
  ·rcases M.new b hb with q|q
   ·exact .inl (.inr q)
   ·exact .inr q⟩
 obtain⟨F2,E2,M3⟩:=H h' (fun b=>b=r.b∨G' b) { r with cs:=cs' } M2 ⟨by
  rw [hb']
  unfold Yy
  simp only [hlen],G',D',hG',rfl⟩
 obtain⟨k,d⟩:=M3.apart ((UV.fp _ _ _ _ _ _).al (⟨N.v.own,rfl⟩:UV 116 1 a R.length c (R.map fun r=>vhp r.b 0) h (fun b=>a=some ⟨b,0,none⟩))) (fun b hb hb2=>n2 b hb hb2)
 obtain⟨l',n1'⟩:=M3.old N.le0 n1
 refine⟨?_,F2,E2,n1',fun b hb hb2=>d b hb hb2⟩
 have e:(R.set i { r with cs:=cs' }).map (fun r=>vhp r.b 0)=R.map fun r=>vhp r.b 0:=by
  rw [List.map_set]
  apply List.ext_getElem?
  intro j
  rw [List.getElem?_set]
  split
  ·rename_i hij
   subst hij
   rw [List.getElem?_map,hr]
   obtain⟨hi,_⟩:=List.getElem?_eq_some_iff.1 hr
   rw [if_pos (by simpa using hi)]
   rfl
  ·rfl
 rw [e,List.length_set]
 have O2:=(UV.fp _ _ _ _ _ _).keep (⟨N.v.own,rfl⟩:UV 116 1 a R.length c (R.map fun r=>vhp r.b 0) h (fun b=>a=some ⟨b,0,none⟩)) k
 exact⟨l',O2.1,N.v.new⟩
end
theorem Wc {h:Hp}{b i:Nat}{xs:List Value}{t:TypeId}{v:Value}(hb:h b=some (Qc xs t))(hv:xs[i]?=some v):Hp.cell h b i=some v:=by
 unfold Hp.cell
 rw [hb]
 simpa using hv
section
variable {q:Qy}{a1:Option Addr}{n1 c1:Nat}{a2:Option Addr}{n2 c2:Nat}{a3:Option Addr}{n3 c3:Nat}{h0 h:Hp}{a:Option Addr}{c:Nat}{R:List PN}{R':Value→Hp→Prop}
set_option maxHeartbeats 1000000 in
theorem Qfm {e:EvL}(Q:QAt h0 q a1 n1 a2 n2 a3 n3)(B:QOk q)(N:Yv h0 h a c R){i:Nat}{r:PN}(hr:R[i]?=some r)(hcs:r.cs.length=q.aggs.length)(hb:∀ l ∈ r.cs,l.length≤1000000)
  (hK:∀ h',Yv h0 h' a c (R.set i { r with cs:=XR r.cs (Qm q e) })→R' (Qf []) h'):Qa Tryz.prog 51 [vhp r.b 0,qV a1 n1 c1 a2 n2 c2 a3 n3 c3 q,vag (Vu e)] h R':=by
 refine QfL ?_
 unfold Nu
 have hn1:=Q.g.len
 have hvl:(Qm q e).length=r.cs.length:=by unfold Qm;rw [List.length_map,hcs]
 have hcl:=QdY hvl
 have hn4:=B.n2
 obtain⟨hi,hri⟩:=List.getElem?_eq_some_iff.1 hr
 have set_id:R.set i { r with cs:=r.cs }=R:=by
  apply List.ext_getElem?
  intro j
  rw [List.getElem?_set]
  split
  ·rename_i hij;subst hij;first|rw [if_pos hi,hr]|rw [hr]
  ·rfl
 refine⟨fun vs hh=>∃ j:Nat,vs=[vi j]∧j≤r.cs.length∧Yv h0 hh a c (R.set i { r with cs:=(XR r.cs (Qm q e)).take j++r.cs.drop j }),fun vs hh=>r.cs.length - (Qn vs 0).toNat,⟨0,rfl,Nat.zero_le _,by simpa [set_id] using N⟩,?_⟩
 rintro vs hh ⟨j,rfl,hj,N5⟩
 refine⟨j,rfl,fun e1=>?_,fun e1=>?_⟩
 ·have hlt:j < r.cs.length:=by have:=of_decide_eq_true e1;omega
  have hx:q.aggs[j]?=some q.aggs[j]:=List.getElem?_eq_getElem (by omega)
  have hvi:(Qm q e)[j]'(by omega)=if (q.aggs[j]'(by omega)).1=1 then(0,0) else ZG e (q.aggs[j]'(by omega)).2:=by unfold Qm;rw [List.getElem_map]
  have hmem:=List.getElem_mem (by omega:j < q.aggs.length)
  have hkr:=B.g _ hmem
  have h5:=N5.le0
  have hr5:(R.set i { r with cs:=(XR r.cs (Qm q e)).take j++r.cs.drop j })[i]?=some { r with cs:=(XR r.cs (Qm q e)).take j++r.cs.drop j }:=by rw [List.getElem?_set,if_pos rfl,if_pos hi]
  have hcjl:((XR r.cs (Qm q e)).take j++r.cs.drop j).length=r.cs.length:=by rw [List.length_append,List.length_take,List.length_drop];omega
  have hcj:((XR r.cs (Qm q e)).take j++r.cs.drop j)[j]?=some (r.cs[j]):=by
   rw [List.getElem?_append_right (by rw [List.length_take];omega),List.length_take,Nat.min_eq_left (by omega),Nat.sub_self,List.getElem?_drop,Nat.add_zero,List.getElem?_eq_getElem hlt]
  have hni:(XR r.cs (Qm q e))[j]'(by omega)=r.cs[j]++[(Qm q e)[j]'(by omega)]:=by unfold XR;rw [List.getElem_zipWith]
  have hset:((XR r.cs (Qm q e)).take j++r.cs.drop j).set j (r.cs[j]++[(Qm q e)[j]'(by omega)])=(XR r.cs (Qm q e)).take (j+1)++r.cs.drop (j+1):=by
   rw [←hni,List.set_append_right _ _ (by rw [List.length_take];omega),List.length_take,Nat.min_eq_left (by omega),Nat.sub_self,List.drop_eq_getElem_cons hlt,List.set_cons_zero,List.take_succ_eq_append_getElem (by omega:j < (XR r.cs (Qm q e)).length),List.append_assoc]
   rfl
  have hbl:=hb _ (List.getElem_mem hlt)
  obtain⟨G,D,hnG,hcell,hGn,H⟩:=N5.inner hr5
  simp only at D hcell H
  obtain⟨b,o,a',c',ha,hrow,hS⟩:=(Q.g.le h5).row Wt (by decide) hx
  have k0:=Hp.row_cell hrow (i:=0) (x:=vi (q.aggs[j]'(by omega)).1) rfl
  have k1:=Hp.row_cell hrow (i:=1) (x:=vsl a' (q.aggs[j]'(by omega)).2.length c') rfl
  refine⟨b,o,⟨ha,by omega,by omega⟩,_,by rw [Int.toNat_natCast];exact k0,?_⟩
  intro J20
  have hJ:∀ v:Int × Int,v=(Qm q e)[j]'(by omega)→J20 v.1 v.2 hh:=by
   intro v hv
   have k3:Hp.cell hh r.b (0+3)=some (vsl (some ⟨r.t,0,none⟩) ((XR r.cs (Qm q e)).take j++r.cs.drop j).length ((XR r.cs (Qm q e)).take j++r.cs.drop j).length):=Wc hcell rfl
   rw [hcjl] at k3
   obtain⟨aj,cj,hcellj,_⟩:=D.cell hcj
   refine⟨_,_,_,k3,_,_,_,k3,r.t,0,⟨rfl,by omega,by omega⟩,_,_,_,by rw [Int.toNat_natCast];exact hcellj,?_⟩
   intro b46 hb46 h47
   refine XQ.app Qff (fun v=>rfl) Qky D hcj (by omega) (by omega) (x:=v) hcellj hb46 fun a50 c50 h49 hfr hst=>⟨_,_,_,rfl,Wc (hfr r.b _ (.inl hnG) hcell) (by unfold Yy;simp only [hcjl];rfl),r.t,0,⟨rfl,by omega,by omega⟩,?_⟩
   rw [Int.toNat_natCast]
   refine hst _ fun h53 F' D' M=>?_
   refine⟨_,isW (by unfold InR;omega),⟨j+1,rfl,by omega,?_⟩,by simp [Qn];omega⟩
   have N53:=H h53 F' _ M D' (by rw [List.length_set])
   rw [List.set_set,hv,hset] at N53
   exact N53
  clear_value J20
  refine⟨fun e2=>?_,fun e2=>?_⟩
  ·have e2:=of_decide_eq_true e2
   refine⟨b,o,⟨ha,by omega,by omega⟩,a',_,c',by rw [Int.toNat_natCast];exact k1,?_⟩
   refine Qck (hkr.2.2.1 (by omega)) hS ⟨_,_,rfl,hJ _ ?_⟩
   rw [hvi,if_neg (by omega)]
  ·have e2:=of_decide_eq_false e2
   refine hJ (0,0) ?_
   rw [hvi,if_pos (by omega)]
 ·have hge:j=r.cs.length:=by have:=of_decide_eq_false e1;omega
  rw [hge,List.drop_length,List.append_nil,List.take_of_length_le (by omega)] at N5
  exact hK hh N5
theorem JO {r:PN}(Q:QAt h q a1 n1 a2 n2 a3 n3)(B:QOk q)(hcell:h r.b=some (Qc (Yy r) 125))(T:Qi0 Qv h (some ⟨r.t,0,none⟩) r.cs.length r.cs)(hcs:r.cs.length=q.aggs.length)(hb:∀ l ∈ r.cs,l.length≤1000000∧∀ v ∈ l,ZQ v)
  (hK:∀ a c h',Qij h h' a c ((List.zipWith MO (Qe q) r.cs).map ZM)→R' (vag [vi r.k.1,vi r.k.2.1,vi r.k.2.2,vsl a ((List.zipWith MO (Qe q) r.cs).map ZM).length c]) h'):Qa Tryz.prog 50 [vhp r.b 0,qV a1 n1 c1 a2 n2 c2 a3 n3 c3 q] h R':=by
 refine QfD ?_
 unfold Nv
 have hn1:=Q.g.len
 have hn4:=B.n2
 refine⟨r.k.1,Wc hcell rfl,r.k.2.1,r.k.2.2,?_,?_⟩
 ·exact QQ hcell (by unfold Yy;simp)
 intro J34
 have hJ:∀ a c h',Qij h h' a c ((List.zipWith MO (Qe q) r.cs).map ZM)→J34 r.k.1 r.k.2.1 r.k.2.2 a ((List.zipWith MO (Qe q) r.cs).map ZM).length c h':=hK
 clear_value J34
 have hkl:=QC q
 generalize hz:(List.zipWith MO (Qe q) r.cs).map ZM=out at hJ ⊢
 have hol:out.length=n1:=by rw [←hz,List.length_map,List.length_zipWith];omega
 refine⟨fun vs hh=>∃(i:Nat) (a:Option Addr) (c:Nat),vs=[vi i,vi r.k.1,vi r.k.2.1,vi r.k.2.2,vsl a (out.take i).length c]∧i≤n1∧Qij h hh a c (out.take i),fun vs hh=>n1 - (Qn vs 0).toNat,⟨0,none,0,rfl,Nat.zero_le _,Qh.nil (Hp.le_refl h) _ _⟩,?_⟩
 rintro vs hh ⟨i,a,c,rfl,hi,V⟩
 refine⟨_,_,_,_,_,_,_,rfl,fun e=>?_,fun e=>?_⟩
 ·have hlt:i < n1:=by have:=of_decide_eq_true e;omega
  have hx:q.aggs[i]?=some q.aggs[i]:=List.getElem?_eq_getElem (by omega)
  have hxc:r.cs[i]?=some r.cs[i]:=List.getElem?_eq_getElem (by omega)
  have hl0:=V.le0
  obtain⟨b,o,a',c',ha,hrow,hS⟩:=(Q.g.le hl0).row Wt (by decide) hx
  have k0:=Hp.row_cell hrow (i:=0) (x:=vi (q.aggs[i]'(by omega)).1) rfl
  obtain⟨b2,o2,a22,c22,ea,hc22,hS22⟩:=(T.le hl0).cell hxc
  have hi2:i < q.aggs.length:=by omega
  have hi3:i < r.cs.length:=by omega
  have ho:((List.zipWith MO (Qe q) r.cs).map ZM)[i]?=some (QdU (q.aggs[i]'(by omega)).1 ((r.cs[i]'(by omega)).foldl (Q8 (q.aggs[i]'(by omega)).1) (0,0,0))):=by
   rw [List.getElem?_map,List.getElem?_zipWith,hxc]
   unfold Qe
   rw [List.getElem?_map,hx]
   rfl
  rw [hz] at ho
  have tk:out.take (i+1)=out.take i++[QdU (q.aggs[i]'(by omega)).1 ((r.cs[i]'(by omega)).foldl (Q8 (q.aggs[i]'(by omega)).1) (0,0,0))]:=by rw [List.take_add_one,ho];rfl
  have hti:(out.take i).length=i:=by rw [List.length_take];omega
  have hm:=hb _ (List.getElem_mem (by omega:i < r.cs.length))
  have hk1:=(B.g _ (List.getElem_mem (by omega:i < q.aggs.length))).1
  refine⟨b,o,⟨ha,by omega,by omega⟩,_,by rw [Int.toNat_natCast];exact k0,_,_,_,Wc (hl0 _ _ hcell) rfl,b2,o2,⟨ea,by omega,by omega⟩,a22,_,c22,by rw [Int.toNat_natCast];exact hc22,?_⟩
  refine Qfn hk1 hS22 hm.2 (by omega) ⟨_,_,rfl,?_⟩
  intro b27 hb27 h28
  refine Vec.app Qff (fun v=>rfl) Qky V (by rw [hti];omega) (by rw [hti];omega) (x:=QdU (q.aggs[i]'(by omega)).1 ((r.cs[i]'(by omega)).foldl (Q8 (q.aggs[i]'(by omega)).1) (0,0,0))) hb27 fun a' c' h' V'=>⟨_,_,_,rfl,_,isW (by unfold InR;omega),⟨i+1,a',c',?_,by omega,?_⟩,by simp [Qn];omega⟩
  ·rw [tk];rfl
  ·rw [tk];exact V'
 ·have hge:i=n1:=by have:=of_decide_eq_false e;omega
  rw [List.take_of_length_le (by omega)] at V ⊢
  exact hJ a c hh V
end
theorem Qgg (K:PK):∀(l:List PK) (j:Nat),(∀ x ∈ l.take j,Qr x K)→l[j]?=some K→U6 K l=l
 | [],j,_,h=>by simp at h
 | x :: l,0,_,h=>by
  simp at h
  rw [U6,if_neg (by rw [h];exact Yz K),if_pos h]
 | x :: l,j+1,h1,h=>by
  have hx:=h1 x (by simp)
  rw [U6,if_pos hx,Qgg K l j (fun y hy=>h1 y (by simp [hy])) (by simpa using h)]
theorem QdH (K:PK):∀(l:List PK) (j:Nat),j≤l.length→(∀ x ∈ l.take j,Qr x K)→(∀ x,l[j]?=some x→¬ Qr x K∧x≠K)→U6 K l=l.take j++K :: l.drop j
 | [],0,_,_,_=>rfl
 | [],j+1,h,_,_=>by simp at h
 | x :: l,0,_,_,h=>by
  obtain⟨h1,h2⟩:=h x rfl
  rw [U6,if_neg h1,if_neg h2]
  rfl
 | x :: l,j+1,hj,h1,h=>by
  have hx:=h1 x (by simp)
  rw [U6,if_pos hx,QdH K l j (by simpa using hj) (fun y hy=>h1 y (by simp [hy])) (fun y hy=>h y (by simpa using hy))]
  rfl
theorem Qpv:ElT Tryz.prog 123 85 1 24:=.of (by kernel_rfl) (by kernel_rfl) (by decide)
theorem Qno:ElT Tryz.prog 49 116 1 8:=.of (by kernel_rfl) (by kernel_rfl) (by decide)
def Qle (r:PN):Value:=vhp r.b 0
theorem Qdw (R:List PN):(R.flatMap fun r=>[Qle r])=R.map Qle:=by
 induction R with
 | nil=>rfl
 | cons r R ih=>rw [List.flatMap_cons,ih];rfl
theorem QiH (R:List PN):∀ u ∈ R.map Qle,u.oneCell'=true:=by
 intro u hu
 obtain⟨r,_,rfl⟩:=List.mem_map.1 hu
 rfl
section
variable {h0 h:Hp}{a:Option Addr}{c:Nat}{R:List PN}{R':Value→Hp→Prop}
set_option maxHeartbeats 2000000 in
theorem Ql3 (N:Yv h0 h a c R){K:PK}{n:Nat}(hn:n≤1000000)(hR:R.length≤1000000)
  (hf:∀(i:Nat) (r:PN) (h':Hp),R[i]?=some r→r.k=K→U6 K (R.map (·.k))=R.map (·.k)→Yv h0 h' a c R→R' (Qf [vsl a R.length c,vhp r.b 0]) h')
  (hnew:∀(j:Nat) (x:PN) (a':Option Addr) (c':Nat) (h':Hp),j≤R.length→x.k=K→x.cs=List.replicate n []→x.told=false→U6 K (R.map (·.k))=(R.take j++x :: R.drop j).map (·.k)→Yv h0 h' a' c' (R.take j++x :: R.drop j)→R' (Qf [vsl a' (R.length+1) c',vhp x.b 0]) h') :
  Qa Tryz.prog 48 [vsl a R.length c,vi K.1,vag (Qv K.2),vi (n:Int)] h R':=by
 refine Qmh ?_
 unfold Qf8
 have hcap:R.length≤c:=N.v.own.cap
 refine Qe7 Qpv (z:=[vsl none 0 0]) (by kernel_rfl) hn (by omega) fun t ht=>⟨_,_,_,rfl,?_⟩
 have l2:h.le (h.set t (Qc ((List.replicate n [vsl none 0 0]).flatten) 85)):=Hp.le_set (Hp.le_refl h) ht _
 have D2:QoK (h.set t (Qc ((List.replicate n [vsl none 0 0]).flatten) 85)) (fun y=>y=t) t (List.replicate n []):=XQ.new ht n
 generalize h.set t (Qc ((List.replicate n [vsl none 0 0]).flatten) 85)=h2 at l2 D2
 intro b4 hb4 h5x
 have l5:h2.le (h2.set b4 (Qc [vi K.1,vi K.2.1,vi K.2.2,vsl (some ⟨t,0,none⟩) n n,vb false] 125)):=Hp.le_set (Hp.le_refl h2) hb4 _
 have e5:(h2.set b4 (Qc [vi K.1,vi K.2.1,vi K.2.2,vsl (some ⟨t,0,none⟩) n n,vb false] 125)) b4=some (Qc [vi K.1,vi K.2.1,vi K.2.2,vsl (some ⟨t,0,none⟩) n n,vb false] 125):=Hp.set_same _ _ _
 have eh5:h5x=h2.set b4 (Qc [vi K.1,vi K.2.1,vi K.2.2,vsl (some ⟨t,0,none⟩) n n,vb false] 125):=rfl
 clear_value h5x
 rw [←eh5] at l5 e5
 clear eh5
 have l05:=Hp.le_trans l2 l5
 have N5:=N.le l05
 have hb4h:h b4=none:=Hp.none_of_le l2 hb4
 have hX:Qm3 ⟨K,b4,t,List.replicate n [],false⟩ h5x (fun b=>b=b4∨b=t):=by
  refine⟨?_,fun y=>y=t,D2.le l5,fun e=>?_,rfl⟩
  ·unfold Yy
   simp only [List.length_replicate]
   exact e5
  ·exact D2.al t rfl (by rw [←e];exact hb4)
 intro J23
 have hJ:∀ j:Nat,j≤R.length→(∀ r ∈ R.take j,Qr r.k K)→(∀ r,R[j]?=some r→¬ Qr r.k K)→J23 (j:Int) h5x:=by
  intro j hj hz hna
  have hzk:∀ x ∈ (R.map (·.k)).take j,Qr x K:=by
   intro x hx
   rw [←List.map_take] at hx
   obtain⟨r,hr,rfl⟩:=List.mem_map.1 hx
   exact hz r hr
  -- one that is not there
  have put:(∀ r,R[j]?=some r→r.k≠K)→∃(a45:Option Addr) (n45 c45:Nat),(Rd Tryz.prog (Instr.sliceAt 49 (vsl a R.length c) none (some (vi (j:Int))) none) h5x (vsl a45 n45 c45))∧(Ql Tryz.prog (Builtin.append_ #[49,49] 49 #[(vsl none 0 0),(vsl a45 n45 c45)]) h5x fun v46 h47=>∃(a48:Option Addr) (n48 c48:Nat),v46=(vsl a48 n48 c48) ∧
    (∀(b49:Nat),h47 b49=none→let h50:Hp:=Hp.set h47 b49 (Qc [(vhp b4 0)] 116);(Ql Tryz.prog (Builtin.append_ #[49,49] 49 #[(vsl a48 n48 c48),(vsl (some (⟨b49,0,none⟩:Addr)) 1 1)]) h50 fun v51 h52=>∃(a53:Option Addr) (n53 c53:Nat),v51=(vsl a53 n53 c53) ∧
     (∃(a54:Option Addr) (n54 c54:Nat),(Rd Tryz.prog (Instr.sliceAt 49 (vsl a R.length c) (some (vi (j:Int))) none none) h52 (vsl a54 n54 c54))∧(Ql Tryz.prog (Builtin.append_ #[49,49] 49 #[(vsl a53 n53 c53),(vsl a54 n54 c54)]) h52 fun v55 h56=>∃(a57:Option Addr) (n57 c57:Nat),v55=(vsl a57 n57 c57)∧R' (Qf [(vsl a57 n57 c57),(vhp b4 0)]) h56))))):=by
   intro hne
   have hrow:SlP (fun r=>[Qle r]) h5x a R.length R:=⟨rfl,by rw [Qdw];exact N5.v.row⟩
   have rdh:=Wz (P:=Tryz.prog) (h:=h5x) (t:=49) (e:=116) (by kernel_rfl) (by kernel_rfl) (a:=a) (n:=R.length) (c:=c) (x:=(j:Int)) (by omega) (by omega)
   rw [Int.toNat_natCast] at rdh
   have htl:(R.take j).length=j:=by rw [List.length_take];omega
   refine⟨a,j,c,rdh,?_⟩
   have hst:=(hrow.take (sz:=1) (fun _=>rfl) hj).2
   rw [Qdw] at hst
   refine Qh.append Qno (Qh.nil (Hp.le_refl h5x) _ _) (m:=j) hst (by rw [List.length_map,htl,Nat.mul_one]) (QiH _) (by omega) (by omega) fun a48 c48 h47 O47 _ _=>⟨_,_,_,rfl,?_⟩
   intro b49 hb49 h50
   refine Qh.append Qno (Qh.set hb49 _ O47) (Qg.new _ _ [vhp b4 0] _) (m:=1) rfl (by intro u hu;rw [List.mem_singleton.1 hu];rfl) (by omega) (by omega) fun a53 c53 h52 O52 _ _=>⟨_,_,_,rfl,?_⟩
   have rdl:=YY (P:=Tryz.prog) (h:=h52) (t:=49) (e:=116) (by kernel_rfl) (by kernel_rfl) (a:=a) (n:=R.length) (c:=c) (x:=(j:Int)) (by omega) (by omega)
   rw [Int.toNat_natCast] at rdl
   refine⟨_,_,_,rdl,?_⟩
   have hsz:szT Tryz.prog 116=1:=by kernel_rfl
   rw [hsz]
   have hsd:=((hrow.le O52.le).drop (sz:=1) (fun _=>rfl) hj hcap).2
   rw [Qdw] at hsd
   refine Qh.append Qno O52 (m:=R.length - j) hsd (by rw [List.length_map,List.length_drop,Nat.mul_one]) (QiH _) (by omega) (by omega) fun a57 c57 h56 O56 _ _=>⟨_,_,_,rfl,?_⟩
   have hlen:0+j+1+(R.length - j)=R.length+1:=by omega
   have hRl:(R.take j++(⟨K,b4,t,List.replicate n [],false⟩:PN) :: R.drop j).length=R.length+1:=by rw [List.length_append,List.length_cons,List.length_drop,htl];omega
   rw [hlen] at O56 ⊢
   refine hnew j ⟨K,b4,t,List.replicate n [],false⟩ a57 c57 h56 hj rfl rfl rfl ?_ ⟨?_,?_⟩
   ·rw [QdH K (R.map (·.k)) j (by simpa using hj) hzk (fun x hx=>?_)]
    ·simp
    ·rw [List.getElem?_map,Option.map_eq_some_iff] at hx
     obtain⟨r,hr,rfl⟩:=hx
     exact⟨hna r hr,hne r hr⟩
   ·rw [hRl]
    have:=Qh.trans N5.le0 O56
    have e:[]++List.map Qle (List.take j R)++[vhp b4 0]++List.map Qle (List.drop j R)=(R.take j++(⟨K,b4,t,List.replicate n [],false⟩:PN) :: R.drop j).map fun r=>vhp r.b 0:=by
     rw [List.map_append,List.map_cons,List.nil_append,List.append_assoc]
     rfl
    rw [e] at this
    exact this
   ·obtain⟨F,E,m1,m2⟩:=N.i
    have al:=(Yh.fp YE R).al E
    have E5:=(Yh.fp YE R).keep E fun b _ o ho=>l05 b o ho
    have E6:=E5.cons hX (fun b hb hF=>by
     rcases hb with rfl|rfl
     ·exact al _ hF hb4h
     ·exact al _ hF ht)
    have E7:=(Yh.fp YE _).keep E6 fun b _ o ho=>O56.le b o ho
    have hp:(R.take j++(⟨K,b4,t,List.replicate n [],false⟩:PN) :: R.drop j).Perm (⟨K,b4,t,List.replicate n [],false⟩ :: R):=by
     have:=List.perm_middle (a:=(⟨K,b4,t,List.replicate n [],false⟩:PN)) (l₁:=R.take j) (l₂:=R.drop j)
     rw [List.take_append_drop] at this
     exact this
    refine⟨_,E7.perm hp,fun b hb=>?_,fun b hb hb2=>?_⟩
    ·rcases hb with (rfl|rfl)|hb
     ·exact Hp.none_of_le N.le0 hb4h
     ·exact Hp.none_of_le N.le0 ht
     ·exact m1 b hb
    ·exact(Yh.fp YE _).al E6 b hb (O56.new b hb2)
  by_cases hlt:j < R.length
  ·have hx:R[j]?=some R[j]:=List.getElem?_eq_getElem hlt
   have hnr:=hna _ hx
   generalize R[j]=r at hx hnr
   obtain⟨b,o,ea,hc⟩:=N5.ptr hx
   obtain⟨hcl,_⟩:=N5.cells hx
   have hbd:a=some ⟨b,o,none⟩∧(0:Int)≤j∧(j:Int) < ((R.length:Nat):Int):=⟨ea,by omega,by omega⟩
   refine⟨b,o,fun _=>hbd,some ⟨r.b,0,none⟩,fun _=>by rw [Int.toNat_natCast];exact hc,r.b,0,fun _=>rfl,r.k.1,fun _=>Wc hcl rfl,b,o,fun _=>hbd,some ⟨r.b,0,none⟩,fun _=>by rw [Int.toNat_natCast];exact hc,r.b,0,fun _=>rfl,r.k.2.1,r.k.2.2,fun _=>QQ hcl (by unfold Yy;simp),decide (r.k.2=K.2),fun _=>Xz,fun e=>?_,fun e=>?_⟩
   ·rw [decide_eq_true (show ((j:Nat):Int) < ((R.length:Nat):Int) by omega)] at e
    have e:(bif (bif true then decide (r.k.1=K.1) else false) then decide (r.k.2=K.2) else false)=true:=e
    have ek:r.k=K:=by
     cases h1:decide (r.k.1=K.1) with
     | false=>rw [h1] at e;cases e
     | true=>
      rw [h1] at e
      exact Prod.ext (of_decide_eq_true h1) (of_decide_eq_true e)
    refine⟨b,o,hbd,_,by rw [Int.toNat_natCast];exact hc,hf j r h5x hx ek (Qgg K _ j hzk (by rw [List.getElem?_map,hx,←ek];rfl)) N5⟩
   ·refine put fun r' hr'=>?_
    rw [hx] at hr'
    cases hr'
    intro ek
    rw [decide_eq_true (show ((j:Nat):Int) < ((R.length:Nat):Int) by omega)] at e
    have e:(bif (bif true then decide (r.k.1=K.1) else false) then decide (r.k.2=K.2) else false)=false:=e
    rw [ek,decide_eq_true rfl,decide_eq_true rfl] at e
    cases e
  ·have hf0:decide (((j:Nat):Int) < ((R.length:Nat):Int))=false:=decide_eq_false (by omega)
   refine⟨0,0,fun e=>(by rw [hf0] at e;cases e),none,fun e=>(by rw [hf0] at e;cases e),0,0,fun e=>(by rw [hf0] at e;cases e),0,fun e=>(by rw [hf0] at e;cases e),0,0,fun e=>(by rw [hf0] at e;cases e),none,fun e=>(by rw [hf0] at e;cases e),0,0,fun e=>(by rw [hf0] at e;cases e),0,0,fun e=>(by rw [hf0] at e;cases e),false,fun e=>(by rw [hf0] at e;cases e),fun e=>(by rw [hf0] at e;cases e),fun _=>?_⟩
   exact put fun r' hr'=>absurd (List.getElem?_eq_some_iff.1 hr').1 hlt
 clear_value J23
 refine⟨fun vs hh=>hh=h5x∧∃ j:Nat,vs=[vi j]∧j≤R.length∧∀ r ∈ R.take j,Qr r.k K,fun vs hh=>R.length - (Qn vs 0).toNat,⟨rfl,0,rfl,Nat.zero_le _,by simp⟩,?_⟩
 rintro vs hh ⟨rfl,j,rfl,hj,hz⟩
 refine⟨j,rfl,fun e=>?_,fun e=>?_⟩
 ·have hlt:j < R.length:=by have:=of_decide_eq_true e;omega
  have hx:R[j]?=some R[j]:=List.getElem?_eq_getElem hlt
  have tk:R.take (j+1)=R.take j++[R[j]]:=List.take_succ_eq_append_getElem hlt
  obtain⟨b,o,ea,hc⟩:=N5.ptr hx
  obtain⟨hcl,_⟩:=N5.cells hx
  refine⟨b,o,⟨ea,by omega,by omega⟩,_,by rw [Int.toNat_natCast];exact hc,?_⟩
  refine QlA (k:=(R[j]).k) (k':=K) (Wc hcl rfl) (Wc hcl rfl) (Wc hcl rfl) (Wc e5 rfl) (Wc e5 rfl) (Wc e5 rfl) ⟨_,rfl,fun e2=>?_,fun e2=>?_⟩
  ·have e2:¬ Qr (R[j]).k K:=by simpa using e2
   exact hJ j (by omega) hz fun r hr=>by rw [hx] at hr;cases hr;exact e2
  ·have e2:Qr (R[j]).k K:=by simpa using e2
   refine⟨_,isW (by unfold InR;omega),⟨rfl,j+1,rfl,by omega,fun r hr=>?_⟩,by simp [Qn];omega⟩
   rw [tk] at hr
   rcases List.mem_append.1 hr with h3|h3
   ·exact hz r h3
   ·rw [List.mem_singleton.1 h3];exact e2
 ·have hge:j=R.length:=by have:=of_decide_eq_false e;omega
  exact hJ j hj hz fun r hr=>absurd (List.getElem?_eq_some_iff.1 hr).1 (by omega)
end
theorem Yv.rebase {h0 h:Hp}{a:Option Addr}{c:Nat}{R:List PN}(N:Yv h0 h a c R){h1:Hp}(l1:h.le h1){g:Option Addr}(hg:∀ b o,g=some ⟨b,o,none⟩→h b=none):∃ hx:Hp,h0.le hx∧(∀{xs:List Value},Qg h1 g xs→Qg hx g xs)∧Yv hx h1 a c R:=by
 obtain⟨F,E,n1,n2⟩:=N.i
 have al:=(Yh.fp YE R).al E
 have alo:=(UV.fp _ _ _ _ _ _).al (⟨N.v.own,rfl⟩:UV 116 1 a R.length c (R.map fun r=>vhp r.b 0) h (fun b=>a=some ⟨b,0,none⟩))
 have N1:=N.le l1
 cases g with
 | none=>
  refine⟨h0,Hp.le_refl _,fun H=>?_,N1⟩
  rcases H with e|⟨b,o,e,_⟩
  ·exact .inl e
  ·cases e
 | some g=>
  have hgn:g.spot=none→h g.block=none:=fun hs=>hg g.block g.off (by obtain⟨x,y,z⟩:=g;simp only at hs;subst hs;rfl)
  by_cases hs:g.spot=none
  ·have hgn:=hgn hs
   refine⟨fun b=>if b=g.block then h1 b else h0 b,fun b o ho=>?_,fun H=>?_,?_⟩
   ·have:b≠g.block:=fun e=>by subst e;rw [N.le0 _ _ ho] at hgn;cases hgn
    simp only [if_neg this];exact ho
   ·rcases H with e|⟨b,o,e,hr⟩
    ·exact .inl e
    ·refine .inr ⟨b,o,e,?_⟩
     have hb:b=g.block:=by simp only [Option.some.injEq] at e;rw [e]
     unfold Hp.row at hr ⊢
     simp only [if_pos hb]
     exact hr
   ·have hle:Hp.le (fun b=>if b=g.block then h1 b else h0 b) h1:=by
     intro b o ho
     simp only at ho
     split at ho
     ·exact ho
     ·exact N1.le0 b o ho
    have hnew:∀ b,h b≠none→h0 b=none→(fun b=>if b=g.block then h1 b else h0 b) b=none:=by
     intro b hb hb0
     have:b≠g.block:=fun e=>by subst e;exact hb hgn
     simp only [if_neg this];exact hb0
    exact⟨⟨hle,N1.v.own,fun b hb=>hnew b (alo b hb) (N.v.new b hb)⟩,F,(Yh.fp YE R).keep E fun b _ o ho=>l1 b o ho,fun b hb=>hnew b (al b hb) (n1 b hb),n2⟩
  ·refine⟨h0,Hp.le_refl _,fun H=>?_,N1⟩
   rcases H with e|⟨b,o,e,_⟩
   ·exact .inl e
   ·simp only [Option.some.injEq] at e
    rw [e] at hs
    exact absurd rfl hs
end Go.Proofs.YtgmplfdecikgoaaGreatDoor
namespace Go.Proofs.YtgmplfdecikgoaaGreatDoor
open Go Go.Vc
def JX (u0:Int)(u1:Int)(u2:Int)(u3:Int)(h:Hp)(R:Value→Hp→Prop):Prop:=
 (Qa Tryz.prog 176 [vi u0,vi u2] h fun v1 h2=>∃ x3,v1=(vi x3)∧(Qa Tryz.prog 176 [vi u1,vi u3] h2 fun v4 h5=>∃ x6,v4=(vi x6)∧(∀ b7,h5 b7=none→let h8:= Hp.set h5 b7 (Qc [vi x3,vi x6] 3);(Qa Tryz.prog 175 [(vsl (some (⟨b7,0,none⟩:Addr)) 2 2)] h8 fun v9 h10=>∃ x11,v9=(vi x11)∧R (vi x11) h10))))
theorem Qcn {u0 u1 u2 u3 h R}(H:JX u0 u1 u2 u3 h R):Qa Tryz.prog 177 [vag [vi u0,vi u1],vag [vi u2,vi u3]] h R:=
 Qd (cfg:=⟨[],[],[(1,[0,1,2,3,5,6,7,8,4,9,10,11,12])]⟩) Qo mixed Tryz.func177 [.ag [.v (vi u0),.v (vi u1)],.ag [.v (vi u2),.v (vi u3)]] (by kernel_rfl) rfl (by kernel_rfl) H
def NH (u0:Option Addr)(u1 u2:Nat)(h:Hp)(R:Value→Hp→Prop):Prop:=
 (∃(I2:List Value→Hp→Prop) (m3:List Value→Hp→Nat),I2 [vi 0] h∧∀ vs4 h5,I2 vs4 h5→∃ x6,vs4=[vi x6]∧(((decide (x6 < (u1:Int)))=true→(∃ b9 o10,(u0=some ⟨b9,o10,none⟩∧(0:Int)≤x6∧x6 < (u1:Int))∧(∃ x11,(Hp.cell h5 b9 (o10+x6.toNat*1)=some (vi x11))∧(((decide (x11≠0))=true→R (vi x11) h5)∧((decide (x11≠0))=false→(∃ x13,(IsW x13 (x6+1))∧(I2 [vi x13] h5∧m3 [vi x13] h5 < m3 vs4 h5)))))))∧((decide (x6 < (u1:Int)))=false→R (vi 0) h5)))
theorem Qfu {u0 u1 u2 h R}(H:NH u0 u1 u2 h R):Qa Tryz.prog 175 [vsl u0 u1 u2] h R:=
 Qd (cfg:=⟨[],[(3,([8],[.one (.int .i64)],[]))],[]⟩) Qo mixed Tryz.func175 [.one (.v (vsl u0 u1 u2))] (by kernel_rfl) rfl (by kernel_rfl) H
def K5 (u0:Int)(u1:Int)(h:Hp)(R:Value→Hp→Prop):Prop:=
 (Qa Tryz.prog 199 [vi u0] h fun v1 h2=>∃ p3,v1=(vb p3)∧(Qa Tryz.prog 199 [vi u1] h2 fun v4 h5=>∃ p6,v4=(vb p6)∧((p3=true→((p6=true→R (vi 0) h5)∧(p6=false→R (vi (-1)) h5)))∧(p3=false→((p6=true→R (vi 1) h5)∧(p6=false→(((decide (u0 < u1))=true→R (vi (-1)) h5)∧((decide (u0 < u1))=false→(((decide (u0 > u1))=true→R (vi 1) h5)∧((decide (u0 > u1))=false→R (vi 0) h5))))))))))
theorem Qay {u0 u1 h R}(H:K5 u0 u1 h R):Qa Tryz.prog 176 [vi u0,vi u1] h R:=
 Qd (cfg:=⟨[],[],[]⟩) Qo mixed Tryz.func176 [.one (.v (vi u0)),.one (.v (vi u1))] (by kernel_rfl) rfl (by kernel_rfl) H
def J2 (u0:Int)(h:Hp)(R:Value→Hp→Prop):Prop:=
 R (vb (decide (u0≠u0))) h
theorem QbL {u0 h R}(H:J2 u0 h R):Qa Tryz.prog 199 [vi u0] h R:=
 Qd (cfg:=⟨[],[],[]⟩) Qo mixed Tryz.func199 [.one (.v (vi u0))] (by kernel_rfl) rfl (by kernel_rfl) H
theorem Jd {x y:Int}{h:Hp}{R:Value→Hp→Prop}(hK:R (vi (Qao x y)) h):Qa Tryz.prog 176 [vi x,vi y] h R:=by
 have nan:∀{z:Int} {K:Value→Hp→Prop},K (vb false) h→Qa Tryz.prog 199 [vi z] h K:=by
  intro z K hk
  refine QbL ?_
  unfold J2
  simpa using hk
 refine Qay ?_
 unfold K5
 unfold Qao at hK
 refine nan ⟨_,rfl,nan ⟨_,rfl,fun e=>by (cases e),fun _=>⟨fun e=>by (cases e),fun _=>⟨fun e=>?_,fun e=>⟨fun e2=>?_,fun e2=>?_⟩⟩⟩⟩⟩
 ·rw [if_pos (of_decide_eq_true e)] at hK;exact hK
 ·rw [if_neg (of_decide_eq_false e),if_pos (of_decide_eq_true e2)] at hK;exact hK
 ·rw [if_neg (of_decide_eq_false e),if_neg (of_decide_eq_false e2)] at hK;exact hK
theorem Qeh {x y:Int}{a:Option Addr}{c:Nat}{h:Hp}{R:Value→Hp→Prop}(S:SlI h a 2 [x,y])(hK:R (vi (if x≠0 then x else y)) h):Qa Tryz.prog 175 [vsl a 2 c] h R:=by
 refine Qfu ?_
 unfold NH
 refine⟨fun vs hh=>hh=h∧∃ i:Nat,vs=[vi i]∧i≤2∧(0 < i→x=0)∧(1 < i→y=0),fun vs hh=>2 - (Qn vs 0).toNat,⟨rfl,0,rfl,by decide,by simp,by simp⟩,?_⟩
 rintro vs hh ⟨rfl,i,rfl,hi,h1,h2⟩
 refine⟨i,rfl,fun e=>?_,fun e=>?_⟩
 ·have hlt:i < 2:=by have:=of_decide_eq_true e;omega
  obtain⟨b,o,ea,hc⟩:=S.get hlt
  refine⟨b,o,⟨ea,by omega,by omega⟩,_,hc,fun e=>?_,fun e=>⟨_,isW (by unfold InR;omega),⟨rfl,i+1,rfl,by omega,?_,?_⟩,by simp [Qn];omega⟩⟩
  ·match i,hlt with
   | 0,_=>
    have hx:x≠0:=of_decide_eq_true e
    rw [if_pos hx] at hK;exact hK
   | 1,_=>
    have hx:=h1 (by decide)
    rw [if_neg (by simp [hx])] at hK;exact hK
  ·intro _
   match i,hlt with
   | 0,_=>have:=of_decide_eq_false e;simpa using this
   | 1,_=>exact h1 (by decide)
  ·intro hi1
   match i,hlt with
   | 0,_=>omega
   | 1,_=>have:=of_decide_eq_false e;simpa using this
 ·have hge:i=2:=by have:=of_decide_eq_false e;omega
  subst hge
  have hx:=h1 (by decide)
  have hy:=h2 (by decide)
  rw [if_neg (by simp [hx]),hy] at hK
  exact hK
theorem QbR {a b:Int × Int}{h:Hp}{R:Value→Hp→Prop}(hK:∀ h',h.le h'→R (vi (QlB a b)) h'):Qa Tryz.prog 177 [vag (Qv a),vag (Qv b)] h R:=by
 refine Qcn ?_
 unfold JX
 refine Jd ⟨_,rfl,Jd ⟨_,rfl,?_⟩⟩
 intro b7 hb7 h8
 refine Qeh (x:=Qao a.1 b.1) (y:=Qao a.2 b.2) ⟨rfl,Qg.new _ _ [vi (Qao a.1 b.1),vi (Qao a.2 b.2)] _⟩ ⟨_,rfl,hK _ (Hp.le_set (Hp.le_refl h) hb7 _)⟩
end Go.Proofs.YtgmplfdecikgoaaGreatDoor
namespace Go.Vc
open Go
section
variable {P:Program}{h:Hp}
theorem Qfx (w:World)(dT sT ty elem:TypeId)(k g o dLen dCap:Nat)(a:Addr)(sLen sCap:Nat)(cur:Array Value)(t:TypeId)(cs:List Value)
  (hu:P.underlying dT=some (.slice elem)) (hs:(P.info? elem).map (·.size)=some k)
  (hg:w.heap[g]?=some (.cells cur t (0,0))) (hn:cs.length=Nat.min sLen dLen*k)
  (hsrc:∀ j v,cs[j]?=some v→w.cell? (a.add j)=some v) (hfit:o+cs.length≤cur.size) (h1:∀ v ∈ cs,v.oneCell'=true) :
  (Builtin.copy_ #[dT,sT] ty #[.slice (some ⟨g,o,none⟩) dLen dCap,.slice (some a) sLen sCap]).run P w =
   .ok (goInt (Nat.min sLen dLen)) (w.setRow g (cur.toList.take o++cs++cur.toList.drop (o+cs.length)).toArray):=by
 have hl:=run_firstCells_some (P:=P) w k (Nat.min sLen dLen) a sLen sCap cs hn hsrc
 have hst:=run_storeCells_at P g o t cs 0 cur w hg (by simpa using hfit) h1
 cases hq:P.info? elem with
 | none=>simp [hq] at hs
 | some i=>
  have hi:i.size=k:=by simpa [hq] using hs
  simp [Builtin.copy_,run_underlying hu,Builtin.lenOf,sizeOf,typeInfo,hq,hi,hl,hst]
theorem Qlf {dT sT ty e:TypeId}(hu:P.underlying dT=some (.slice e)){k:Nat}(hi:(P.info? e).map (·.size)=some k){g o dLen dCap:Nat}{a2:Option Addr}{sLen c2:Nat}{L ys:List Value}{t:TypeId}(hg:h g=some (Qc L t))(H:Qg h a2 ys)(hl:ys.length=Nat.min sLen dLen*k)(hfit:o+ys.length≤L.length)
  (h1:∀ u ∈ ys,u.oneCell'=true) (hne:ys≠[]) {K:Value→Hp→Prop} (hK:K (vi (Nat.min sLen dLen:Nat)) (h.set g (Qc (QP L o ys) t))):Ql P (Builtin.copy_ #[dT,sT] ty #[vsl (some ⟨g,o,none⟩) dLen dCap,vsl a2 sLen c2]) h K:=by
 intro w hs
 rcases H with h4|⟨b2,o2,rfl,hr⟩
 ·exact absurd h4 hne
 ·have hrun:=Qfx (P:=P) w dT sT ty e k g o dLen dCap ⟨b2,o2,none⟩ sLen c2 L.toArray t ys hu hi (hs g _ hg) hl (fun j v hj=>by rw [X3];exact Wu (Hp.row_cell hr hj) hs) (by simpa using hfit) h1
  exact⟨_,_,_,hrun,Qac hs hg,Qcm hg,hK⟩
theorem Qjx {t ty e:TypeId}{k bytes:Nat}(T:ElT P t e k bytes){z:List Value}(hz:(XF P e).map Qu=some z)(h1:∀ u ∈ z,u.oneCell'=true){g o n c:Nat}{L:List Value}(hn:0 < n)(hg:h g=some (Qc L e))(hfit:o+n*k≤L.length){K:Value→Hp→Prop}
  (hK:K (Qf []) (h.set g (Qc (QP L o ((List.replicate n z).flatten)) e))):Ql P (Builtin.clear_ #[t] ty #[vsl (some ⟨g,o,none⟩) n c]) h K:=by
 intro w hs
 obtain⟨i,zv,hi,hiz,hsz,hby,hzs⟩:=T.el
 have hzl:z=zv.cells.toList:=by
  unfold XF at hz
  rw [hi] at hz
  simp only [Option.bind_some,hiz,Option.map_some,Option.some.injEq] at hz
  rw [←hz,JD]
 have hzl2:z.length=k:=by rw [hzl,Array.length_toList];exact hzs
 have hfl:(Builtin.zeroCells zv.cells n).toList=(List.replicate n z).flatten:=by
  have e1:Builtin.zeroCells zv.cells n=((List.replicate n zv.cells.toList).flatten).toArray:=Me zv.cells n (by rw [hzs];exact T.pos)
  rw [e1,hzl]
 have hlen:((List.replicate n z).flatten).length=n*k:=by rw [List.length_flatten];simp [hzl2]
 have h1':∀ u ∈ (List.replicate n z).flatten,u.oneCell'=true:=by
  intro u hu
  obtain⟨l,hl,hu⟩:=List.mem_flatten.1 hu
  rw [List.eq_of_mem_replicate hl] at hu
  exact h1 u hu
 have hst:=run_storeCells_at P g o e ((List.replicate n z).flatten) 0 L.toArray w (hs g _ hg) (by simp only [Nat.add_zero,List.size_toArray];rw [hlen];exact hfit) h1'
 have hrun:(Builtin.clear_ #[t] ty #[vsl (some ⟨g,o,none⟩) n c]).run P w=.ok (Qf []) (w.setRow g (QP L o ((List.replicate n z).flatten)).toArray):=by
  obtain⟨m,rfl⟩:∃ m,n=m+1:=⟨n - 1,by omega⟩
  simp only [Nat.add_zero] at hst
  simp [Builtin.clear_,run_underlying T.sl,zeroValue,typeInfo,hi,hiz,hfl,hst,QP]
 exact⟨_,_,_,hrun,Qac hs hg,Qcm hg,hK⟩
theorem Qch {t tn ty e:TypeId}{k bytes:Nat}(T:ElT P t e k bytes)(htn:P.underlying tn=some (.int .i64)){z:List Value}(hz:(XF P e).map Qu=some z){a:Option Addr}{n c m:Nat}{xs:List Value}(H:Qg h a xs)(hxs:xs.length=n*k)(hm:0 < m)(hc:c < n+m)
  (hb:(n+m)*bytes≤140737488355328) (h63:n+m≤140737488355328) {K:Value→Hp→Prop}
  (hK:∀ a' c' h',Qh h h' e k a' (n+m) c' (xs++(List.replicate m z).flatten)→K (vsl a' (n+m) c') h') :
  Ql P (Builtin.append_ #[t,tn] ty #[vsl a n c,vi (m:Int)]) h K:=by
 intro w hs
 obtain⟨i,zv,hi,hiz,rfl,rfl,hzs⟩:=T.el
 have hzl:z=zv.cells.toList:=by
  unfold XF at hz
  rw [hi] at hz
  simp only [Option.bind_some,hiz,Option.map_some,Option.some.injEq] at hz
  rw [←hz,JD]
 have hzl2:z.length=i.size:=by rw [hzl,Array.length_toList];exact hzs
 have hfl:∀ m,(Builtin.zeroCells zv.cells m).toList=(List.replicate m z).flatten:=fun m=>by
  have e1:Builtin.zeroCells zv.cells m=((List.replicate m zv.cells.toList).flatten).toArray:=Me zv.cells m (by rw [hzs];exact T.pos)
  rw [e1,hzl]
 have hlen:((List.replicate m z).flatten).length=m*i.size:=by rw [List.length_flatten];simp [hzl2]
 have hold:(Builtin.firstCells i.size n (.slice a n c)).run P w.drew=.ok xs.toArray w.drew:=by
  cases a with
  | none=>
   have:xs=[]:=by
    rcases H with h4|⟨b,o,e,_⟩
    ·exact h4
    ·cases e
   subst this
   exact run_firstCells_none _ _ _ _ _
  | some ad=>
   have hsrc:=Qg.cells hs H
   exact run_firstCells_some w.drew i.size n ad n c xs hxs (fun j v hj=>hsrc j v hj)
 have hbm:m*i.bytes≤(n+m)*i.bytes:=Nat.mul_le_mul_right _ (by omega)
 have hr:=Lib.run_append_grow_zeros (P:=P) w t tn ty e i zv .i64 .i64 T.sl htn hi hiz a n c xs hold m hm T.pos hc (by omega) (by omega) (growslice_fits hc hb)
 have hno:h w.heap.size=none:=Sub.none hs
 refine⟨_,_,_,hr,YX hs _,Xr h w _,hK _ _ _ ⟨Hp.le_set (Hp.le_refl h) hno _,⟨?_,.inr ⟨w.heap.size,_,rfl,Hp.set_same _ _ _,grownCap_ge w (n+m) c e,grownCap_le_maxLen w (n+m) c e (by simp only [maxLen];omega),?_,?_⟩⟩,fun g hg=>by cases hg;exact hno⟩⟩
 ·rw [List.length_append,hlen,hxs,Nat.add_mul]
 ·have hge:=grownCap_ge w (n+m) c e
  simp only [Array.size_append,List.size_toArray,size_zeroCells,hzs,hxs,←Nat.add_mul]
  congr 1
  omega
 ·simp only [Array.toList_append,hfl m]
  rw [List.take_left' (by rw [List.length_append,hlen,hxs,Nat.add_mul])]
theorem QhG {f:FuncId}{fn:Func}{tS tR e:TypeId}(hf:P.funcs[f]?=some fn)(hname:(fn.name == "runtime.NumGoroutine")=false)(hb:fn.body.isNone=true)(hn:Extern.findNext fn=none)(he:Extern.find fn=some (Extern.SlicesOverlaps.overlaps #[tS,tS] #[tR]))
  (ht:P.underlying tS=some (.slice e)) (hi:(P.info? e).isSome=true) {b1 o1 b2 o2 la ca lb cb:Nat} (hne:b1≠b2) {L1 L2:List Value} {t1 t2:TypeId} (h1:h b1=some (Qc L1 t1)) (h2:h b2=some (Qc L2 t2)) (hL2:L2≠[]) {K:Value→Hp→Prop} (hK:K (vb false) h) :
  Qga P f [vsl (some ⟨b1,o1,none⟩) la ca,vsl (some ⟨b2,o2,none⟩) lb cb] h K:=by
 intro w hs
 obtain⟨i,hi⟩:=Option.isSome_iff_exists.1 hi
 have w1:=hs b1 _ h1
 have w2:=hs b2 _ h2
 refine⟨vb false,w,h,?_,hs,Fr.refl h w,hK⟩
 rw [run_callFunc_extern hf hname hb hn he]
 have:=Lib.run_overlaps_apart (P:=P) w tS tR e ht i.size (fun w=>by simp [sizeOf,typeInfo,hi]) ⟨b1,o1,none⟩ ⟨b2,o2,none⟩ la ca lb cb hne t1 t2 L1.length L2.length (by simp [World.shape?,w1]) (by simp [World.shape?,w2]) (by simpa using hL2) (by simp [World.frozen?,w1]) (by simp [World.frozen?,w1])
 show ((Extern.SlicesOverlaps.overlaps #[tS,tS] #[tR] #[.slice (some ⟨b1,o1,none⟩) la ca,.slice (some ⟨b2,o2,none⟩) lb cb]).run P w).andThen _=_
 rw [this]
 rfl
theorem Qpp {t e ty:TypeId}(ht:P.underlying t=some (.slice e)){a:Option Addr}{n c:Nat}:Rd P (Builtin.cap_ #[t] ty #[vsl a n c]) h (vi (c:Int)):=by
 intro w _
 simp [Builtin.cap_,run_underlying ht,goInt]
theorem Qh.grow {h0:Hp}{e:TypeId}{sz n m c:Nat}{a:Option Addr}{xs:List Value}(O:Qh h0 h e sz a n c xs)(h1:n≤m)(h2:m≤c):∃ ys,ys.length=(m - n)*sz∧Qh h0 h e sz a m c (xs++ys):=by
 obtain⟨l,⟨hl,O'⟩,nw⟩:=O
 rcases O' with ⟨ha,hn,hc⟩|⟨g,cur,ha,hg,h3,h4,h5,h6⟩
 ·have:m=n:=by omega
  subst this
  exact⟨[],by simp,l,by rw [List.append_nil];exact⟨hl,.inl ⟨ha,hn,hc⟩⟩,nw⟩
 ·have hb:n*sz≤m*sz:=Nat.mul_le_mul_right _ h1
  have hb2:m*sz≤c*sz:=Nat.mul_le_mul_right _ h2
  have hcl:cur.toList.length=c*sz:=by rw [Array.length_toList];exact h5
  refine⟨(cur.toList.take (m*sz)).drop (n*sz),by rw [List.length_drop,List.length_take,hcl,Nat.min_eq_left hb2,Nat.sub_mul],l,⟨?_,.inr ⟨g,cur,ha,hg,h2,h4,h5,?_⟩⟩,nw⟩
  ·rw [List.length_append,hl,List.length_drop,List.length_take,hcl,Nat.min_eq_left hb2]
   omega
  ·have h7:(cur.toList.take (m*sz)).take (n*sz)=xs:=by rw [List.take_take,Nat.min_eq_left hb];exact h6
   have h8:=List.take_append_drop (n*sz) (cur.toList.take (m*sz))
   rw [h7] at h8
   exact h8.symm
theorem Qh.blk {h0:Hp}{e:TypeId}{sz n c:Nat}{a:Option Addr}{xs:List Value}(O:Qh h0 h e sz a n c xs)(hc:0 < c)(hz:0 < sz):∃ g L,a=some ⟨g,0,none⟩∧h g=some (Qc L e)∧L≠[]:=by
 obtain⟨l,⟨hl,O'⟩,nw⟩:=O
 rcases O' with ⟨ha,hn,hc'⟩|⟨g,cur,ha,hg,h3,h4,h5,h6⟩
 ·omega
 ·refine⟨g,cur.toList,ha,by rw [hg],fun e2=>?_⟩
  have:=congrArg List.length e2
  rw [Array.length_toList,h5] at this
  have:=Nat.mul_pos hc hz
  simp at *
  omega
theorem Qh.copy {h0:Hp}{dT sT ty e:TypeId}(hu:P.underlying dT=some (.slice e)){sz:Nat}(hi:(P.info? e).map (·.size)=some sz){n c:Nat}{a:Option Addr}{xs:List Value}(O:Qh h0 h e sz a n c xs){g j dLen dCap:Nat}(ha:a=some ⟨g,0,none⟩){a2:Option Addr}{sLen c2:Nat}{ys:List Value}(H:Qg h a2 ys)
  (hl:ys.length=Nat.min sLen dLen*sz) (hfit:j+ys.length≤n*sz) (h1:∀ u ∈ ys,u.oneCell'=true) (hne:ys≠[]) {K:Value→Hp→Prop}
  (hK:∀ h',Qh h0 h' e sz a n c (QP xs j ys)→(∀ b o,b≠g→h b=some o→h' b=some o)→K (vi (Nat.min sLen dLen:Nat)) h'):Ql P (Builtin.copy_ #[dT,sT] ty #[vsl (some ⟨g,j,none⟩) dLen dCap,vsl a2 sLen c2]) h K:=by
 obtain⟨l,⟨hl0,O'⟩,nw⟩:=O
 rcases O' with ⟨ha',_⟩|⟨g',cur,ha',hg,h3,h4,h5,h6⟩
 ·rw [ha'] at ha;cases ha
 ·rw [ha'] at ha
  cases ha
  have hb:n*sz≤c*sz:=Nat.mul_le_mul_right _ h3
  have hcl:cur.toList.length=c*sz:=by rw [Array.length_toList];exact h5
  refine Qlf hu hi (L:=cur.toList) (t:=e) (by rw [hg]) H hl (by omega) h1 hne ?_
  refine hK _ ⟨fun b o ho=>?_,⟨?_,.inr ⟨g,_,ha',Hp.set_same _ _ _,h3,h4,?_,?_⟩⟩,nw⟩ fun b o hne ho=>(Hp.set_other h _ hne).trans ho
  ·have hne:b≠g:=fun q=>by subst q;rw [nw b ha'] at ho;cases ho
   exact(Hp.set_other h _ hne).trans (l b o ho)
  ·rw [XK _ _ _ (by omega)];exact hl0
  ·show (QP cur.toList j ys).length=_
   rw [XK _ _ _ (by omega)];exact hcl
  ·show (QP cur.toList j ys).take (n*sz)=_
   rw [Qco _ _ _ _ hfit (by rw [hcl];exact hb),h6]
theorem Qh.clear {h0:Hp}{t ty e:TypeId}{sz bytes:Nat}(T:ElT P t e sz bytes){z:List Value}(hz:(XF P e).map Qu=some z)(h1:∀ u ∈ z,u.oneCell'=true)(hzl:z.length=sz){n c:Nat}{a:Option Addr}{xs:List Value}(O:Qh h0 h e sz a n c xs){g j k dCap:Nat}(ha:a=some ⟨g,0,none⟩)(hk:0 < k)(hfit:j+k*sz≤n*sz){K:Value→Hp→Prop}
  (hK:∀ h',Qh h0 h' e sz a n c (QP xs j ((List.replicate k z).flatten))→K (Qf []) h'):Ql P (Builtin.clear_ #[t] ty #[vsl (some ⟨g,j,none⟩) k dCap]) h K:=by
 have hlen:((List.replicate k z).flatten).length=k*sz:=by rw [List.length_flatten];simp [hzl]
 obtain⟨l,⟨hl0,O'⟩,nw⟩:=O
 rcases O' with ⟨ha',_⟩|⟨g',cur,ha',hg,h3,h4,h5,h6⟩
 ·rw [ha'] at ha;cases ha
 ·rw [ha'] at ha
  cases ha
  have hb:n*sz≤c*sz:=Nat.mul_le_mul_right _ h3
  have hcl:cur.toList.length=c*sz:=by rw [Array.length_toList];exact h5
  refine Qjx T hz h1 hk (L:=cur.toList) (by rw [hg]) (by omega) ?_
  refine hK _ ⟨fun b o ho=>?_,⟨?_,.inr ⟨g,_,ha',Hp.set_same _ _ _,h3,h4,?_,?_⟩⟩,nw⟩
  ·have hne:b≠g:=fun q=>by subst q;rw [nw b ha'] at ho;cases ho
   exact(Hp.set_other h _ hne).trans (l b o ho)
  ·rw [XK _ _ _ (by omega)];exact hl0
  ·show (QP cur.toList j _).length=_
   rw [XK _ _ _ (by omega)];exact hcl
  ·show (QP cur.toList j _).take (n*sz)=_
   rw [Qco _ _ _ _ (by omega) (by rw [hcl];exact hb),h6]
end
end Go.Vc
namespace Go.Proofs.YtgmplfdecikgoaaGreatDoor
open Go Go.Vc
def KE (u0:Option Addr)(u1 u2:Nat)(u3:Int)(u4:Int)(u5:Int)(h:Hp)(R:Value→Hp→Prop):Prop:=
 (∀ b1,h b1=none→let h2:= Hp.set h b1 (Qc [vi u3] 3);(Qa Tryz.prog 173 [vsl u0 u1 u2,vag [vi u4,vi u5],(Value.func (.func 174) #[] #[vhp b1 0])] h2 fun v3 h4=>∃ x5 p6,v3=(Qf [vi x5,vb p6])∧R (Qf [vi x5,vb p6]) h4))
theorem MV {u0 u1 u2 u3 u4 u5 h R}(H:KE u0 u1 u2 u3 u4 u5 h R):Qa Tryz.prog 140 [vag [vsl u0 u1 u2],vi u3,vag [vi u4,vi u5]] h R:=
 Qd (cfg:=⟨[4],[],[]⟩) Qo mixed Tryz.func140 [.ag [.v (vsl u0 u1 u2)],.one (.v (vi u3)),.ag [.v (vi u4),.v (vi u5)]] (by kernel_rfl) rfl (by kernel_rfl) H
def Wj (u0:Int)(u1:Int)(u2:Int)(u3:Option Addr)(u4 u5:Nat)(u6:Bool)(u7:Int)(u8:Int)(f_0b f_0o:Nat)(h:Hp)(R:Value→Hp→Prop):Prop:=
 (∃ x1,(Hp.cell h f_0b f_0o=some (vi x1))∧(Qa Tryz.prog 176 [vi u0,vi x1] h fun v2 h3=>∃ x4,v2=(vi x4)∧(Qa Tryz.prog 177 [vag [vi u1,vi u2],vag [vi u7,vi u8]] h3 fun v5 h6=>∃ x7,v5=(vi x7)∧(∀ b8,h6 b8=none→let h9:= Hp.set h6 b8 (Qc [vi x4,vi x7] 3);(Qa Tryz.prog 175 [(vsl (some (⟨b8,0,none⟩:Addr)) 2 2)] h9 fun v10 h11=>∃ x12,v10=(vi x12)∧R (vi x12) h11)))))
theorem Vw {u0 u1 u2 u3 u4 u5 u6 u7 u8 f_0b f_0o h R}(H:Wj u0 u1 u2 u3 u4 u5 u6 u7 u8 f_0b f_0o h R):Qa Tryz.prog 174 [vag [vi u0,vi u1,vi u2,vsl u3 u4 u5,vb u6],vag [vi u7,vi u8],vhp f_0b f_0o] h R:=
 Qd (cfg:=⟨[],[],[(1,[0,1,2,4,5,6,3,7,8,9,10])]⟩) Qo mixed Tryz.func174 [.ag [.v (vi u0),.v (vi u1),.v (vi u2),.v (vsl u3 u4 u5),.v (vb u6)],.ag [.v (vi u7),.v (vi u8)],.one (.hp f_0b f_0o)] (by kernel_rfl) rfl (by kernel_rfl) H
def QH (u0:Option Addr)(u1 u2:Nat)(u3:Int)(u4:Int)(u5:Value)(h:Hp)(R:Value→Hp→Prop):Prop:=
 (∃(I2:List Value→Hp→Prop) (m3:List Value→Hp→Nat),I2 [vi 0,(vi (u1:Int))] h∧∀ vs4 h5,I2 vs4 h5→∃ x6 x7,vs4=[vi x6,vi x7]∧(((decide (x6 < x7))=true→(∃ x10,(IsW x10 (x6+x7))∧(∃ x11,(Rd Tryz.prog (binOp .shr 250 (vk .u64 (IntKind.wrap .u64 x10)) (vk .u64 1)) h5 (vk .u64 x11))∧(∃ b12 o13,(u0=some ⟨b12,o13,none⟩∧(0:Int)≤(IntKind.wrap .i64 x11)∧(IntKind.wrap .i64 x11) < (u1:Int))∧(∃ x14 x15 x16 a17 n17 c17 p18,(Hp.row h5 b12 (o13+(IntKind.wrap .i64 x11).toNat*5) 5=some [vi x14,vi x15,vi x16,vsl a17 n17 c17,vb p18])∧(Yt Tryz.prog u5 [vag [vi x14,vi x15,vi x16,vsl a17 n17 c17,vb p18],vag [vi u3,vi u4]] h5 fun v19 h20=>∃ x21,v19=(vi x21)∧(((decide (x21 < 0))=true→(∃ x22,(IsW x22 ((IntKind.wrap .i64 x11)+1))∧(I2 [vi x22,vi x7] h20∧m3 [vi x22,vi x7] h20 < m3 vs4 h5)))∧((decide (x21 < 0))=false→(I2 [vi x6,(vi (IntKind.wrap .i64 x11))] h20∧m3 [vi x6,(vi (IntKind.wrap .i64 x11))] h20 < m3 vs4 h5)))))))))∧((decide (x6 < x7))=false→(∃ b23 o24,((decide (x6 < (u1:Int)))=true→(u0=some ⟨b23,o24,none⟩∧(0:Int)≤x6∧x6 < (u1:Int)))∧(∃ x25 x26 x27 a28 n28 c28 p29,((decide (x6 < (u1:Int)))=true→Hp.row h5 b23 (o24+x6.toNat*5) 5=some [vi x25,vi x26,vi x27,vsl a28 n28 c28,vb p29])∧(∃(J30:SV→Hp→Prop),((decide (x6 < (u1:Int)))=true→(Yt Tryz.prog u5 [vag [vi x25,vi x26,vi x27,vsl a28 n28 c28,vb p29],vag [vi u3,vi u4]] h5 fun v31 h32=>∃ x33,v31=(vi x33)∧J30 (.t (.one (.v (vi x33)))) h32))∧(¬((decide (x6 < (u1:Int)))=true)→J30 (.t (.one (.v (vi 0)))) h5)∧∀ h34 x35,J30 (.t (.one (.v (vi x35)))) h34→R (Qf [vi x6,(vb (bif (decide (x6 < (u1:Int))) then(decide (x35=0)) else false))]) h34))))))
theorem Zt {u0 u1 u2 u3 u4 u5 h R}(H:QH u0 u1 u2 u3 u4 u5 h R):Qa Tryz.prog 173 [vsl u0 u1 u2,vag [vi u3,vi u4],u5] h R:=
 Qd (cfg:=⟨[],[(3,([9,10],[.one (.int .i64),.one (.int .i64)],[]))],[(5,[0,1,2,3,4,5,6,7]),(8,[0,1,2,3,4,5,6,7,8,9,10,11,12,13,14,15])]⟩) Qo mixed Tryz.func173 [.one (.v (vsl u0 u1 u2)),.ag [.v (vi u3),.v (vi u4)],.one (.v u5)] (by kernel_rfl) rfl (by kernel_rfl) H
def ZD (u0:Option Addr)(u1 u2:Nat)(h:Hp)(R:Value→Hp→Prop):Prop:=
 (∃ p1,(Rd Tryz.prog ((eqGuard .eql 64 (.tmp 3) (.const (vsl none 0 0)) (vsl u0 u1 u2) (vsl none 0 0) >>= fun _=>binOp .eql 64 (vsl u0 u1 u2) (vsl none 0 0))) h (vb p1))∧((p1=true→R (vsl none 0 0) h)∧(p1=false→(∀ b3,h b3=none→let h4:= Hp.set h b3 (Qc [] 83);(Ql Tryz.prog (Builtin.append_ #[64,64] 64 #[(vsl (some (⟨b3,0,none⟩:Addr)) 0 0),vsl u0 u1 u2]) h4 fun v5 h6=>∃ a7 n7 c7,v5=(vsl a7 n7 c7)∧R (vsl a7 n7 c7) h6)))))
theorem Y8 {u0 u1 u2 h R}(H:ZD u0 u1 u2 h R):Qa Tryz.prog 95 [vsl u0 u1 u2] h R:=
 Qd (cfg:=⟨[],[],[]⟩) Qo mixed Tryz.func95 [.one (.v (vsl u0 u1 u2))] (by kernel_rfl) rfl (by kernel_rfl) H
def ZA (u0:Option Addr)(u1 u2:Nat)(h:Hp)(R:Value→Hp→Prop):Prop:=
 (∃ p1,(Rd Tryz.prog ((eqGuard .eql 81 (.tmp 3) (.const (vsl none 0 0)) (vsl u0 u1 u2) (vsl none 0 0) >>= fun _=>binOp .eql 81 (vsl u0 u1 u2) (vsl none 0 0))) h (vb p1))∧((p1=true→R (vsl none 0 0) h)∧(p1=false→(∀ b3,h b3=none→let h4:= Hp.set h b3 (Qc [] 101);(Ql Tryz.prog (Builtin.append_ #[81,81] 81 #[(vsl (some (⟨b3,0,none⟩:Addr)) 0 0),vsl u0 u1 u2]) h4 fun v5 h6=>∃ a7 n7 c7,v5=(vsl a7 n7 c7)∧R (vsl a7 n7 c7) h6)))))
theorem Y0 {u0 u1 u2 h R}(H:ZA u0 u1 u2 h R):Qa Tryz.prog 143 [vsl u0 u1 u2] h R:=
 Qd (cfg:=⟨[],[],[]⟩) Qo mixed Tryz.func143 [.one (.v (vsl u0 u1 u2))] (by kernel_rfl) rfl (by kernel_rfl) H
def Zy (u0:Option Addr)(u1 u2:Nat)(u3:Int)(u4:Option Addr)(u5 u6:Nat)(h:Hp)(R:Value→Hp→Prop):Prop:=
 (∃ a1 n1 c1,(Rd Tryz.prog (Instr.sliceAt 64 (vsl u0 u1 u2) (some (vi u3)) none none) h (vsl a1 n1 c1))∧(((decide ((u5:Int)=0))=true→R (vsl u0 u1 u2) h)∧((decide ((u5:Int)=0))=false→(((decide (u3=(u1:Int)))=true→(Ql Tryz.prog (Builtin.append_ #[64,64] 64 #[vsl u0 u1 u2,vsl u4 u5 u6]) h fun v3 h4=>∃ a5 n5 c5,v3=(vsl a5 n5 c5)∧R (vsl a5 n5 c5) h4))∧((decide (u3=(u1:Int)))=false→(∃ x7,(IsW x7 ((u1:Int)+(u5:Int)))∧(∃ x8,(Rd Tryz.prog (Builtin.cap_ #[64] 3 #[vsl u0 u1 u2]) h (vi x8))∧(((decide (x7 > x8))=true→(∃ a9 n9 c9,(Rd Tryz.prog (Instr.sliceAt 64 (vsl u0 u1 u2) none (some (vi u3)) none) h (vsl a9 n9 c9))∧(∃ x10,(IsW x10 ((u1:Int)+(u5:Int)))∧(∃ x11,(IsW x11 (x10 - u3))∧(Ql Tryz.prog (Builtin.append_ #[64,3] 64 #[vsl a9 n9 c9,vi x11]) h fun v12 h13=>∃ a14 n14 c14,v12=(vsl a14 n14 c14)∧(∃ a15 n15 c15,(Rd Tryz.prog (Instr.sliceAt 64 (vsl a14 n14 c14) (some (vi u3)) none none) h13 (vsl a15 n15 c15))∧(Ql Tryz.prog (Builtin.copy_ #[64,64] 3 #[vsl a15 n15 c15,vsl u4 u5 u6]) h13 fun v16 h17=>∃ x18,v16=(vi x18)∧(∃ x19,(IsW x19 (u3+(u5:Int)))∧(∃ a20 n20 c20,(Rd Tryz.prog (Instr.sliceAt 64 (vsl a14 n14 c14) (some (vi x19)) none none) h17 (vsl a20 n20 c20))∧(∃ a21 n21 c21,(Rd Tryz.prog (Instr.sliceAt 64 (vsl u0 u1 u2) (some (vi u3)) none none) h17 (vsl a21 n21 c21))∧(Ql Tryz.prog (Builtin.copy_ #[64,64] 3 #[vsl a20 n20 c20,vsl a21 n21 c21]) h17 fun v22 h23=>∃ x24,v22=(vi x24)∧R (vsl a14 n14 c14) h23)))))))))))∧((decide (x7 > x8))=false→(∃ x26,(IsW x26 ((u1:Int)+(u5:Int)))∧(∃ a27 n27 c27,(Rd Tryz.prog (Instr.sliceAt 64 (vsl u0 u1 u2) none (some (vi x26)) none) h (vsl a27 n27 c27))∧(∃ x28,(IsW x28 (u3+(u5:Int)))∧(∃ a29 n29 c29,(Rd Tryz.prog (Instr.sliceAt 64 (vsl a27 n27 c27) (some (vi x28)) none none) h (vsl a29 n29 c29))∧(Qga Tryz.prog 178 [vsl u4 u5 u6,vsl a29 n29 c29] h fun v30 h31=>∃ p32,v30=(vb p32)∧(((!p32)=true→(∃ x33,(IsW x33 (u3+(u5:Int)))∧(∃ a34 n34 c34,(Rd Tryz.prog (Instr.sliceAt 64 (vsl a27 n27 c27) (some (vi x33)) none none) h31 (vsl a34 n34 c34))∧(∃ a35 n35 c35,(Rd Tryz.prog (Instr.sliceAt 64 (vsl a27 n27 c27) (some (vi u3)) none none) h31 (vsl a35 n35 c35))∧(Ql Tryz.prog (Builtin.copy_ #[64,64] 3 #[vsl a34 n34 c34,vsl a35 n35 c35]) h31 fun v36 h37=>∃ x38,v36=(vi x38)∧(∃ a39 n39 c39,(Rd Tryz.prog (Instr.sliceAt 64 (vsl a27 n27 c27) (some (vi u3)) none none) h37 (vsl a39 n39 c39))∧(Ql Tryz.prog (Builtin.copy_ #[64,64] 3 #[vsl a39 n39 c39,vsl u4 u5 u6]) h37 fun v40 h41=>∃ x42,v40=(vi x42)∧R (vsl a27 n27 c27) h41)))))))∧((!p32)=false→(∃ a44 n44 c44,(Rd Tryz.prog (Instr.sliceAt 64 (vsl a27 n27 c27) (some (vi (u1:Int))) none none) h31 (vsl a44 n44 c44))∧(Ql Tryz.prog (Builtin.copy_ #[64,64] 3 #[vsl a44 n44 c44,vsl u4 u5 u6]) h31 fun v45 h46=>∃ x47,v45=(vi x47)∧(∃ a48 n48 c48,(Rd Tryz.prog (Instr.sliceAt 64 (vsl a27 n27 c27) (some (vi u3)) none none) h46 (vsl a48 n48 c48))∧(Qa Tryz.prog 179 [vsl a48 n48 c48,(vi (u5:Int))] h46 fun v49 h50=>v49=(Qf [])∧R (vsl a27 n27 c27) h50))))))))))))))))))))
theorem YR {u0 u1 u2 u3 u4 u5 u6 h R}(H:Zy u0 u1 u2 u3 u4 u5 u6 h R):Qa Tryz.prog 142 [vsl u0 u1 u2,vi u3,vsl u4 u5 u6] h R:=
 Qd (cfg:=⟨[],[],[(11,[0,1,2,3,4,5,6,7,8]),(15,[0,1,2,3,4,5,6,7,8])]⟩) Qo mixed Tryz.func142 [.one (.v (vsl u0 u1 u2)),.one (.v (vi u3)),.one (.v (vsl u4 u5 u6))] (by kernel_rfl) rfl (by kernel_rfl) H
def Je (u0:Option Addr)(u1 u2:Nat)(u3:Int)(u4:Int)(u5:Int)(u6:Option Addr)(u7 u8:Nat)(u9:Option Addr)(u10 u11:Nat)(h:Hp)(R:Value→Hp→Prop):Prop:=
 (Qa Tryz.prog 140 [vag [vsl u0 u1 u2],vi u3,vag [vi u4,vi u5]] h fun v1 h2=>∃ x3 p4,v1=(Qf [vi x3,vb p4])∧(Qa Tryz.prog 95 [vsl u0 u1 u2] h2 fun v5 h6=>∃ a7 n7 c7,v5=(vsl a7 n7 c7)∧(let J83:Option Addr→Nat→Nat→Int→Int→Int→Option Addr→Nat→Nat→Bool→Hp→Prop:=fun a315 n315 c315 x316 x317 x318 a319 n319 c319 p320 h321=>(∃ b322 o323,(a315=some ⟨b322,o323,none⟩∧(0:Int)≤x3∧x3 < (n315:Int))∧(∃ x324 x325 x326 a327 n327 c327 p328,(Hp.row h321 b322 (o323+x3.toNat*5) 5=some [vi x324,vi x325,vi x326,vsl a327 n327 c327,vb p328])∧(Qa Tryz.prog 143 [vsl a327 n327 c327] h321 fun v329 h330=>∃ a331 n331 c331,v329=(vsl a331 n331 c331)∧(∃(I333:List Value→Hp→Prop) (m334:List Value→Hp→Nat),I333 [vi 0] h330∧∀ vs335 h336,I333 vs335 h336→∃ x337,vs335=[vi x337]∧(((decide (x337 < (u10:Int)))=true→(∃ b340 o341,(u9=some ⟨b340,o341,none⟩∧(0:Int)≤x337∧x337 < (u10:Int))∧(∃ x342 x343,(Hp.row h336 b340 (o341+x337.toNat*2) 2=some [vi x342,vi x343])∧(∃ b344 o345,(a331=some ⟨b344,o345,none⟩∧(0:Int)≤x337∧x337 < (n331:Int))∧(∃ x346 x347 x348 x349,(Hp.row h336 b344 (o345+x337.toNat*4) 4=some [vi x346,vi x347,vi x348,vi x349])∧(Qa Tryz.prog 144 [vag [vi x346,vi x347,vi x348,vi x349],vag [vi x342,vi x343]] h336 fun v350 h351=>∃ x352 x353 x354 x355,v350=(vag [vi x352,vi x353,vi x354,vi x355])∧(∃ b356 o357,(a331=some ⟨b356,o357,none⟩∧(0:Int)≤x337∧x337 < (n331:Int))∧(Hp.store h351 b356 (o357+x337.toNat*4) [vi x352,vi x353,vi x354,vi x355] fun h358=>(∃ x360,(IsW x360 (x337+1))∧(I333 [vi x360] h358∧m334 [vi x360] h358 < m334 vs335 h336))))))))))∧((decide (x337 < (u10:Int)))=false→(∃ b361 o362,(a315=some ⟨b361,o362,none⟩∧(0:Int)≤x3∧x3 < (n315:Int))∧(Hp.store h336 b361 (o362+x3.toNat*5) [vi x324,vi x325,vi x326,vsl a331 n331 c331,vb p328] fun h363=>R (Qf [vag [vsl a315 n315 c315],vag [vi x316,vi x317,vi x318,vsl a319 n319 c319,vb p320],vb p4]) h363))))))));((p4=true→(∃ b8 o9,(a7=some ⟨b8,o9,none⟩∧(0:Int)≤x3∧x3 < (n7:Int))∧(∃ x10 x11 x12 a13 n13 c13 p14,(Hp.row h6 b8 (o9+x3.toNat*5) 5=some [vi x10,vi x11,vi x12,vsl a13 n13 c13,vb p14])∧(J83 a7 n7 c7 x10 x11 x12 a13 n13 c13 p14 h6))))∧(p4=false→(let J45:Int→Int→Int→Option Addr→Nat→Nat→Bool→Hp→Prop:=fun x71 x72 x73 a74 n74 c74 p75 h76=>(∀ b77,h76 b77=none→let h78:= Hp.set h76 b77 (Qc [vi x71,vi x72,vi x73,vsl a74 n74 c74,vb p75] 83);(Qa Tryz.prog 142 [vsl a7 n7 c7,vi x3,(vsl (some (⟨b77,0,none⟩:Addr)) 1 1)] h78 fun v79 h80=>∃ a81 n81 c81,v79=(vsl a81 n81 c81)∧(J83 a81 n81 c81 0 0 0 none 0 0 false h80)));(∃(I17:List Value→Hp→Prop) (m18:List Value→Hp→Nat),I17 [vi 0,vi u3,vi u4,vi u5,vsl none 0 0,vb false] h6∧∀ vs19 h20,I17 vs19 h20→∃ x21 x22 x23 x24 a25 n25 c25 p26,vs19=[vi x21,vi x22,vi x23,vi x24,vsl a25 n25 c25,vb p26]∧(((decide (x21 < (u7:Int)))=true→(∃ b29 o30,(u6=some ⟨b29,o30,none⟩∧(0:Int)≤x21∧x21 < (u7:Int))∧(∃ x31,(Hp.cell h20 b29 (o30+x21.toNat*1)=some (vi x31))∧(Qa Tryz.prog 141 [vi x31] h20 fun v32 h33=>∃ x34 x35 x36 x37,v32=(vag [vi x34,vi x35,vi x36,vi x37])∧(∀ b38,h33 b38=none→let h39:= Hp.set h33 b38 (Qc [vi x34,vi x35,vi x36,vi x37] 101);(Ql Tryz.prog (Builtin.append_ #[81,81] 81 #[vsl a25 n25 c25,(vsl (some (⟨b38,0,none⟩:Addr)) 1 1)]) h39 fun v40 h41=>∃ a42 n42 c42,v40=(vsl a42 n42 c42)∧(∃ x44,(IsW x44 (x21+1))∧(I17 [vi x44,vi x22,vi x23,vi x24,vsl a42 n42 c42,vb p26] h41∧m18 [vi x44,vi x22,vi x23,vi x24,vsl a42 n42 c42,vb p26] h41 < m18 vs19 h20))))))))∧((decide (x21 < (u7:Int)))=false→(J45 x22 x23 x24 a25 n25 c25 p26 h20))))))))))
theorem NU {u0 u1 u2 u3 u4 u5 u6 u7 u8 u9 u10 u11 h R}(H:Je u0 u1 u2 u3 u4 u5 u6 u7 u8 u9 u10 u11 h R):Qa Tryz.prog 90 [vag [vsl u0 u1 u2],vi u3,vag [vi u4,vi u5],vsl u6 u7 u8,vsl u9 u10 u11] h R:=
 Qd (cfg:=⟨[],[(7,([41],[.one (.int .i64)],[(4,[.int .i64,.int .i64,.int .i64,.slice,.bool])])),(15,([68],[.one (.int .i64)],[]))],[(9,[0,1,2,3,4,5,6,7]),(17,[0,1,2,3,4,5,6,7,8,9,10,11]),(20,[0,1,2,3,4,5,6])]⟩) Qo mixed Tryz.func90 [.ag [.v (vsl u0 u1 u2)],.one (.v (vi u3)),.ag [.v (vi u4),.v (vi u5)],.one (.v (vsl u6 u7 u8)),.one (.v (vsl u9 u10 u11))] (by kernel_rfl) rfl (by kernel_rfl) H
def Kt (u0:Option Addr)(u1 u2:Nat)(u3:Int)(u4:Int)(h:Hp)(R:Value→Hp→Prop):Prop:=
 (Qa Tryz.prog 95 [vsl u0 u1 u2] h fun v1 h2=>∃ a3 n3 c3,v1=(vsl a3 n3 c3)∧(∃(I5:List Value→Hp→Prop) (m6:List Value→Hp→Nat),I5 [vsl none 0 0,vi 0] h2∧∀ vs7 h8,I5 vs7 h8→∃ a9 n9 c9 x10,vs7=[vsl a9 n9 c9,vi x10]∧(((decide (x10 < (n3:Int)))=true→(let J38:Option Addr→Nat→Nat→Hp→Prop:=fun a41 n41 c41 h42=>(∃ x43,(IsW x43 (x10+1))∧(I5 [vsl a41 n41 c41,vi x43] h42∧m6 [vsl a41 n41 c41,vi x43] h42 < m6 vs7 h8));(∃ b13 o14,(a3=some ⟨b13,o14,none⟩∧(0:Int)≤x10∧x10 < (n3:Int))∧(∃ x15 x16 x17 a18 n18 c18 p19,(Hp.row h8 b13 (o14+x10.toNat*5) 5=some [vi x15,vi x16,vi x17,vsl a18 n18 c18,vb p19])∧(∃ x20,((!p19)=true→IsW x20 (x15+u3))∧(((bif (!p19) then(decide (x20≤u4)) else false)=true→(∃ b21 o22,(a3=some ⟨b21,o22,none⟩∧(0:Int)≤x10∧x10 < (n3:Int))∧(Hp.store h8 b21 ((o22+x10.toNat*5)+4) [vb true] fun h23=>(∃ b24 o25,(a3=some ⟨b24,o25,none⟩∧(0:Int)≤x10∧x10 < (n3:Int))∧(∃ x26 x27 x28 a29 n29 c29 p30,(Hp.row h23 b24 (o25+x10.toNat*5) 5=some [vi x26,vi x27,vi x28,vsl a29 n29 c29,vb p30])∧(∀ b31,h23 b31=none→let h32:= Hp.set h23 b31 (Qc [vi x26,vi x27,vi x28,vsl a29 n29 c29,vb p30] 83);(Ql Tryz.prog (Builtin.append_ #[64,64] 64 #[vsl a9 n9 c9,(vsl (some (⟨b31,0,none⟩:Addr)) 1 1)]) h32 fun v33 h34=>∃ a35 n35 c35,v33=(vsl a35 n35 c35)∧(J38 a35 n35 c35 h34))))))))∧((bif (!p19) then(decide (x20≤u4)) else false)=false→(J38 a9 n9 c9 h8))))))))∧((decide (x10 < (n3:Int)))=false→R (Qf [vag [vsl a3 n3 c3],vsl a9 n9 c9]) h8))))
theorem MZ {u0 u1 u2 u3 u4 h R}(H:Kt u0 u1 u2 u3 u4 h R):Qa Tryz.prog 43 [vag [vsl u0 u1 u2],vi u3,vi u4] h R:=
 Qd (cfg:=⟨[],[(4,([9,17],[.one (.slice),.one (.int .i64)],[]))],[]⟩) Qo mixed Tryz.func43 [.ag [.v (vsl u0 u1 u2)],.one (.v (vi u3)),.one (.v (vi u4))] (by kernel_rfl) rfl (by kernel_rfl) H
def KA (u0:Option Addr)(u1 u2:Nat)(u3:Int)(u4:Int)(h:Hp)(R:Value→Hp→Prop):Prop:=
 (∀ b1,h b1=none→let h2:= Hp.set h b1 (Qc [vi u3] 3);(∀ b3,h2 b3=none→let h4:= Hp.set h2 b3 (Qc [vi u4] 3);(Qa Tryz.prog 95 [vsl u0 u1 u2] h4 fun v5 h6=>∃ a7 n7 c7,v5=(vsl a7 n7 c7)∧(Qa Tryz.prog 97 [vsl a7 n7 c7,(Value.func (.func 98) #[] #[vhp b1 0,vhp b3 0])] h6 fun v8 h9=>∃ a10 n10 c10,v8=(vsl a10 n10 c10)∧R (vag [vsl a10 n10 c10]) h9))))
theorem MN {u0 u1 u2 u3 u4 h R}(H:KA u0 u1 u2 u3 u4 h R):Qa Tryz.prog 45 [vag [vsl u0 u1 u2],vi u3,vi u4] h R:=
 Qd (cfg:=⟨[4,5],[],[]⟩) Qo mixed Tryz.func45 [.ag [.v (vsl u0 u1 u2)],.one (.v (vi u3)),.one (.v (vi u4))] (by kernel_rfl) rfl (by kernel_rfl) H
def Wp (u0:Int)(u1:Int)(u2:Int)(u3:Option Addr)(u4 u5:Nat)(u6:Bool)(f_0b f_0o:Nat)(f_1b f_1o:Nat)(h:Hp)(R:Value→Hp→Prop):Prop:=
 (∃ x1,(Hp.cell h f_0b f_0o=some (vi x1))∧(∃ x2,(IsW x2 (u0+x1))∧(∃ x3,(Hp.cell h f_1b f_1o=some (vi x3))∧R (vb (decide (x2≤x3))) h)))
theorem Vs {u0 u1 u2 u3 u4 u5 u6 f_0b f_0o f_1b f_1o h R}(H:Wp u0 u1 u2 u3 u4 u5 u6 f_0b f_0o f_1b f_1o h R):Qa Tryz.prog 98 [vag [vi u0,vi u1,vi u2,vsl u3 u4 u5,vb u6],vhp f_0b f_0o,vhp f_1b f_1o] h R:=
 Qd (cfg:=⟨[],[],[]⟩) Qo mixed Tryz.func98 [.ag [.v (vi u0),.v (vi u1),.v (vi u2),.v (vsl u3 u4 u5),.v (vb u6)],.one (.hp f_0b f_0o),.one (.hp f_1b f_1o)] (by kernel_rfl) rfl (by kernel_rfl) H
def Zg (u0:Option Addr)(u1 u2:Nat)(u3:Value)(h:Hp)(R:Value→Hp→Prop):Prop:=
 (Qa Tryz.prog 92 [vsl u0 u1 u2,u3] h fun v1 h2=>∃ x3,v1=(vi x3)∧(((decide (x3=(-1)))=true→R (vsl u0 u1 u2) h2)∧((decide (x3=(-1)))=false→(∃ x5,(IsW x5 (x3+1))∧(∃(I7:List Value→Hp→Prop) (m8:List Value→Hp→Nat),I7 [vi x3,vi x5] h2∧∀ vs9 h10,I7 vs9 h10→∃ x11 x12,vs9=[vi x11,vi x12]∧(((decide (x12 < (u1:Int)))=true→(let J31:Int→Hp→Prop:=fun x34 h35=>(∃ x36,(IsW x36 (x12+1))∧(I7 [vi x34,vi x36] h35∧m8 [vi x34,vi x36] h35 < m8 vs9 h10));(∃ b15 o16,(u0=some ⟨b15,o16,none⟩∧(0:Int)≤x12∧x12 < (u1:Int))∧(∃ x17 x18 x19 a20 n20 c20 p21,(Hp.row h10 b15 (o16+x12.toNat*5) 5=some [vi x17,vi x18,vi x19,vsl a20 n20 c20,vb p21])∧(Yt Tryz.prog u3 [vag [vi x17,vi x18,vi x19,vsl a20 n20 c20,vb p21]] h10 fun v22 h23=>∃ p24,v22=(vb p24)∧(((!p24)=true→(∃ b25 o26,(u0=some ⟨b25,o26,none⟩∧(0:Int)≤x11∧x11 < (u1:Int))∧(Hp.store h23 b25 (o26+x11.toNat*5) [vi x17,vi x18,vi x19,vsl a20 n20 c20,vb p21] fun h27=>(∃ x28,(IsW x28 (x11+1))∧(J31 x28 h27)))))∧((!p24)=false→(J31 x11 h23))))))))∧((decide (x12 < (u1:Int)))=false→(∃ a37 n37 c37,(Rd Tryz.prog (Instr.sliceAt 64 (vsl u0 u1 u2) (some (vi x11)) none none) h10 (vsl a37 n37 c37))∧(Ql Tryz.prog (Builtin.clear_ #[64] 0 #[vsl a37 n37 c37]) h10 fun v38 h39=>v38=(Qf [])∧(∃ a40 n40 c40,(Rd Tryz.prog (Instr.sliceAt 64 (vsl u0 u1 u2) none (some (vi x11)) none) h39 (vsl a40 n40 c40))∧R (vsl a40 n40 c40) h39))))))))))
theorem Yw {u0 u1 u2 u3 h R}(H:Zg u0 u1 u2 u3 h R):Qa Tryz.prog 97 [vsl u0 u1 u2,u3] h R:=
 Qd (cfg:=⟨[],[(5,([5,6],[.one (.int .i64),.one (.int .i64)],[]))],[]⟩) Qo mixed Tryz.func97 [.one (.v (vsl u0 u1 u2)),.one (.v u3)] (by kernel_rfl) rfl (by kernel_rfl) H
def Qi (r:PR):List Value:=(QeB r).enc
theorem Qq (r:PR):(Qi r).length=5:=rfl
theorem KU (r:PR):∀ u ∈ Qi r,u.oneCell'=true:=Qmw _
theorem QgK (R:List PR):∀ u ∈ R.flatMap Qi,u.oneCell'=true:=by
 intro u hu
 obtain⟨r,_,hr⟩:=List.mem_flatMap.1 hu
 exact KU r u hr
structure Tb (h:Hp)(a:Option Addr)(R:List PR):Prop where
 s:SlP Qi h a R.length R
 i:∀ r ∈ R,Qg h r.a (r.acs.flatMap YK)
theorem Tb.le {h h':Hp}{a:Option Addr}{R:List PR}(T:Tb h a R)(l:h.le h'):Tb h' a R:=⟨T.s.le l,fun r hr=>(T.i r hr).le l⟩
section
variable {h:Hp}{K':Value→Hp→Prop}{a:Option Addr}{R:List PR}{c:Nat}
theorem JU (S:SlP Qi h a R.length R)(hn:R.length≤1000000)(hK:∀ a' c' h',Qh h h' 83 5 a' R.length c' (R.flatMap Qi)→K' (vsl a' R.length c') h'):Qa Tryz.prog 95 [vsl a R.length c] h K':=by
 refine Y8 ?_
 unfold ZD
 refine⟨_,Qb6 (e:=83) (by kernel_rfl),fun e=>?_,fun e=>?_⟩
 ·have h0:R.flatMap Qi=[]:=by
   rcases S.2 with h1|⟨b,o,ha,_⟩
   ·exact h1
   ·rw [ha] at e;cases e
  have hn0:R=[]:=by
   have:=congrArg List.length h0
   rw [Qs Qq] at this
   exact List.eq_nil_of_length_eq_zero (by simp at this;omega)
  subst hn0
  exact hK none 0 h (Qh.nil (Hp.le_refl h) _ _)
 ·intro b3 hb3 h4
  have O0:Qh h h4 83 5 (some ⟨b3,0,none⟩) 0 0 []:=Qh.mk_new (Hp.le_refl h) hb3 _ [] rfl (by simp [maxLen])
  refine Qh.append QbY O0 (S.le (Hp.le_set (Hp.le_refl h) hb3 _)).2 (Qs Qq R) (QgK R) (by omega) (by omega) fun a' c' h' O' _ _=>⟨_,_,_,rfl,?_⟩
  rw [Nat.zero_add,List.nil_append] at *
  exact hK a' c' h' O'
theorem Qhw {l:List AcS}(S:Qg h a (l.flatMap YK))(hn:l.length≤1000000)(hK:∀ a' c' h',QnE h h' a' c' l→K' (vsl a' l.length c') h'):Qa Tryz.prog 143 [vsl a l.length c] h K':=by
 refine Y0 ?_
 unfold ZA
 refine⟨_,Qb6 (e:=101) (by kernel_rfl),fun e=>?_,fun e=>?_⟩
 ·have h0:l.flatMap YK=[]:=by
   rcases S with h1|⟨b,o,ha,_⟩
   ·exact h1
   ·rw [ha] at e;cases e
  have hn0:l=[]:=by
   have:=congrArg List.length h0
   rw [Qs YJ] at this
   exact List.eq_nil_of_length_eq_zero (by simp at this;omega)
  subst hn0
  exact hK none 0 h (Qh.nil (Hp.le_refl h) _ _)
 ·intro b3 hb3 h4
  have O0:Qh h h4 101 4 (some ⟨b3,0,none⟩) 0 0 []:=Qh.mk_new (Hp.le_refl h) hb3 _ [] rfl (by simp [maxLen])
  have h1:∀ u ∈ l.flatMap YK,u.oneCell'=true:=by
   intro u hu
   obtain⟨r,_,hr⟩:=List.mem_flatMap.1 hu
   exact Qki r u hr
  refine Qh.append Qmv O0 (S.le (Hp.le_set (Hp.le_refl h) hb3 _)) (Qs YJ l) h1 (by omega) (by omega) fun a' c' h' O' _ _=>⟨_,_,_,rfl,?_⟩
  rw [Nat.zero_add,List.nil_append] at *
  exact hK a' c' h' O'
theorem NK {fv:Value}{p:PR→Bool}(S:SlP Qi h a R.length R)(hn:R.length≤1000000)(hf:∀ r ∈ R,∀ K2:Value→Hp→Prop,K2 (vb (p r)) h→Yt Tryz.prog fv [vag (Qi r)] h K2)
  (hy:∀(i:Nat) (r:PR),R[i]?=some r→p r=true→(∀ x ∈ R.take i,p x=false)→K' (vi i) h) (hno:(∀ r ∈ R,p r=false)→K' (vi (-1)) h):Qa Tryz.prog 92 [vsl a R.length c,fv] h K':=by
 refine YG ?_
 unfold Zl
 refine⟨fun vs hh=>hh=h∧∃ i:Nat,vs=[vi i]∧i≤R.length∧∀ r ∈ R.take i,p r=false,fun vs hh=>R.length - (Qn vs 0).toNat,⟨rfl,0,rfl,Nat.zero_le _,by simp⟩,?_⟩
 rintro vs hh ⟨rfl,i,rfl,hi,hz⟩
 refine⟨i,rfl,fun e=>?_,fun e=>?_⟩
 ·have hlt:i < R.length:=by have:=of_decide_eq_true e;omega
  have hx:R[i]?=some R[i]:=List.getElem?_eq_getElem hlt
  have tk:R.take (i+1)=R.take i++[R[i]]:=List.take_succ_eq_append_getElem hlt
  obtain⟨b,o,ea,hr⟩:=S.get Qq (by decide) hx
  refine⟨b,o,⟨ea,by omega,by omega⟩,_,_,_,_,_,_,_,by rw [Int.toNat_natCast];exact hr,hf _ (List.getElem_mem hlt) _ ⟨_,rfl,fun e2=>hy i _ hx e2 hz,fun e2=>?_⟩⟩
  refine⟨_,isW (by unfold InR;omega),⟨rfl,i+1,rfl,by omega,fun r hr=>?_⟩,by simp [Qn];omega⟩
  rw [tk] at hr
  rcases List.mem_append.1 hr with h3|h3
  ·exact hz r h3
  ·rw [List.mem_singleton.1 h3];exact e2
 ·have hge:i=R.length:=by have:=of_decide_eq_false e;omega
  refine hno ?_
  rw [hge,List.take_length] at hz
  exact hz
theorem Qek {h0:Hp}{x:PR}{i b:Nat}(O:Qh h0 h 83 5 a R.length c (R.flatMap Qi))(hn:R.length≤1000000)(hi:i≤R.length)(hb:h b=some (Qc (Qi x) 83))(hab:a≠some ⟨b,0,none⟩)
  (hK:∀ a' c' h',Qh h0 h' 83 5 a' (R.length+1) c' ((R.take i++x :: R.drop i).flatMap Qi)→K' (vsl a' (R.length+1) c') h'):Qa Tryz.prog 142 [vsl a R.length c,vi i,vsl (some ⟨b,0,none⟩) 1 1] h K':=by
 refine YR ?_
 unfold Zy
 have hT:Tryz.prog.underlying 64=some (.slice 83):=by kernel_rfl
 have hI:(Tryz.prog.info? 83).isSome=true:=by kernel_rfl
 have hS:(Tryz.prog.info? 83).map (·.size)=some 5:=by kernel_rfl
 have hsz:szT Tryz.prog 83=5:=by kernel_rfl
 have hcap:=O.own.cap
 have hHv:Qg h (some ⟨b,0,none⟩) (Qi x):=.inr ⟨b,0,rfl,QQ hb (by simp)⟩
 have hA:((R.take i).flatMap Qi).length=i*5:=by rw [Qs Qq,List.length_take,Nat.min_eq_left hi]
 have hD:((R.drop i).flatMap Qi).length=(R.length - i)*5:=by rw [Qs Qq,List.length_drop]
 have hAD:R.flatMap Qi=(R.take i).flatMap Qi++(R.drop i).flatMap Qi:=by rw [←List.flatMap_append,List.take_append_drop]
 have hres:(R.take i++x :: R.drop i).flatMap Qi=(R.take i).flatMap Qi++(Qi x++(R.drop i).flatMap Qi):=by rw [List.flatMap_append,List.flatMap_cons]
 rw [hres] at hK
 have S:SlP Qi h a R.length R:=⟨rfl,O.row⟩
 have rdl:=fun(n c:Nat) (a:Option Addr) (x:Nat) (hh:Hp) (h1:x≤n)=>YY (P:=Tryz.prog) (h:=hh) (t:=64) (e:=83) hT hI (a:=a) (n:=n) (c:=c) (x:=(x:Int)) (by omega) (by omega)
 have rdh:=fun(n c:Nat) (a:Option Addr) (x:Nat) (hh:Hp) (h1:x≤c)=>Wz (P:=Tryz.prog) (h:=hh) (t:=64) (e:=83) hT hI (a:=a) (n:=n) (c:=c) (x:=(x:Int)) (by omega) (by omega)
 simp only [Int.toNat_natCast,hsz] at rdl rdh
 have cutG:∀(g x c:Nat),c≠x→QaR (some ⟨g,0,none⟩) x c 5=some ⟨g,x*5,none⟩:=by
  intro g x c hne
  unfold QaR
  rw [if_neg hne]
  simp only [Option.map_some,Addr.add]
  split
  ·rename_i h0;simp [h0]
  ·simp
 refine⟨_,_,_,rdl R.length c a i h hi,fun e=>absurd (of_decide_eq_true e) (by decide),fun _=>⟨fun e=>?_,fun e=>?_⟩⟩
 ·have hie:i=R.length:=by have:=of_decide_eq_true e;omega
  refine Qh.append QbY O (m:=1) hHv rfl (KU x) (by omega) (by omega) fun a' c' h' O' _ _=>⟨_,_,_,rfl,hK a' c' h' ?_⟩
  subst hie
  rw [List.take_length,List.drop_length]
  simpa using O'
 ·have hlt:i < R.length:=by have:=of_decide_eq_false e;omega
  have hDne:(R.drop i).flatMap Qi≠[]:=by
   intro e2
   rw [e2] at hD
   simp at hD
   omega
  refine⟨_,isW (by unfold InR;omega),_,Qpp hT,fun e2=>?_,fun e2=>?_⟩
  ·have hgt:c < R.length+1:=by have:=of_decide_eq_true e2;omega
   refine⟨_,_,_,rdh R.length c a i h (by omega),_,isW (by unfold InR;omega),_,isW (by unfold InR;omega),?_⟩
   have e3:((R.length:Int)+((1:Nat):Int) - (i:Int))=((R.length+1 - i:Nat):Int):=by omega
   rw [e3]
   have hz:(XF Tryz.prog 83).map Qu=some [vi 0,vi 0,vi 0,vsl none 0 0,vb false]:=by kernel_rfl
   refine Qch QbY (by kernel_rfl) hz (n:=i) (S.take Qq hi).2 hA (m:=R.length+1 - i) (by omega) (by omega) (by omega) (by omega) fun a14 c14 h13 O13=>⟨_,_,_,rfl,?_⟩
   have hnn:i+(R.length+1 - i)=R.length+1:=by omega
   rw [hnn] at O13 ⊢
   have hc14:=O13.own.cap
   obtain⟨g,L14,rfl,hg14,_⟩:=O13.blk (by omega) (by decide)
   have hZ:((List.replicate (R.length+1 - i) [vi 0,vi 0,vi 0,vsl none 0 0,vb false]).flatten).length=(R.length+1 - i)*5:=by rw [List.length_flatten];simp
   generalize hZe:(List.replicate (R.length+1 - i) [vi 0,vi 0,vi 0,vsl none 0 0,vb false]).flatten=Z at O13 hZ
   have hga:h g=none:=O13.new g rfl
   refine⟨_,_,_,rdl (R.length+1) c14 _ i h13 (by omega),?_⟩
   rw [cutG g i c14 (by omega)]
   refine Qh.copy hT hS O13 rfl (hHv.le O13.le) (by rw [Qq,show Nat.min 1 (R.length+1 - i)=1 from Nat.min_eq_left (by omega)]) (by rw [Qq];omega) (KU x) (by simp [Qi,D.PRow.enc]) fun h17 O17 k17=>⟨_,rfl,_,isW (by unfold InR;omega),?_⟩
   have e4:((i:Int)+((1:Nat):Int))=((i+1:Nat):Int):=by omega
   rw [e4]
   refine⟨_,_,_,rdl (R.length+1) c14 _ (i+1) h17 (by omega),_,_,_,rdl R.length c a i h17 hi,?_⟩
   rw [cutG g (i+1) c14 (by omega)]
   have l17:h.le h17:=O17.le
   refine Qh.copy hT hS O17 rfl (((S.drop Qq hi hcap).le l17).2) (by rw [hD];congr 1;simp only [Nat.min_def];split<;>omega) (by rw [hD];omega) (QgK _) hDne fun h23 O23 _=>⟨_,rfl,?_⟩
   refine hK _ _ h23 ?_
   have s1:QP ((R.take i).flatMap Qi++Z) (i*5) (Qi x)=(R.take i).flatMap Qi++(Qi x++Z.drop 5):=by
    have:=WE ((R.take i).flatMap Qi) Z 0 (Qi x)
    rw [Nat.add_zero,hA] at this
    rw [this]
    simp [QP,Qq]
   have s2:QP ((R.take i).flatMap Qi++(Qi x++Z.drop 5)) ((i+1)*5) ((R.drop i).flatMap Qi)=(R.take i).flatMap Qi++(Qi x++(R.drop i).flatMap Qi):=by
    have h1:=WE ((R.take i).flatMap Qi) (Qi x++Z.drop 5) 5 ((R.drop i).flatMap Qi)
    have h2:=WE (Qi x) (Z.drop 5) 0 ((R.drop i).flatMap Qi)
    rw [Nat.add_zero,Qq] at h2
    rw [hA,show i*5+5=(i+1)*5 by omega] at h1
    rw [h1,h2]
    congr 2
    unfold QP
    have h3:(Z.drop 5).drop (0+((R.drop i).flatMap Qi).length)=[]:=List.drop_eq_nil_of_le (by rw [List.length_drop,hZ,hD];omega)
    rw [List.take_zero,List.nil_append,h3,List.append_nil]
   rw [s1,s2] at O23
   exact O23.trans O.le
  ·have hle:R.length+1≤c:=by have:=of_decide_eq_false e2;omega
   obtain⟨Y,hY,O1⟩:=Qh.grow O (m:=R.length+1) (by omega) hle
   obtain⟨g,L0,ha,hg,hL0⟩:=O.blk (by omega) (by decide)
   subst ha
   have e3:((R.length:Int)+((1:Nat):Int))=((R.length+1:Nat):Int):=by omega
   have e4:((i:Int)+((1:Nat):Int))=((i+1:Nat):Int):=by omega
   have hbg:b≠g:=fun e=>hab (by rw [e])
   refine⟨_,isW (by unfold InR;omega),?_⟩
   rw [e3]
   refine⟨_,_,_,rdh R.length c _ (R.length+1) h hle,_,isW (by unfold InR;omega),?_⟩
   rw [e4]
   refine⟨_,_,_,rdl (R.length+1) c _ (i+1) h (by omega),?_⟩
   rw [cutG g (i+1) c (by omega)]
   refine QhG (tR:=4) Tryz.func178 (by kernel_rfl) (by kernel_rfl) (by kernel_rfl) (by kernel_rfl) hT hI hbg hb hg hL0 ⟨_,rfl,fun _=>?_,fun e=>absurd e (by decide)⟩
   refine⟨_,isW (by unfold InR;omega),?_⟩
   refine⟨_,_,_,rdl (R.length+1) c _ (i+1) h (by omega),_,_,_,rdl (R.length+1) c _ i h (by omega),?_⟩
   rw [cutG g (i+1) c (by omega),cutG g i c (by omega)]
   have hsrc:=(S.drop Qq hi hcap).2
   rw [cutG g i c (by omega)] at hsrc
   refine Qh.copy hT hS O1 rfl hsrc (by rw [hD];congr 1;simp only [Nat.min_def];split<;>omega) (by rw [hD];omega) (QgK _) hDne fun h37 O37 k37=>⟨_,rfl,?_⟩
   refine⟨_,_,_,rdl (R.length+1) c _ i h37 (by omega),?_⟩
   rw [cutG g i c (by omega)]
   have hHv37:Qg h37 (some ⟨b,0,none⟩) (Qi x):=.inr ⟨b,0,rfl,QQ (k37 b _ hbg hb) (by simp)⟩
   refine Qh.copy hT hS O37 rfl hHv37 (by rw [Qq,show Nat.min 1 (R.length+1 - i)=1 from Nat.min_eq_left (by omega)]) (by rw [Qq];omega) (KU x) (by simp [Qi,D.PRow.enc]) fun h41 O41 _=>⟨_,rfl,?_⟩
   refine hK _ _ h41 ?_
   have hY5:Y.length=5:=by rw [hY];omega
   have s1:QP (R.flatMap Qi++Y) ((i+1)*5) ((R.drop i).flatMap Qi)=(R.take i).flatMap Qi++(((R.drop i).flatMap Qi++Y).take 5++(R.drop i).flatMap Qi):=by
    have h1:=WE ((R.take i).flatMap Qi) ((R.drop i).flatMap Qi++Y) 5 ((R.drop i).flatMap Qi)
    rw [hA,show i*5+5=(i+1)*5 by omega,←List.append_assoc,←hAD] at h1
    rw [h1]
    congr 1
    unfold QP
    have h3:((R.drop i).flatMap Qi++Y).drop (5+((R.drop i).flatMap Qi).length)=[]:=List.drop_eq_nil_of_le (by rw [List.length_append,hY5];omega)
    rw [h3,List.append_nil]
   have s2:QP ((R.take i).flatMap Qi++(((R.drop i).flatMap Qi++Y).take 5++(R.drop i).flatMap Qi)) (i*5) (Qi x)=(R.take i).flatMap Qi++(Qi x++(R.drop i).flatMap Qi):=by
    have h1:=WE ((R.take i).flatMap Qi) (((R.drop i).flatMap Qi++Y).take 5++(R.drop i).flatMap Qi) 0 (Qi x)
    rw [Nat.add_zero,hA] at h1
    rw [h1]
    congr 1
    unfold QP
    have h5:(((R.drop i).flatMap Qi++Y).take 5).length=5:=by rw [List.length_take,List.length_append,hY5];omega
    rw [List.take_zero,List.nil_append,Nat.zero_add,Qq,List.drop_left' h5]
   rw [s1,s2] at O41
   exact O41
end
theorem QbK {h:Hp}{b i:Nat}{xs:List Value}{t:TypeId}{v:Value}(hv:xs[i]?=some v):Hp.cell (h.set b (Qc xs t)) b i=some v:=by
 unfold Hp.cell
 rw [Hp.set_same]
 simpa using hv
def QiQ (a k:PK):Int:=if Qao a.1 k.1≠0 then Qao a.1 k.1 else QlB a.2 k.2
theorem Qkl (a k:PK):QiQ a k < 0↔Qr a k:=by
 unfold QiQ Qr QlB Qao
 repeat' split
 all_goals omega
theorem Qn6 (a k:PK):QiQ a k=0↔a=k:=by
 obtain⟨a1,a2,a3⟩:=a
 obtain⟨k1,k2,k3⟩:=k
 rw [Prod.mk.injEq,Prod.mk.injEq]
 unfold QiQ QlB Qao
 simp only
 repeat' split
 all_goals omega
section
variable {h:Hp}{K':Value→Hp→Prop}{a:Option Addr}{R:List PR}{c:Nat}
theorem QnQ {r:PR}{k:PK}{b:Nat}(h1:h.cell b 0=some (vi k.1))(hK:∀ h',h.le h'→K' (vi (QiQ r.k k)) h'):Qa Tryz.prog 174 [vag (Qi r),vag (Qv k.2),vhp b 0] h K':=by
 refine Vw ?_
 unfold Wj
 refine⟨_,h1,Jd ⟨_,rfl,QbR fun h6 l6=>⟨_,rfl,?_⟩⟩⟩
 intro b8 hb8 h9
 refine Qeh (x:=Qao r.k.1 k.1) (y:=QlB r.k.2 k.2) ⟨rfl,Qg.new _ _ [vi (Qao r.k.1 k.1),vi (QlB r.k.2 k.2)] _⟩ ⟨_,rfl,?_⟩
 exact hK _ (Hp.le_trans l6 (Hp.le_set (Hp.le_refl h6) hb8 _))
theorem Qe9 {k:PK}{b:Nat}(S:SlP Qi h a R.length R)(hn:R.length≤1000000)(hs:(R.map (·.k)).Pairwise Qr)(h1:h.cell b 0=some (vi k.1))
  (hK:∀(i:Nat) (is:Bool) (h':Hp),h.le h'→i≤R.length→(∀ x ∈ R.take i,Qr x.k k)→(∀ x,R[i]?=some x→¬ Qr x.k k)→(is=true↔∃ x,R[i]?=some x∧x.k=k)→K' (Qf [vi i,vb is]) h') :
  Qa Tryz.prog 173 [vsl a R.length c,vag (Qv k.2),Value.func (.func 174) #[] #[vhp b 0]] h K':=by
 refine Zt ?_
 unfold QH
 have inv:∀(r:PR) (hh:Hp) (K2:Value→Hp→Prop),h.le hh→(∀ h',hh.le h'→K2 (vi (QiQ r.k k)) h')→Yt Tryz.prog (Value.func (.func 174) #[] #[vhp b 0]) [vag (Qi r),vag (Qv k.2)] hh K2:=by
  intro r hh K2 l hk
  exact⟨174,#[],#[vhp b 0],rfl,⟨_,Tryz.func174,by kernel_rfl,rfl⟩,QnQ (Hp.cell_le l h1) hk⟩
 have mono:∀{i j:Nat} {x y:PR},i < j→R[i]?=some x→R[j]?=some y→Qr x.k y.k:=by
  intro i j x y hij hx hy
  obtain⟨hi,ex⟩:=List.getElem?_eq_some_iff.1 hx
  obtain⟨hj,ey⟩:=List.getElem?_eq_some_iff.1 hy
  have:=List.pairwise_iff_getElem.1 hs i j (by simpa using hi) (by simpa using hj) hij
  simpa [ex,ey] using this
 refine⟨fun vs hh=>∃ i j:Nat,vs=[vi i,vi j]∧i≤j∧j≤R.length∧h.le hh∧(∀ m x,m < i→R[m]?=some x→Qr x.k k)∧(∀ m x,j≤m→R[m]?=some x→¬ Qr x.k k),fun vs hh=>(Qn vs 1 - Qn vs 0).toNat,⟨0,R.length,rfl,Nat.zero_le _,Nat.le_refl _,Hp.le_refl h,fun m x hm _=>absurd hm (Nat.not_lt_zero _),fun m x hm hx=>absurd (List.getElem?_eq_some_iff.1 hx).1 (by omega)⟩,?_⟩
 rintro vs hh ⟨i,j,rfl,hij,hj,lh,hlo,hhi⟩
 refine⟨i,j,rfl,fun e=>?_,fun e=>?_⟩
 ·have hlt:i < j:=by have:=of_decide_eq_true e;omega
  have hw:IntKind.wrap .u64 ((i:Int)+(j:Int))=((i+j:Nat):Int):=by
   rw [IntKind.wrap_u64]
   omega
  refine⟨(i:Int)+(j:Int),isW (by unfold InR;omega),((i+j:Nat):Int) / 2 ^ 1,?_,?_⟩
  ·rw [hw]
   exact QoQ (j:=1) (by decide) (by omega)
  have hm:IntKind.wrap .i64 (((i+j:Nat):Int) / 2 ^ 1)=(((i+j) / 2:Nat):Int):=by
   rw [IntKind.wrap_i64]
   omega
  rw [hm]
  have hm1:i≤(i+j) / 2:=by omega
  have hm2:(i+j) / 2 < j:=by omega
  generalize (i+j) / 2=m at hm1 hm2
  have hx:R[m]?=some (R[m]'(by omega)):=List.getElem?_eq_getElem (by omega)
  obtain⟨b2,o2,ea,hr⟩:=(S.le lh).get Qq (by decide) hx
  generalize R[m]'(by omega)=r at hx hr
  refine⟨b2,o2,⟨ea,by omega,by omega⟩,_,_,_,_,_,_,_,by rw [Int.toNat_natCast];exact hr,inv r hh _ lh fun h20 l20=>⟨_,rfl,fun e2=>?_,fun e2=>?_⟩⟩
  ·have hah:=(Qkl r.k k).1 (of_decide_eq_true e2)
   refine⟨_,isW (by unfold InR;omega),⟨m+1,j,by simp,by omega,hj,Hp.le_trans lh l20,fun m' x hm' hx'=>?_,hhi⟩,by simp [Qn];omega⟩
   rcases Nat.lt_or_ge m' m with h5|h5
   ·exact KO (mono h5 hx' hx) hah
   ·have:m'=m:=by omega
    subst this
    rw [hx] at hx'
    cases hx'
    exact hah
  ·have hna:¬ Qr r.k k:=fun q=>of_decide_eq_false e2 ((Qkl r.k k).2 q)
   refine⟨⟨i,m,rfl,hm1,by omega,Hp.le_trans lh l20,hlo,fun m' x hm' hx'=>?_⟩,by simp [Qn];omega⟩
   rcases Nat.eq_or_lt_of_le hm' with h5|h5
   ·subst h5
    rw [hx] at hx'
    cases hx'
    exact hna
   ·intro q
    exact hna (KO (mono h5 hx hx') q)
 ·have hge:i=j:=by have:=of_decide_eq_false e;omega
  subst hge
  have hlo':∀ x ∈ R.take i,Qr x.k k:=by
   intro x hx
   obtain⟨m,hm⟩:=List.getElem?_of_mem hx
   have hml:m < i:=by
    have:=(List.getElem?_eq_some_iff.1 hm).1
    rw [List.length_take] at this
    omega
   rw [List.getElem?_take,if_pos hml] at hm
   exact hlo m x hml hm
  by_cases hlt:i < R.length
  ·have hd:decide (((i:Nat):Int) < ((R.length:Nat):Int))=true:=decide_eq_true (by omega)
   have hx:R[i]?=some R[i]:=List.getElem?_eq_getElem hlt
   obtain⟨b2,o2,ea,hr⟩:=(S.le lh).get Qq (by decide) hx
   generalize R[i]=r at hx hr
   refine⟨b2,o2,fun _=>⟨ea,by omega,by omega⟩,_,_,_,_,_,_,_,fun _=>by rw [Int.toNat_natCast];exact hr,?_⟩
   refine⟨fun x hh'=>hh.le hh'∧x=.t (.one (.v (vi (QiQ r.k k)))),fun _=>inv r hh _ lh fun h' l'=>⟨_,rfl,l',rfl⟩,fun q=>absurd hd q,?_⟩
   rintro h34 x35 ⟨l34,e35⟩
   cases e35
   rw [hd]
   refine hK i _ h34 (Hp.le_trans lh l34) hj hlo' (fun x hx'=>hhi i x (Nat.le_refl _) hx') ?_
   show decide (QiQ r.k k=0)=true↔_
   rw [decide_eq_true_iff,Qn6]
   constructor
   ·intro q;exact⟨r,hx,q⟩
   ·rintro⟨x,hx',q⟩
    rw [hx] at hx'
    cases hx'
    exact q
  ·have hd:decide (((i:Nat):Int) < ((R.length:Nat):Int))=false:=decide_eq_false (by omega)
   refine⟨0,0,fun q=>(by rw [hd] at q;cases q),0,0,0,none,0,0,false,fun q=>(by rw [hd] at q;cases q),?_⟩
   refine⟨fun x hh'=>hh'=hh,fun q=>(by rw [hd] at q;cases q),fun _=>rfl,?_⟩
   rintro h34 x35 rfl
   rw [hd]
   refine hK i _ h34 lh hj hlo' (fun x hx'=>hhi i x (Nat.le_refl _) hx') ?_
   constructor
   ·intro q;cases q
   ·rintro⟨x,hx',q⟩
    exact absurd (List.getElem?_eq_some_iff.1 hx').1 hlt
theorem Qfs {k:PK}(S:SlP Qi h a R.length R)(hn:R.length≤1000000)(hs:(R.map (·.k)).Pairwise Qr)
  (hK:∀(i:Nat) (is:Bool) (h':Hp),h.le h'→i≤R.length→(∀ x ∈ R.take i,Qr x.k k)→(∀ x,R[i]?=some x→¬ Qr x.k k)→(is=true↔∃ x,R[i]?=some x∧x.k=k)→K' (Qf [vi i,vb is]) h') :
  Qa Tryz.prog 140 [vag [vsl a R.length c],vi k.1,vag (Qv k.2)] h K':=by
 refine MV ?_
 unfold KE
 intro b1 hb1 h2
 have l2:h.le h2:=Hp.le_set (Hp.le_refl h) hb1 _
 refine Qe9 (S.le l2) hn hs (QbK rfl) fun i is h' l' q1 q2 q3 q4=>⟨_,_,rfl,hK i is h' (Hp.le_trans l2 l') q1 q2 q3 q4⟩
theorem Qe5 {h0:Hp}{fv:Value}{p:PR→Bool}(O:Qh h0 h 83 5 a R.length c (R.flatMap Qi))(hn:R.length≤1000000)(hf:∀(hh:Hp) (r:PR),h0.le hh→∀ K2:Value→Hp→Prop,r ∈ R→K2 (vb (p r)) hh→Yt Tryz.prog fv [vag (Qi r)] hh K2)
  (hK:∀ h',h0.le h'→SlP Qi h' a (R.filter fun r=>!p r).length (R.filter fun r=>!p r)→K' (vsl a (R.filter fun r=>!p r).length c) h'):Qa Tryz.prog 97 [vsl a R.length c,fv] h K':=by
 refine Yw ?_
 unfold Zg
 have S:SlP Qi h a R.length R:=⟨rfl,O.row⟩
 have hT:Tryz.prog.underlying 64=some (.slice 83):=by kernel_rfl
 have hI:(Tryz.prog.info? 83).isSome=true:=by kernel_rfl
 have hsz:szT Tryz.prog 83=5:=by kernel_rfl
 have hcap:=O.own.cap
 refine NK (p:=p) S hn (fun r hr K2 hk=>hf h r O.le K2 hr hk) (fun i0 r0 hr0 hp0 hz=>⟨_,rfl,fun e=>absurd (of_decide_eq_true e) (by omega),fun _=>?_⟩) (fun hno=>⟨_,rfl,fun _=>?_,fun e=>absurd rfl (of_decide_eq_false e)⟩)
 ·have hi0:=(List.getElem?_eq_some_iff.1 hr0).1
  have tk0:R.take (i0+1)=R.take i0++[r0]:=by rw [List.take_succ_eq_append_getElem hi0,(List.getElem?_eq_some_iff.1 hr0).2]
  have f0:(R.take (i0+1)).filter (fun r=>!p r)=R.take i0:=by
   rw [tk0,List.filter_append,List.filter_cons,hp0]
   simp only [Bool.not_true,Bool.false_eq_true,if_false,List.filter_nil,List.append_nil]
   rw [List.filter_eq_self]
   intro x hx
   rw [hz x hx];rfl
  refine⟨_,isW (by unfold InR;omega),?_⟩
  refine⟨fun vs hh=>∃(j:Nat) (Q:List PR),vs=[vi ((R.take j).filter fun r=>!p r).length,vi j]∧i0 < j∧j≤R.length∧Q.length=R.length∧Qh h0 hh 83 5 a R.length c (Q.flatMap Qi)∧Q.take ((R.take j).filter fun r=>!p r).length=(R.take j).filter (fun r=>!p r)∧Q.drop j=R.drop j,fun vs hh=>R.length - (Qn vs 1).toNat,⟨i0+1,R,?_,by omega,hi0,rfl,O,?_,rfl⟩,?_⟩
  ·rw [f0,List.length_take,Nat.min_eq_left (by omega)];simp
  ·rw [f0,List.length_take,Nat.min_eq_left (by omega)]
  rintro vs hh ⟨j,Q,rfl,hij,hj,hQ,OQ,hQ1,hQ2⟩
  have hle:((R.take j).filter fun r=>!p r).length < j:=by
   have h1:R.take j=R.take (i0+1)++(R.take j).drop (i0+1):=by
    have:=(List.take_append_drop (i0+1) (R.take j)).symm
    rw [List.take_take,Nat.min_eq_left (by omega)] at this
    exact this
   rw [h1,List.filter_append,f0,List.length_append,List.length_take]
   have:=List.length_filter_le (fun r=>!p r) ((R.take j).drop (i0+1))
   rw [List.length_drop,List.length_take] at this
   omega
  have SQ:SlP Qi hh a R.length Q:=⟨hQ.symm,OQ.row⟩
  refine⟨_,_,rfl,fun e=>?_,fun e=>?_⟩
  ·have hlt:j < R.length:=by have:=of_decide_eq_true e;omega
   have hx:R[j]?=some R[j]:=List.getElem?_eq_getElem hlt
   have hxQ:Q[j]?=some R[j]:=by
    have:=congrArg (fun l=>l[0]?) hQ2
    simpa [List.getElem?_drop,hx] using this
   have tk:R.take (j+1)=R.take j++[R[j]]:=List.take_succ_eq_append_getElem hlt
   have hmem:=List.getElem_mem hlt
   obtain⟨b,o,ea,hr⟩:=SQ.get Qq (by decide) hxQ
   generalize R[j]=r at *
   have tkf:(R.take (j+1)).filter (fun r=>!p r)=(R.take j).filter (fun r=>!p r)++if p r then [] else [r]:=by
    rw [tk,List.filter_append,List.filter_cons,List.filter_nil]
    cases p r<;>rfl
   generalize hkept:(R.take j).filter (fun r=>!p r)=kept at *
   intro J31
   have hJ:∀(Q2:List PR) (h2:Hp),Q2.length=R.length→Qh h0 h2 83 5 a R.length c (Q2.flatMap Qi)→Q2.take ((R.take (j+1)).filter fun r=>!p r).length=(R.take (j+1)).filter (fun r=>!p r)→Q2.drop (j+1)=R.drop (j+1)→J31 (((R.take (j+1)).filter fun r=>!p r).length:Nat) h2:=by
    intro Q2 h2 q1 q2 q3 q4
    exact⟨_,isW (by unfold InR;omega),⟨j+1,Q2,by simp,by omega,by omega,q1,q2,q3,q4⟩,by simp [Qn];omega⟩
   clear_value J31
   have hd1:Q.drop (j+1)=R.drop (j+1):=by
    have:=congrArg (List.drop 1) hQ2
    rw [List.drop_drop,List.drop_drop] at this
    exact this
   refine⟨b,o,⟨ea,by omega,by omega⟩,_,_,_,_,_,_,_,by rw [Int.toNat_natCast];exact hr,hf hh r OQ.le _ hmem ⟨_,rfl,fun e2=>?_,fun e2=>?_⟩⟩
   ·have hp:p r=false:=by simpa using e2
    rw [hp] at tkf
    simp only [Bool.false_eq_true,if_false] at tkf
    have hki:kept.length < Q.length:=by omega
    have hkx:Q[kept.length]?=some Q[kept.length]:=List.getElem?_eq_getElem hki
    obtain⟨b2,o2,ea2,H2⟩:=Vec.putF (α:=PR) (enc:=Qi) (sz:=5) (T:=83) (h0:=h0) (h:=hh) (a:=a) (c:=c) (l:=Q) Qq (by unfold Vec;rw [hQ];exact OQ) hkx (x':=r) (k:=0) (vs:=Qi r) (by simp [Qi,D.PRow.enc]) (by simp [Qq]) (by simp [QP,Qq,List.drop_of_length_le])
    refine⟨b2,o2,⟨ea2,by omega,by omega⟩,?_⟩
    rw [Int.toNat_natCast]
    refine H2 _ fun h27 V27 _=>⟨_,isW (by unfold InR;omega),?_⟩
    have e5:((kept.length:Int)+1)=((((R.take (j+1)).filter fun r=>!p r).length:Nat):Int):=by rw [tkf];simp
    rw [e5]
    unfold Vec at V27
    rw [List.length_set,hQ] at V27
    refine hJ _ h27 (by rw [List.length_set];exact hQ) V27 ?_ ?_
    ·rw [tkf,List.length_append,List.length_singleton,List.take_succ_eq_append_getElem (by rw [List.length_set];exact hki),List.getElem_set_self,List.take_set_of_le (Nat.le_refl _),hQ1]
    ·rw [List.drop_set_of_lt (by omega),hd1]
   ·have hp:p r=true:=by simpa using e2
    rw [hp] at tkf
    simp only [if_true,List.append_nil] at tkf
    have:=hJ Q hh hQ OQ (by rw [tkf];exact hQ1) hd1
    rw [tkf] at this
    exact this
  ·have hge:j=R.length:=by have:=of_decide_eq_false e;omega
   subst hge
   rw [List.take_length] at hQ1 hle ⊢
   generalize hkept:R.filter (fun r=>!p r)=kept at *
   have rdl:=YY (P:=Tryz.prog) (h:=hh) (t:=64) (e:=83) hT hI (a:=a) (n:=R.length) (c:=c) (x:=(kept.length:Int)) (by omega) (by omega)
   rw [Int.toNat_natCast,hsz] at rdl
   refine⟨_,_,_,rdl,?_⟩
   obtain⟨g,L,rfl,hg,_⟩:=OQ.blk (by omega) (by decide)
   have hcut:QaR (some ⟨g,0,none⟩) kept.length c 5=some ⟨g,kept.length*5,none⟩:=by
    unfold QaR
    rw [if_neg (by omega)]
    simp only [Option.map_some,Addr.add]
    split
    ·rename_i h0';simp [h0']
    ·simp
   rw [hcut]
   have hz:(XF Tryz.prog 83).map Qu=some [vi 0,vi 0,vi 0,vsl none 0 0,vb false]:=by kernel_rfl
   refine Qh.clear QbY hz (by intro u hu;simp at hu;rcases hu with rfl|rfl|rfl|rfl|rfl<;>rfl) rfl OQ rfl (by omega) (by omega) fun h39 O39=>⟨rfl,?_⟩
   have rdh:=Wz (P:=Tryz.prog) (h:=h39) (t:=64) (e:=83) hT hI (a:=some ⟨g,0,none⟩) (n:=R.length) (c:=c) (x:=(kept.length:Int)) (by omega) (by omega)
   rw [Int.toNat_natCast] at rdh
   refine⟨_,_,_,rdh,hK h39 O39.le ⟨rfl,?_⟩⟩
   have:=O39.own.cut (m:=kept.length) (by omega)
   have e6:(QP (Q.flatMap Qi) (kept.length*5) ((List.replicate (R.length - kept.length) [vi 0,vi 0,vi 0,vsl none 0 0,vb false]).flatten)).take (kept.length*5)=kept.flatMap Qi:=by
    have hl1:((Q.flatMap Qi).take (kept.length*5)).length=kept.length*5:=by rw [List.length_take,Qs Qq];omega
    unfold QP
    rw [List.append_assoc,List.take_append_of_le_length (by rw [hl1];exact Nat.le_refl _),List.take_of_length_le (by rw [hl1];exact Nat.le_refl _)]
    have h7:(Q.take kept.length).flatMap Qi=(Q.flatMap Qi).take (kept.length*5):=by
     have h8:Q.flatMap Qi=(Q.take kept.length).flatMap Qi++(Q.drop kept.length).flatMap Qi:=by rw [←List.flatMap_append,List.take_append_drop]
     rw [h8,List.take_left' (by rw [Qs Qq,List.length_take];omega)]
    rw [←h7,hQ1]
   rw [e6] at this
   exact this.row
 ·have e:R.filter (fun r=>!p r)=R:=by
   rw [List.filter_eq_self]
   intro x hx
   rw [hno x hx];rfl
  rw [e] at hK
  exact hK h O.le S
theorem QfG {size upto:Int}(T:Tb h a R)(hn:R.length≤1000000)(hb:∀ r ∈ R,InR (r.k.1+size))
  (hK:∀ a' c' h',h.le h'→Tb h' a' (R.filter fun r=>!decide (r.k.1+size≤upto))→K' (vag [vsl a' (R.filter fun r=>!decide (r.k.1+size≤upto)).length c']) h'):Qa Tryz.prog 45 [vag [vsl a R.length c],vi size,vi upto] h K':=by
 refine MN ?_
 unfold KA
 intro b1 hb1 h2 b3 hb3 h4
 have l2:h.le h2:=Hp.le_set (Hp.le_refl h) hb1 _
 have l4:h2.le h4:=Hp.le_set (Hp.le_refl h2) hb3 _
 have c1:h4.cell b1 0=some (vi size):=Hp.cell_le l4 (QbK rfl)
 have c3:h4.cell b3 0=some (vi upto):=QbK rfl
 clear_value h4
 clear_value h2
 have l04:=Hp.le_trans l2 l4
 refine JU (T.le l04).s hn fun a' c' h6 O6=>⟨_,_,_,rfl,?_⟩
 refine Qe5 (p:=fun r=>decide (r.k.1+size≤upto)) O6 hn (fun hh r lh K2 hr hk=>?_) fun h9 l9 S9=>⟨_,_,_,rfl,hK _ _ h9 (Hp.le_trans l04 l9) ⟨S9,fun r hr=>(T.i r (List.mem_filter.1 hr).1).le (Hp.le_trans l04 l9)⟩⟩
 refine⟨98,#[],#[vhp b1 0,vhp b3 0],rfl,⟨_,Tryz.func98,by kernel_rfl,rfl⟩,?_⟩
 refine Vs ?_
 unfold Wp
 exact⟨_,Hp.cell_le lh c1,_,isW (hb r hr),_,Hp.cell_le lh c3,hk⟩
end
def Qiv (size upto:Int)(r:PR):Bool:=decide (r.k.1+size≤upto)
def Zx (size upto:Int)(r:PR):PR:={ r with t:=r.t||Qiv size upto r }
def Yk (size upto:Int)(r:PR):Bool:=!r.t&&Qiv size upto r
def Zc (r:PR):PR:={ r with t:=true }
section
variable {h:Hp}{K':Value→Hp→Prop}{a:Option Addr}{R:List PR}{c:Nat}
theorem Qh.apart {h0 h h':Hp}{e:TypeId}{sz n c:Nat}{a:Option Addr}{xs:List Value}(O:Qh h0 h e sz a n c xs)(l:h0.le h')(hk:∀ b o,a=some ⟨b,0,none⟩→h b=some o→h' b=some o):Qh h0 h' e sz a n c xs:=
 ⟨l,O.own.keep fun g o hg ho=>hk g o hg ho,O.new⟩
theorem Qh.self {h0 h:Hp}{e:TypeId}{sz n c:Nat}{a:Option Addr}{xs:List Value}(O:Qh h0 h e sz a n c xs):∃ hB:Hp,h0.le hB∧Qh hB h e sz a n c xs∧∀ b o,a≠some ⟨b,0,none⟩→h b=some o→hB b=some o:=by
 have e1:∀ b,a=some ⟨b,0,none⟩→(fun b=>if a=some ⟨b,0,none⟩ then none else h b:Hp) b=none:=fun b hb=>if_pos hb
 have e2:∀ b,¬ a=some ⟨b,0,none⟩→(fun b=>if a=some ⟨b,0,none⟩ then none else h b:Hp) b=h b:=fun b hb=>if_neg hb
 generalize (fun b=>if a=some ⟨b,0,none⟩ then none else h b:Hp)=hB at e1 e2
 refine⟨hB,fun b o ho=>?_,⟨fun b o ho=>?_,O.own,e1⟩,fun b o hn ho=>(e2 b hn).trans ho⟩
 ·have:¬ a=some ⟨b,0,none⟩:=fun q=>by rw [O.new b q] at ho;cases ho
  exact(e2 b this).trans (O.le b o ho)
 ·by_cases hq:a=some ⟨b,0,none⟩
  ·rw [e1 b hq] at ho;cases ho
  ·rw [e2 b hq] at ho;exact ho
theorem Qg.over {h h':Hp}{a:Option Addr}{xs:List Value}(H:Qg h a xs)(hk:∀ b o ob,a=some ⟨b,o,none⟩→h b=some ob→h' b=some ob):Qg h' a xs:=by
 rcases H with q|⟨b,o,q,hrw⟩
 ·exact .inl q
 ·refine .inr ⟨b,o,q,?_⟩
  unfold Hp.row at hrw ⊢
  cases hq:h b with
  | none=>rw [hq] at hrw;cases hrw
  | some ob=>rw [hk b o ob q hq];rw [hq] at hrw;exact hrw
theorem Qfr {size upto:Int}(T:Tb h a R)(hn:R.length≤1000000)(hb:∀ r ∈ R,InR (r.k.1+size))
  (hK:∀ a' c' a2 c2 h',h.le h'→Tb h' a' (R.map (Zx size upto))→Tb h' a2 ((R.filter (Yk size upto)).map Zc)→K' (Qf [vag [vsl a' R.length c'],vsl a2 ((R.filter (Yk size upto)).map Zc).length c2]) h'):Qa Tryz.prog 43 [vag [vsl a R.length c],vi size,vi upto] h K':=by
 refine MZ ?_
 unfold Kt
 refine JU T.s hn fun a3 c3 h2 O2=>⟨_,_,_,rfl,?_⟩
 refine⟨fun vs hh=>∃(i:Nat) (a9:Option Addr) (c9:Nat),vs=[vsl a9 (((R.take i).filter (Yk size upto)).map Zc).length c9,vi i]∧i≤R.length∧Qh h hh 83 5 a3 R.length c3 (((R.take i).map (Zx size upto)++R.drop i).flatMap Qi)∧Qh h hh 83 5 a9 (((R.take i).filter (Yk size upto)).map Zc).length c9 ((((R.take i).filter (Yk size upto)).map Zc).flatMap Qi)∧∀ g,a9=some ⟨g,0,none⟩→a3≠some ⟨g,0,none⟩,fun vs hh=>R.length - (Qn vs 1).toNat,⟨0,none,0,rfl,Nat.zero_le _,by simpa using O2,Qh.nil O2.le _ _,fun g hg=>by cases hg⟩,?_⟩
 rintro vs hh ⟨i,a9,c9,rfl,hi,OA,OB,hap⟩
 refine⟨a9,_,c9,_,rfl,fun e=>?_,fun e=>?_⟩
 ·have hlt:i < R.length:=by have:=of_decide_eq_true e;omega
  have hx:R[i]?=some R[i]:=List.getElem?_eq_getElem hlt
  have tk:R.take (i+1)=R.take i++[R[i]]:=List.take_succ_eq_append_getElem hlt
  have dr:R.drop i=R[i] :: R.drop (i+1):=List.drop_eq_getElem_cons hlt
  have hbr:=hb _ (List.getElem_mem hlt)
  generalize R[i]=r at *
  have htl:((R.take i).map (Zx size upto)).length=i:=by rw [List.length_map,List.length_take];omega
  have hll:((R.take i).map (Zx size upto)++R.drop i).length=R.length:=by rw [List.length_append,htl,List.length_drop];omega
  have hxi:((R.take i).map (Zx size upto)++R.drop i)[i]?=some r:=by
   rw [List.getElem?_append_right (by omega),htl,Nat.sub_self,dr];rfl
  have hnl:(((R.take i).filter (Yk size upto)).map Zc).length≤i:=by
   rw [List.length_map]
   have:=List.length_filter_le (Yk size upto) (R.take i)
   rw [List.length_take] at this
   omega
  have V:Vec Qi 5 83 h hh a3 c3 ((R.take i).map (Zx size upto)++R.drop i):=by unfold Vec;rw [hll];exact OA
  obtain⟨b,o,ea,hr⟩:=(V.slp Qq (by decide)).get Qq (by decide) hxi
  intro J38
  have hJ:∀(a9:Option Addr) (c9:Nat) (h2:Hp),Qh h h2 83 5 a3 R.length c3 (((R.take (i+1)).map (Zx size upto)++R.drop (i+1)).flatMap Qi)→Qh h h2 83 5 a9 (((R.take (i+1)).filter (Yk size upto)).map Zc).length c9 ((((R.take (i+1)).filter (Yk size upto)).map Zc).flatMap Qi)→(∀ g,a9=some ⟨g,0,none⟩→a3≠some ⟨g,0,none⟩)→J38 a9 (((R.take (i+1)).filter (Yk size upto)).map Zc).length c9 h2:=by
   intro a9 c9 h2 q1 q2 q3
   exact⟨_,isW (by unfold InR;omega),⟨i+1,a9,c9,by simp,by omega,q1,q2,q3⟩,by simp [Qn];omega⟩
  clear_value J38
  have ecnd:(bif (!r.t) then(decide ((r.k.1+size:Int)≤upto)) else false)=Yk size upto r:=by unfold Yk Qiv;cases r.t<;>rfl
  refine⟨b,o,⟨ea,by omega,by omega⟩,_,_,_,_,_,_,r.t,by rw [Int.toNat_natCast];exact hr,_,fun _=>isW hbr,?_⟩
  show ((bif (!r.t) then(decide ((r.k.1+size:Int)≤upto)) else false)=true→_)∧((bif (!r.t) then(decide ((r.k.1+size:Int)≤upto)) else false)=false→_)
  rw [ecnd]
  have tkf:((R.take (i+1)).filter (Yk size upto)).map Zc=((R.take i).filter (Yk size upto)).map Zc++if Yk size upto r=true then [Zc r] else []:=by
   rw [tk,List.filter_append,List.map_append,List.filter_cons,List.filter_nil]
   split<;>rfl
  have tkm:(R.take (i+1)).map (Zx size upto)=(R.take i).map (Zx size upto)++[Zx size upto r]:=by rw [tk,List.map_append];rfl
  refine⟨fun e2=>?_,fun e2=>?_⟩
  ·rw [if_pos e2] at tkf
   have etell:Zx size upto r=Zc r:=by
    unfold Yk at e2
    unfold Zx Zc
    cases ht:r.t<;>simp_all
   obtain⟨b2,o2,ea2,H2⟩:=V.putF Qq hxi (x':=Zc r) (k:=4) (vs:=[vb true]) (by simp) (by simp) (by simp [QP,Qi,QeB,D.PRow.enc,Zc])
   have hset:((R.take i).map (Zx size upto)++R.drop i).set i (Zc r)=(R.take (i+1)).map (Zx size upto)++R.drop (i+1):=by
    rw [List.set_append_right _ _ (by omega),htl,Nat.sub_self,dr,List.set_cons_zero,tkm,etell,List.append_assoc];rfl
   refine⟨b2,o2,⟨ea2,by omega,by omega⟩,?_⟩
   rw [Int.toNat_natCast]
   refine H2 _ fun h23 V23 B23=>?_
   rw [hset] at V23
   have hll2:((R.take (i+1)).map (Zx size upto)++R.drop (i+1)).length=R.length:=by rw [←hset,List.length_set,hll]
   have hxi2:((R.take (i+1)).map (Zx size upto)++R.drop (i+1))[i]?=some (Zc r):=by
    rw [←hset,List.getElem?_set_self (by rw [hll];exact hlt)]
   obtain⟨b3,o3,ea3,hr3⟩:=(V23.slp Qq (by decide)).get Qq (by decide) hxi2
   have OB23:Qh h h23 83 5 a9 (((R.take i).filter (Yk size upto)).map Zc).length c9 ((((R.take i).filter (Yk size upto)).map Zc).flatMap Qi):=Qh.apart OB V23.le0 fun g o hg ho=>B23.keep g o ho (hap g hg)
   refine⟨b3,o3,⟨ea3,by omega,by omega⟩,_,_,_,_,_,_,_,hr3,?_⟩
   intro b31 hb31 h32
   have V32:=V23.keep0 (Hp.le_set (Hp.le_refl h23) hb31 (Qc (Qi (Zc r)) 83))
   refine Qh.append QbY (Qh.set hb31 _ OB23) (Qg.new _ _ (Qi (Zc r)) _) (m:=1) rfl (KU _) (by omega) (by omega) fun a35 c35 h34 O34 k1 k2=>⟨_,_,_,rfl,?_⟩
   have hal:∀ g,a3=some ⟨g,0,none⟩→∃ ob,h23.set b31 (Qc (Qi (Zc r)) 83) g=some ob:=by
    intro g hg
    have:=(UV.fp _ _ _ _ _ _).al V32.ownF g hg
    cases hq:h23.set b31 (Qc (Qi (Zc r)) 83) g with
    | none=>exact absurd hq this
    | some ob=>exact⟨ob,rfl⟩
   have:=hJ a35 c35 h34 ?_ ?_ ?_
   ·rw [tkf,List.length_append] at this;exact this
   ·have V34:Vec Qi 5 83 h h34 a3 c3 ((R.take (i+1)).map (Zx size upto)++R.drop (i+1)):=Qh.apart V32 O34.le fun g o hg ho=>k1 g o ho fun q=>hap g q hg
    unfold Vec at V34
    rw [hll2] at V34
    exact V34
   ·rw [tkf,List.length_append,List.flatMap_append,List.flatMap_singleton];exact O34
   ·intro g hg hg3
    rcases k2 g hg with q|q
    ·exact hap g (q.trans hg) hg3
    ·obtain⟨ob,hob⟩:=hal g hg3
     rw [hob] at q;cases q
  ·rw [if_neg (by rw [e2];decide),List.append_nil] at tkf
   have etell:Zx size upto r=r:=by
    unfold Yk at e2
    unfold Zx
    obtain⟨k,ra,rc,acs,t⟩:=r
    cases t<;>simp_all
   have:=hJ a9 c9 hh ?_ ?_ hap
   ·rw [tkf] at this;exact this
   ·rw [tkm,etell,List.append_assoc]
    rw [dr] at OA
    exact OA
   ·rw [tkf];exact OB
 ·have hge:i=R.length:=by have:=of_decide_eq_false e;omega
  subst hge
  rw [List.take_length,List.drop_length,List.append_nil] at OA
  rw [List.take_length] at OB ⊢
  refine hK a3 c3 a9 c9 hh OA.le ⟨⟨rfl,by exact OA.row⟩,fun r hr=>?_⟩ ⟨⟨rfl,OB.row⟩,fun r hr=>?_⟩
  ·obtain⟨r0,h0,rfl⟩:=List.mem_map.1 hr
   exact(T.i r0 h0).le OA.le
  ·obtain⟨r0,h0,rfl⟩:=List.mem_map.1 hr
   exact(T.i r0 (List.mem_filter.1 h0).1).le OA.le
theorem QhP {k:PK}{ka va:Option Addr}{kn kc vn vc:Nat}{ks:List Int}{v:List Vl}(T:Tb h a R)(hn:R.length≤900000)(hs:(R.map (·.k)).Pairwise Qr)(SK:SlI h ka kn ks)(SV:SlP Qv h va vn v)(hv:v.length=ks.length)(hks:ks.length≤1000)
  (hkd:∀ r ∈ R,r.acs.length=ks.length) (hbd:∀ r ∈ R,∀ x ∈ r.acs,AcB x) (hvs:∀ u ∈ v,ZQ u)
  (hIn:∀(i:Nat) (r:PR) (a':Option Addr) (c':Nat) (a2:Option Addr) (c2:Nat) (h':Hp),R[i]?=some r→r.k=k→h.le h'→Tb h' a' (R.set i ⟨r.k,a2,c2,ZO r.acs v,r.t⟩)→K' (Qf [vag [vsl a' R.length c'],vag (Qi r),vb true]) h')
  (hNew:∀(i:Nat) (a':Option Addr) (c':Nat) (a2:Option Addr) (c2:Nat) (h':Hp),i≤R.length→(∀ x ∈ R.take i,Qr x.k k)→(∀ x,R[i]?=some x→¬ Qr x.k k)→(∀ x ∈ R,x.k≠k)→h.le h'→Tb h' a' (R.take i++⟨k,a2,c2,ZO (Xk ks) v,false⟩ :: R.drop i)→K' (Qf [vag [vsl a' (R.length+1) c'],vag [vi 0,vi 0,vi 0,vsl none 0 0,vb false],vb false]) h') :
  Qa Tryz.prog 90 [vag [vsl a R.length c],vi k.1,vag (Qv k.2),vsl ka kn kc,vsl va vn vc] h K':=by
 refine NU ?_
 unfold Je
 refine Qfs T.s (by omega) hs fun i is h2 l2 hi hah hna his=>⟨_,_,rfl,?_⟩
 refine JU (T.le l2).s (by omega) fun a7 c7 h6 O6=>⟨_,_,_,rfl,?_⟩
 have l6:=Hp.le_trans l2 O6.le
 have hvn:=SV.1
 have hkn:=SK.1
 intro J83
 have hJ:∀(a315:Option Addr) (c315:Nat) (Q:List PR) (x316 x317 x318:Int) (a319:Option Addr) (n319 c319:Nat) (p320:Bool) (h321:Hp) (r:PR),Qh h2 h321 83 5 a315 Q.length c315 (Q.flatMap Qi)→Q.length≤1000000→Q[i]?=some r→r.acs.length=ks.length→(∀ x ∈ r.acs,AcB x)→Qg h321 r.a (r.acs.flatMap YK) →
   (∀(a2:Option Addr) (c2:Nat) (h':Hp),Qh h2 h' 83 5 a315 Q.length c315 ((Q.set i ⟨r.k,a2,c2,ZO r.acs v,r.t⟩).flatMap Qi)→(∀ g xs,(∀ b o,g=some ⟨b,o,none⟩→a315≠some ⟨b,0,none⟩)→Qg h321 g xs→Qg h' g xs)→Qg h' a2 ((ZO r.acs v).flatMap YK)→K' (Qf [vag [vsl a315 Q.length c315],vag [vi x316,vi x317,vi x318,vsl a319 n319 c319,vb p320],vb is]) h')→J83 a315 Q.length c315 x316 x317 x318 a319 n319 c319 p320 h321:=by
  intro a315 c315 Q x316 x317 x318 a319 n319 c319 p320 h321 r OQ hQn hr hrl hrb hri hfin
  have hiQ:=(List.getElem?_eq_some_iff.1 hr).1
  have VQ:Vec Qi 5 83 h2 h321 a315 c315 Q:=OQ
  obtain⟨b,o,ea,hrow⟩:=(VQ.slp Qq (by decide)).get Qq (by decide) hr
  refine⟨b,o,⟨ea,by omega,by omega⟩,_,_,_,r.a,r.acs.length,r.c,r.t,by rw [Int.toNat_natCast];exact hrow,?_⟩
  refine Qhw hri (by omega) fun a331 c331 h330 V330=>⟨_,_,_,rfl,?_⟩
  have l330:=V330.le0
  have hacl:=Qjb (acs:=r.acs) (r:=v) (by omega)
  refine⟨fun vs hh=>∃ m:Nat,vs=[vi m]∧m≤v.length∧QnE h321 hh a331 c331 ((ZO r.acs v).take m++r.acs.drop m),fun vs hh=>v.length - (Qn vs 0).toNat,⟨0,rfl,Nat.zero_le _,by simpa using V330⟩,?_⟩
  rintro vs hh ⟨m,rfl,hm,V5⟩
  have hlen5:((ZO r.acs v).take m++r.acs.drop m).length=r.acs.length:=by rw [List.length_append,List.length_take,List.length_drop];omega
  refine⟨m,rfl,fun e=>?_,fun e=>?_⟩
  ·have hlt:m < v.length:=by have:=of_decide_eq_true e;omega
   have hltA:m < r.acs.length:=by omega
   have lh:h.le hh:=Hp.le_trans l2 (Hp.le_trans OQ.le V5.le0)
   have hxv:v[m]?=some v[m]:=List.getElem?_eq_getElem hlt
   obtain⟨b2,o2,ea2,hr2⟩:=(SV.le lh).get Ym (by decide) hxv
   have hxi:((ZO r.acs v).take m++r.acs.drop m)[m]?=some r.acs[m]:=by
    rw [List.getElem?_append_right (by rw [List.length_take];omega),List.length_take,Nat.min_eq_left (by omega),Nat.sub_self,List.getElem?_drop,Nat.add_zero,List.getElem?_eq_getElem hltA]
   obtain⟨b3,o3,ea3,hr3⟩:=(V5.slp YJ (by decide)).get YJ (by decide) hxi
   have hni:(ZO r.acs v)[m]'(by omega)=(r.acs[m].1,Q8 r.acs[m].1 r.acs[m].2 v[m]):=by unfold ZO;rw [List.getElem_zipWith]
   have hset:((ZO r.acs v).take m++r.acs.drop m).set m (r.acs[m].1,Q8 r.acs[m].1 r.acs[m].2 v[m])=(ZO r.acs v).take (m+1)++r.acs.drop (m+1):=by
    rw [←hni,List.set_append_right _ _ (by rw [List.length_take];omega),List.length_take,Nat.min_eq_left (by omega),Nat.sub_self,List.drop_eq_getElem_cons hltA,List.set_cons_zero,List.take_succ_eq_append_getElem (by omega:m < (ZO r.acs v).length),List.append_assoc]
    rfl
   have hb1:=hrb _ (List.getElem_mem hltA)
   have hb2:=hvs _ (List.getElem_mem hlt)
   unfold AcB at hb1
   unfold ZQ at hb2
   have hA0:QnE h321 hh a331 c331 ((ZO r.acs v).take m++r.acs.drop m):=V5
   obtain⟨b4,o4,ea4,H4⟩:=V5.putF YJ hxi (x':=(r.acs[m].1,Q8 r.acs[m].1 r.acs[m].2 v[m])) (k:=0) (vs:=YK (r.acs[m].1,Q8 r.acs[m].1 r.acs[m].2 v[m])) (by simp [YK,QhQ]) (by simp [YJ]) (by simp [QP,YJ,List.drop_of_length_le])
   refine⟨b2,o2,⟨ea2,by omega,by omega⟩,_,_,by rw [Int.toNat_natCast];exact hr2,b3,o3,⟨ea3,by omega,by omega⟩,_,_,_,_,by rw [Int.toNat_natCast];exact hr3,?_⟩
   refine Qfo (k:=r.acs[m].1) (s:=r.acs[m].2) (v:=v[m]) (by unfold InR;omega) (by unfold InR;omega) ⟨_,_,_,_,rfl,b4,o4,⟨ea4,by omega,by omega⟩,?_⟩
   rw [Int.toNat_natCast]
   refine H4 _ fun h358 V358 _=>⟨_,isW (by unfold InR;omega),⟨m+1,by simp,by omega,?_⟩,by simp [Qn];omega⟩
   rw [hset] at V358
   exact V358
  ·have hge:m=v.length:=by have:=of_decide_eq_false e;omega
   subst hge
   rw [List.take_of_length_le (by omega),List.drop_of_length_le (by omega),List.append_nil] at V5
   have VQ5:=VQ.keep0 V5.le0
   obtain⟨b2,o2,ea2,H2⟩:=VQ5.putF Qq hr (x':=⟨r.k,a331,c331,ZO r.acs v,r.t⟩) (k:=0) (vs:=Qi ⟨r.k,a331,c331,ZO r.acs v,r.t⟩) (by simp [Qi,D.PRow.enc]) (by simp [Qq]) (by simp [QP,Qq,List.drop_of_length_le])
   refine⟨b2,o2,⟨ea2,by omega,by omega⟩,?_⟩
   rw [Int.toNat_natCast]
   have est:Qi ⟨r.k,a331,c331,ZO r.acs v,r.t⟩=[vi r.k.1,vi r.k.2.1,vi r.k.2.2,vsl a331 r.acs.length c331,vb r.t]:=by unfold Qi QeB;simp [D.PRow.enc,hacl]
   rw [est,Nat.add_zero] at H2
   refine H2 _ fun h363 V363 B363=>?_
   unfold Vec at V363
   rw [List.length_set] at V363
   have keep:∀ g xs,(∀ b o,g=some ⟨b,o,none⟩→a315≠some ⟨b,0,none⟩)→Qg hh g xs→Qg h363 g xs:=by
    intro g xs hg H
    rcases H with q|⟨b,o,q,hrw⟩
    ·exact .inl q
    ·refine .inr ⟨b,o,q,?_⟩
     unfold Hp.row at hrw ⊢
     cases hq:hh b with
     | none=>rw [hq] at hrw;cases hrw
     | some ob=>rw [B363.keep b ob hq (hg b o q)];rw [hq] at hrw;exact hrw
   refine hfin a331 c331 h363 V363 (fun g xs hg H=>keep g xs hg (H.le V5.le0)) (keep _ _ (fun b o hb he=>?_) (Qh.row V5))
   have hb0:o=0:=QI.at0 (Qh.own V5) b o hb
   subst hb0
   have:=V5.new b hb
   have hal:=(UV.fp _ _ _ _ _ _).al VQ.ownF b he
   exact hal this
 clear_value J83
 have hiold:∀{hx:Hp} {r:PR},r ∈ R→h6.le hx→∀(a315:Option Addr) (h2':h2.le hx),Qg hx r.a (r.acs.flatMap YK):=fun hr l _ _=>(T.i _ hr).le (Hp.le_trans l6 l)
 -- what is there stays behind a change of the own slice
 have kept:∀{hx h':Hp} {a315:Option Addr} {g:Option Addr} {xs:List Value},h2.le h'→Qg h2 g xs→Qg h' g xs:=fun l H=>H.le l
 refine⟨fun e=>?_,fun e=>?_⟩
 ·obtain⟨r,hr,hrk⟩:=his.1 e
  have hmem:=List.mem_of_getElem? hr
  have VQ:Vec Qi 5 83 h2 h6 a7 c7 R:=O6
  obtain⟨b,o,ea,hrow⟩:=(VQ.slp Qq (by decide)).get Qq (by decide) hr
  have hil:=(List.getElem?_eq_some_iff.1 hr).1
  refine⟨b,o,⟨ea,by omega,by omega⟩,_,_,_,_,_,_,_,by rw [Int.toNat_natCast];exact hrow,?_⟩
  refine hJ a7 c7 R _ _ _ _ _ _ _ h6 r O6 (by omega) hr (hkd r hmem) (hbd r hmem) ((T.i r hmem).le l6) fun a2 c2 h' O' _ H2=>?_
  rw [e]
  refine hIn i r a7 c7 a2 c2 h' hr hrk (Hp.le_trans l2 O'.le) ⟨⟨by rw [List.length_set],by exact O'.row⟩,fun r' hr'=>?_⟩
  rcases List.mem_or_eq_of_mem_set hr' with q|q
  ·exact(T.i r' q).le (Hp.le_trans l2 O'.le)
  ·rw [q];exact H2
 ·have hne:∀ x ∈ R,x.k≠k:=by
   intro x hx ek
   obtain⟨m,hm⟩:=List.getElem?_of_mem hx
   rcases Nat.lt_trichotomy m i with h5|h5|h5
   ·have:x ∈ R.take i:=by
     have:(R.take i)[m]?=some x:=by rw [List.getElem?_take,if_pos h5];exact hm
     exact List.mem_of_getElem? this
    have:=hah x this
    rw [ek] at this
    exact Yz _ this
   ·subst h5
    have:=his.2 ⟨x,hm,ek⟩
    rw [e] at this;cases this
   ·have hil:i < R.length:=by have:=(List.getElem?_eq_some_iff.1 hm).1;omega
    have hy:R[i]?=some R[i]:=List.getElem?_eq_getElem hil
    have h1:=hna _ hy
    have:=List.pairwise_iff_getElem.1 hs i m (by simpa using hil) (by simpa using (List.getElem?_eq_some_iff.1 hm).1) h5
    simp only [List.getElem_map] at this
    rw [(List.getElem?_eq_some_iff.1 hm).2,ek] at this
    exact h1 this
  intro J45
  have hJ45:∀(a74:Option Addr) (c74:Nat) (h76:Hp),QnE h6 h76 a74 c74 (Xk ks)→J45 k.1 k.2.1 k.2.2 a74 (Xk ks).length c74 false h76:=by
   intro a74 c74 h76 VA b77 hb77 h78
   have l78:h76.le h78:=Hp.le_set (Hp.le_refl h76) hb77 _
   have k77:h78 b77=some (Qc (Qi ⟨k,a74,c74,Xk ks,false⟩) 83):=Hp.set_same _ _ _
   clear_value h78
   have O78:=(Qh.mono VA.le0 O6).mono l78
   obtain⟨hB,lB,OB,kB⟩:=Qh.self O78
   have hrowB:Qg hB a74 ((Xk ks).flatMap YK):=Qg.over ((Qh.row VA).le l78) fun b o ob hb ho=>kB b ob (fun q=>by
    have hb0:o=0:=QI.at0 (Qh.own VA) b o hb
    subst hb0
    have h1:=VA.new b hb
    exact(UV.fp _ _ _ _ _ _).al (Vec.ownF (show Vec Qi 5 83 h2 h6 a7 c7 R from O6)) b q h1) ho
   refine Qek (x:=⟨k,a74,c74,Xk ks,false⟩) OB (by omega) hi k77 (fun q=>?_) fun a81 c81 h80 O80=>⟨_,_,_,rfl,?_⟩
   ·have hal:=(UV.fp _ _ _ _ _ _).al (Vec.ownF (show Vec Qi 5 83 h2 h6 a7 c7 R from O6)) b77 q
    exact hal (Hp.none_of_le VA.le0 hb77)
   have hQl:(R.take i++(⟨k,a74,c74,Xk ks,false⟩:PR) :: R.drop i).length=R.length+1:=by rw [List.length_append,List.length_cons,List.length_take,List.length_drop];omega
   have htl:(R.take i).length=i:=by rw [List.length_take];omega
   have hQi:(R.take i++(⟨k,a74,c74,Xk ks,false⟩:PR) :: R.drop i)[i]?=some ⟨k,a74,c74,Xk ks,false⟩:=by rw [List.getElem?_append_right (by omega),htl,Nat.sub_self];rfl
   have ha0:(Xk ks).length=ks.length:=by unfold Xk;rw [List.length_map]
   have hrow:Qg h80 a74 ((Xk ks).flatMap YK):=hrowB.le O80.le
   have O80:=O80.trans lB
   have:=hJ a81 c81 (R.take i++(⟨k,a74,c74,Xk ks,false⟩:PR) :: R.drop i) 0 0 0 none 0 0 false h80 ⟨k,a74,c74,Xk ks,false⟩ (by rw [hQl];exact O80) (by omega) hQi ha0 ?_ hrow fun a2 c2 h' O' _ H2=>?_
   ·rw [hQl] at this;exact this
   ·intro x hx
    unfold Xk at hx
    obtain⟨k0,_,rfl⟩:=List.mem_map.1 hx
    unfold AcB
    simp only
    omega
   ·rw [e]
    have hset:(R.take i++(⟨k,a74,c74,Xk ks,false⟩:PR) :: R.drop i).set i ⟨k,a2,c2,ZO (Xk ks) v,false⟩=R.take i++⟨k,a2,c2,ZO (Xk ks) v,false⟩ :: R.drop i:=by
     rw [List.set_append_right _ _ (by omega),htl,Nat.sub_self,List.set_cons_zero]
    rw [hset,hQl] at O'
    rw [hQl]
    have hQl2:(R.take i++(⟨k,a2,c2,ZO (Xk ks) v,false⟩:PR) :: R.drop i).length=R.length+1:=by rw [List.length_append,List.length_cons,List.length_take,List.length_drop];omega
    refine hNew i a81 c81 a2 c2 h' hi hah hna hne (Hp.le_trans l2 O'.le) ⟨⟨rfl,O'.row⟩,fun r' hr'=>?_⟩
    rcases List.mem_append.1 hr' with q|q
    ·exact(T.i r' (List.mem_of_mem_take q)).le (Hp.le_trans l2 O'.le)
    ·rcases List.mem_cons.1 q with rfl|q
     ·exact H2
     ·exact(T.i r' (List.mem_of_mem_drop q)).le (Hp.le_trans l2 O'.le)
  clear_value J45
  refine⟨fun vs hh=>∃(m:Nat) (aa:Option Addr) (ca:Nat),vs=[vi m,vi k.1,vi k.2.1,vi k.2.2,vsl aa (Xk (ks.take m)).length ca,vb false]∧m≤ks.length∧QnE h6 hh aa ca (Xk (ks.take m)),fun vs hh=>ks.length - (Qn vs 0).toNat,⟨0,none,0,rfl,Nat.zero_le _,Qh.nil (Hp.le_refl _) _ _⟩,?_⟩
  rintro vs hh ⟨m,aa,ca,rfl,hm,V⟩
  refine⟨_,_,_,_,aa,_,ca,false,rfl,fun e5=>?_,fun e5=>?_⟩
  ·have hltm:m < ks.length:=by have:=of_decide_eq_true e5;omega
   have tkm:ks.take (m+1)=ks.take m++[ks[m]]:=List.take_succ_eq_append_getElem hltm
   have hal:(Xk (ks.take m)).length=m:=by unfold Xk;rw [List.length_map,List.length_take];omega
   obtain⟨b,o,ea,hc⟩:=(SK.le (Hp.le_trans l6 V.le0)).get (i:=m) (by omega)
   have hgd:ks.getD m 0=ks[m]:=by rw [List.getD_eq_getElem?_getD,List.getElem?_eq_getElem hltm];rfl
   rw [hgd] at hc
   generalize ks[m]=km at *
   refine⟨b,o,⟨ea,by omega,by omega⟩,_,by rw [Int.toNat_natCast];exact hc,QfQ ⟨_,_,_,_,rfl,?_⟩⟩
   intro b38 hb38 h39
   refine Vec.app Qmv YJ Qki V (by rw [hal];omega) (by rw [hal];omega) (x:=(km,(0,0,0))) hb38 fun a' c' h' V'=>⟨_,_,_,rfl,_,isW (by unfold InR;omega),⟨m+1,a',c',?_,by omega,?_⟩,by simp [Qn];omega⟩
   ·rw [tkm];unfold Xk;rw [List.map_append];rfl
   ·rw [tkm];unfold Xk at V' ⊢;rw [List.map_append];exact V'
  ·have hge:m=ks.length:=by have:=of_decide_eq_false e5;omega
   rw [hge,List.take_length] at V ⊢
   exact hJ45 aa ca hh V
end
end Go.Proofs.YtgmplfdecikgoaaGreatDoor
