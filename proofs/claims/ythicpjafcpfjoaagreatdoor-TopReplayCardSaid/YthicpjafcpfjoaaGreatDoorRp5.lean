/-
  Laws and contracts on which the statement's proof stands, part 5. Conditions: those stated at each.
-/
import Derived.Lib.SplitLaws
import Derived.Lib.Join
import Derived.Laws.Small
import Derived.Test.YthicpjafcpfjoaaGreatDoorRp4
set_option linter.unusedVariables false
set_option maxRecDepth 100000
namespace Go.Proofs.YthicpjafcpfjoaaGreatDoor
open Go Go.Vc
theorem Qoc {h:Hp}{F:NpT}{g:Nat}{s:DK}(D:PD h F g s){b:Nat}(hb:F b){o:Obj}(ho:h b=some o):o.isCells=true:=by
 obtain⟨aK,cK,aN,cN,aW,cW,rfl,R⟩:=D;exact R.cells hb ho
def KY (t:LuT):Value->LuT
 | .slice (some a) m _=>(t.drop a.off).take m
 | _=>[]
theorem Qba (b:Nat)(t:LuT):(WS b 0 t.length 256).map (KY t)=Zq t:=by
 unfold WS Zq;rw [fH];refine fK fun k hk=>?_
 simp only [mR] at hk;have h1:k*256<t.length:=by omega
 show (t.drop (0+min (k*256) t.length)).take (min 256 (t.length-k*256))=(t.drop (k*256)).take 256;rw [dW,dU (gF h1)];rcases Nat.le_total 256 (t.length-k*256) with h2|h2
 ·rw [dU h2]
 ·rw [Nat.min_eq_right h2,cY (by simp),cY (by simp;omega)]
def bxF (B:Hp)(b18 b41:Nat)(e:OtT)(i:Int):Hp:=(B.set b18 (Qb [ifv e] 59)).set b41 (Qb [vi i] 3)
theorem Xe (B:Hp){b18 b41:Nat}(hne:b18≠b41)(e:OtT)(i:Int):bxF B b18 b41 e i b18=some (Qb [ifv e] 59):=by
 unfold bxF;rw [qL _ _ hne,qK]
theorem QeJ (B:Hp){b18 b41:Nat}(e:OtT)(i:Int):bxF B b18 b41 e i b41=some (Qb [vi i] 3):=by
 unfold bxF;rw [qK]
theorem Qi3 (B:Hp){b18 b41 b:Nat}(h1:b≠b18)(h2:b≠b41)(e:OtT)(i:Int):bxF B b18 b41 e i b=B b:=by
 unfold bxF;rw [qL _ _ h2,qL _ _ h1]
theorem MU (B:Hp){b18 b41:Nat}(hne:b18≠b41)(e e2:OtT)(i:Int):(bxF B b18 b41 e i).set b18 (Qb [ifv e2] 59)=bxF B b18 b41 e2 i:=by
 funext b
 unfold bxF Hp.set;by_cases h1:b=b18
 ·subst h1;simp [hne]
 ·simp [h1]
theorem Qmq (B:Hp){b18 b41:Nat}(e:OtT)(i i2:Int):(bxF B b18 b41 e i).set b41 (Qb [vi i2] 3)=bxF B b18 b41 e i2:=by
 funext b
 unfold bxF Hp.set;by_cases h1:b=b41
 ·simp [h1]
 ·simp [h1]
theorem QfO (h:Hp):ZR h h:=fun b o h1 h2=>by rw [h1] at h2;cases h2
theorem Vq {h0 h:Hp}(N:ZR h0 h)(b:Nat)(l:List Value)(t:TypeId):ZR h0 (h.set b (Qb l t)):=by
 intro b2 o h1 h2;by_cases e:b2=b
 ·subst e;rw [qK] at h1;cases h1;rfl
 ·rw [qL _ _ e] at h1;exact N b2 o h1 h2
theorem Qdt {h0 h:Hp}{F:NpT}{g:Nat}{s:DK}(D:PD h F g s){n:Nat}(W:s.wf n)(hw:s.wait.length<=1000000)(N:ZR h0 h){i:Int}{d:LuT}{R:RtT}(hK:∀ h' F',PD h' F' g (Qx s i d).1->Mut F h F' h'->ZR h0 h'->R (ifv (QA (Qx s i d).2)) h') :
  Qa Pg 101 [vhp g 0,vi i,vs (bs d)] h R:=by
 refine Qa.less (Kj D W hw (R:=fun v h'=>∃ F',PD h' F' g (Qx s i d).1/\Mut F h F' h'/\v=ifv (QA (Qx s i d).2)) fun h' F' D' M'=>⟨F',D',M',rfl⟩) ?_
 rintro v h' ⟨F',D',M',rfl⟩;obtain⟨h2,l,M2,k,hc⟩:=M'.trim;have D2:=D'.keep k;refine⟨h2,l,hK h2 F' D2 M2 fun b o h1 h3=>?_⟩
 rcases hc b o h1 with ⟨_,h4⟩|h4
 ·exact N b o h4 h3
 ·exact Qoc D2 h4 h1
theorem MS {F F':NpT}{h hX bx:Hp}(S:Bes F h F' hX bx){g:Nat}{s:DK}(D:PD hX F' g s){b18 b3:Nat}{t18 t3:TypeId}{e:OtT}{u:Value}(x18:bx b18=some (Qb [ifv e] t18))(x3:bx b3=some (Qb [u] t3)){R:RtT}(hR:∀ h2,PD h2 F' g s->Mut F h F' h2->R (ifv e) h2) :
  ∃(e1:OtT),Hp.cell hX b18 0=some (ifv e1)/\Hp.store hX b3 0 [ifv e1] fun h1=>∃(e2:OtT),Hp.cell h1 b3 0=some (ifv e2)/\R (ifv e2) h1:=by
 refine⟨e,S.get x18,S.put x3 fun S2=>⟨e,S2.get (qK _ _ _),hR _ (D.keep fun b hb o ho=>?_) S2.m⟩⟩
 rw [qL]
 ·exact ho
 ·intro e2;subst e2;exact(S.n _ _ x3).2 hb
theorem Ul {h bx hX:Hp}{F F':NpT}(S:Bes F h F' hX bx){g:Nat}{s:DK}(D:PD hX F' g s){b:Nat}{o o2:Obj}(hx:bx b=some o):PD (hX.set b o2) F' g s:=by
 refine D.keep fun b2 hb o3 ho=>?_
 rw [qL]
 ·exact ho
 ·intro e;subst e;exact(S.n _ _ hx).2 hb
theorem Nz {h:Hp}{F:NpT}{g:Nat}{s:DK}{n:Nat}(D:PD h F g s)(hD:DOK s n)(hw:s.wait.length<=900000){t:LuT}(ht:t.length<=1000000){R:RtT}(hK:∀ h' F',PD h' F' g (KC s t).1->Mut F h F' h'->R (ifv (QA (KC s t).2)) h'):Qa Pg 56 [vhp g 0,vs (bs t)] h R:=by
 refine QfF ?_
 rw [Yh];unfold KC at hK;have S0:=Bes.start D.al;intro b1 hb1 h2 b3 hb3 h4;have S1:=S0.alloc hb1 (Qb [vhp g 0] 34);have S2:=S1.alloc hb3 (Qb [ifv none] 59);have x1:=S1.keepA (o:=Qb [ifv none] 59) (qK _ _ _) hb3;have x3:=qK (Hp.set (fun _=>none) b1 (Qb [vhp g 0] 34)) b3 (Qb [ifv none] 59)
 have D2:PD h4 F g s:=D.le (qP (qQ (qO h) hb1 _) (qQ (qO h2) hb3 _));change Bes F h F h4 _ at S2;generalize hbx:Hp.set (Hp.set (fun _=>none) b1 (Qb [vhp g 0] 34)) b3 (Qb [ifv none] 59)=bx at S2 x1 x3
 refine⟨some ⟨g,0,none⟩,S2.get x1,Qbc D2 ⟨_,rfl,fun e=>?_,fun e=>?_⟩⟩
 ·rw [bJ e] at hK;refine S2.put x3 fun S3=>⟨_,S3.get (qK _ _ _),?_⟩
  have:=hK _ F (Ul S2 D2 x3) S3.m;change R (ifv (QA 7)) _ at this;rw [JJ (by decide)] at this
  exact this
 rw [bE (by rw [e];decide)] at hK
 refine⟨some ⟨g,0,none⟩,S2.get x1,Qa2 D2 hD ⟨_,_,_,rfl,?_⟩⟩
 intro b18 hb18 h19;have S3:=S2.alloc hb18 (Qb [ifv none] 59);have y1:=S2.keepA (o:=Qb [ifv none] 59) x1 hb18;have y3:=S2.keepA (o:=Qb [ifv none] 59) x3 hb18;have n1:b1≠b18:=fun e=>by subst e;rw [S2.x _ _ x1] at hb18;cases hb18
 have n3:b3≠b18:=fun e=>by subst e;rw [S2.x _ _ x3] at hb18;cases hb18
 have D3:PD h19 F g s:=D2.le (qQ (qO h4) hb18 _);refine S3.put (qK _ _ _) fun S4=>?_
 have D4:=Ul S3 D3 (o2:=Qb [ifv (QA (Zh s).2)] 59) (qK bx b18 (Qb [ifv none] 59));have z1:((bx.set b18 (Qb [ifv none] 59)).set b18 (Qb [ifv (QA (Zh s).2)] 59)) b1=some (Qb [vhp g 0] 34):=by rw [qL _ _ n1];exact y1
 have z3:((bx.set b18 (Qb [ifv none] 59)).set b18 (Qb [ifv (QA (Zh s).2)] 59)) b3=some (Qb [ifv none] 59):=by rw [qL _ _ n3];exact y3
 have z18:=qK (bx.set b18 (Qb [ifv none] 59)) b18 (Qb [ifv (QA (Zh s).2)] 59);refine⟨_,S4.get z18,fun e1=>?_,fun e1=>?_⟩
 ·rw [Wg] at e1;have e1':(Zh s).2≠0:=by simpa using e1
  rw [bJ e1'] at hK;exact MS S4 D4 z18 z3 fun h2 k1 k2=>hK h2 F k1 k2
 rw [Wg] at e1;have e0:(Zh s).2=0:=by simpa using e1
 rw [bE (by rw [e0];decide)] at hK
 obtain⟨r1,r2,r3,r4,r5,r6⟩:=Qes e0;clear r5 r6 r1;generalize (Zh s).1.1=ep at hK r4 ⊢;have hwf:=hD.wf.w;have hn2:=hD.wf.n2;have hh:QI s<=80:=by unfold QI;omega
 refine⟨some ⟨g,0,none⟩,S4.get z1,K7 D4 (by omega) ⟨_,rfl,_,iW,fun e2=>?_,fun e2=>?_⟩⟩
 ·simp only [jI] at e2;rw [bJ (by omega)] at hK
  refine S4.put z3 fun S5=>⟨_,S5.get (qK _ _ _),?_⟩
  have:=hK _ F (Ul S4 D4 z3) S5.m;change R (ifv (QA 6)) _ at this;rw [JJ (by decide)] at this
  exact this
 simp only [f9] at e2;rw [bE (by omega)] at hK
 have htm:Int.tmod ((ep:Int)+1) 2=(((ep+1) % 2:Nat):Int):=by rw [kK (by omega)];omega
 have hmul:(((ep+1) % 2:Nat):Int)*(QI s:Int)=(((ep+1) % 2*QI s:Nat):Int):=by rw [qB]
 have hlt:=mD (ep+1) (show 0<2 by decide)
 have hml:(ep+1) % 2*QI s<=80:=by
  rcases kM ((ep+1) % 2) 1 with k|k
  ·rw [show (ep+1) % 2=0 by omega];omega
  ·rw [show (ep+1) % 2=1 by omega];omega
 refine⟨(ep:Int)+1,iW,by decide,some ⟨g,0,none⟩,S4.get z1,K7 D4 (by omega) ⟨_,rfl,(((ep+1) % 2*QI s:Nat):Int),?_,((2+(ep+1) % 2*QI s:Nat):Int),?_,?_⟩⟩
 ·rw [htm,hmul];exact iW
 ·have:=isW (e:=2+(((ep+1) % 2*QI s:Nat):Int)) (by unfold InR;omega)
  rw [show ((2+(ep+1) % 2*QI s:Nat):Int)=2+(((ep+1) % 2*QI s:Nat):Int) by omega]
  exact this
 generalize hi0:2+(ep+1) % 2*QI s=i0 at hK ⊢;rw [e0] at z1 z3 z18 S4 D4 ⊢;change _ at S4;generalize hbx4:(bx.set b18 (Qb [ifv none] 59)).set b18 (Qb [ifv (QA 0)] 59)=bx4 at S4 z1 z3 z18;generalize hh4:(h19.set b18 (Qb [ifv (QA 0)] 59))=hh4 at S4 D4 ⊢;intro b41 hb41 h42;have S5:=S4.alloc hb41 (Qb [vi 0] 3);have D5:PD h42 F g s:=D4.le (qQ (qO _) hb41 _);have m1:b1≠b41:=fun e=>by subst e;rw [S4.x _ _ z1] at hb41;cases hb41
 have m3:b3≠b41:=fun e=>by subst e;rw [S4.x _ _ z3] at hb41;cases hb41
 have m18:b18≠b41:=fun e=>by subst e;rw [S4.x _ _ z18] at hb41;cases hb41
 refine S5.put (qK _ _ _) fun S6=>?_
 have D6:=Ul S5 D5 (o2:=Qb [vi i0] 3) (qK bx4 b41 (Qb [vi 0] 3));have u1:((bx4.set b41 (Qb [vi 0] 3)).set b41 (Qb [vi i0] 3)) b1=some (Qb [vhp g 0] 34):=by rw [qL _ _ m1,qL _ _ m1];exact z1
 have u3:((bx4.set b41 (Qb [vi 0] 3)).set b41 (Qb [vi i0] 3)) b3=some (Qb [ifv none] 59):=by rw [qL _ _ m3,qL _ _ m3];exact z3
 have u18:((bx4.set b41 (Qb [vi 0] 3)).set b41 (Qb [vi i0] 3)) b18=some (Qb [ifv (QA 0)] 59):=by rw [qL _ _ m18,qL _ _ m18];exact z18
 have u41:=qK (bx4.set b41 (Qb [vi 0] 3)) b41 (Qb [vi i0] 3);generalize (bx4.set b41 (Qb [vi 0] 3)).set b41 (Qb [vi i0] 3)=bx6 at S6 u1 u3 u18 u41;generalize h42.set b41 (Qb [vi i0] 3)=h43 at S6 D6 ⊢;refine Qi2 (P:=Pg) (e:=5) (by kernel_rfl) (by kernel_rfl) (by kernel_rfl) fun bb cap tail fz hbb hcap=>⟨_,_,_,rfl,?_⟩
 generalize hob:Obj.cells ((t.map fun x=>vk .u8 (x.toNat:Nat)).toArray++tail) 5 fz=ob
 have S7:=S6.alloc hbb ob;have D7:PD (h43.set bb ob) F g s:=D6.le (qQ (qO _) hbb _);have v1:=S6.keepA (o:=ob) u1 hbb;have v3:=S6.keepA (o:=ob) u3 hbb;have v18:=S6.keepA (o:=ob) u18 hbb;have v41:=S6.keepA (o:=ob) u41 hbb;have vb:=qK bx6 bb ob;generalize bx6.set bb ob=bx7 at S7 v1 v3 v18 v41 vb;generalize h43.set bb ob=h45 at S7 D7 ⊢;refine Qoi (n:=256) (by decide) (by decide) hcap (by omega) ?_
 intro Bs Bn h48 hc hBs hBn hne hh48 hle hother hseq;have S8:=(S7.alloc hBs (Qb [vsl (some ⟨bb,0,none⟩) t.length cap] 207));have hBn2:(h45.set Bs (Qb [vsl (some ⟨bb,0,none⟩) t.length cap] 207)) Bn=none:=by rw [qL _ _ hne];exact hBn
 have S9:=S8.alloc hBn2 (Qb [vi (256:Nat)] 3);rw [<-hh48] at S9;have D9:PD h48 F g s:=D7.le (by rw [hh48];exact qP (qQ (qO _) hBs _) (qQ (qO _) hBn2 _))
 have w1:=S8.keepA (o:=Qb [vi (256:Nat)] 3) (S7.keepA (o:=Qb [vsl (some ⟨bb,0,none⟩) t.length cap] 207) v1 hBs) hBn2;have w3:=S8.keepA (o:=Qb [vi (256:Nat)] 3) (S7.keepA (o:=Qb [vsl (some ⟨bb,0,none⟩) t.length cap] 207) v3 hBs) hBn2;have w18:=S8.keepA (o:=Qb [vi (256:Nat)] 3) (S7.keepA (o:=Qb [vsl (some ⟨bb,0,none⟩) t.length cap] 207) v18 hBs) hBn2;have w41:=S8.keepA (o:=Qb [vi (256:Nat)] 3) (S7.keepA (o:=Qb [vsl (some ⟨bb,0,none⟩) t.length cap] 207) v41 hBs) hBn2;have wb:=S8.keepA (o:=Qb [vi (256:Nat)] 3) (S7.keepA (o:=Qb [vsl (some ⟨bb,0,none⟩) t.length cap] 207) vb hBs) hBn2;have ws:=S8.keepA (o:=Qb [vi (256:Nat)] 3) (qK bx7 Bs (Qb [vsl (some ⟨bb,0,none⟩) t.length cap] 207)) hBn2;have wn:=qK (bx7.set Bs (Qb [vsl (some ⟨bb,0,none⟩) t.length cap] 207)) Bn (Qb [vi (256:Nat)] 3);have p1:bb≠b18:=fun e=>by subst e;rw [S6.x _ _ u18] at hbb;cases hbb
 have p2:bb≠b41:=fun e=>by subst e;rw [S6.x _ _ u41] at hbb;cases hbb
 have p3:Bs≠b18:=fun e=>by subst e;rw [S7.x _ _ v18] at hBs;cases hBs
 have p4:Bs≠b41:=fun e=>by subst e;rw [S7.x _ _ v41] at hBs;cases hBs
 have p5:Bn≠b18:=fun e=>by subst e;rw [S7.x _ _ v18] at hBn;cases hBn
 have p6:Bn≠b41:=fun e=>by subst e;rw [S7.x _ _ v41] at hBn;cases hBn
 generalize (bx7.set Bs (Qb [vsl (some ⟨bb,0,none⟩) t.length cap] 207)).set Bn (Qb [vi (256:Nat)] 3)=bx9 at S9 w1 w3 w18 w41 wb ws wn;have hcb:hc.le bx9:=by
  intro b o ho;have h1:=hle b o ho;by_cases e1:b=Bs
  ·subst e1;rw [S9.x _ _ ws] at h1;rw [<-h1];exact ws
  ·by_cases e2:b=Bn
   ·subst e2;rw [S9.x _ _ wn] at h1;rw [<-h1];exact wn
   ·rw [hother b e1 e2] at ho;cases ho
 obtain⟨B,hB⟩:∃ B:Hp,B=fun b=>if b=b18\/b=b41 then none else bx9 b:=⟨_,rfl⟩
 have hBo:∀ b,b≠b18->b≠b41->B b=bx9 b:=fun b k1 k2=>by rw [hB];simp [k1,k2]
 have hb9:bx9=bxF B b18 b41 none (i0:Int):=by
  funext b
  by_cases e1:b=b41
  ·subst e1;rw [QeJ];exact w41
  ·by_cases e2:b=b18
   ·subst e2;rw [Xe _ m18];exact w18
   ·rw [Qi3 _ e2 e1,hBo b e2 e1]
 have hcB:∀ e i,hc.le (bxF B b18 b41 e i):=by
  intro e i b o ho;have e1:b≠b18:=fun e=>by
   subst e;rw [hother _ (qE p3) (qE p5)] at ho;cases ho
  have e2:b≠b41:=fun e=>by
   subst e;rw [hother _ (qE p4) (qE p6)] at ho;cases ho
  rw [Qi3 _ e1 e2,hBo b e1 e2];exact hcb b o ho
 have q1:∀ e i,bxF B b18 b41 e i b1=some (Qb [vhp g 0] 34):=fun e i=>by rw [Qi3 _ n1 m1,hBo _ n1 m1];exact w1
 have q3:∀ e i,bxF B b18 b41 e i b3=some (Qb [ifv none] 59):=fun e i=>by rw [Qi3 _ n3 m3,hBo _ n3 m3];exact w3
 have qb:∀ e i,bxF B b18 b41 e i bb=some ob:=fun e i=>by rw [Qi3 _ p1 p2,hBo _ p1 p2];exact wb
 rw [hb9] at S9;have hWn:∀ cs:List (LuT),cs.length<=4000->(Qz s i0 cs).1.wait.length<=1000000:=fun cs hcs=>by
  have:=K8 cs s i0;omega
 refine⟨_,rfl,hc,U0 bb 0 t.length 256,WS bb 0 t.length 256,fun l h'=>(Qz s i0 (l.map (KY t))).2=0/\∃ F' e,PD h' F' g (Qz s i0 (l.map (KY t))).1/\Bes F h F' h' (bxF B b18 b41 e ((i0+l.length:Nat):Int))/\ZR h48 h',hseq,⟨rfl,F,none,D9,S9,QfO h48⟩,?_,?_,?_⟩
 ·rintro l h' ⟨_,F',e,_,S',N'⟩;exact⟨fun b o ho=>S'.x b o (hcB _ _ b o ho),N'⟩
 ·rintro l h55 x ⟨o,m,rfl,hom,hm⟩ hl ⟨hz,F',e,D',S',N'⟩;have hl2:l.length<=4000:=by
   rw [NM] at hl;omega
  refine⟨_,_,_,rfl,some ⟨g,0,none⟩,S'.get (q1 _ _),_,S'.get (QeJ _ _ _),bs ((t.drop o).take m),?_,?_⟩
  ·have hbb2:=S'.x _ _ (qb e ((i0+l.length:Nat):Int));rw [<-hob] at hbb2;have hr:=Qfi (P:=Pg) (src:=207) (dst:=9) (e:=5) (by kernel_rfl) (by kernel_rfl) (by kernel_rfl) (c:=m) (Qmw hbb2 (i:=o) (m:=m) hom)
   rw [show ((t.drop o).take m).length=m by simp;omega] at hr
   exact hr
  ·have hDD:=(DOK.writes (l.map (KY t)) i0 hD);have hcont:KY t (vsl (some ⟨bb,0+o,none⟩) m m)=(t.drop o).take m:=by show (t.drop (0+o)).take m=_;rw [dW]
   have hsn:=U5 (l.map (KY t)) s i0 ((t.drop o).take m) hz;rw [bQ] at hsn;have hmap:(l++[vsl (some ⟨bb,0+o,none⟩) m m]).map (KY t)=l.map (KY t)++[(t.drop o).take m]:=by rw [cJ,List.map_singleton,hcont]
   refine Qdt D' hDD.wf (hWn _ (by simpa using hl2)) N' fun h62 F2 D2 M2 N2=>⟨_,rfl,?_⟩
   have S2:=S'.call M2 D2.al;refine S2.put (Xe _ m18 _ _) fun S3=>?_
   have D3:=Ul S2 D2 (o2:=Qb [ifv (QA (Qx (Qz s i0 (l.map (KY t))).1 ((i0+l.length:Nat):Int) ((t.drop o).take m)).2)] 59) (Xe _ m18 _ _);have N3:=Vq N2 b18 [ifv (QA (Qx (Qz s i0 (l.map (KY t))).1 ((i0+l.length:Nat):Int) ((t.drop o).take m)).2)] 59;rw [MU _ m18] at S3;refine⟨_,S3.get (Xe _ m18 _ _),fun e1=>?_,fun e1=>?_⟩
   ·rw [Wg] at e1;have e1':(Qx (Qz s i0 (l.map (KY t))).1 ((i0+l.length:Nat):Int) ((t.drop o).take m)).2≠0:=by simpa using e1
    refine⟨_,S3.get (Xe _ m18 _ _),S3.put (q3 _ _) fun S4=>⟨Vq N3 _ _ _,fun hpre=>⟨_,S4.get (qK _ _ _),?_⟩⟩⟩
    obtain⟨rest,hrest⟩:=hpre;have hch:Zq t=(l.map (KY t)++[(t.drop o).take m])++rest.map (KY t):=by
     rw [<-Qba bb t,<-hrest,cJ,hmap]
    have hfin:Qz s i0 (Zq t)=Qx (Qz s i0 (l.map (KY t))).1 ((i0+l.length:Nat):Int) ((t.drop o).take m):=by rw [hch,U4 _ _ _ _ (by rw [hsn];exact e1'),hsn]
    rw [hfin,bJ e1'] at hK;exact hK _ F2 (Ul S3 D3 (q3 _ _)) S4.m
   ·rw [Wg] at e1;have e1':(Qx (Qz s i0 (l.map (KY t))).1 ((i0+l.length:Nat):Int) ((t.drop o).take m)).2=0:=by simpa using e1
    refine⟨_,S3.get (QeJ _ _ _),_,iW,S3.put (QeJ _ _ _) fun S4=>?_⟩
    have D4:=Ul S3 D3 (o2:=Qb [vi (((i0+l.length:Nat):Int)+1)] 3) (QeJ _ _ _);rw [Qmq] at S4;refine⟨by rw [hmap,hsn];exact e1',F2,QA (Qx (Qz s i0 (l.map (KY t))).1 ((i0+l.length:Nat):Int) ((t.drop o).take m)).2,by rw [hmap,hsn];exact D4,?_,Vq N3 _ _ _⟩
    rw [bO,dV];exact S4
 ·rintro h73 ⟨hz,F',e,D',S',N'⟩;rw [Qba] at hz D';rw [bE (by rw [hz];decide)] at hK
  unfold QdK at hK;have hDD:=(DOK.writes (Zq t) i0 hD);have hlen:(Zq t).length<=4000:=by unfold Zq;simp;omega
  have hW0:=hWn (Zq t) hlen;have hW1:(Qz s i0 (Zq t)).1.wait.length<=904000:=by have:=K8 (Zq t) s i0;omega
  generalize (Qz s i0 (Zq t)).1=sa at *
  have hf:=ML sa;refine⟨some ⟨g,0,none⟩,S'.get (q1 _ _),Ko D' hDD.wf fun h77 F2 D2 M2=>⟨_,rfl,?_⟩⟩
  have T2:=S'.call M2 D2.al;refine T2.put (Xe _ m18 _ _) fun T3=>?_
  have E3:=Ul T2 D2 (o2:=Qb [ifv (QA (QX sa).2)] 59) (Xe _ m18 _ _);rw [MU _ m18] at T3;refine⟨_,T3.get (Xe _ m18 _ _),?_⟩
  intro J91;refine⟨fun e1=>?_,fun e1=>?_⟩
  ·have e1':=Je e1;rw [bE (by rw [e1'];decide)] at hK
   refine⟨some ⟨g,0,none⟩,T3.get (q1 _ _),by decide,Qa7 (e:=ep+1) (k:=t.length) (by omega) (by omega) fun h83 l83=>⟨_,rfl,?_⟩⟩
   have T4:=T3.grow l83;have E4:=E3.le l83;rw [htm];refine⟨T4.get (q1 _ _),Kj E4 hDD.flush.wf (by omega) fun h86 F5 D5 M5=>⟨_,rfl,?_⟩⟩
   have T5:=T4.call M5 D5.al;refine T5.put (Xe _ m18 _ _) fun T6=>?_
   have E6:=Ul T5 D5 (o2:=Qb [ifv (QA (Qx (QX sa).1 (((ep+1) % 2:Nat):Int) (Yy (ep+1) t.length)).2)] 59) (Xe _ m18 _ _);rw [MU _ m18] at T6;refine⟨_,T6.get (Xe _ m18 _ _),?_⟩
   show And _ _;refine⟨fun e2=>?_,fun e2=>?_⟩
   ·have e2':=Je e2;rw [bE (by rw [e2'];decide)] at hK
    refine⟨some ⟨g,0,none⟩,T6.get (q1 _ _),Ko E6 (hDD.flush.write _ _).wf fun h96 F7 D7 M7=>⟨_,rfl,?_⟩⟩
    have T7:=T6.call M7 D7.al;refine T7.put (Xe _ m18 _ _) fun T8=>?_
    have E8:=Ul T7 D7 (o2:=Qb [ifv (QA (QX (Qx (QX sa).1 (((ep+1) % 2:Nat):Int) (Yy (ep+1) t.length)).1).2)] 59) (Xe _ m18 _ _);rw [MU _ m18] at T8;exact MS T8 E8 (Xe _ m18 _ _) (q3 _ _) fun h2 k1 k2=>hK h2 F7 k1 k2
   ·have e2':=JX e2;rw [bJ e2'] at hK;exact MS T6 E6 (Xe _ m18 _ _) (q3 _ _) fun h2 k1 k2=>hK h2 F5 k1 k2
  ·have e1':=JX e1;rw [bJ e1'] at hK;refine⟨_,T3.get (Xe _ m18 _ _),?_⟩
   show And _ _;exact⟨fun e2=>absurd (Je e2) e1',fun _=>MS T3 E3 (Xe _ m18 _ _) (q3 _ _) fun h2 k1 k2=>hK h2 F2 k1 k2⟩
structure Sv (l:List (LuT))(n e:Nat)(t:LuT):Prop where
 len:l.length=n
 n4:4<=n
 e1:1<=e
 e2:e<4294967296
 room:t.length<=(n-2) / 2*256
 hd:l.getD (e % 2) []=ZE (Yy e t.length)
 oth:(l.getD ((e+1) % 2) []).getD 0 0=84->un4 (((l.getD ((e+1) % 2) []).drop 1).take 4)<e
 dat:∀ k,k<(t.length+255) / 256->l.getD (2+e % 2*((n-2) / 2)+k) []=ZE (Z8 t k)
theorem Qen (e k:Nat)(he:e<4294967296)(hk:k<4294967296):(ZE (Yy e k)).getD 0 0=84/\un4 (((ZE (Yy e k)).drop 1).take 4)=e/\un4 (((ZE (Yy e k)).drop 5).take 4)=k:=by
 have h1:((ZE (Yy e k)).drop 1).take 4=le4 e:=rfl;have h2:((ZE (Yy e k)).drop 5).take 4=le4 k:=rfl;rw [h1,h2,QlM he,QlM hk];exact⟨rfl,rfl,rfl⟩
theorem QkB (e:Nat):(e % 2=0/\(e+1) % 2=1)\/(e % 2=1/\(e+1) % 2=0):=by omega
theorem Sv.last {s:DK}{n e:Nat}{t:LuT}(h:Sv s.now n e t)(hn:n<=160)(hd:s.down=false):Zh s=((e,t.length),0):=by
 have hH:QI s=(n-2) / 2:=by unfold QI;rw [h.len]
 have hr:=h.room;obtain⟨f1,f2,f3⟩:=Qen e t.length h.e2 (by omega)
 have h4:=h.n4;have e1:=h.e1;have key:QeL s=(e,t.length):=by
  unfold QeL;rw [hH];rcases QkB e with ⟨p1,p2⟩|⟨p1,p2⟩
  ·have hd0:=h.hd;have ho:=h.oth;rw [p1] at hd0;rw [p2] at ho;rw [hd0];have k1:ZQ ((n-2) / 2*256) (0,0) (ZE (Yy e t.length))=(e,t.length):=by unfold ZQ;rw [f1,f2,f3,bJ ⟨⟨rfl,by show e>0;omega⟩,hr⟩]
   rw [k1];unfold ZQ;rw [bE];rintro⟨⟨k2,k3⟩,_⟩;have:=ho k2;simp only at k3;omega
  ·have hd0:=h.hd;have ho:=h.oth;rw [p1] at hd0;rw [p2] at ho;rw [hd0];have k1:(ZQ ((n-2) / 2*256) (0,0) (s.now.getD 0 [])).1<e:=by
    unfold ZQ;split
    ·rename_i hh;exact ho hh.1.1
    ·show 0<e;omega
   generalize ZQ ((n-2) / 2*256) (0,0) (s.now.getD 0 [])=p at k1;unfold ZQ;rw [f1,f2,f3,bJ ⟨⟨rfl,k1⟩,hr⟩]
 unfold Zh;rw [h.len,bE (by omega),bE (by rw [hd];decide),key,bE (by show ¬ e=0;omega)]
theorem QkL (t:LuT){k:Nat}(h:(k+1)*256<=t.length):ZE (Z8 t k)=(t.drop (k*256)).take 256:=by
 have:(Z8 t k).length=256:=by unfold Z8;simp;omega
 unfold ZE;rw [this];simp [Z8]
theorem V8 (t:LuT):∀ m,m*256<=t.length->(List.range m).flatMap (fun k=>ZE (Z8 t k))=t.take (m*256)
 | 0,_=>by simp
 | m+1,h=>by
  rw [kV,cP,V8 t m (by omega),dN,QkL t h,gH,j7,List.take_add]
theorem Qno (t:LuT):((List.range ((t.length+255) / 256)).flatMap (fun k=>ZE (Z8 t k))).take t.length=t:=by
 rcases Nat.eq_zero_or_pos (t.length % 256) with h|h
 ·have e:(t.length+255) / 256*256=t.length:=by omega
  rw [V8 t _ (by omega),e,jP,pQ,dG]
 ·obtain⟨m,hm⟩:∃ m,m=t.length / 256:=⟨_,rfl⟩
  have e:(t.length+255) / 256=m+1:=by omega
  rw [e,kV,cP,V8 t m (by omega),dN]
  have h3:ZE (Z8 t m)=t.drop (m*256)++List.replicate (256-(Z8 t m).length) 0:=by
   unfold ZE;congr 1
   unfold Z8;rw [cY (by simp;omega)]
  rw [h3,<-bX,dX,gP (cB _),dG]
theorem Sv.load {s:DK}{n e:Nat}{t:LuT}(h:Sv s.now n e t)(hn:n<=160)(hd:s.down=false):Qjq s=(t,0):=by
 unfold Qjq;rw [bE (by rw [hd];decide),h.last hn hd,bE (by simp)]
 have e1:QbE s e ((t.length+255) / 256)=(List.range ((t.length+255) / 256)).flatMap (fun k=>ZE (Z8 t k)):=by
  unfold QbE;rw [List.flatMap_def,List.flatMap_def];congr 1
  refine fK fun k hk=>?_
  simp only [mR] at hk;have:=h.dat k hk;unfold QgI QI;rw [h.len];exact this
 show ((QbE s e ((t.length+255) / 256)).take t.length,(0:Int))=_;rw [e1,Qno]
theorem getD_set_ne {l:List (LuT)}{i j:Nat}(h:i≠j)(x:LuT):(l.set i x).getD j []=l.getD j []:=by
 rw [bI,gK h,bI]
theorem JU {l:List (LuT)}{i:Nat}(h:i<l.length)(x:LuT):(l.set i x).getD i []=x:=by
 rw [bI,fG h];rfl
def Oth (n e j:Nat):Prop:=2+(e+1) % 2*((n-2) / 2)<=j/\j<2+(e+1) % 2*((n-2) / 2)+(n-2) / 2
theorem Qnx {n e j:Nat}(ho:Oth n e j):j≠e % 2/\j≠(e+1) % 2/\∀ k,k<(n-2) / 2->j≠2+e % 2*((n-2) / 2)+k:=by
 unfold Oth at ho;rcases QkB e with ⟨p1,p2⟩|⟨p1,p2⟩
 ·rw [p2] at ho ⊢;rw [p1];refine⟨by omega,by omega,fun k hk=>by omega⟩
 ·rw [p2] at ho ⊢;rw [p1];refine⟨by omega,by omega,fun k hk=>by omega⟩
theorem Sv.set {l:List (LuT)}{n e:Nat}{t:LuT}(h:Sv l n e t){j:Nat}(ho:Oth n e j)(x:LuT):Sv (l.set j x) n e t:=by
 obtain⟨h1,h2,h3⟩:=Qnx ho;have hr:=h.room;exact⟨by rw [dL];exact h.len,h.n4,h.e1,h.e2,h.room,by rw [getD_set_ne h1];exact h.hd,by rw [getD_set_ne h2];exact h.oth,fun k hk=>by rw [getD_set_ne (h3 k (by omega))];exact h.dat k hk⟩
theorem Sv.keep {n e:Nat}{t:LuT}(k:Int):∀(w:List (Int × LuT))(i:Nat) {l:List (LuT)},Sv l n e t->(∀ x ∈ w,Oth n e x.1.toNat)->Sv (Yg k i w l) n e t
 | [],i,l,h,_=>h
 | x :: w,i,l,h,hw=>by
  rw [Yg];refine Sv.keep k w (i+1) ?_ (fun y hy=>hw y (bT _ hy))
  split
  ·exact h.set (hw x bY) _
  ·exact h
theorem QcL (s:DK)(hd:s.down=false):((QU s).2=0/\(QU s).1.down=false/\(s.fuse=-1->(QU s).1.fuse=-1))\/((QU s).2=7/\(QU s).1.down=true/\s.fuse≠-1):=by
 unfold QU;rw [bE (by rw [hd];decide)]
 split
 ·rename_i h;right;exact⟨rfl,rfl,by omega⟩
 ·left;refine⟨rfl,hd,fun h=>?_⟩
  show max (s.fuse-1) (-1)=-1;omega
structure Qob (s s':DK):Prop where
 now:s'.now=s.now
 kept:s'.kept=s.kept
 wait:s'.wait=s.wait
theorem K6 {s:DK}(hd:s.down=false){i:Int}{d:LuT}(hi:0<=i/\i<s.now.length)(hl:d.length<=256) :
  ((Qx s i d).2=0/\(Qx s i d).1.down=false/\(s.fuse=-1->(Qx s i d).1.fuse=-1)/\(Qx s i d).1.now=s.now.set i.toNat (ZE d)/\(Qx s i d).1.kept=s.kept/\(Qx s i d).1.wait=s.wait++[(i,ZE d)]) \/
  ((Qx s i d).2=7/\(Qx s i d).1.down=true/\s.fuse≠-1/\Qob s (Qx s i d).1):=by
 have e:=UE s;unfold Qx;rw [bE (by omega)]
 rcases QcL s hd with ⟨h1,h2,h3⟩|⟨h1,h2,h3⟩
 ·left;rw [bE (by rw [h1];decide)]
  exact⟨rfl,h2,h3,rfl,e.2.1,rfl⟩
 ·right;rw [bJ (by rw [h1];decide)]
  exact⟨h1,h2,h3,⟨e.1,e.2.1,e.2.2⟩⟩
theorem Jd {s:DK}(hd:s.down=false) :
  ((QX s).2=0/\(QX s).1.down=false/\(s.fuse=-1->(QX s).1.fuse=-1)/\(QX s).1.now=s.now/\(QX s).1.kept=s.now/\(QX s).1.wait=[]) \/
  ((QX s).2=7/\(QX s).1.down=true/\s.fuse≠-1/\Qob s (QX s).1):=by
 have e:=UE s;unfold QX;rcases QcL s hd with ⟨h1,h2,h3⟩|⟨h1,h2,h3⟩
 ·left;rw [bE (by rw [h1];decide)]
  exact⟨rfl,h2,h3,e.1,rfl,rfl⟩
 ·right;rw [bJ (by rw [h1];decide)]
  exact⟨h1,h2,h3,⟨e.1,e.2.1,e.2.2⟩⟩
structure Qe3 (s:DK)(n e:Nat)(t:LuT):Prop where
 now:Sv s.now n e t
 kept:Sv s.kept n e t
 wait:s.wait=[]
def Saf (s:DK)(n e:Nat)(t:LuT)(t':LuT):Prop:=∀ k,Sv (Yg k 0 s.wait s.kept) n e t\/Sv (Yg k 0 s.wait s.kept) n (e+1) t'
theorem Saf.stays {s s':DK}{n e:Nat}{t t':LuT}(h:Saf s n e t t')(S:Qob s s'):Saf s' n e t t':=by
 intro k;have:=h k;rw [S.wait,S.kept];exact this
structure QmS (s:DK)(n e:Nat)(t:LuT):Prop where
 now:Sv s.now n e t
 kept:Sv s.kept n e t
 wait:∀ x ∈ s.wait,Oth n e x.1.toNat
theorem QmS.saf {s:DK}{n e:Nat}{t:LuT}(h:QmS s n e t)(t':LuT):Saf s n e t t':=fun k=>.inl (h.kept.keep k s.wait 0 h.wait)
theorem QkR (t:LuT)(k:Nat):(Z8 t k).length<=256:=by unfold Z8;simp;omega
theorem Qia (t:LuT):Zq t=(List.range ((t.length+255) / 256)).map (Z8 t):=rfl
theorem QdW {n e:Nat}{t t':LuT}(hr:t'.length<=(n-2) / 2*256):∀(m:Nat) {s:DK},QmS s n e t->s.down=false->m<=(t'.length+255) / 256 ->
  (let w:=Qz s (2+(e+1) % 2*((n-2) / 2)) ((List.range m).map (Z8 t'))
   (w.2=0/\w.1.down=false/\(s.fuse=-1->w.1.fuse=-1)/\QmS w.1 n e t/\∀ k,k<m->w.1.now.getD (2+(e+1) % 2*((n-2) / 2)+k) []=ZE (Z8 t' k))\/(w.2=7/\w.1.down=true/\s.fuse≠-1/\QmS w.1 n e t))
 | 0,s,M,hd,_=>.inl ⟨rfl,hd,fun h=>h,M,fun k hk=>by omega⟩
 | m+1,s,M,hd,hm=>by
  intro w;have ih:=QdW hr m M hd (by omega)
  have hw:w=Qz s (2+(e+1) % 2*((n-2) / 2)) ((List.range m).map (Z8 t')++[Z8 t' m]):=by show Qz _ _ _=_;rw [kV,cJ];rfl
  generalize hb:2+(e+1) % 2*((n-2) / 2)=b at ih hw ⊢;simp only at ih;rcases ih with ⟨i1,i2,i3,i4,i5⟩|⟨i1,i2,i3,i4⟩
  ·rw [U5 _ _ _ _ i1,bQ,pA] at hw;generalize (Qz s b ((List.range m).map (Z8 t'))).1=sm at i2 i3 i4 i5 hw;have ho:Oth n e (b+m):=by unfold Oth;rw [hb];omega
   have hlen:=i4.now.len;have hlt:b+m<n:=by
    have:=Qnx ho;unfold Oth at ho;have h4:=i4.now.n4;have:(e+1) % 2*((n-2) / 2)<=(n-2) / 2:=by
     rcases QkB e with ⟨p1,p2⟩|⟨p1,p2⟩<;>rw [p2]<;>omega
    omega
   rcases K6 i2 (i:=((b+m:Nat):Int)) (d:=Z8 t' m) (by omega) (QkR t' m) with ⟨c1,c2,c3,c4,c5,c6⟩|⟨c1,c2,c3,c4⟩
   ·left;rw [hw];rw [bF] at c4;refine⟨c1,c2,fun h=>c3 (i3 h),⟨by rw [c4];exact i4.now.set ho _,by rw [c5];exact i4.kept,fun x hx=>?_⟩,fun k hk=>?_⟩
    ·rw [c6] at hx;rcases bU.1 hx with h1|h1
     ·exact i4.wait x h1
     ·simp only [cD] at h1;subst h1;exact ho
    ·rw [c4];by_cases hkm:k=m
     ·subst hkm;exact JU (by omega) _
     ·rw [getD_set_ne (by omega)]
      exact i5 k (by omega)
   ·right;rw [hw];exact⟨c1,c2,fun h=>c3 (i3 h),⟨by rw [c4.now];exact i4.now,by rw [c4.kept];exact i4.kept,fun x hx=>i4.wait x (by rw [<-c4.wait];exact hx)⟩⟩
  ·right;rw [U4 _ _ _ _ (by rw [i1];decide)] at hw
   rw [hw];exact⟨i1,i2,i3,i4⟩
theorem Sv.next {l:List (LuT)}{n e:Nat}{t t':LuT}(h:Sv l n e t)(he:e+1<4294967296)(hr:t'.length<=(n-2) / 2*256)(hn:n<=160)(hd:∀ k,k<(t'.length+255) / 256->l.getD (2+(e+1) % 2*((n-2) / 2)+k) []=ZE (Z8 t' k)) :
  Sv (l.set ((e+1) % 2) (ZE (Yy (e+1) t'.length))) n (e+1) t':=by
 have h4:=h.n4;have hlen:=h.len;have hr0:=h.room;obtain⟨f1,f2,f3⟩:=Qen e t.length h.e2 (by omega)
 have hp:(e+1+1) % 2=e % 2:=by omega
 have hne:(e+1) % 2≠e % 2:=by omega
 refine⟨by rw [dL];exact h.len,h4,by omega,he,hr,JU (by omega) _,?_,?_⟩
 ·rw [hp,getD_set_ne hne,h.hd,f2];intro _;omega
 ·intro k hk;rw [getD_set_ne (by omega)]
  exact hd k hk
theorem Qnv {s:DK}{n e:Nat}{t t':LuT}(G:Qe3 s n e t)(hd:s.down=false)(hn:n<=160)(he:e+1<4294967296)(hr:t'.length<=(n-2) / 2*256) :
  ((KC s t').2=0/\(KC s t').1.down=false/\(s.fuse=-1->(KC s t').1.fuse=-1)/\Qe3 (KC s t').1 n (e+1) t')\/((KC s t').2=7/\(KC s t').1.down=true/\s.fuse≠-1/\Saf (KC s t').1 n e t t'):=by
 have hH:QI s=(n-2) / 2:=by unfold QI;rw [G.now.len]
 have M:QmS s n e t:=⟨G.now,G.kept,by rw [G.wait];intro x hx;exact absurd hx dB⟩
 have W:=QdW hr _ M hd (cB _);rw [<-Qia] at W;have h4:=G.now.n4;unfold KC;rw [bE (by rw [hd];decide),G.now.last hn hd,bE (by simp),hH,bE (by omega)]
 simp only at W ⊢;generalize Qz s (2+(e+1) % 2*((n-2) / 2)) (Zq t')=w at W ⊢;obtain⟨sa,fa⟩:=w;simp only at W ⊢;rcases W with ⟨w1,w2,w3,w4,w5⟩|⟨w1,w2,w3,w4⟩
 ·rw [bE (by omega)]
  unfold QdK;rcases Jd w2 with ⟨a1,a2,a3,a4,a5,a6⟩|⟨a1,a2,a3,a4⟩
  ·rw [bE (by omega)]
   generalize (QX sa).1=sb at a2 a3 a4 a5 a6 ⊢;have hlt:(e+1) % 2<2:=mD _ (by decide)
   have hNb:Sv sb.now n e t:=by rw [a4];exact w4.now
   have hlen:=hNb.len;have nx:Sv (sb.now.set ((e+1) % 2) (ZE (Yy (e+1) t'.length))) n (e+1) t':=hNb.next he hr hn (by rw [a4];exact w5)
   have hS:Saf sb n e t t':=by intro k;rw [a6,Yg,a5];exact .inl w4.now
   rcases K6 a2 (i:=(((e+1) % 2:Nat):Int)) (d:=Yy (e+1) t'.length) (by omega) (by rw [QmI];decide) with ⟨b1,b2,b3,b4,b5,b6⟩|⟨b1,b2,b3,b4⟩
   ·rw [bE (by omega)]
    generalize (Qx sb (((e+1) % 2:Nat):Int) (Yy (e+1) t'.length)).1=sc at b2 b3 b4 b5 b6 ⊢;rw [bF] at b4;have hSc:Saf sc n e t t':=by
     intro k;rw [b6,a6,b5,dE,Yg,Yg,bF];split
     ·right;rw [a5,<-a4];exact nx
     ·left;rw [a5];exact w4.now
    rcases Jd b2 with ⟨c1,c2,c3,c4,c5,c6⟩|⟨c1,c2,c3,c4⟩
    ·left;exact⟨c1,c2,fun h=>c3 (b3 (a3 (w3 h))),⟨by rw [c4,b4];exact nx,by rw [c5,b4];exact nx,c6⟩⟩
    ·right;exact⟨c1,c2,fun h=>c3 (b3 (a3 (w3 h))),hSc.stays c4⟩
   ·rw [bJ (by omega)]
    right;exact⟨b1,b2,fun h=>b3 (a3 (w3 h)),hS.stays b4⟩
  ·rw [bJ (by omega)]
   right;exact⟨a1,a2,fun h=>a3 (w3 h),(w4.saf t').stays a4⟩
 ·rw [bJ (by omega)]
  right;exact⟨w1,w2,w3,w4.saf t'⟩
theorem Qoz {s:DK}{n e:Nat}{t t':LuT}(G:Qe3 s n e t)(hd:s.down=false)(hn:n<=160)(hr:¬ t'.length<=(n-2) / 2*256):KC s t'=(s,6):=by
 have hH:QI s=(n-2) / 2:=by unfold QI;rw [G.now.len]
 unfold KC;rw [bE (by rw [hd];decide),G.now.last hn hd,bE (by simp),hH,bJ (by omega)]
theorem Qje {s:DK}{n e:Nat}{t t':LuT}(h:Saf s n e t t')(k:Int):Qe3 (Y9 s k) n e t\/Qe3 (Y9 s k) n (e+1) t':=by
 rcases h k with h1|h1
 ·exact .inl ⟨h1,h1,rfl⟩
 ·exact .inr ⟨h1,h1,rfl⟩
theorem Qe3.restart {s:DK}{n e:Nat}{t:LuT}(h:Qe3 s n e t)(k:Int):Qe3 (Y9 s k) n e t:=by
 have:Yg k 0 s.wait s.kept=s.kept:=by rw [h.wait];rfl
 exact⟨by show Sv (Yg k 0 s.wait s.kept) n e t;rw [this];exact h.kept,by show Sv (Yg k 0 s.wait s.kept) n e t;rw [this];exact h.kept,rfl⟩
theorem Qk2 {s:DK}{n:Nat}(D:DOK s n)(hd:s.down=false)(hf:s.fuse=-1)(h4:4<=n):(Km s).2=0/\(Km s).1.down=false/\(Km s).1.fuse=-1/\Qe3 (Km s).1 n 2 []:=by
 have hw:=D.wf.w;have hw2:=D.wf.n2;unfold Km;rw [bE (by omega)]
 rcases K6 hd (i:=1) (d:=[]) (by omega) (by decide) with ⟨a1,a2,a3,a4,a5,a6⟩|⟨_,_,h,_⟩
 ·rw [bE (by omega)]
  generalize (Qx s 1 []).1=sa at *
  rcases Jd a2 with ⟨b1,b2,b3,b4,b5,b6⟩|⟨_,_,h,_⟩
  ·rw [bE (by omega)]
   generalize (QX sa).1=sb at *
   rcases K6 b2 (i:=0) (d:=Yy 2 0) (by rw [b4,a4,dL];omega) (by decide) with ⟨c1,c2,c3,c4,c5,c6⟩|⟨_,_,h,_⟩
   ·rw [bE (by omega)]
    generalize (Qx sb 0 (Yy 2 0)).1=sc at *
    rcases Jd c2 with ⟨e1,e2,e3,e4,e5,e6⟩|⟨_,_,h,_⟩
    ·refine⟨e1,e2,e3 (c3 (b3 (a3 hf))),?_⟩
     have hnow:sc.now=(s.now.set 1 (ZE [])).set 0 (ZE (Yy 2 0)):=by rw [c4,b4,a4];rfl
     have key:Sv sc.now n 2 []:=by
      rw [hnow];refine⟨by rw [dL,dL];exact hw,h4,by decide,by decide,by simp,JU (by rw [dL];omega) _,?_,fun k hk=>absurd hk (by simp)⟩
      rw [show (2+1) % 2=1 from rfl,getD_set_ne (by decide),JU (by omega)]
      intro h;exact absurd h (by decide)
     exact⟨by rw [e4];exact key,by rw [e5];exact key,e6⟩
    ·exact absurd (c3 (b3 (a3 hf))) h
   ·exact absurd (b3 (a3 hf)) h
  ·exact absurd (a3 hf) h
 ·exact absurd hf h
theorem DOK.save {s:DK}{n:Nat}(D:DOK s n)(t:LuT):DOK (KC s t).1 n:=by
 unfold KC;split
 ·exact D
 ·split
  ·exact D
  ·split
   ·exact D
   ·have h:=DOK.writes (Zq t) (2+((Zh s).1.1+1) % 2*QI s) D;split
    ·exact h
    ·unfold QdK;split
     ·exact h.flush
     ·split
      ·exact h.flush.write _ _
      ·exact(h.flush.write _ _).flush
theorem DOK.format {s:DK}{n:Nat}(D:DOK s n):DOK (Km s).1 n:=by
 unfold Km;split
 ·exact D
 ·have h:=D.write 1 [];split
  ·exact h
  ·split
   ·exact h.flush
   ·split
    ·exact h.flush.write _ _
    ·exact(h.flush.write _ _).flush
theorem Ql6 {n:Nat}(h1:1<=n)(h2:n<=160):DOK (Gq n) n:=DOK.newD h1 h2 (z:=Yi 256) (by simp [Yi])
structure YE (h0 h:Hp)(F:NpT)(g:Nat)(s:DK)(n e:Nat)(t:LuT):Prop where
 le:h0.le h
 nw:∀ b,F b->h0 b=none
 p:PD h F g s
 D:DOK s n
 G:Qe3 s n e t
 d:s.down=false
theorem YE.grow {h0 h h':Hp}{F:NpT}{g:Nat}{s:DK}{n e:Nat}{t:LuT}(S:YE h0 h F g s n e t)(l:h.le h'):YE h0 h' F g s n e t:=
 ⟨qP S.le l,S.nw,S.p.le l,S.D,S.G,S.d⟩
theorem YE.read {h0 h:Hp}{F:NpT}{g:Nat}{s:DK}{n e:Nat}{t:LuT}(S:YE h0 h F g s n e t){R:RtT}(hK:R (Qf [vs (bs t),ifv none]) h):Qa Pg 60 [vhp g 0] h R:=by
 refine Qh3 S.p S.D ?_
 rw [S.G.now.load S.D.wf.n2 S.d];exact hK
theorem YE.writeBig {h0 h:Hp}{F:NpT}{g:Nat}{s:DK}{n e:Nat}{t:LuT}(S:YE h0 h F g s n e t){t':LuT}(h1:t'.length<=1000000)(hr:¬ t'.length<=(n-2) / 2*256){R:RtT}(hK:∀ h' F',YE h0 h' F' g s n e t->R (ifv (QA 6)) h'):Qa Pg 56 [vhp g 0,vs (bs t')] h R:=by
 refine Nz S.p S.D (by rw [S.G.wait];exact cE _) h1 fun h' F' D' M'=>?_
 rw [Qoz S.G S.d S.D.wf.n2 hr] at D' ⊢;exact hK h' F' ⟨(M'.old S.le S.nw).1,(M'.old S.le S.nw).2,D',S.D,S.G,S.d⟩
structure Qn1 (h0 h:Hp)(F:NpT)(g:Nat)(s:DK)(n e:Nat)(t t':LuT):Prop where
 le:h0.le h
 nw:∀ b,F b->h0 b=none
 p:PD h F g s
 D:DOK s n
 S:Saf s n e t t'
theorem YE.write {h0 h:Hp}{F:NpT}{g:Nat}{s:DK}{n e:Nat}{t:LuT}(S:YE h0 h F g s n e t)(he:e+1<4294967296){t':LuT}(h1:t'.length<=1000000)(hr:t'.length<=(n-2) / 2*256){R:RtT}
  (hK:∀ h' F' s',YE h0 h' F' g s' n (e+1) t'->(s.fuse=-1->s'.fuse=-1)->R (ifv (QA 0)) h') (hF:∀ h' F' s',Qn1 h0 h' F' g s' n e t t'->s'.wait.length<=900000->s.fuse≠-1->R (ifv (QA 7)) h'):Qa Pg 56 [vhp g 0,vs (bs t')] h R:=by
 refine Nz S.p S.D (by rw [S.G.wait];exact cE _) h1 fun h' F' D' M'=>?_
 have O:=M'.old S.le S.nw;rcases Qnv S.G S.d S.D.wf.n2 he hr with ⟨k1,k2,k3,k4⟩|⟨k1,k2,k3,k4⟩
 ·rw [k1];exact hK h' F' _ ⟨O.1,O.2,D',S.D.save _,k4,k2⟩ k3
 ·rw [k1];refine hF h' F' _ ⟨O.1,O.2,D',S.D.save _,k4⟩ ?_ k3
  have hw0:=S.G.wait;have hh:(KC s t').1.wait.length<=900000:=by
   have hl:(Zq t').length<=4000:=by unfold Zq;simp;omega
   have hc:=K8 (Zq t') s (2+((Zh s).1.1+1) % 2*QI s);rw [hw0,fB] at hc;unfold KC;split
   ·rw [hw0];exact cE _
   ·split
    ·rw [hw0];exact cE _
    ·split
     ·rw [hw0];exact cE _
     ·split
      ·omega
      ·unfold QdK;have f1:=ML (Qz s (2+((Zh s).1.1+1) % 2*QI s) (Zq t')).1;have f2:=Qcn (QX (Qz s (2+((Zh s).1.1+1) % 2*QI s) (Zq t')).1).1 ((((Zh s).1.1+1) % 2:Nat):Int) (Yy ((Zh s).1.1+1) t'.length);have f3:=ML (Qx (QX (Qz s (2+((Zh s).1.1+1) % 2*QI s) (Zq t')).1).1 ((((Zh s).1.1+1) % 2:Nat):Int) (Yy ((Zh s).1.1+1) t'.length)).1;split
       ·omega
       ·split<;>omega
  exact hh
theorem QkO {h0 h:Hp}{F:NpT}{g n:Nat}(hl:h0.le h)(hn:∀ b,F b->h0 b=none)(D:PD h F g (Gq n))(h1:1<=n)(h2:n<=160)(h4:4<=n){R:RtT}(hK:∀ h' F' s',YE h0 h' F' g s' n 2 []->s'.fuse=-1->R (ifv (QA 0)) h'):Qa Pg 43 [vhp g 0] h R:=by
 have hD:=Ql6 h1 h2;refine Qep D hD (by simp [Gq]) fun h' F' D' M'=>?_
 obtain⟨k1,k2,k3,k4⟩:=Qk2 hD rfl rfl h4;rw [k1];exact hK h' F' _ ⟨(M'.old hl hn).1,(M'.old hl hn).2,D',hD.format,k4,k2⟩ k3
theorem Ni {u0 u1:Nat}{h:Hp}{R:RtT}(H:∃ a1 n1 c1,Hp.cell h u0 u1=some (vsl a1 n1 c1)/\((decide ((n1:Int)=0))=true->Hp.store h u0 (u1+1) [vb true] fun h2=>R (vs ⟨#[]⟩) h2)/\((decide ((n1:Int)=0))=false->∃ a4 n4 c4,Hp.cell h u0 u1=some (vsl a4 n4 c4)/\∃ b5 o6,Ix a4 b5 o6 0 n4/\∃ s7,Hp.cell h b5 (o6+(0:Int).toNat*1)=some (vs s7)/\∃ a8 n8 c8,Hp.cell h u0 u1=some (vsl a8 n8 c8)/\∃ a9 n9 c9,Rd Pg (Instr.sliceAt 162 (vsl a8 n8 c8) (some (vi 1)) none none) h (vsl a9 n9 c9)/\Hp.store h u0 u1 [vsl a9 n9 c9] fun h10=>R (vs s7) h10)):Qa Pg 184 [vhp u0 u1] h R:=callO Tryz.func184 [.one (.hp u0 u1)] H
theorem VN {u0 u1:Nat}{u2:Int}{u3:Int}{h:Hp}{R:RtT}(H:Qa Pg 184 [vhp u0 u1] h fun v1 h2=>∃ s3,v1=vs s3/\Qa Pg 145 [vs s3] h2 fun v4 h5=>∃ x6 e7,v4=Qf [vi x6,ifv e7]/\∃(J8:ShT),((Option.isSome e7)=false->Qa Pg 119 [vi x6] h5 fun v9 h10=>∃ s11,v9=vs s11/\J8 (.t (.one (.v (vs s11)))) h10)/\(¬((Option.isSome e7)=false)->J8 (.t (.one (.v (vs ⟨#[]⟩)))) h5)/\∀ h12 s13,J8 (.t (.one (.v (vs s13)))) h12->∃ p14,((Option.isSome e7)=false->RdG .neq 9 (.tmp 21) (.tmp 22) (vs s13) (vs s3) h12 (vb p14))/\((cond (cond (cond (Option.isSome e7) true p14) true (decide (x6<u2))) true (decide (x6>u3)))=true->Hp.store h12 u0 (u1+1) [vb true] fun h15=>R (vi u2) h15)/\((cond (cond (cond (Option.isSome e7) true p14) true (decide (x6<u2))) true (decide (x6>u3)))=false->R (vi x6) h12)):Qa Pg 128 [vhp u0 u1,vi u2,vi u3] h R:=callO Tryz.func128 [.one (.hp u0 u1),.one (.v (vi u2)),.one (.v (vi u3))] H
theorem GY {u0 u1:Nat}{h:Hp}{R:RtT}(H:Qa Pg 184 [vhp u0 u1] h fun v1 h2=>∃ s3,v1=vs s3/\Qa Pg 231 [vs s3] h2 fun v4 h5=>∃ x6 x7 e8,v4=Qf [vag [vi x6,vi x7],ifv e8]/\∃ p9,Hp.cell h5 u0 (u1+1)=some (vb p9)/\Hp.store h5 u0 (u1+1) [(vb (cond p9 true (Option.isSome e8)))] fun h10=>R (vag [vi x6,vi x7]) h10):Qa Pg 185 [vhp u0 u1] h R:=callO Tryz.func185 [.one (.hp u0 u1)] H
theorem Na {u0 u1:Nat}{u2:OaT}{u3 u4:Nat}{u5:OaT}{u6 u7:Nat}{u8:OaT}{u9 u10:Nat}{u11:Int}{u12:Int}{u13:Int}{u14:Int}{h:Hp}{R:RtT}(H:Qa Pg 128 [vhp u0 u1,(vi (-1000)),vi 9999] h fun v1 h2=>∃ x3,v1=vi x3/\Qa Pg 185 [vhp u0 u1] h2 fun v4 h5=>∃ x6 x7,v4=vag [vi x6,vi x7]/\Qa Pg 128 [vhp u0 u1,vi 0,vi 1] h5 fun v8 h9=>∃ x10,v8=vi x10/\let J44:Int->Int->Int->OaT->Nat->Nat->Bool->Hp->Prop:=fun x60 x61 x62 a63 n63 c63 p64 h65=>R (vag [vi x60,vi x61,vi x62,vsl a63 n63 c63,vb p64]) h65;∃(I12:LtT)(m13:LmT),I12 [vi 0,vi x3,vi x6,vi x7,vsl none 0 0,(vb (decide (x10=1)))] h9/\∀ vs14 h15,I12 vs14 h15->∃ x16 x17 x18 x19 a20 n20 c20 p21,vs14=[vi x16,vi x17,vi x18,vi x19,vsl a20 n20 c20,vb p21]/\((decide (x16<(u3:Int)))=true->∃ b24 o25,Ix u2 b24 o25 x16 u3/\∃ x26 a27 n27 c27,Hp.row h15 b24 (o25+x16.toNat*2) 2=some [vi x26,vsl a27 n27 c27]/\Qa Pg 128 [vhp u0 u1,vi 0,vi 120] h15 fun v28 h29=>∃ x30,v28=vi x30/\Qa Pg 128 [vhp u0 u1,(vi (-1099511627776)),vi 1099511627776] h29 fun v31 h32=>∃ x33,v31=vi x33/\Qa Pg 128 [vhp u0 u1,(vi (-1000000000)),vi 1000000000] h32 fun v34 h35=>∃ x36,v34=vi x36/\∀ b37,h35 b37=none->let h38:=Hp.set h35 b37 (Qb [vi x26,vi x30,vi x33,vi x36] 155);Qh Pg (Builtin.append_ #[148,148] 148 #[vsl a20 n20 c20,(vsl (some ⟨b37,0,none⟩) 1 1)]) h38 fun v39 h40=>∃ a41 n41 c41,v39=vsl a41 n41 c41/\∃ x43,IsW x43 (x16+1)/\I12 [vi x43,vi x17,vi x18,vi x19,vsl a41 n41 c41,vb p21] h40/\m13 [vi x43,vi x17,vi x18,vi x19,vsl a41 n41 c41,vb p21] h40<m13 vs14 h15)/\((decide (x16<(u3:Int)))=false->J44 x17 x18 x19 a20 n20 c20 p21 h15)):Qa Pg 129 [vhp u0 u1,vag [vsl u2 u3 u4,vsl u5 u6 u7,vsl u8 u9 u10,vi u11,vi u12,vi u13,vi u14]] h R:=callC ⟨[],[(3,([19],[.one (.int .i64)],[(2,[.int .i64,.int .i64,.int .i64,.slice,.bool])]))],[(5,[0,1,2,3,4,6,8,5,7,9,10,11,12,13,14])]⟩ Tryz.func129 [.one (.hp u0 u1),.ag [.v (vsl u2 u3 u4),.v (vsl u5 u6 u7),.v (vsl u8 u9 u10),.v (vi u11),.v (vi u12),.v (vi u13),.v (vi u14)]] H
theorem Qac {u0 u1:Nat}{u2:OaT}{u3 u4:Nat}{u5:OaT}{u6 u7:Nat}{u8:OaT}{u9 u10:Nat}{u11:Int}{u12:Int}{u13:Int}{u14:Int}{h:Hp}{R:RtT}(H:Qa Pg 128 [vhp u0 u1,vi 0,vi 1] h fun v1 h2=>∃ x3,v1=vi x3/\Qa Pg 128 [vhp u0 u1,(vi (-1000)),vi 9999] h2 fun v4 h5=>∃ x6,v4=vi x6/\Qa Pg 185 [vhp u0 u1] h5 fun v7 h8=>∃ x9 x10,v7=vag [vi x9,vi x10]/\let J35:Bool->Int->Int->Int->OaT->Nat->Nat->Hp->Prop:=fun p51 x52 x53 x54 a55 n55 c55 h56=>R (vag [vb p51,vi x52,vi x53,vi x54,vsl a55 n55 c55]) h56;∃(I12:LtT)(m13:LmT),I12 [vi 0,(vb (decide (x3=1))),vi x6,vi x9,vi x10,vsl none 0 0] h8/\∀ vs14 h15,I12 vs14 h15->∃ x16 p17 x18 x19 x20 a21 n21 c21,vs14=[vi x16,vb p17,vi x18,vi x19,vi x20,vsl a21 n21 c21]/\((decide (x16<(u3:Int)))=true->Qa Pg 185 [vhp u0 u1] h15 fun v24 h25=>∃ x26 x27,v24=vag [vi x26,vi x27]/\∀ b28,h25 b28=none->let h29:=Hp.set h25 b28 (Qb [vi x26,vi x27] 54);Qh Pg (Builtin.append_ #[91,91] 91 #[vsl a21 n21 c21,(vsl (some ⟨b28,0,none⟩) 1 1)]) h29 fun v30 h31=>∃ a32 n32 c32,v30=vsl a32 n32 c32/\∃ x34,IsW x34 (x16+1)/\I12 [vi x34,vb p17,vi x18,vi x19,vi x20,vsl a32 n32 c32] h31/\m13 [vi x34,vb p17,vi x18,vi x19,vi x20,vsl a32 n32 c32] h31<m13 vs14 h15)/\((decide (x16<(u3:Int)))=false->J35 p17 x18 x19 x20 a21 n21 c21 h15)):Qa Pg 130 [vhp u0 u1,vag [vsl u2 u3 u4,vsl u5 u6 u7,vsl u8 u9 u10,vi u11,vi u12,vi u13,vi u14]] h R:=callC ⟨[],[(3,([18],[.one (.int .i64)],[(2,[.bool,.int .i64,.int .i64,.int .i64,.slice])]))],[(4,[0,1,2,3,4,5,6,7,8,9])]⟩ Tryz.func130 [.one (.hp u0 u1),.ag [.v (vsl u2 u3 u4),.v (vsl u5 u6 u7),.v (vsl u8 u9 u10),.v (vi u11),.v (vi u12),.v (vi u13),.v (vi u14)]] H
theorem Qhh {u0 u1:Nat}{h:Hp}{R:RtT}(H:∃ a1 n1 c1,Hp.cell h u0 (u1+8)=some (vsl a1 n1 c1)/\∃ x2,Hp.cell h u0 (u1+11)=some (vi x2)/\∃ a3 n3 c3,Hp.cell h u0 (u1+10)=some (vsl a3 n3 c3)/\∃ a4 n4 c4,Hp.cell h u0 (u1+12)=some (vsl a4 n4 c4)/\ZC Pg (Value.func (.func 119) #[] #[]) [(vi (n1:Int))] h fun v5 h6=>∃ s7,v5=vs s7/\Hp.cell h6 u0 (u1+12)=some (vsl a4 n4 c4)/\Hp.cell h6 u0 (u1+10)=some (vsl a3 n3 c3)/\Hp.cell h6 u0 (u1+11)=some (vi x2)/\ZC Pg (Value.func (.func 119) #[] #[]) [vi x2] h6 fun v8 h9=>∃ s10,v8=vs s10/\Hp.cell h9 u0 (u1+12)=some (vsl a4 n4 c4)/\Hp.cell h9 u0 (u1+10)=some (vsl a3 n3 c3)/\ZC Pg (Value.func (.func 119) #[] #[]) [(vi (n3:Int))] h9 fun v11 h12=>∃ s13,v11=vs s13/\Hp.cell h12 u0 (u1+12)=some (vsl a4 n4 c4)/\ZC Pg (Value.func (.func 119) #[] #[]) [(vi (n4:Int))] h12 fun v14 h15=>∃ s16,v14=vs s16/\∀ b17,h15 b17=none->let h18:=Hp.set h15 b17 (Qb [vs s7,vs s10,vs s13,vs s16] 9);∃ a19 n19 c19,Hp.cell h18 u0 (u1+8)=some (vsl a19 n19 c19)/\∃(I21:LtT)(m22:LmT),I21 [(vsl (some ⟨b17,0,none⟩) 4 4),vi 0] h18/\∀ vs23 h24,I21 vs23 h24->∃ a25 n25 c25 x26,vs23=[vsl a25 n25 c25,vi x26]/\((decide (x26<(n19:Int)))=true->∃ a29 n29 c29,Hp.cell h24 u0 (u1+8)=some (vsl a29 n29 c29)/\∃ b30 o31,Ix a29 b30 o31 x26 n29/\∃ x32,Hp.cell h24 b30 (o31+x26.toNat*1)=some (vi x32)/\∃ a33 n33 c33,Hp.cell h24 u0 (u1+9)=some (vsl a33 n33 c33)/\∃ b34 o35,Ix a33 b34 o35 x26 n33/\∃ x36,Hp.cell h24 b34 (o35+x26.toNat*1)=some (vi x36)/\ZC Pg (Value.func (.func 119) #[] #[]) [vi x32] h24 fun v37 h38=>∃ s39,v37=vs s39/\Hp.cell h38 b34 (o35+x26.toNat*1)=some (vi x36)/\Hp.cell h38 u0 (u1+9)=some (vsl a33 n33 c33)/\ZC Pg (Value.func (.func 119) #[] #[]) [vi x36] h38 fun v40 h41=>∃ s42,v40=vs s42/\∀ b43,h41 b43=none->let h44:=Hp.set h41 b43 (Qb [vs s39,vs s42] 9);Qh Pg (Builtin.append_ #[162,162] 162 #[vsl a25 n25 c25,(vsl (some ⟨b43,0,none⟩) 2 2)]) h44 fun v45 h46=>∃ a47 n47 c47,v45=vsl a47 n47 c47/\∃ x49,IsW x49 (x26+1)/\I21 [vsl a47 n47 c47,vi x49] h46/\m22 [vsl a47 n47 c47,vi x49] h46<m22 vs23 h24)/\((decide (x26<(n19:Int)))=false->∃ a50 n50 c50,Hp.cell h24 u0 (u1+10)=some (vsl a50 n50 c50)/\∃(I52:LtT)(m53:LmT),I52 [vsl a25 n25 c25,vi 0] h24/\∀ vs54 h55,I52 vs54 h55->∃ a56 n56 c56 x57,vs54=[vsl a56 n56 c56,vi x57]/\((decide (x57<(n50:Int)))=true->∃ b60 o61,Ix a50 b60 o61 x57 n50/\∃ x62 x63 x64 a65 n65 c65 p66,Hp.row h55 b60 (o61+x57.toNat*5) 5=some [vi x62,vi x63,vi x64,vsl a65 n65 c65,vb p66]/\let J69:ByteArray->Prop:=fun s76=>(ZC Pg (Value.func (.func 119) #[] #[]) [vi x62] h55 fun v77 h78=>∃ s79,v77=vs s79/\Qa Pg 120 [vag [vi x63,vi x64]] h78 fun v80 h81=>∃ s82,v80=vs s82/\∀ b83,h81 b83=none->let h84:=Hp.set h81 b83 (Qb [vs s79,vs s82,vs s76] 9);Qh Pg (Builtin.append_ #[162,162] 162 #[vsl a56 n56 c56,(vsl (some ⟨b83,0,none⟩) 3 3)]) h84 fun v85 h86=>∃ a87 n87 c87,v85=vsl a87 n87 c87/\∃(I89:LtT)(m90:LmT),I89 [vsl a87 n87 c87,vi 0] h86/\∀ vs91 h92,I89 vs91 h92->∃ a93 n93 c93 x94,vs91=[vsl a93 n93 c93,vi x94]/\((decide (x94<(n65:Int)))=true->∃ b97 o98,Ix a65 b97 o98 x94 n65/\∃ x99 x100 x101 x102,Hp.row h92 b97 (o98+x94.toNat*4) 4=some [vi x99,vi x100,vi x101,vi x102]/\ZC Pg (Value.func (.func 119) #[] #[]) [vi x100] h92 fun v103 h104=>∃ s105,v103=vs s105/\ZC Pg (Value.func (.func 119) #[] #[]) [vi x101] h104 fun v106 h107=>∃ s108,v106=vs s108/\ZC Pg (Value.func (.func 119) #[] #[]) [vi x102] h107 fun v109 h110=>∃ s111,v109=vs s111/\∀ b112,h110 b112=none->let h113:=Hp.set h110 b112 (Qb [vs s105,vs s108,vs s111] 9);Qh Pg (Builtin.append_ #[162,162] 162 #[vsl a93 n93 c93,(vsl (some ⟨b112,0,none⟩) 3 3)]) h113 fun v114 h115=>∃ a116 n116 c116,v114=vsl a116 n116 c116/\∃ x118,IsW x118 (x94+1)/\I89 [vsl a116 n116 c116,vi x118] h115/\m90 [vsl a116 n116 c116,vi x118] h115<m90 vs91 h92)/\((decide (x94<(n65:Int)))=false->∃ x119,IsW x119 (x57+1)/\I52 [vsl a93 n93 c93,vi x119] h92/\m53 [vsl a93 n93 c93,vi x119] h92<m53 vs54 h55));(p66=true->J69 ⟨#[49]⟩)/\(p66=false->J69 ⟨#[48]⟩))/\((decide (x57<(n50:Int)))=false->∃ a120 n120 c120,Hp.cell h55 u0 (u1+12)=some (vsl a120 n120 c120)/\∃(I122:LtT)(m123:LmT),I122 [vsl a56 n56 c56,vi 0] h55/\∀ vs124 h125,I122 vs124 h125->∃ a126 n126 c126 x127,vs124=[vsl a126 n126 c126,vi x127]/\((decide (x127<(n120:Int)))=true->∃ b130 o131,Ix a120 b130 o131 x127 n120/\∃ p132 x133 x134 x135 a136 n136 c136,Hp.row h125 b130 (o131+x127.toNat*5) 5=some [vb p132,vi x133,vi x134,vi x135,vsl a136 n136 c136]/\let J139:ByteArray->Prop:=fun s146=>(ZC Pg (Value.func (.func 119) #[] #[]) [vi x133] h125 fun v147 h148=>∃ s149,v147=vs s149/\Qa Pg 120 [vag [vi x134,vi x135]] h148 fun v150 h151=>∃ s152,v150=vs s152/\∀ b153,h151 b153=none->let h154:=Hp.set h151 b153 (Qb [vs s146,vs s149,vs s152] 9);Qh Pg (Builtin.append_ #[162,162] 162 #[vsl a126 n126 c126,(vsl (some ⟨b153,0,none⟩) 3 3)]) h154 fun v155 h156=>∃ a157 n157 c157,v155=vsl a157 n157 c157/\∃(I159:LtT)(m160:LmT),I159 [vsl a157 n157 c157,vi 0] h156/\∀ vs161 h162,I159 vs161 h162->∃ a163 n163 c163 x164,vs161=[vsl a163 n163 c163,vi x164]/\((decide (x164<(n136:Int)))=true->∃ b167 o168,Ix a136 b167 o168 x164 n136/\∃ x169 x170,Hp.row h162 b167 (o168+x164.toNat*2) 2=some [vi x169,vi x170]/\Qa Pg 120 [vag [vi x169,vi x170]] h162 fun v171 h172=>∃ s173,v171=vs s173/\∀ b174,h172 b174=none->let h175:=Hp.set h172 b174 (Qb [vs s173] 9);Qh Pg (Builtin.append_ #[162,162] 162 #[vsl a163 n163 c163,(vsl (some ⟨b174,0,none⟩) 1 1)]) h175 fun v176 h177=>∃ a178 n178 c178,v176=vsl a178 n178 c178/\∃ x180,IsW x180 (x164+1)/\I159 [vsl a178 n178 c178,vi x180] h177/\m160 [vsl a178 n178 c178,vi x180] h177<m160 vs161 h162)/\((decide (x164<(n136:Int)))=false->∃ x181,IsW x181 (x127+1)/\I122 [vsl a163 n163 c163,vi x181] h162/\m123 [vsl a163 n163 c163,vi x181] h162<m123 vs124 h125));(p132=true->J139 ⟨#[49]⟩)/\(p132=false->J139 ⟨#[48]⟩))/\((decide (x127<(n120:Int)))=false->Qa Pg 121 [vsl a126 n126 c126,(vs ⟨#[32]⟩)] h125 fun v182 h183=>∃ s184,v182=vs s184/\R (vs s184) h183)))):Qa Pg 57 [vhp u0 u1] h R:=callC ⟨[],[(4,([4,50],[.one (.slice),.one (.int .i64)],[])),(16,([4,102],[.one (.slice),.one (.int .i64)],[])),(9,([4,82],[.one (.slice),.one (.int .i64)],[])),(29,([4,151],[.one (.slice),.one (.int .i64)],[])),(22,([4,128],[.one (.slice),.one (.int .i64)],[]))],[(2,[0,1,2,3,4,5,7,8,9,10,11,13,14,15,16,17,18,19,21,22,23,24,25,26,6,12,20,27,28,29]),(6,[0,1,2,3,4,5,6,7,8,10,11,12,13,14,15,16,17,18,9,19,20,21,22]),(14,[0,1,2,3,5,6,8,4,7,9,10,11]),(18,[0,1,2,3,5,6,7,9,10,11,4,8,12,13,14,15]),(27,[0,1,2,3,4,5,7,8,9,6,10,11,12,13])]⟩ Tryz.func57 [.one (.hp u0 u1)] H
theorem QfJ {u0:ByteArray}{u1:OaT}{u2 u3:Nat}{u4:OaT}{u5 u6:Nat}{u7:OaT}{u8 u9:Nat}{u10:Int}{u11:Int}{u12:Int}{u13:Int}{u14:Int}{h:Hp}{R:RtT}(H:Qa Pg 59 [vag [vsl u1 u2 u3,vsl u4 u5 u6,vsl u7 u8 u9,vi u10,vi u11,vi u12,vi u13],vi u14] h fun v1 h2=>∃ q3 e4,v1=Qf [vp q3,ifv e4]/\((Option.isSome e4)=true->R (Qf [vp none,ifv e4]) h2)/\((Option.isSome e4)=false->Qa Pg 127 [vs u0,(vs ⟨#[32]⟩)] h2 fun v6 h7=>∃ a8 n8 c8,v6=vsl a8 n8 c8/\∀ b9,h7 b9=none->let h10:=Hp.set h7 b9 (Qb [vsl a8 n8 c8,vb false] 219);Qa Pg 128 [vhp b9 0,vi 1,vi 3] h10 fun v11 h12=>∃ x13,v11=vi x13/\Qa Pg 128 [vhp b9 0,vi 0,vi 1099511627776] h12 fun v14 h15=>∃ x16,v14=vi x16/\∃ b17 o18,q3=some ⟨b17,o18,none⟩/\Hp.store h15 b17 (o18+11) [vi x16] fun h19=>Qa Pg 128 [vhp b9 0,vi 0,vi 10000] h19 fun v20 h21=>∃ x22,v20=vi x22/\Qa Pg 128 [vhp b9 0,vi 0,vi 10000] h21 fun v23 h24=>∃ x25,v23=vi x25/\∃ x26,((decide (x13≠u14))=false->IsW x26 (x22+x25))/\∃ a27 n27 c27,((decide (x13≠u14))=false->Hp.cell h24 b9 0=some (vsl a27 n27 c27))/\((cond (decide (x13≠u14)) true (decide (x26>(n27:Int))))=true->R (Qf [vp none,(ifv (some (119,vi 4)))]) h24)/\((cond (decide (x13≠u14)) true (decide (x26>(n27:Int))))=false->∃(I30:LtT)(m31:LmT),I30 [vi 0] h24/\∀ vs32 h33,I30 vs32 h33->∃ x34,vs32=[vi x34]/\((decide (x34<u14))=true->∃ b37 o38,q3=some ⟨b37,o38,none⟩/\∃ a39 n39 c39,Hp.cell h33 b37 (o38+8)=some (vsl a39 n39 c39)/\Qa Pg 128 [vhp b9 0,vi 0,vi 40] h33 fun v40 h41=>∃ x42,v40=vi x42/\Hp.cell h41 b37 (o38+8)=some (vsl a39 n39 c39)/\∃ b43 o44,Ix a39 b43 o44 x34 n39/\Hp.store h41 b43 (o44+x34.toNat*1) [vi x42] fun h45=>∃ b46 o47,q3=some ⟨b46,o47,none⟩/\∃ a48 n48 c48,Hp.cell h45 b46 (o47+9)=some (vsl a48 n48 c48)/\Qa Pg 128 [vhp b9 0,(vi (-1)),vi 9999] h45 fun v49 h50=>∃ x51,v49=vi x51/\Hp.cell h50 b46 (o47+9)=some (vsl a48 n48 c48)/\∃ b52 o53,Ix a48 b52 o53 x34 n48/\Hp.store h50 b52 (o53+x34.toNat*1) [vi x51] fun h54=>∃ x56,IsW x56 (x34+1)/\I30 [vi x56] h54/\m31 [vi x56] h54<m31 vs32 h33)/\((decide (x34<u14))=false->∃(I58:LtT)(m59:LmT),I58 [vi 0] h33/\∀ vs60 h61,I58 vs60 h61->∃ x62,vs60=[vi x62]/\((decide (x62<x22))=true->∃ b65 o66,q3=some ⟨b65,o66,none⟩/\∃ a67 n67 c67,Hp.cell h61 b65 (o66+10)=some (vsl a67 n67 c67)/\Qa Pg 129 [vhp b9 0,vag [vsl u1 u2 u3,vsl u4 u5 u6,vsl u7 u8 u9,vi u10,vi u11,vi u12,vi u13]] h61 fun v68 h69=>∃ x70 x71 x72 a73 n73 c73 p74,v68=vag [vi x70,vi x71,vi x72,vsl a73 n73 c73,vb p74]/\Hp.cell h69 b65 (o66+10)=some (vsl a67 n67 c67)/\∀ b75,h69 b75=none->let h76:=Hp.set h69 b75 (Qb [vi x70,vi x71,vi x72,vsl a73 n73 c73,vb p74] 150);Qh Pg (Builtin.append_ #[128,128] 128 #[vsl a67 n67 c67,(vsl (some ⟨b75,0,none⟩) 1 1)]) h76 fun v77 h78=>∃ a79 n79 c79,v77=vsl a79 n79 c79/\∃ b80 o81,q3=some ⟨b80,o81,none⟩/\Hp.store h78 b80 (o81+10) [vsl a79 n79 c79] fun h82=>∃ x84,IsW x84 (x62+1)/\I58 [vi x84] h82/\m59 [vi x84] h82<m59 vs60 h61)/\((decide (x62<x22))=false->∃(I86:LtT)(m87:LmT),I86 [vi 0] h61/\∀ vs88 h89,I86 vs88 h89->∃ x90,vs88=[vi x90]/\((decide (x90<x25))=true->∃ b93 o94,q3=some ⟨b93,o94,none⟩/\∃ a95 n95 c95,Hp.cell h89 b93 (o94+12)=some (vsl a95 n95 c95)/\Qa Pg 130 [vhp b9 0,vag [vsl u1 u2 u3,vsl u4 u5 u6,vsl u7 u8 u9,vi u10,vi u11,vi u12,vi u13]] h89 fun v96 h97=>∃ p98 x99 x100 x101 a102 n102 c102,v96=vag [vb p98,vi x99,vi x100,vi x101,vsl a102 n102 c102]/\Hp.cell h97 b93 (o94+12)=some (vsl a95 n95 c95)/\∀ b103,h97 b103=none->let h104:=Hp.set h97 b103 (Qb [vb p98,vi x99,vi x100,vi x101,vsl a102 n102 c102] 95);Qh Pg (Builtin.append_ #[48,48] 48 #[vsl a95 n95 c95,(vsl (some ⟨b103,0,none⟩) 1 1)]) h104 fun v105 h106=>∃ a107 n107 c107,v105=vsl a107 n107 c107/\∃ b108 o109,q3=some ⟨b108,o109,none⟩/\Hp.store h106 b108 (o109+12) [vsl a107 n107 c107] fun h110=>∃ x112,IsW x112 (x90+1)/\I86 [vi x112] h110/\m87 [vi x112] h110<m87 vs88 h89)/\((decide (x90<x25))=false->∃ p113,Hp.cell h89 b9 (0+1)=some (vb p113)/\∃ a114 n114 c114,(p113=false->Hp.cell h89 b9 0=some (vsl a114 n114 c114))/\((cond p113 true (decide ((n114:Int)>0)))=true->R (Qf [vp none,(ifv (some (119,vi 4)))]) h89)/\((cond p113 true (decide ((n114:Int)>0)))=false->R (Qf [vp q3,ifv none]) h89))))))):Qa Pg 61 [vs u0,vag [vsl u1 u2 u3,vsl u4 u5 u6,vsl u7 u8 u9,vi u10,vi u11,vi u12,vi u13],vi u14] h R:=callC ⟨[27],[(11,([55],[.one (.int .i64)],[])),(17,([77],[.one (.int .i64)],[])),(21,([95],[.one (.int .i64)],[]))],[(13,[0,1,2,3,4,5,6,7,8]),(14,[0,1,2,3,4,5,6,7,8,9]),(18,[0,1,2,3,4,5,6,7,8,9,10,11,12,13,14]),(22,[0,1,2,3,4,5,6,7,8,9,10,11,12])]⟩ Tryz.func61 [.one (.v (vs u0)),.ag [.v (vsl u1 u2 u3),.v (vsl u4 u5 u6),.v (vsl u7 u8 u9),.v (vi u10),.v (vi u11),.v (vi u12),.v (vi u13)],.one (.v (vi u14))] H
def Jv (q:Qy)(U:Int × Bool)(k:PK):Bool:=U.2&&decide (k.1+q.size<=U.1)
def ZT (q:Qy)(U:Int × Bool)(k:PK):Bool:=U.2&&decide (k.1+q.size<=U.1-q.late)
def Jw (L:List (PK × List Vl))(w:Rw):Option (List (PK × List Vl)):=
 if w.1=true then(if w.2 ∈ L then some (L.erase w.2) else none) else if ∃ x ∈ L,x.1=w.2.1 then none else some (L++[w.2])
def M6 (rows:List Rw):Option (List (PK × List Vl)):=rows.foldlM Jw []
theorem Mw (a b:List Rw):M6 (a++b)=(M6 a).bind fun L=>b.foldlM Jw L:=by
 unfold M6;rw [List.foldlM_append];rfl
def Qax (q:Qy)(A:List Ad)(k:PK):PK × List Vl:=(k,YW (Qd q) (QD A k))
def Jr (q:Qy)(A:List Ad)(T:PK->Bool):List (PK × List Vl):=((Zi A).filter T).map (Qax q A)
structure Mid (q:Qy)(A:List Ad)(U:Int × Bool)(T:PK->Bool)(st:En):Prop where
 pn:st.pn=((Zi A).filter fun k=>!ZT q U k).map fun k=>⟨k,QD A k,T k⟩
 net:∃ L,M6 st.rows=some L/\L.Perm (Jr q A T)
 tk:∀ k,T k=true->k ∈ Zi A
 td:∀ k,T k=true->Jv q U k=true
 tg:∀ k,k ∈ Zi A->ZT q U k=true->T k=true
 rk:∀ w ∈ st.rows,w.2.1 ∈ Zi A
theorem QiR {f:PK->List (List Vl)}{T:PK->Bool}{K:PK}{v:List Vl}:∀{l:List PK},l.Pairwise Qt->(K ∉ l->f K=[]/\T K=false) ->
  Ks K v (l.map fun k=>⟨k,f k,T k⟩)=(Vj K l).map fun k=>⟨k,f k++(if K=k then [v] else []),T k⟩
 | [],_,h=>by
  obtain⟨h1,h2⟩:=h (by simp)
  simp [Ks,Vj,h1,h2]
 | x :: l,hs,h=>by
  obtain⟨s1,s2⟩:=fA.1 hs;rw [dD,Ks,Vj];simp only;by_cases h1:Qt x K
  ·have hne:K≠x:=fun e=>by subst e;exact Z5 _ h1
   have hq:K ∉ l->K ∉ x :: l:=fun q e=>(bS.1 e).elim hne q
   rw [bJ h1,bJ h1,dD,QiR s2 (fun q=>h (hq q)),bE hne,dH]
  ·by_cases h2:x=K
   ·subst h2;rw [bE h1,bJ rfl,bE h1,bJ rfl,dD,bJ rfl];congr 1
    refine fK fun y hy=>?_
    have hne:x≠y:=fun e=>by subst e;exact Z5 _ (s1 _ hy)
    rw [bE hne,dH]
   ·have hb:Qt K x:=by
     by_cases q1:Qt K x
     ·exact q1
     ·exact absurd (Qaa h1 q1) h2
    have hni:K ∉ x :: l:=by
     rw [bS];rintro(e|e)
     ·exact h2 e.symm
     ·exact Z5 _ (Xo hb (s1 _ e))
    obtain⟨e1,e2⟩:=h hni;rw [bE h1,bE h2,bE h1,bE h2,dD,dD,bJ rfl,e1,e2,bE (fun e=>h2 e.symm),dH,dE]
    congr 2
    refine fK fun y hy=>?_
    have hne:K≠y:=fun e=>by subst e;exact hni (bT _ hy)
    rw [bE hne,dH]
theorem Qlj {f:PK->List (List Vl)}{T:PK->Bool}{K:PK}:∀{l:List PK},atP K (l.map fun k=>(⟨k,f k,T k⟩:Pn))=if K ∈ l then some ⟨K,f K,T K⟩ else none
 | []=>rfl
 | x :: l=>by
  have ih:=Qlj (f:=f) (T:=T) (K:=K) (l:=l);unfold atP at ih ⊢;rw [dD,List.find?_cons]
  by_cases h:x=K
  ·subst h;simp
  ·rw [cO h,ih];simp only [bS];by_cases h2:K ∈ l
   ·rw [bJ h2,bJ (.inr h2)]
   ·rw [bE h2,bE];rintro(e|e)
    ·exact h e.symm
    ·exact h2 e
theorem ZS {l:List PK}(h:l.Pairwise Qt)(P:PK->Bool):(l.filter P).Pairwise Qt:=h.sublist List.filter_sublist
theorem QjB {l:List PK}(h:l.Pairwise Qt){P:PK->Bool}{K:PK}(hP:P K=true):(Vj K l).filter P=Vj K (l.filter P):=
 Vw (ZS (Y8 K h) P) (Y8 K (ZS h P)) fun k=>by
  rw [d8,XM,XM,d8];constructor
  ·rintro⟨h1|h1,h2⟩
   ·exact .inl h1
   ·exact .inr ⟨h1,h2⟩
  ·rintro(h1|⟨h1,h2⟩)
   ·subst h1;exact⟨.inl rfl,hP⟩
   ·exact⟨.inr h1,h2⟩
theorem Qh0 {l:List PK}(h:l.Pairwise Qt){P:PK->Bool}{K:PK}(hP:P K=false):(Vj K l).filter P=l.filter P:=
 Vw (ZS (Y8 K h) P) (ZS h P) fun k=>by
  rw [d8,XM,d8];constructor
  ·rintro⟨h1|h1,h2⟩
   ·subst h1;rw [hP] at h2;cases h2
   ·exact⟨h1,h2⟩
  ·rintro⟨h1,h2⟩;exact⟨.inr h1,h2⟩
theorem Qpy {l:List PK}(h:l.Pairwise Qt){K:PK}(hK:K ∈ l):Vj K l=l:=
 Vw (Y8 K h) h fun k=>by
  rw [XM];constructor
  ·rintro(h1|h1)
   ·subst h1;exact hK
   ·exact h1
  ·exact .inr
theorem QgT {f g:PK->List Vl}{K:PK}(hne:∀ k,k≠K->f k=g k):∀{l:List PK},l.Nodup->K ∈ l->((l.map fun k=>(k,f k)).erase (K,f K)++[(K,g K)]).Perm (l.map fun k=>(k,g k))
 | [],_,h=>(by cases h)
 | x :: l,hd,h=>by
  obtain⟨d1,d2⟩:=f8.1 hd;rw [dD,dD];by_cases e:x=K
  ·subst e;rw [List.erase_cons_head];have e2:(l.map fun k=>(k,f k))=l.map fun k=>(k,g k):=fK fun k hk=>by rw [hne k (fun e=>d1 (by rw [<-e];exact hk))]
   rw [e2];exact List.perm_append_singleton ..
  ·rw [List.erase_cons_tail (by simp [e]),dA,hne x e]
   refine List.Perm.cons _ (QgT hne d2 ?_)
   rcases bS.1 h with q|q
   ·exact absurd q.symm e
   ·exact q
theorem Qjn (q:Qy)(A:List Ad)(T:PK->Bool):((Jr q A T).map (·.1)).Nodup:=by
 unfold Jr;rw [fH];have:((fun x:PK × List Vl=>x.1) ∘ Qax q A)=id:=rfl
 rw [this,j8];exact Xj (ZS (YH A) T)
theorem QiK {ks:List Int}{K:PK}{v:List Vl}{o:Option Pn}:∀ w ∈ Uz ks K v o,w.2.1=K:=by
 intro w hw;unfold Uz at hw;split at hw
 ·split at hw
  ·simp only [bS,dB,fV] at hw;rcases hw with rfl|rfl<;>rfl
  ·cases hw
 ·cases hw
theorem Mid.put {q:Qy}{A:List Ad}{U:Int × Bool}{T:PK->Bool}{st:En}(M:Mid q A U T st){K:PK}{v:List Vl}(hK:ZT q U K=false) :
  Mid q (A++[(K,v)]) U T { st with pn:=Ks K v st.pn,rows:=st.rows++Uz (Qd q) K v (atP K st.pn) }:=by
 have hs:=YH A;have hfs:=ZS hs fun k=>!ZT q U k
 have hks:Zi (A++[(K,v)])=Vj K (Zi A):=NX A (K,v);have hin:∀ k,k ∈ Zi A->k ∈ Zi (A++[(K,v)]):=fun k hk=>by rw [hks,XM];exact .inr hk
 have hni:K ∉ (Zi A).filter (fun k=>!ZT q U k)->K ∉ Zi A:=fun h h2=>h (d8.2 ⟨h2,by rw [hK];rfl⟩)
 refine⟨?_,?_,fun k hk=>hin k (M.tk k hk),M.td,fun k hk hg=>?_,fun w hw=>?_⟩
 ·show Ks K v st.pn=_;rw [M.pn,QiR hfs (fun h=>?_),hks,QjB hs (by rw [hK];rfl)]
  ·refine fK fun k _=>?_
   rw [Xf]
  ·refine⟨QdP fun h2=>hni h ((QbS A).mem_iff.2 h2),?_⟩
   cases hT:T K with
   | false=>rfl
   | true=>exact absurd (M.tk K hT) (hni h)
 ·obtain⟨L,hL,hp⟩:=M.net;have hro:∀ k,k≠K->QD (A++[(K,v)]) k=QD A k:=fun k hk=>by rw [Xf,bE (fun e=>hk e.symm),dH]
  rw [M.pn,Qlj];rcases dC (T K) with hT|hT
  rotate_left
  ·refine⟨L,?_,?_⟩
   ·have:Uz (Qd q) K v (if K ∈ (Zi A).filter (fun k=>!ZT q U k) then some ⟨K,QD A K,T K⟩ else none)=[]:=by
     split
     ·unfold Uz;rw [hT];exact bE (by simp)
     ·rfl
    show M6 (st.rows++_)=_;rw [this,dH];exact hL
   ·have e:Jr q (A++[(K,v)]) T=Jr q A T:=by
     unfold Jr;rw [hks,Qh0 hs hT];refine fK fun k hk=>?_
     unfold Qax;rw [hro k (fun e=>by rw [e] at hk;have:=(d8.1 hk).2;rw [hT] at this;cases this)]
    rw [e];exact hp
  ·have hkin:=M.tk K hT;rw [bJ (d8.2 ⟨hkin,by rw [hK];rfl⟩)]
   have ek:Zi (A++[(K,v)])=Zi A:=by rw [hks,Qpy hs hkin]
   have er:QD (A++[(K,v)]) K=QD A K++[v]:=by rw [Xf,bJ rfl]
   unfold Uz;simp only;by_cases hc:YW (Qd q) (QD A K)=YW (Qd q) (QD A K++[v])
   ·rw [bE (fun h=>h.2 hc),dH]
    refine⟨L,hL,?_⟩
    have e:Jr q (A++[(K,v)]) T=Jr q A T:=by
     unfold Jr;rw [ek];refine fK fun k hk=>?_
     unfold Qax;by_cases e:k=K
     ·rw [e,er,hc]
     ·rw [hro k e]
    rw [e];exact hp
   ·rw [bJ ⟨hT,hc⟩];have hfm:K ∈ (Zi A).filter T:=d8.2 ⟨hkin,hT⟩;have hmem:Qax q A K ∈ Jr q A T:=cZ.2 ⟨K,hfm,rfl⟩;have hmL:Qax q A K ∈ L:=hp.mem_iff.2 hmem;have hnd:(L.map (·.1)).Nodup:=(hp.map (·.1)).nodup_iff.2 (Qjn q A T)
    have hndL:L.Nodup:=List.Pairwise.of_map (fun x:PK × List Vl=>x.1) (fun a b h e=>h (by rw [e])) hnd
    have hno:¬ ∃ x ∈ L.erase (Qax q A K),x.1=K:=by
     rintro⟨x,hx,ex⟩;have hx2:=List.mem_of_mem_erase hx;obtain⟨k,_,ek2⟩:=cZ.1 (hp.mem_iff.1 hx2);have:k=K:=by rw [<-ex,<-ek2];rfl
     rw [this] at ek2;rw [<-ek2] at hx;exact(List.Nodup.not_mem_erase hndL) hx
    refine⟨L.erase (Qax q A K)++[(K,YW (Qd q) (QD A K++[v]))],?_,?_⟩
    ·show M6 (st.rows++_)=_;rw [Mw,hL];show ([(true,Qax q A K),(false,K,YW (Qd q) (QD A K++[v]))]:List Rw).foldlM Jw L=_;simp only [kO,List.foldlM_nil];have e1:Jw L (true,Qax q A K)=some (L.erase (Qax q A K)):=by
      unfold Jw;rw [bJ rfl,bJ hmL]
     have e2:Jw (L.erase (Qax q A K)) (false,K,YW (Qd q) (QD A K++[v]))=some (L.erase (Qax q A K)++[(K,YW (Qd q) (QD A K++[v]))]):=by unfold Jw;rw [bE (by simp),bE hno]
     rw [e1];show (Jw (L.erase (Qax q A K)) _).bind _=_;rw [e2];rfl
    ·refine((hp.erase _).append_right _).trans ?_
     have:=QgT (f:=fun k=>YW (Qd q) (QD A k)) (g:=fun k=>YW (Qd q) (QD (A++[(K,v)]) k)) (K:=K) (fun k hk=>by rw [hro k hk]) (Xj (ZS hs T)) hfm
     rw [er] at this;unfold Jr;rw [ek];exact this
 ·rw [hks,XM] at hk;rcases hk with rfl|hk
  ·rw [hK] at hg;cases hg
  ·exact M.tg k hk hg
 ·rcases bU.1 hw with h1|h1
  ·exact hin _ (M.rk w h1)
  ·rw [QiK w h1,hks,XM];exact .inl rfl
theorem Qnf {q:Qy}{U:Int × Bool}{far s:Int}{v:Vl}(hU:U.2=true->0<=far/\U.1<=far-q.delay)(hl:WP q far s=false):ZT q U (s,v)=false:=by
 unfold ZT;cases h:U.2 with
 | false=>rfl
 | true=>
  obtain⟨h1,h2⟩:=hU h;unfold WP at hl;rw [cL h1,jM] at hl;have:=bB hl;simp only [jM];exact cO (by omega)
theorem Mid.wins {q:Qy}{A:List Ad}{U:Int × Bool}{T:PK->Bool}{st:En}(M:Mid q A U T st){far:Int}{e:EvL}(hU:U.2=true->0<=far/\U.1<=far-q.delay)(ss:List Int) :
  Mid q (A++JN q far e ss) U T (ss.foldl (KN q far e) st)/\(ss.foldl (KN q far e) st).late=st.late+VG q far ss/\∃ more,(ss.foldl (KN q far e) st).rows=st.rows++more/\∀ w ∈ more,ZT q U w.2.1=false:=by
 induction ss using Y0 with
 | h0=>exact⟨by simpa [JN] using M,by simp [VG],[],by simp,by simp⟩
 | h1 ss s ih=>
  obtain⟨i1,i2,more,i3,i4⟩:=ih;rw [fM,QgQ,QeF];simp only [fW,List.foldl_nil];generalize ss.foldl (KN q far e) st=s1 at *
  unfold KN;rcases dC (WP q far s) with hl|hl
  ·rw [bJ hl,bJ hl,bJ hl,dH];exact⟨⟨i1.pn,i1.net,i1.tk,i1.td,i1.tg,i1.rk⟩,by simp only;omega,more,i3,i4⟩
  ·rw [bE (by rw [hl];decide),bE (by rw [hl];decide),bE (by rw [hl];decide),<-bX]
   have hg:ZT q U (s,Q3 q e)=false:=Qnf hU hl;refine⟨i1.put hg,by simp only;omega,more++Uz (Qd q) (s,Q3 q e) (Qp q e) (atP (s,Q3 q e) s1.pn),by simp only;rw [i3,bX],fun w hw=>?_⟩
   rcases bU.1 hw with h|h
   ·exact i4 w h
   ·rw [QiK w h];exact hg
theorem QjN {f:PK->List Vl}:∀{ks:List PK} {L:List (PK × List Vl)},ks.Nodup->(∀ k ∈ ks,∀ x ∈ L,x.1≠k)->(ks.map fun k=>((false,k,f k):Rw)).foldlM Jw L=some (L++ks.map fun k=>(k,f k))
 | [],L,_,_=>by simp
 | k :: ks,L,hd,hn=>by
  obtain⟨d1,d2⟩:=f8.1 hd;rw [dD,kO];have e:Jw L (false,k,f k)=some (L++[(k,f k)]):=by
   unfold Jw;rw [bE (by simp),bE]
   rintro⟨x,hx,ex⟩;exact hn k (bY ..) x hx ex
  rw [e];show (ks.map fun k=>((false,k,f k):Rw)).foldlM Jw (L++[(k,f k)])=_
  rw [QjN d2 (fun k' hk' x hx=>?_),dD,bX]
  ·rfl
  ·rcases bU.1 hx with h|h
   ·exact hn k' (bT _ hk') x h
   ·rw [cD.1 h];intro e;exact d1 (by rw [show k=k' from e];exact hk')
theorem Qeg {P Q R:PK->Bool}:∀{l:List PK},(∀ k ∈ l,R k=(P k||Q k))->(∀ k ∈ l,P k=true->Q k=false)->(l.filter P++l.filter Q).Perm (l.filter R)
 | [],_,_=>List.Perm.nil
 | x :: l,h,h2=>by
  have ih:=Qeg (fun k hk=>h k (bT _ hk)) (fun k hk=>h2 k (bT _ hk))
  have e:=h x (bY ..);have e2:=h2 x (bY ..);cases hp:P x with
  | true=>
   rw [hp] at e;rw [j5 hp,jK (by rw [e2 hp];decide),j5 (by rw [e];rfl),dA]
   exact ih.cons _
  | false=>
   cases hq:Q x with
   | true=>
    rw [hp,hq] at e;rw [jK (by rw [hp];decide),j5 hq,j5 (by rw [e];rfl)]
    exact List.perm_middle.trans (ih.cons _)
   | false=>
    rw [hp,hq] at e;rw [jK (by rw [hp];decide),jK (by rw [hq];decide),jK (by rw [e];decide)]
    exact ih
def KE (q:Qy)(A:List Ad)(U:Int × Bool)(k:PK):Bool:=decide (k ∈ Zi A)&&Jv q U k
theorem Mid.ends {q:Qy}{A:List Ad}{U U':Int × Bool}{T:PK->Bool}{st:En}(M:Mid q A U T st)(hl:0<=q.late)(hU:U.2=true->U'.2=true/\U.1<=U'.1)(hf:Zm q.delay st.far=U') :
  Mid q A U' (KE q A U') (Jc q st)/\∃ more,(Jc q st).rows=st.rows++more/\∀ w ∈ more,ZT q U w.2.1=false:=by
 unfold Jc;rw [hf];cases h':U'.2 with
 | false=>
  have hu:U.2=false:=by
   cases h:U.2 with
   | false=>rfl
   | true=>have:=(hU h).1;rw [h'] at this;cases this
  have hT:T=KE q A U':=by
   funext k
   unfold KE Jv;rw [h',Bool.false_and,Bool.and_false];cases h:T k with
   | false=>rfl
   | true=>have:=M.td k h;unfold Jv at this;rw [hu] at this;cases this
  have hg:(fun k=>!ZT q U k)=fun k=>!ZT q U' k:=by
   funext k
   unfold ZT;rw [hu,h'];rfl
  rw [bE (by decide),<-hT]
  refine⟨⟨by rw [<-hg];exact M.pn,M.net,M.tk,fun k hk=>?_,fun k hk hk2=>?_,M.rk⟩,[],by simp,by simp⟩
  ·have:=M.td k hk;unfold Jv at this;rw [hu] at this;cases this
  ·unfold ZT at hk2;rw [h'] at hk2;cases hk2
 | true=>
  rw [bJ rfl];have hdm:∀ k,Jv q U k=true->Jv q U' k=true:=by
   intro k hk;unfold Jv at *
   rw [h',jM];rw [cG] at hk;have h2:=(hU hk.1).2;have:=bC hk.2;exact cL (by omega)
  have hgm:∀ k,ZT q U k=true->ZT q U' k=true:=by
   intro k hk;unfold ZT at *
   rw [h',jM];rw [cG] at hk;have h2:=(hU hk.1).2;have:=bC hk.2;exact cL (by omega)
  have hgd:∀ k,ZT q U' k=true->Jv q U' k=true:=by intro k hk;unfold ZT at hk;unfold Jv;rw [cG] at hk;have:=bC hk.2;rw [hk.1,jM];exact cL (by omega)
  have hdue:∀(k:PK)(rs:List (List Vl))(t:Bool),UX q.size U'.1 ⟨k,rs,t⟩=Jv q U' k:=by intro k rs t;unfold UX Jv;rw [h'];rfl
  have hnew:QbD q.size U'.1 st.pn=((Zi A).filter fun k=>!T k&&Jv q U' k).map fun k=>⟨k,QD A k,T k⟩:=by
   unfold QbD;rw [M.pn,pV,List.filter_filter];congr 1
   refine mA fun k hk=>?_
   show ((!T k&&UX q.size U'.1 ⟨k,QD A k,T k⟩)&&!ZT q U k)=_;rw [hdue];cases hg:ZT q U k with
   | false=>simp
   | true=>rw [M.tg k hk hg];rfl
  have hrows:(QbD q.size U'.1 st.pn).map (QgJ (Qd q))=((Zi A).filter fun k=>!T k&&Jv q U' k).map fun k=>((false,k,YW (Qd q) (QD A k)):Rw):=by rw [hnew,fH];rfl
  refine⟨⟨?_,?_,fun k hk=>?_,fun k hk=>?_,fun k hk hg=>?_,fun w hw=>?_⟩,_,rfl,fun w hw=>?_⟩
  ·show QaX q.size (U'.1-q.late) (XO q.size U'.1 st.pn)=_;unfold QaX XO;rw [M.pn,fH,pV,List.filter_filter];have e:((Zi A).filter fun k=>((fun p=>!UX q.size (U'.1-q.late) p) ∘ ((fun p:Pn=>(⟨p.k,p.rs,p.t||UX q.size U'.1 p⟩:Pn)) ∘ fun k=>⟨k,QD A k,T k⟩)) k&&!ZT q U k)=(Zi A).filter fun k=>!ZT q U' k:=by
    refine mA fun k hk=>?_
    have e1:UX q.size (U'.1-q.late) ⟨k,QD A k,T k||UX q.size U'.1 ⟨k,QD A k,T k⟩⟩=ZT q U' k:=by unfold UX ZT;rw [h'];rfl
    show (!UX q.size (U'.1-q.late) ⟨k,QD A k,T k||UX q.size U'.1 ⟨k,QD A k,T k⟩⟩&&!ZT q U k)=_;rw [e1];cases hg:ZT q U k with
    | false=>simp
    | true=>rw [hgm k hg];rfl
   rw [e];refine fK fun k hk=>?_
   have hk:=(d8.1 hk).1;show (⟨k,QD A k,T k||UX q.size U'.1 ⟨k,QD A k,T k⟩⟩:Pn)=⟨k,QD A k,KE q A U' k⟩;rw [hdue];unfold KE;rw [cL hk,jM];cases hT:T k with
   | false=>rfl
   | true=>rw [hdm k (M.td k hT)];rfl
  ·obtain⟨L,hL,hp⟩:=M.net;refine⟨L++((Zi A).filter fun k=>!T k&&Jv q U' k).map (Qax q A),?_,?_⟩
   ·show M6 (st.rows++(QbD q.size U'.1 st.pn).map (QgJ (Qd q)))=_;rw [hrows,Mw,hL];refine QjN (Xj (ZS (YH A) _)) fun k hk x hx e=>?_
    obtain⟨k',hk',e2⟩:=cZ.1 (hp.mem_iff.1 hx);have hT:=(d8.1 hk').2;have hk2:=(d8.1 hk).2;have:k'=k:=by rw [<-e,<-e2];rfl
    rw [this] at hT;rw [hT] at hk2;cases hk2
   ·refine(hp.append_right _).trans ?_
    unfold Jr;rw [<-cJ];refine(Qeg (fun k hk=>?_) fun k hk h=>?_).map _
    ·unfold KE;rw [cL hk,jM];cases hT:T k with
     | false=>rfl
     | true=>rw [hdm k (M.td k hT)];rfl
    ·rw [h];rfl
  ·unfold KE at hk;rw [cG] at hk;exact bC hk.1
  ·unfold KE at hk;rw [cG] at hk;exact hk.2
  ·unfold KE;rw [cL hk,jM];exact hgd k hg
  ·rcases bU.1 hw with h1|h1
   ·exact M.rk w h1
   ·rw [hrows] at h1;obtain⟨k,hk,rfl⟩:=cZ.1 h1;exact(d8.1 hk).1
  ·rw [hrows] at hw;obtain⟨k,hk,rfl⟩:=cZ.1 hw;obtain⟨hk1,hk2⟩:=d8.1 hk;cases hg:ZT q U k with
   | false=>rfl
   | true=>rw [M.tg k hk1 hg] at hk2;cases hk2
theorem Qic {d:Int}{l:List Int}{x:Int}(h:(Zm d l).2=true)(hx:x ∈ l):0<=x/\(Zm d l).1<=x-d:=by
 unfold Zm at *
 split at h
 ·rename_i h1;rw [bJ h1,bE (fun e=>by rw [e] at hx;cases hx)]
  have:=Qpo hx;exact⟨h1 x hx,by simp only;omega⟩
 ·cases h
theorem QmF {d:Int}{l:List Int}{p:Nat}{t:Int}(hp:p<l.length)(h:(Zm d l).2=true):(Zm d (see l p t)).2=true/\(Zm d l).1<=(Zm d (see l p t)).1:=by
 have hlp:l.getD p 0 ∈ l:=by rw [bI,bD hp];exact cM _
 have key:∀ x ∈ see l p t,0<=x/\(Zm d l).1<=x-d:=by
  intro x hx;unfold see at hx;rcases gD hx with h1|h1
  ·exact Qic h h1
  ·have:=Qic h hlp;have h2:=Int.le_max_left (l.getD p 0) t;rw [<-h1] at h2;omega
 have hne:see l p t≠[]:=fun e=>by have:=QaI l p t;rw [e] at this;simp at this;omega
 have e:Zm d (see l p t)=(QdR (see l p t)-d,true):=by rw [show Zm d (see l p t)=if ∀ x ∈ see l p t,0<=x then(if see l p t=[] then 0 else QdR (see l p t)-d,true) else(0,false) from rfl,bJ fun x hx=>(key x hx).1,bE hne]
 rw [e];exact⟨rfl,(key _ (QiI hne)).2⟩
structure EnI (q:Qy)(ps:List (List EvL))(st:En):Prop where
 rd:st.rd=ps.map List.length
 far:st.far=ps.map ZX
 late:st.late=Ky q ps
 mid:∃ A,A.Perm (KG q ps)/\Mid q A (Zm q.delay st.far) (KE q A (Zm q.delay st.far)) st
theorem EnI.new (q:Qy)(k:Nat):EnI q (List.replicate k []) (Ja k):=by
 have h0:KG q (List.replicate k [])=[]:=by unfold KG;rw [List.flatMap_replicate];simp [Ux]
 refine⟨by simp [Ja],by simp [Ja,ZX],?_,[],by rw [h0],⟨rfl,⟨[],rfl,by simp [Jr,Zi]⟩,fun k hk=>?_,fun k hk=>?_,fun k hk=>(by cases hk),fun w hw=>(by cases hw)⟩⟩
 ·show 0=_;unfold Ky;rw [gW];simp [K0]
 ·unfold KE at hk;simp [Zi] at hk
 ·unfold KE at hk;simp [Zi] at hk
def Nv (ps:List (List EvL))(p:Nat)(e:EvL):List (List EvL):=ps.set p (ps.getD p []++[e])
theorem QcI {ps:List (List EvL)}{p:Nat}(hp:p<ps.length)(e:EvL):∃ a l b,ps=a++l :: b/\Nv ps p e=a++(l++[e]) :: b/\ps.getD p []=l:=by
 refine⟨ps.take p,ps[p],ps.drop (p+1),?_,?_,?_⟩
 ·rw [<-dS hp,dX]
 ·unfold Nv;rw [jS,bJ hp,bI,bD hp];rfl
 ·rw [bI,bD hp];rfl
theorem Qmt {q:Qy}{ps:List (List EvL)}{p:Nat}(hp:p<ps.length)(e:EvL):(KG q ps++V9 q (ZX (ps.getD p [])) e).Perm (KG q (Nv ps p e)):=by
 obtain⟨a,l,b,h1,h2,h3⟩:=QcI hp e;rw [h2,h3,h1];unfold KG;rw [cP,dI,cP,dI,Qcx];rw [bX,bX,bX];refine List.Perm.append_left _ (List.Perm.append_left _ ?_)
 exact List.perm_append_comm
theorem QkE {q:Qy}{ps:List (List EvL)}{p:Nat}(hp:p<ps.length)(e:EvL):Ky q (Nv ps p e)=Ky q ps+UK q (ZX (ps.getD p [])) e:=by
 obtain⟨a,l,b,h1,h2,h3⟩:=QcI hp e;rw [h2,h3,h1];unfold Ky;rw [cJ,dD,cJ,dD,Qaw,List.sum_append,List.sum_append,kU,kU];show _+(_+UK q (ZX l) e+_)=_;omega
theorem EnI.step {q:Qy}{ps:List (List EvL)}{st:En}(I:EnI q ps st)(B:QOk q){p:Nat}(hp:p<ps.length)(e:EvL) :
  EnI q (Nv ps p e) (Xv q p e st)/\∃ more,(Xv q p e st).rows=st.rows++more/\∀ w ∈ more,ZT q (Zm q.delay st.far) w.2.1=false:=by
 obtain⟨A,hA,M⟩:=I.mid;have hfl:p<st.far.length:=by rw [I.far,bQ];exact hp
 have hfm:st.far.getD p 0 ∈ st.far:=by rw [bI,bD hfl];exact cM _
 have hfp:st.far.getD p 0=ZX (ps.getD p []):=by rw [I.far,bI,bI,cC,bD hp];rfl
 have hU:(Zm q.delay st.far).2=true->0<=st.far.getD p 0/\(Zm q.delay st.far).1<=st.far.getD p 0-q.delay:=fun h=>Qic h hfm
 have W:Mid q (A++V9 q (st.far.getD p 0) e) (Zm q.delay st.far) (KE q A (Zm q.delay st.far)) (Z7 q (st.far.getD p 0) e st)/\(Z7 q (st.far.getD p 0) e st).late=st.late+UK q (st.far.getD p 0) e/\∃ more,(Z7 q (st.far.getD p 0) e st).rows=st.rows++more/\∀ w ∈ more,ZT q (Zm q.delay st.far) w.2.1=false:=by
  unfold Z7 V9 UK;split
  ·exact M.wins hU _
  ·exact⟨by simpa using M,by simp,[],by simp,by simp⟩
 obtain⟨W1,W2,m1,W3,W4⟩:=W;obtain⟨s1,s2⟩:=Vz (q:=q) (far:=st.far.getD p 0) (e:=e) (st:=st);have hfar2:see st.far p e.1=(Nv ps p e).map ZX:=by
  unfold Nv see;rw [gM,<-I.far,hfp];congr 1
  unfold ZX;rw [fM];rfl
 have M2:Mid q (A++V9 q (st.far.getD p 0) e) (Zm q.delay st.far) (KE q A (Zm q.delay st.far)) (XR p e (Z7 q (st.far.getD p 0) e st)):=⟨W1.pn,W1.net,W1.tk,W1.td,W1.tg,W1.rk⟩;have hsf:(XR p e (Z7 q (st.far.getD p 0) e st)).far=see st.far p e.1:=by unfold XR;rw [s2]
 have hse:∀ s:En,(Jc q s).rd=s.rd/\(Jc q s).far=s.far/\(Jc q s).late=s.late:=fun s=>by unfold Jc;split<;>exact⟨rfl,rfl,rfl⟩
 obtain⟨E1,m2,E2,E3⟩:=M2.ends B.t.1 (U':=Zm q.delay (see st.far p e.1)) (QmF hfl) (by rw [hsf])
 obtain⟨k1,k2,k3⟩:=hse (XR p e (Z7 q (st.far.getD p 0) e st));refine⟨⟨?_,?_,?_,A++V9 q (st.far.getD p 0) e,?_,?_⟩,m1++m2,?_,fun w hw=>?_⟩
 ·show (Jc q _).rd=_;rw [k1];show (Z7 q (st.far.getD p 0) e st).rd.set p ((Z7 q (st.far.getD p 0) e st).rd.getD p 0+1)=_;unfold Nv;rw [s1,gM,<-I.rd,bO];have:st.rd.getD p 0=(ps.getD p []).length:=by
   rw [I.rd,bI,bI,cC,bD hp];rfl
  rw [this];rfl
 ·show (Jc q _).far=_;rw [k2,hsf,hfar2]
 ·show (Jc q _).late=_;rw [k3];show (Z7 q (st.far.getD p 0) e st).late=_;rw [W2,I.late,hfp,QkE hp]
 ·rw [hfp];exact(hA.append_right _).trans (Qmt hp e)
 ·have e9:(Xv q p e st).far=see st.far p e.1:=k2.trans hsf;rw [e9];exact E1
 ·show (Jc q _).rows=_;rw [E2];show (Z7 q (st.far.getD p 0) e st).rows++m2=_;rw [W3,bX]
 ·rcases bU.1 hw with h|h
  ·exact W4 w h
  ·exact E3 w h
theorem EnI.net {q:Qy}{ps:List (List EvL)}{st:En}(I:EnI q ps st)(B:QOk q):∃ L,M6 st.rows=some L/\L.Perm ((WV q ps).filter fun x=>Jv q (Zm q.delay (ps.map ZX)) x.1):=by
 obtain⟨A,hA,M⟩:=I.mid;obtain⟨L,hL,hp⟩:=M.net;refine⟨L,hL,?_⟩
 have e:Jr q A (KE q A (Zm q.delay st.far))=(WV q ps).filter fun x=>Jv q (Zm q.delay (ps.map ZX)) x.1:=by
  rw [I.far];unfold WV;rw [<-Ql4 (fun a ha=>⟨(B.g a ha).1,(B.g a ha).2.1⟩) hA fun a ha=>Qi9 a (hA.mem_iff.1 ha)]
  unfold Jr QhC;rw [pV];have:(Zi A).filter (KE q A (Zm q.delay (ps.map ZX)))=(Zi A).filter ((fun x:PK × List Vl=>Jv q (Zm q.delay (ps.map ZX)) x.1) ∘ fun k=>(k,YW (Qd q) (QD A k))):=by
   refine mA fun k hk=>?_
   unfold KE;rw [cL hk];rfl
  rw [this];rfl
 rw [<-e];exact hp
open Go.Txt
abbrev Wds:=LuT
theorem Qee:∀(w r:Wds),(32:UInt8) ∉ w->Lib.index (w++32 :: r) [32]=(w.length:Nat)
 | [],r,_=>by
  show Lib.index (32 :: r) [32]=_;unfold Lib.index;rw [bJ (by simp [List.isPrefixOf])]
  rfl
 | c :: w,r,h=>by
  have hc:c≠32:=fun e=>h (by rw [e];exact bY ..)
  have ih:=Qee w r fun hm=>h (bT _ hm)
  rw [dA];unfold Lib.index;have hp:([32]:Wds).isPrefixOf (c :: (w++32 :: r))=false:=by simp [List.isPrefixOf,qE hc]
  rw [hp,bE (by decide),ih,bE (by rw [pP];omega),cH]
  omega
theorem Qd5:∀(w:Wds),(32:UInt8) ∉ w->Lib.index w [32]=-1
 | [],_=>rfl
 | c :: w,h=>by
  have hc:c≠32:=fun e=>h (by rw [e];exact bY ..)
  have ih:=Qd5 w fun hm=>h (bT _ hm)
  unfold Lib.index;have hp:([32]:Wds).isPrefixOf (c :: w)=false:=by simp [List.isPrefixOf,qE hc]
  rw [hp,bE (by decide),ih,bJ (by decide)]
def Yx (s:Wds):List Wds:=Lib.split s [32]
theorem QnM {w:Wds}(h:(32:UInt8) ∉ w):Yx w=[w]:=by
 unfold Yx Lib.split;rw [Lib.count_miss (Qd5 w h)];rfl
theorem QmG {w r:Wds}(h:(32:UInt8) ∉ w):Yx (w++32 :: r)=w :: Yx r:=by
 unfold Yx Lib.split;have hi:=Qee w r h;rw [Lib.count_hit (by decide) hi]
 have hd:(w++32 :: r).drop (w.length+[(32:UInt8)].length)=r:=by rw [<-gY,List.drop_left];rfl
 rw [hd,mQ,Lib.splitK,bE (by rw [hi,pP];omega),hi]
 rw [bF,f7,mU,hd]
theorem Qgg:∀{ws:List Wds},ws≠[]->(∀ w ∈ ws,(32:UInt8) ∉ w)->Yx (Lib.join ws [32])=ws
 | [],h,_=>absurd rfl h
 | [w],_,h=>by rw [Lib.join_one];exact QnM (h w (bY ..))
 | w :: v :: r,_,h=>by
  have e:Lib.join (w :: v :: r) [32]=w++32 :: Lib.join (v :: r) [32]:=by rw [Lib.join_cons,Lib.join_cons];unfold Lib.joinTail;simp
  rw [e,QmG (h w (bY ..)),Qgg (by simp) fun x hx=>h x (bT _ hx)]
theorem QmP {s:Wds}{k:Nat}:(Lib.splitK [32] 0 k s).length<=k+1:=by
 induction k generalizing s with
 | zero=>exact cB _
 | succ k ih=>
  unfold Lib.splitK;split
  ·simp
  ·rw [cH];have:=ih (s:=s.drop ((Lib.index s [32]).toNat+[(32:UInt8)].length));omega
theorem QmE {s:Wds}{k:Nat}:∀ w ∈ Lib.splitK [32] 0 k s,w.length<=s.length:=by
 induction k generalizing s with
 | zero=>intro w hw;rw [cD.1 hw];exact cB _
 | succ k ih=>
  intro w hw;unfold Lib.splitK at hw;split at hw
  ·rw [cD.1 hw];exact cB _
  ·rcases bS.1 hw with rfl|h
   ·rw [bZ];exact Nat.min_le_right ..
   ·have:=ih w h;rw [d5] at this;omega
theorem QjQ (s:Wds):1<=(Yx s).length/\(Yx s).length<=s.length+1/\∀ w ∈ Yx s,w.length<=s.length:=by
 refine⟨?_,?_,QmE⟩
 ·unfold Yx Lib.split;generalize Lib.count s [32]=k;cases k with
  | zero=>exact cB _
  | succ k=>unfold Lib.splitK;split<;>simp
 ·have h1:Lib.count s [32]<=s.length:=by rw [Lib.count_one];exact List.count_le_length
  have:=QmP (s:=s) (k:=Lib.count s [32]);unfold Yx Lib.split;omega
theorem Qiz {l:Wds}(h:∀ c ∈ l,isD c):(32:UInt8) ∉ l:=fun hm=>by
 have:=h 32 hm;unfold isD at this;revert this;decide
theorem MT (n:Int):(32:UInt8) ∉ Lib.itoa n:=by
 unfold Lib.itoa;split
 ·intro hm;rcases bS.1 hm with e|hm
  ·revert e;decide
  ·exact Qiz (GU _).1 hm
 ·exact Qiz (GU _).1
theorem QeV (v:Vl):(32:UInt8) ∉ Yf v:=by
 unfold Yf;split
 ·decide
 ·split
  ·exact MT _
  ·split<;>decide
theorem QpH {n:Int}:∃ c r,Lib.itoa n=c :: r/\c≠110/\c≠116/\c≠102:=by
 unfold Lib.itoa;split
 ·exact⟨45,_,rfl,by decide,by decide,by decide⟩
 ·obtain⟨d1,d2,d3,d4⟩:=GU n.toNat;match hx:Lib.decDigits n.toNat,d3 with
  | c :: r,_=>
   rw [hx] at d1;have:=d1 c (bY ..);unfold isD at this;refine⟨c,r,rfl,?_,?_,?_⟩<;>(rintro rfl;revert this;decide)
theorem QqM {v:Vl}(hv:Qq v):KX (Yf v)=(v,0):=by
 obtain⟨a,b⟩:=v;unfold Qq at hv;simp only at hv;rcases hv with ⟨rfl,rfl⟩|⟨rfl,h1,h2⟩|⟨rfl,rfl|rfl⟩
 ·rfl
 ·obtain⟨c,r,e,n1,n2,n3⟩:=QpH (n:=b);have et:Yf (1,b)=Lib.itoa b:=rfl;rw [et];have hn:Lib.itoa b≠JT:=by rw [e];intro h;unfold JT at h;injection h with h _;exact n1 h
  have hw:¬(Lib.itoa b=KW\/Lib.itoa b=Wr):=by
   rw [e];rintro(h|h)
   ·unfold KW at h;injection h with h _;exact n2 h
   ·unfold Wr at h;injection h with h _;exact n3 h
  unfold KX;rw [bE hn,bE hw,Qgj (by omega) (by omega)]
  simp only;rw [bJ ⟨trivial,h1,h2⟩];unfold Kd;rw [bE (by omega)]
 ·rfl
 ·rfl
theorem Qez {v:Vl}(hv:Qq v):(Yf v).length<=14:=by
 unfold Qq at hv;unfold Yf;split
 ·decide
 ·split
  ·exact QjR (by omega) (by omega)
  ·split<;>decide
abbrev RdW:=List Wds × Bool
def wdR:RdW->Wds × RdW
 | ([],_)=>([],([],true))
 | (w :: l,b)=>(w,(l,b))
def nmV (lo hi:Int)(w:Wds):Option Int:=match Lib.atoiAll w with|.ok n=>if Lib.itoa n=w/\lo<=n/\n<=hi then some n else none|_=>none
def nmR (lo hi:Int)(s:RdW):Int × RdW:=match nmV lo hi (wdR s).1 with|some n=>(n,(wdR s).2)|none=>(lo,((wdR s).2.1,true))
def vlR (s:RdW):Vl × RdW:=((KX (wdR s).1).1,((wdR s).2.1,(wdR s).2.2||decide ((KX (wdR s).1).2≠0)))
def Q1 {κ α:Type}(f:κ->RdW->α × RdW):List κ->RdW->List α × RdW
 | [],s=>([],s)
 | k :: l,s=>((f k s).1 :: (Q1 f l (f k s).2).1,(Q1 f l (f k s).2).2)
theorem W8 {κ α:Type}(f:κ->RdW->α × RdW)(k:κ):∀(l:List κ)(s:RdW),Q1 f (l++[k]) s=((Q1 f l s).1++[(f k (Q1 f l s).2).1],(f k (Q1 f l s).2).2)
 | [],s=>rfl
 | x :: l,s=>by
  rw [dA,Q1,W8 f k l (f x s).2];rfl
theorem UQ {κ α:Type}(f:κ->RdW->α × RdW):∀(l:List κ)(s:RdW),(Q1 f l s).1.length=l.length
 | [],s=>rfl
 | x :: l,s=>by rw [Q1,cH,cH,UQ f l]
abbrev AcT:=PK × List AcS × Bool
def acR (k:Int)(s:RdW):AcS × RdW:=
 let n:=nmR 0 120 s
 let m:=nmR (-1099511627776) 1099511627776 n.2
 let b:=nmR (-1000000000) 1000000000 m.2
 ((k,n.1,m.1,b.1),b.2)
def pnR (ks:List Int)(s:RdW):AcT × RdW:=
 let a:=nmR (-1000) 9999 s
 let k:=vlR a.2
 let t:=nmR 0 1 k.2
 let l:=Q1 acR ks t.2
 (((a.1,k.1),l.1,decide (t.1=1)),l.2)
def rwR (n:Nat)(s:RdW):Rw × RdW:=
 let g:=nmR 0 1 s
 let a:=nmR (-1000) 9999 g.2
 let k:=vlR a.2
 let l:=Q1 (fun _:Unit=>vlR) (List.replicate n ()) k.2
 ((decide (g.1=1),(a.1,k.1),l.1),l.2)
def rfR (s:RdW):(Int × Int) × RdW:=
 let r:=nmR 0 40 s
 let f:=nmR (-1) 9999 r.2
 ((r.1,f.1),f.2)
structure ShX where
 rd:List Nat
 far:List Int
 late:Nat
 pn:List AcT
 rows:List Rw
def hdR (s:RdW):(Int × Int × Int × Int) × RdW:=
 let k:=nmR 1 3 s
 let a:=nmR 0 1099511627776 k.2
 let m:=nmR 0 10000 a.2
 let w:=nmR 0 10000 m.2
 ((k.1,a.1,m.1,w.1),w.2)
def Qfq (ks:List Int)(parts:Nat)(ws:List Wds):Option ShX:=
 let h:=hdR (ws,false)
 if h.1.1≠parts\/h.1.2.2.1+h.1.2.2.2>h.2.1.length then none else
 let f:=Q1 (fun _:Unit=>rfR) (List.replicate parts ()) h.2
 let p:=Q1 (fun _:Unit=>pnR ks) (List.replicate h.1.2.2.1.toNat ()) f.2
 let r:=Q1 (fun _:Unit=>rwR ks.length) (List.replicate h.1.2.2.2.toNat ()) p.2
 if r.2.2=true\/r.2.1≠[] then none else some ⟨f.1.map fun x=>x.1.toNat,f.1.map (·.2),h.1.2.1.toNat,p.1,r.1⟩
theorem QnQ {lo hi n:Int}{w:Wds}(h:nmV lo hi w=some n):Lib.atoiAll w=.ok n/\Lib.itoa n=w/\lo<=n/\n<=hi:=by
 unfold nmV at h;split at h
 ·rename_i m hm;split at h
  ·cases h;exact⟨hm,by assumption⟩
  ·cases h
 ·cases h
theorem Qar {lo hi:Int}(h:lo<=hi)(s:RdW):lo<=(nmR lo hi s).1/\(nmR lo hi s).1<=hi:=by
 unfold nmR;split
 ·rename_i n hn;exact(QnQ hn).2.2
 ·exact⟨gQ _,h⟩
theorem Qgz {κ α:Type}{f:κ->RdW->α × RdW}{Q:α->Prop}(h:∀ k s,Q (f k s).1):∀(l:List κ)(s:RdW),∀ x ∈ (Q1 f l s).1,Q x
 | [],s,x,hx=>by cases hx
 | k :: l,s,x,hx=>by
  rw [Q1] at hx;rcases bS.1 hx with rfl|hx
  ·exact h k s
  ·exact Qgz h l _ x hx
def Gx (b:Bool):Wds:=if b then [49] else [48]
def acW (a:AcS):List Wds:=[Lib.itoa a.2.1,Lib.itoa a.2.2.1,Lib.itoa a.2.2.2]
def pnW (p:AcT):List Wds:=[Lib.itoa p.1.1,Yf p.1.2,Gx p.2.2]++p.2.1.flatMap acW
def rwW (w:Rw):List Wds:=[Gx w.1,Lib.itoa w.2.1.1,Yf w.2.1.2]++w.2.2.map Yf
def rfW (x:Nat × Int):List Wds:=[Lib.itoa (x.1:Nat),Lib.itoa x.2]
def hdW (st:En):List Wds:=[Lib.itoa (st.rd.length:Nat),Lib.itoa (st.late:Nat),Lib.itoa (st.pn.length:Nat),Lib.itoa (st.rows.length:Nat)]
def XL (ks:List Int)(st:En):List Wds:=hdW st++(st.rd.zip st.far).flatMap rfW++(st.pn.map (pnT ks)).flatMap pnW++st.rows.flatMap rwW
def WO (ks:List Int)(st:En):Wds:=Lib.join (XL ks st) [32]
theorem Qlo (b:Bool):(32:UInt8) ∉ Gx b:=by cases b<;>decide
theorem QoE (ks:List Int)(st:En):∀ w ∈ XL ks st,(32:UInt8) ∉ w:=by
 intro w hw;unfold XL hdW at hw;simp only [bU,fI,bS,dB,fV] at hw;rcases hw with ((hw|⟨x,_,hx⟩)|⟨x,_,hx⟩)|⟨x,_,hx⟩
 ·rcases hw with rfl|rfl|rfl|rfl<;>exact MT _
 ·unfold rfW at hx;simp only [bS,dB,fV] at hx;rcases hx with rfl|rfl<;>exact MT _
 ·unfold pnW acW at hx;simp only [bU,fI,bS,dB,fV] at hx;rcases hx with (rfl|rfl|rfl)|⟨a,_,ha⟩
  ·exact MT _
  ·exact QeV _
  ·exact Qlo _
  ·rcases ha with rfl|rfl|rfl<;>exact MT _
 ·unfold rwW at hx;simp only [bU,cZ,bS,dB,fV] at hx;rcases hx with (rfl|rfl|rfl)|⟨a,_,rfl⟩
  ·exact Qlo _
  ·exact MT _
  ·exact QeV _
  ·exact QeV _
theorem Qiw (ks:List Int)(st:En):Yx (WO ks st)=XL ks st:=Qgg (by unfold XL hdW;simp) (QoE ks st)
theorem Yn {lo hi n:Int}(h1:lo<=n)(h2:n<=hi)(h3:-1099511627776<=lo)(h4:hi<=1099511627776:=by omega)(h5:-1000000000000<=n:=by omega)(h6:n<=1000000000000:=by omega){l:List Wds}{b:Bool}:nmR lo hi (Lib.itoa n :: l,b)=(n,(l,b)):=by
 have e:nmV lo hi (Lib.itoa n)=some n:=by unfold nmV;rw [Qgj h5 h6];simp only;rw [bJ ⟨trivial,h1,h2⟩]
 unfold nmR;simp only [wdR,e]
theorem Qft {v:Vl}(hv:Qq v){l:List Wds}{b:Bool}:vlR (Yf v :: l,b)=(v,(l,b)):=by
 unfold vlR;simp only [wdR,QqM hv];simp
theorem QqB {g b:Bool}{l:List Wds}:nmR 0 1 (Gx g :: l,b)=((if g then 1 else 0),(l,b)):=by
 cases g
 ·have e:Lib.itoa 0=Gx false:=QiL (by decide) (by decide)
  rw [<-e];exact Yn (lo:=0) (hi:=1) (n:=0) (by decide) (by decide) (by decide) (by decide) (by decide) (by decide)
 ·have e:Lib.itoa 1=Gx true:=QiL (by decide) (by decide)
  rw [<-e];exact Yn (lo:=0) (hi:=1) (n:=1) (by decide) (by decide) (by decide) (by decide) (by decide) (by decide)
theorem Kh {κ α β:Type}{f:κ->RdW->α × RdW}{W:β->List Wds}{φ:β->α}{key:β->κ}{Q:β->Prop}(h:∀ x l b,Q x->f (key x) (W x++l,b)=(φ x,(l,b))):∀(xs:List β) {l:List Wds} {b:Bool},(∀ x ∈ xs,Q x)->Q1 f (xs.map key) (xs.flatMap W++l,b)=(xs.map φ,(l,b))
 | [],l,b,_=>rfl
 | x :: xs,l,b,hq=>by
  rw [dD,dI,bX,Q1,h x _ b (hq x (bY ..)),Kh h xs fun y hy=>hq y (bT _ hy)]
  rfl
def AcO (a:AcS):Prop:=0<=a.2.1/\a.2.1<=120/\-120000000000<=a.2.2.1/\a.2.2.1<=120000000000/\-1000000000<=a.2.2.2/\a.2.2.2<=1000000000
theorem QnA (a:AcS)(l:List Wds)(b:Bool)(h:AcO a):acR a.1 (acW a++l,b)=(a,(l,b)):=by
 obtain⟨h1,h2,h3,h4,h5,h6⟩:=h;unfold acR acW;simp only [dA,dE];rw [Yn h1 h2 (by decide) (by decide) (by omega) (by omega)]
 simp only;rw [Yn (by omega) (by omega) (by decide) (by decide) (by omega) (by omega)]
 simp only;rw [Yn h5 h6 (by decide) (by decide) (by omega) (by omega)]
def PnO (ks:List Int)(p:AcT):Prop:=-1000<=p.1.1/\p.1.1<=9999/\Qq p.1.2/\p.2.1.map Prod.fst=ks/\∀ a ∈ p.2.1,AcO a
theorem Qn7 {ks:List Int}(p:AcT)(l:List Wds)(b:Bool)(h:PnO ks p):pnR ks (pnW p++l,b)=(p,(l,b)):=by
 obtain⟨h1,h2,h3,h4,h5⟩:=h;obtain⟨⟨s,k⟩,acs,t⟩:=p;unfold pnR pnW;simp only [dA,dE,bX] at h1 h2 h3 h4 h5 ⊢;have e1:=fun l b=>Yn (l:=l) (b:=b) h1 h2 (by decide) (by decide) (by omega) (by omega)
 have e2:=fun l b=>Qft (l:=l) (b:=b) h3
 have e3:=fun l b=>QqB (g:=t) (l:=l) (b:=b)
 simp only [e1,e2,e3];have:=Kh (f:=acR) (W:=acW) (φ:=id) (key:=Prod.fst) (Q:=AcO) QnA acs (l:=l) (b:=b) h5;rw [h4] at this;rw [this,j8];cases t<;>rfl
def RwO (n:Nat)(w:Rw):Prop:=-1000<=w.2.1.1/\w.2.1.1<=9999/\Qq w.2.1.2/\w.2.2.length=n/\∀ v ∈ w.2.2,Qq v
theorem Qnh (vs:List Vl):vs.flatMap (fun v=>[Yf v])=vs.map Yf:=by
 induction vs with
 | nil=>rfl
 | cons x l ih=>rw [dI,ih];rfl
theorem QnF {n:Nat}(w:Rw)(l:List Wds)(b:Bool)(h:RwO n w):rwR n (rwW w++l,b)=(w,(l,b)):=by
 obtain⟨h1,h2,h3,h4,h5⟩:=h;obtain⟨g,⟨s,k⟩,vals⟩:=w;unfold rwR rwW;simp only [dA,dE,bX] at h1 h2 h3 h4 h5 ⊢;have e1:=fun l b=>Yn (l:=l) (b:=b) h1 h2 (by decide) (by decide) (by omega) (by omega)
 have e2:=fun l b=>Qft (l:=l) (b:=b) h3
 have e3:=fun l b=>QqB (g:=g) (l:=l) (b:=b)
 simp only [e1,e2,e3];have:=Kh (f:=fun _:Unit=>vlR) (W:=fun v=>[Yf v]) (φ:=id) (key:=fun _=>()) (Q:=Qq) (fun v l b hv=>Qft hv) vals (l:=l) (b:=b) h5
 rw [show vals.map (fun _=>())=List.replicate n () by rw [mK,h4],Qnh] at this
 rw [this,j8];cases g<;>rfl
theorem QnI (x:Nat × Int)(l:List Wds)(b:Bool)(h:x.1<=40/\-1<=x.2/\x.2<=9999):rfR (rfW x++l,b)=(((x.1:Int),x.2),(l,b)):=by
 obtain⟨h1,h2,h3⟩:=h;unfold rfR rfW;simp only [dA,dE];rw [Yn (by omega) (by omega) (by decide) (by decide) (by omega) (by omega)]
 simp only;rw [Yn h2 h3 (by decide) (by decide) (by omega) (by omega)]
structure ShO (ks:List Int)(parts:Nat)(st:En):Prop where
 p1:1<=parts
 p3:parts<=3
 rl:st.rd.length=parts
 fl:st.far.length=parts
 rb:∀ x ∈ st.rd,x<=40
 fb:∀ x ∈ st.far,-1<=x/\x<=9999
 la:st.late<=10000
 pl:st.pn.length<=10000
 wl:st.rows.length<=10000
 pn:∀ p ∈ st.pn,PnO ks (pnT ks p)
 rw:∀ w ∈ st.rows,RwO ks.length w
theorem QaF {α:Type}{f:α->List Wds}(h:∀ x,1<=(f x).length):∀ l:List α,l.length<=(l.flatMap f).length
 | []=>cB _
 | x :: l=>by
  have:=h x;have:=QaF h l;rw [cH,dI,bO];omega
theorem Ql1 {ks:List Int}{parts:Nat}{st:En}(H:ShO ks parts st):Qfq ks parts (XL ks st)=some ⟨st.rd,st.far,st.late,st.pn.map (pnT ks),st.rows⟩:=by
 obtain⟨p1,p3,rl,fl,rb,fb,la,pl,wl,pn,rw'⟩:=H;have e0:hdR (XL ks st,false)=((((parts:Int),(st.late:Int),(st.pn.length:Int),(st.rows.length:Int)):Int × Int × Int × Int),((st.rd.zip st.far).flatMap rfW++((st.pn.map (pnT ks)).flatMap pnW++st.rows.flatMap rwW),false)):=by
  unfold hdR XL hdW;simp only [dA,dE,bX,rl];rw [Yn (by omega) (by omega) (by decide) (by decide) (by omega) (by omega)]
  simp only;rw [Yn (by omega) (by omega) (by decide) (by decide) (by omega) (by omega)]
  simp only;rw [Yn (by omega) (by omega) (by decide) (by decide) (by omega) (by omega)]
  simp only;rw [Yn (by omega) (by omega) (by decide) (by decide) (by omega) (by omega)]
 have hz:(st.rd.zip st.far).length=parts:=by rw [kE];omega
 have e1:=Kh (f:=fun _:Unit=>rfR) (W:=rfW) (φ:=fun x:Nat × Int=>((x.1:Int),x.2)) (key:=fun _=>()) (Q:=fun x:Nat × Int=>x.1<=40/\-1<=x.2/\x.2<=9999) (fun x l b h=>QnI x l b h) (st.rd.zip st.far)
  (l:=(st.pn.map (pnT ks)).flatMap pnW++st.rows.flatMap rwW) (b:=false) (fun x hx=>⟨rb _ (mN hx).1,fb _ (mN hx).2⟩)
 rw [show (st.rd.zip st.far).map (fun _=>())=List.replicate parts () by rw [mK,hz]] at e1
 have e2:=Kh (f:=fun _:Unit=>pnR ks) (W:=pnW) (φ:=id) (key:=fun _=>()) (Q:=PnO ks) (fun x l b h=>Qn7 x l b h) (st.pn.map (pnT ks)) (l:=st.rows.flatMap rwW) (b:=false) (fun x hx=>by
  obtain⟨p,hp,rfl⟩:=cZ.1 hx;exact pn p hp)
 rw [show (st.pn.map (pnT ks)).map (fun _=>())=List.replicate st.pn.length () by rw [mK,bQ]] at e2
 have e3:=Kh (f:=fun _:Unit=>rwR ks.length) (W:=rwW) (φ:=id) (key:=fun _=>()) (Q:=RwO ks.length) (fun x l b h=>QnF x l b h) st.rows (l:=[]) (b:=false) rw'
 rw [show st.rows.map (fun _=>())=List.replicate st.rows.length () by rw [mK],dH] at e3
 have k1:st.pn.length<=((st.pn.map (pnT ks)).flatMap pnW).length:=by
  have:=QaF (f:=pnW) (fun x=>by unfold pnW;simp) (st.pn.map (pnT ks))
  rw [bQ] at this;exact this
 have k2:st.rows.length<=(st.rows.flatMap rwW).length:=QaF (f:=rwW) (fun x=>by unfold rwW;simp) st.rows
 unfold Qfq;simp only [e0];rw [bE (by
  rintro(h|h)
  ·exact h rfl
  ·rw [bO,bO] at h;omega)]
 simp only [bF,e1,e2,e3];rw [bE (by simp)]
 congr 1
 rw [j8,j8];have z1:((st.rd.zip st.far).map fun x:Nat × Int=>((x.1:Int),x.2)).map (fun x=>x.1.toNat)=st.rd:=by
  rw [fH];rw [show ((fun x:Int × Int=>x.1.toNat) ∘ fun x:Nat × Int=>((x.1:Int),x.2))=Prod.fst from by funext x;simp]
  exact List.map_fst_zip (by omega)
 have z2:((st.rd.zip st.far).map fun x:Nat × Int=>((x.1:Int),x.2)).map (·.2)=st.far:=by rw [fH];exact List.map_snd_zip (by omega)
 rw [z1,z2]
theorem QbU {s:Int}(hs:1<=s):∀(k:Nat)(lo:Int)(n:Nat)(f:Int),XN s f=true->lo<f->f<=lo+s->lo+n<f+k*s->(k=0\/f+(k-1)*s<=lo+n) ->
  upto (XN s) lo n=(List.range k).map fun i:Nat=>f+i*s
 | 0,lo,n,f,hf,h1,h2,h3,h4=>by
  have:=MR (XN s) n lo 0 fun x x1 x2=>by
   refine Uf (x:=f-s) hs ?_ (by omega) (by simp at h3;omega)
   rw [YQ] at hf ⊢;exact pB hf (kP _)
  simpa [upto] using this
 | k+1,lo,n,f,hf,h1,h2,h3,h4=>by
  have hk:0<=(k:Int)*s:=Int.mul_nonneg (by omega) (by omega)
  have e0:((k+1:Nat):Int)*s=k*s+s:=by rw [qA,Int.add_mul];simp
  have e1:(((k+1:Nat):Int)-1)*s=k*s:=by congr 1;omega
  rw [e0] at h3;rw [e1] at h4;have h5:f+k*s<=lo+n:=by omega
  have a:=MR (XN s) (f-1-lo).toNat lo ((lo+n-f).toNat+1) fun x x1 x2=>by
   refine Uf (x:=f-s) hs ?_ (by omega) (by omega)
   rw [YQ] at hf ⊢;exact pB hf (kP _)
  have e2:(f-1-lo).toNat+((lo+n-f).toNat+1)=n:=by omega
  have e3:lo+((f-1-lo).toNat:Int)=f-1:=by omega
  have e4:f-1+1=f:=by omega
  rw [e2,e3,MF,e4,hf,bJ rfl] at a;have b:=QbU hs k f (lo+n-f).toNat (f+s) (by rw [YQ] at hf ⊢;exact Int.dvd_add hf (kP _)) (by omega) (by omega) (by omega) (by
   rcases Nat.eq_zero_or_pos k with h|h
   ·exact .inl h
   ·refine .inr ?_
    rw [Int.sub_mul];omega)
  rw [a,b,List.range_succ_eq_map,dD,fH];simp only [List.singleton_append];congr 1
  ·simp
  ·refine fK fun i _=>?_
   show f+s+i*s=f+((i+1:Nat):Int)*s;rw [qA,Int.add_mul];simp;omega
theorem QiX {at_ size slide:Int}(hs:1<=slide)(h1:slide<=size):∃(k:Nat)(f:Int),Zx at_ size slide=((List.range k).map fun i:Nat=>f+i*slide) /\
  Zx (at_+slide) size slide=((List.range k).map fun i:Nat=>f+slide+i*slide)/\1<=k/\XN slide f=true/\at_-size<f/\f<=at_-size+slide/\at_<f+k*slide/\f+(k-1)*slide<=at_:=by
 have m0:0<=(at_-size).emod slide:=p7 _ (by omega)
 have m1:(at_-size).emod slide<slide:=Int.emod_lt_of_pos _ (by omega)
 have d1:slide*((at_-size) / slide)+(at_-size).emod slide=at_-size:=Int.mul_ediv_add_emod _ _;let f:=slide*((at_-size) / slide)+slide
 have hf:XN slide f=true:=YQ.2 ⟨(at_-size) / slide+1,by show slide*_+slide=_;rw [Int.mul_add];simp⟩
 have f1:at_-size<f:=by show at_-size<slide*_+slide;omega
 have f2:f<=at_-size+slide:=by show slide*_+slide<=_;omega
 have q0:0<=(at_-f).emod slide:=p7 _ (by omega)
 have q1:(at_-f).emod slide<slide:=Int.emod_lt_of_pos _ (by omega)
 have q2:slide*((at_-f) / slide)+(at_-f).emod slide=at_-f:=Int.mul_ediv_add_emod _ _;have q3:0<=(at_-f) / slide:=Int.ediv_nonneg (by omega) (by omega)
 have e0:((((at_-f) / slide).toNat+1:Nat):Int)*slide=slide*((at_-f) / slide)+slide:=by rw [qA,Int.add_mul,Int.toNat_of_nonneg q3,Int.mul_comm];simp
 have e1:(((((at_-f) / slide).toNat+1:Nat):Int)-1)*slide=slide*((at_-f) / slide):=by rw [Int.sub_mul,e0];omega
 refine⟨((at_-f) / slide).toNat+1,f,?_,?_,by omega,hf,f1,f2,?_,?_⟩
 ·exact QbU hs _ _ _ f hf f1 f2 (by rw [e0];omega) (.inr (by rw [e1];omega))
 ·exact QbU hs _ _ _ (f+slide) (by rw [YQ] at hf ⊢;exact Int.dvd_add hf (kP _)) (by omega) (by omega) (by rw [e0];omega) (.inr (by rw [e1];omega))
 ·rw [e0];omega
 ·rw [e1];omega
theorem Qc1 {q:Qy}(B:QOk q)(t:Int):(Zx t q.size q.slide).length<=4/\(Zx t q.size q.slide).Nodup:=by
 have hl:=B.l;have hr:=B.r;obtain⟨k,f,e,_,_,_,h1,_,_,h2⟩:=QiX (at_:=t) hl.1 hr.1;rw [e];refine⟨?_,?_⟩
 ·rw [bQ,pA];refine jA fun hk=>?_
  have h3:4<=(k:Int)-1:=by omega
  have h4:4*q.slide<=((k:Int)-1)*q.slide:=Int.mul_le_mul_of_nonneg_right h3 (by omega)
  omega
 ·unfold List.Nodup;rw [kI];refine List.Pairwise.imp (fun {a b} hab q1=>?_) (List.nodup_range (n:=k))
  have h5:(a:Int)*q.slide=b*q.slide:=by omega
  have h6:=Int.eq_of_mul_eq_mul_right (by omega) h5
  exact hab (by omega)
theorem QlY {q:Qy}(B:QOk q){e:EvL}(E:Yb e):Qq (Q3 q e):=by
 unfold Q3;split
 ·exact .inl ⟨rfl,rfl⟩
 ·rename_i h;obtain⟨O,_⟩:=Yq (B.b h);exact(Gs O E (by have:=O.pos;omega)).1
theorem Qli (n:Int):Qq (Kd n):=by
 unfold Kd;split
 ·exact .inl ⟨rfl,rfl⟩
 ·exact .inr (.inl ⟨rfl,by omega,by omega⟩)
theorem Qmo (k:Int)(s:Int × Int × Int):Qq (Qhc k s):=by
 unfold Qhc;split
 ·exact Qli _
 ·split
  ·exact .inl ⟨rfl,rfl⟩
  ·split<;>exact Qli _
theorem Qcb (ks:List Int)(rs:List (List Vl)):∀ v ∈ YW ks rs,Qq v:=by
 intro v hv;unfold YW at hv;obtain⟨a,_,rfl⟩:=cZ.1 hv;exact Qmo _ _
def AcM (m:Nat)(a:AcS):Prop:=0<=a.2.1/\a.2.1<=m/\-(m*1000000000:Int)<=a.2.2.1/\a.2.2.1<=m*1000000000/\-1000000000<=a.2.2.2/\a.2.2.2<=1000000000
theorem Qmp {m:Nat}{a:AcS}(h:AcM m a){v:Vl}(hv:Xd v):AcM (m+1) (a.1,Zt a.1 a.2 v):=by
 obtain⟨h1,h2,h3,h4,h5,h6⟩:=h;unfold Xd at hv;unfold AcM Zt;simp only;split
 ·refine⟨h1,by omega,by push_cast;omega,by push_cast;omega,h5,h6⟩
 ·refine⟨by simp only;omega,by simp only;omega,by simp only;push_cast;omega,by simp only;push_cast;omega,?_,?_⟩<;>(simp only;split<;>omega)
theorem Qkq {ks:List Int}{rs:List (List Vl)}(hv:∀ r ∈ rs,∀ v ∈ r,Xd v):∀ a ∈ Yl ks rs,AcM rs.length a:=by
 induction rs using Y0 with
 | h0=>
  intro a ha;have ha:a ∈ ZP ks:=ha;unfold ZP at ha;obtain⟨k,_,rfl⟩:=cZ.1 ha;exact⟨gQ _,gQ _,gQ _,gQ _,(by show (-1000000000:Int)<=0;decide),(by show (0:Int)<=1000000000;decide)⟩
 | h1 rs r ih=>
  intro a ha;rw [Kr] at ha;unfold Za at ha;obtain⟨i,hi,rfl⟩:=kJ.1 ha;rw [g7] at hi;rw [jW,bO,dV];exact Qmp (ih (fun x hx=>hv x (fF _ hx)) _ (cM _)) (hv r (by simp) _ (cM _))
structure EnT (q:Qy)(n:Nat)(st:En):Prop where
 a:∀ p ∈ st.pn,p.rs.length<=n/\Qq p.k.2
 w:∀ w ∈ st.rows,-1000<=w.2.1.1/\w.2.1.1<=9999/\Qq w.2.1.2/\∀ v ∈ w.2.2,Qq v
theorem Ql8 {ks:List Int}{k:PK}{v:List Vl}{o:Option Pn}(hk:-1000<=k.1/\k.1<=9999/\Qq k.2):∀ w ∈ Uz ks k v o,-1000<=w.2.1.1/\w.2.1.1<=9999/\Qq w.2.1.2/\∀ v ∈ w.2.2,Qq v:=by
 intro w hw;unfold Uz at hw;split at hw
 ·split at hw
  ·simp only [bS,dB,fV] at hw;rcases hw with rfl|rfl
   ·exact⟨hk.1,hk.2.1,hk.2.2,Qcb _ _⟩
   ·exact⟨hk.1,hk.2.1,hk.2.2,Qcb _ _⟩
  ·cases hw
 ·cases hw
theorem QjS {q:Qy}(B:QOk q){far:Int}{e:EvL}(E:Yb e){n:Nat}:∀(ss:List Int) {st:En},ss.Nodup->(∀ s ∈ ss,-1000<=s/\s<=9999)->EnT q (n+1) st->(∀ p ∈ st.pn,p.k.1 ∈ ss->p.rs.length<=n)->EnT q (n+1) (ss.foldl (KN q far e) st)
 | [],st,_,_,H,_=>H
 | s :: ss,st,hn,hs,H,hm=>by
  obtain⟨hn1,hn2⟩:=f8.1 hn;have hg:=QlY B E;have hs0:=hs s (bY ..);rw [fW];refine QjS B E ss hn2 (fun x hx=>hs x (bT _ hx)) ?_ ?_
  ·unfold KN;split
   ·exact⟨H.a,H.w⟩
   ·refine⟨fun p hp=>?_,fun w hw=>?_⟩
    ·rcases QbF hp with h|⟨rfl,_⟩|⟨p0,h,hk,rfl⟩
     ·exact H.a p h
     ·exact⟨by simp,hg⟩
     ·have:=hm p0 h (by rw [hk];exact bY ..)
      exact⟨by simp;omega,hg⟩
    ·rcases bU.1 hw with h|h
     ·exact H.w w h
     ·exact Ql8 ⟨hs0.1,hs0.2,hg⟩ w h
  ·intro p hp hin;unfold KN at hp;split at hp
   ·exact hm p hp (bT _ hin)
   ·rcases QbF hp with h|⟨rfl,_⟩|⟨p0,h,hk,rfl⟩
    ·exact hm p h (bT _ hin)
    ·exact absurd hin hn1
    ·exact absurd hin hn1
theorem EnT.step {q:Qy}(B:QOk q){n parts N:Nat}{st:En}(H:EnT q n st)(HB:EnB q parts N st){p:Nat}{e:EvL}(E:Yb e):EnT q (n+1) (Xv q p e st):=by
 have H1:EnT q (n+1) st:=⟨fun p hp=>⟨jU (H.a p hp).1,(H.a p hp).2⟩,H.w⟩
 have HB2:=Qfv B HB E (far:=st.far.getD p 0);have H2:EnT q (n+1) (Z7 q (st.far.getD p 0) e st):=by
  unfold Z7;split
  ·exact QjS B E _ (Qc1 B e.1).2 (Jg B E) H1 fun p hp _=>(H.a p hp).1
  ·exact H1
 unfold Xv;have HB3:∀ p' ∈ (XR p e (Z7 q (st.far.getD p 0) e st)).pn,-1000<=p'.k.1/\p'.k.1<=9999:=fun p' hp'=>⟨(HB2.pa p' hp').2.1,(HB2.pa p' hp').2.2.1⟩
 have H3:EnT q (n+1) (XR p e (Z7 q (st.far.getD p 0) e st)):=⟨H2.a,H2.w⟩;generalize XR p e (Z7 q (st.far.getD p 0) e st)=s2 at HB3 H3;unfold Jc;split
 ·refine⟨fun p' hp'=>?_,fun w hw=>?_⟩
  ·have:=(d8.1 hp').1;unfold XO at this;obtain⟨p0,h0,rfl⟩:=cZ.1 this;exact H3.a p0 h0
  ·rcases bU.1 hw with h|h
   ·exact H3.w w h
   ·obtain⟨p0,h0,rfl⟩:=cZ.1 h;have hm:=(d8.1 h0).1;exact⟨(HB3 p0 hm).1,(HB3 p0 hm).2,(H3.a p0 hm).2,Qcb _ _⟩
 ·exact H3
theorem QlT {q:Qy}(B:QOk q){parts N:Nat}{st:En}(H:EnB q parts N st){p:Nat}(hp:p<parts){e:EvL}(E:Yb e):EnB q parts (N+5) (Xv q p e st):=by
 have H2:EnB q parts (N+4) (Z7 q (st.far.getD p 0) e st):=by
  unfold Z7;split
  ·exact(Vi B E _ H (Jg B E)).mono (by have:=(Qc1 B e.1).1;omega)
  ·exact H.mono (by omega)
 exact Qla (QjT H2 hp E)
structure EnZ (q:Qy)(parts:Nat)(st:En):Prop where
 b:EnB q parts (5*st.rd.sum) st
 t:EnT q st.rd.sum st
theorem QlH:∀(l:List Nat)(p:Nat),p<l.length->(l.set p (l.getD p 0+1)).sum=l.sum+1
 | [],p,h=>absurd h (mJ _)
 | x :: l,0,_=>by simp;omega
 | x :: l,p+1,h=>by
  have:=QlH l p (by simpa using h)
  simp only [List.getD_cons_succ,d6,kU,this];omega
theorem Qe0 {q:Qy}{p:Nat}{e:EvL}{st:En}:(Xv q p e st).rd=st.rd.set p (st.rd.getD p 0+1):=by
 have hse:∀ s:En,(Jc q s).rd=s.rd:=fun s=>by unfold Jc;split<;>rfl
 unfold Xv;rw [hse];unfold XR;rw [(Vz).1]
theorem EnZ.step {q:Qy}(B:QOk q){parts:Nat}{st:En}(Z:EnZ q parts st){p:Nat}(hp:p<parts){e:EvL}(E:Yb e):EnZ q parts (Xv q p e st):=by
 have hs:(Xv q p e st).rd.sum=st.rd.sum+1:=by rw [Qe0,QlH _ _ (by rw [Z.b.rl];exact hp)]
 refine⟨?_,?_⟩
 ·rw [hs];exact QlT B Z.b hp E
 ·rw [hs];exact Z.t.step B Z.b E
theorem QpB (n:Nat):(List.replicate n (0:Nat)).sum=0:=by
 induction n with
 | zero=>rfl
 | succ n ih=>rw [fS,kU,ih]
theorem EnZ.new (q:Qy)(parts:Nat):EnZ q parts (Ja parts):=by
 have hs:(Ja parts).rd.sum=0:=QpB parts;refine⟨by rw [hs];exact Qlm q parts,by rw [hs];exact⟨fun p hp=>(by cases hp),fun w hw=>(by cases hw)⟩⟩
theorem Qak {M:Nat}:∀ l:List Nat,(∀ x ∈ l,x<=M)->l.sum<=l.length*M
 | [],_=>by simp
 | x :: l,h=>by
  have:=Qak l fun y hy=>h y (bT _ hy)
  have:=h x (bY ..);rw [kU,cH,kA];omega
theorem EnZ.sho {q:Qy}{parts:Nat}{st:En}(Z:EnZ q parts st)(h1:1<=parts)(h3:parts<=3)(hr:∀ x ∈ st.rd,x<=40):ShO (Qd q) parts st:=by
 have hs:st.rd.sum<=120:=by have:=Qak st.rd hr;rw [Z.b.rl] at this;omega
 have hl:=Z.b.ll;have hp:=Z.b.pl;have hw:=Z.b.wl;refine⟨h1,h3,Z.b.rl,Z.b.fl,hr,Z.b.fb,by omega,by omega,by omega,fun p hp'=>?_,fun w hw'=>?_⟩
 ·obtain⟨q1,q2,q3,q4⟩:=Z.b.pa p hp';obtain⟨t1,t2⟩:=Z.t.a p hp';refine⟨q2,q3,t2,YG fun r hr=>by rw [(q4 r hr).l,Qw],fun a ha=>?_⟩
  obtain⟨m1,m2,m3,m4,m5,m6⟩:=Qkq (ks:=Qd q) (rs:=p.rs) (fun r hr=>(q4 r hr).v) a ha
  exact⟨m1,by omega,by omega,by omega,m5,m6⟩
 ·obtain⟨t1,t2,t3,t4⟩:=Z.t.w w hw';exact⟨t1,t2,t3,by rw [Z.b.wo w hw',Qw],t4⟩
end Go.Proofs.YthicpjafcpfjoaaGreatDoor
namespace Go.Proofs.YthicpjafcpfjoaaGreatDoor
open Go Go.Vc
theorem QpF {q:Qy}(Q:QOk q):Qp9 q:=by
 have w:q.wh.length<=40:=by
  by_cases h:q.wh=[]
  ·rw [h];exact cE _
  ·exact(Yq (Q.w h)).2
 have b:q.by_.length<=40:=by
  by_cases h:q.by_=[]
  ·rw [h];exact cE _
  ·exact(Yq (Q.b h)).2
 refine⟨by omega,by omega,fun a ha=>?_,by have:=Q.n2;omega⟩
 by_cases h:a.1=1
 ·rw [(Q.g a ha).2.2.2 h];exact cE _
 ·have:=(Yq ((Q.g a ha).2.2.1 h)).2;omega
theorem QoP {q:Qy}(B:QOk q):Qdo q=0:=by
 have h1:=B.n1;have h2:=B.n2;have hA:Z9 (q.aggs.map VO)=0:=by
  refine GR fun x hx=>?_
  obtain⟨a,ha,rfl⟩:=cZ.1 hx;obtain⟨g1,g2,g3,g4⟩:=B.g a ha;unfold VO;rw [bE (by
   rintro(q1|q1|⟨q1,q2⟩)
   ·omega
   ·omega
   ·exact q2 (g4 q1))]
  split
  ·rfl
  ·rename_i h;exact B.ga a ha h
 unfold Qdo;rw [bE (by omega),bE (by rw [hA];simp)]
 unfold QlB;refine GR fun x hx=>?_
 simp only [bS,dB,fV] at hx;rcases hx with rfl|rfl|rfl
 ·split
  ·rfl
  ·rename_i h;exact B.wa h
 ·split
  ·rfl
  ·rename_i h;exact B.ba h
 ·have h3:=B.s;have h4:=B.l;have h5:=B.d;have h6:=B.t;have h7:=B.r;unfold VB;rw [bE (by omega),bE (by omega)]
def csE (vA v2 v3:Value)(q:Qy)(vK vR vC:Value):List Value:=[vA,v2,v3,vi q.size,vi q.slide,vi q.delay,vi q.late,vK,vR,vC,vsl none 0 0,vi 0,vsl none 0 0]
theorem QcY {α β:Type}(R:List (Xt α β))(r:Xt α β):Qv (R++[r])=Qv R++[(r.1,r.2.2)]:=by unfold Qv;rw [cJ];rfl
def QqI (a b:Ag):Prop:=b.1=a.1/\(a.1=1->b.2=[])/\(a.1≠1->Rep (fun e=>ZM e a.2) (tAt a.2 (a.2.length-1)) a.2.length b.2)
theorem QpV:ElT Pg 27 153 2 32:=.of (by kernel_rfl) (by kernel_rfl) (by decide)
abbrev owI (a:OaT)(n c:Nat)(xs:List Value):Ow:=⟨3,1,a,n,c,xs⟩
def Qql (q:Qy)(h0 h:Hp)(g parts:Nat):Prop:=
 ∃(qf:Qy)(hi:Hp)(a1:OaT)(n1 c1:Nat)(a2:OaT)(n2 c2:Nat)(a3:OaT) (n3 c3:Nat) (ak:OaT) (nk ck:Nat) (ar:OaT) (cr:Nat) (ac:OaT) (cc:Nat),
  h0.le hi/\Zw hi h [owI ac parts cc ((List.replicate parts (-1:Int)).map vi),owI ar parts cr ((List.replicate parts (0:Nat)).map fun n:Nat=>vi n),Y6 g 132 (KL a1 n1 c1 a2 n2 c2 a3 n3 c3 qf ak nk ck ar parts cr ac parts cc none 0 0 0 none 0 0)] /\
   NL q qf/\QAt hi qf a1 n1 a2 n2 a3 n3/\SlI hi ak nk (Qd q)
theorem W9.of_owns {q qf:Qy}{h0 hi h:Hp}{g:Nat}{st:En}{a1:OaT}{n1 c1:Nat}{a2:OaT}{n2 c2:Nat}{a3:OaT}{n3 c3:Nat}{ak:OaT}{nk ck:Nat}{ar:OaT}{cr:Nat}{ac:OaT}{cc:Nat}{tb:OaT}{tc:Nat}{aw:OaT}{cw:Nat}{R:List PR}{RW:List (Xt Vl (Bool × PK))}(l0:h0.le hi)
  (O:Zw hi h [owI ac st.far.length cc (st.far.map vi),owI ar st.rd.length cr (st.rd.map fun n:Nat=>vi n),Y6 g 132 (KL a1 n1 c1 a2 n2 c2 a3 n3 c3 qf ak nk ck ar st.rd.length cr ac st.far.length cc tb R.length tc st.late aw RW.length cw),⟨150,5,tb,R.length,tc,R.flatMap Ql⟩,⟨95,5,aw,RW.length,cw,RW.flatMap (QV Zj)⟩])
  (F:NL q qf) (Q:QAt hi qf a1 n1 a2 n2 a3 n3) (K:SlI hi ak nk (Qd q)) (hR:∀ r ∈ R,Qe hi r.a (r.acs.flatMap Yp)) (hW:∀ r ∈ RW,Qe hi r.2.1.1 (r.2.2.flatMap Qu)) (eR:R.map prT=st.pn.map (pnT (Qd q))) (eW:Qv RW=st.rows.map YF):W9 q h0 h g st:=by
 obtain⟨hj,lj,Oj,kj⟩:=O.rebase (L':=[owI ar st.rd.length cr (st.rd.map fun n:Nat=>vi n),Y6 g 132 (KL a1 n1 c1 a2 n2 c2 a3 n3 c3 qf ak nk ck ar st.rd.length cr ac st.far.length cc tb R.length tc st.late aw RW.length cw),⟨95,5,aw,RW.length,cw,RW.flatMap (QV Zj)⟩]) (by
  refine List.Sublist.cons _ (List.Sublist.cons_cons _ (List.Sublist.cons_cons _ (List.Sublist.cons _ ?_)))
  exact jH _)
 have keepR:∀(s:Ow)(k:Nat),(k=0\/k=3)->[owI ac st.far.length cc (st.far.map vi),owI ar st.rd.length cr (st.rd.map fun n:Nat=>vi n),Y6 g 132 (KL a1 n1 c1 a2 n2 c2 a3 n3 c3 qf ak nk ck ar st.rd.length cr ac st.far.length cc tb R.length tc st.late aw RW.length cw),⟨150,5,tb,R.length,tc,R.flatMap Ql⟩,⟨95,5,aw,RW.length,cw,RW.flatMap (QV Zj)⟩][k]?=some s->Qe hj s.a s.xs:=by
  intro s k hk hs;have hrow:=(O.ownV (cF hs)).row;refine Qe.over hrow fun b o ob hb ho=>kj b ob ho fun t ht q1=>?_
  have hb0:o=0:=(O.own s (cF hs)).at0 b o hb;subst hb0;simp only [bS,dB,fV] at ht;rcases ht with rfl|rfl|rfl
  ·exact O.apart hs (j:=1) rfl (by omega) hb q1
  ·exact O.apart hs (j:=2) rfl (by omega) hb q1
  ·exact O.apart hs (j:=4) rfl (by omega) hb q1
 have hcl:SlI hj ac st.far.length st.far:=⟨rfl,keepR _ 0 (.inl rfl) rfl⟩;have hT:SlP Ql hj tb R.length R:=⟨rfl,keepR _ 3 (.inr rfl) rfl⟩;refine⟨qf,hj,a1,n1,c1,a2,n2,c2,a3,n3,c3,ak,nk,ck,ar,cr,ac,st.far.length,cc,tb,tc,aw,cw,R,RW,qP l0 lj,⟨Oj.blk (bT _ (bY ..)),Oj.new _ (bT _ (bY ..)) g rfl,Oj.ownV (s:=owI ar st.rd.length cr (st.rd.map fun n:Nat=>vi n)) (bY ..),Oj.ownV (s:=⟨95,5,aw,RW.length,cw,RW.flatMap (QV Zj)⟩) (by simp),fun q1=>?_,fun q1=>?_,fun b hb q1=>?_⟩,
  ⟨F,Q.le lj,K.le lj,hcl,⟨hT,fun r hr=>(hR r hr).le lj⟩,eR,eW,fun r hr=>(hW r hr).le lj⟩⟩
 ·exact Oj.apart (i:=0) (j:=1) rfl rfl (by decide) (b:=g) q1 rfl
 ·exact Oj.apart (i:=2) (j:=1) rfl rfl (by decide) (b:=g) q1 rfl
 ·exact Oj.apart (i:=0) (j:=2) rfl rfl (by decide) (b:=b) hb q1
set_option maxHeartbeats 1000000 in
theorem Mv {q:Qy}{a1:OaT}{n1 c1:Nat}{a2:OaT}{n2 c2:Nat}{a3:OaT}{n3 c3:Nat}{h:Hp}{p:Int}{R':RtT}(Q:QAt h q a1 n1 a2 n2 a3 n3)(B:QOk q)
  (hbad:¬(1<=p/\p<=3)->∀ h',h.le h'->R' (Qf [vp none,ifv (some (119,vi 1))]) h')
  (hK:1<=p->p<=3->∀ g h',h.le h'->Qql q h h' g p.toNat->R' (Qf [vhp g 0,ifv none]) h'):Qa Pg 59 [qV a1 n1 c1 a2 n2 c2 a3 n3 c3 q,vi p] h R':=by
 refine Qf1 ?_
 have hn1:=Q.g.len;have hn4:=B.n2;refine G5 Q (QpF B) fun h2 l2=>⟨_,rfl,?_⟩
 rw [QR,cL (QoP B)];refine⟨fun e=>(by cases e),fun _=>?_⟩
 refine Qg0 (fun hp=>⟨_,_,_,_,rfl,fun _=>hbad hp h2 l2,fun e=>(by cases e)⟩) fun hp1 hp3 a7 n7 c7 h6 O6=>⟨_,_,_,_,rfl,fun e=>(by cases e),fun _=>?_⟩
 have l6:=qP l2 O6.le;obtain⟨parts,rfl⟩:∃ n:Nat,p=(n:Int):=⟨p.toNat,by omega⟩
 rw [bF] at O6 hK;refine Gi QeT (z:=[vi 0]) (by kernel_rfl) (n:=parts) (by omega) (by omega) fun b10 hb10=>⟨_,_,_,rfl,?_⟩
 have erep:(List.replicate parts [vi 0]).flatten=(List.replicate parts (0:Nat)).map fun n:Nat=>vi n:=by
  clear hK hbad O6 hp1 hp3;induction parts with
  | zero=>rfl
  | succ n ih=>rw [fS,kZ,ih,fS,dD];rfl
 rw [erep];have hrl:((List.replicate parts (0:Nat)).map fun n:Nat=>vi n).length=parts*1:=by rw [bQ,dQ,fZ]
 have l11:h6.le (h6.set b10 (Qb ((List.replicate parts (0:Nat)).map fun n:Nat=>vi n) 3)):=qQ (qO _) hb10 _
 have hn7:parts=n7:=by rw [(O6.sli:SlI h6 a7 n7 (List.replicate parts (-1:Int))).1,dQ]
 subst hn7;have OC:=(Zw.nil (qO h2)).push O6.le (s:=owI a7 parts c7 ((List.replicate parts (-1:Int)).map vi)) O6.own (fun b hb=>O6.new b hb)
 have OR:=OC.push l11 (s:=⟨3,1,some ⟨b10,0,none⟩,parts,parts,(List.replicate parts (0:Nat)).map fun n:Nat=>vi n⟩) (QT.new h6 b10 3 _ hrl (by simp only [maxLen];omega)) (fun b hb=>by cases hb;exact hb10)
 generalize h6.set b10 (Qb ((List.replicate parts (0:Nat)).map fun n:Nat=>vi n) 3)=h11 at l11 OR
 intro b13 hb13 h14;have l14:h11.le h14:=qQ (qO _) hb13 _;have OB:=OR.push l14 (s:=Y6 b13 132 (csE (vsl a1 n1 c1) (vsl a2 n2 c2) (vsl a3 n3 c3) q (vsl none 0 0) (vsl (some ⟨b10,0,none⟩) parts parts) (vsl a7 parts c7))) (QiT (qK _ _ _)) (fun b hb=>by cases hb;exact hb13)
 clear_value h14;have OA:=OB.push (qO h14) (s:=⟨153,2,none,0,0,[]⟩) (qX _ _ _) (fun b hb=>by cases hb)
 have OK:=OA.push (qO h14) (s:=⟨3,1,none,0,0,[]⟩) (qX _ _ _) (fun b hb=>by cases hb)
 simp only [dE,dA] at OK;refine OK.put (j:=2) rfl (i:=0) (bP rfl) fun h15 O15 _=>?_
 have Q6:=Q.le l2;generalize hcs:owI a7 parts c7 ((List.replicate parts (-1:Int)).map vi)=clS at O15;generalize hrd:(⟨3,1,some ⟨b10,0,none⟩,parts,parts,(List.replicate parts (0:Nat)).map fun n:Nat=>vi n⟩:Ow)=rdS at O15
 refine⟨fun vs hh=>∃(i:Nat)(hi:Hp)(aA:OaT)(cA:Nat)(RA:List (Xt Nd Int))(aK:OaT)(cK:Nat),vs=[vi i]/\i<=q.aggs.length/\h2.le hi/\RA.length=i /\
   Zw hi hh [clS,rdS,Y6 b13 132 (csE (vsl aA i cA) (vsl a2 n2 c2) (vsl a3 n3 c3) q (vsl aK i cK) (vsl (some ⟨b10,0,none⟩) parts parts) (vsl a7 parts c7)),⟨153,2,aA,i,cA,RA.flatMap (QV Qbz)⟩,⟨3,1,aK,i,cK,((Qd q).take i).map vi⟩] /\
   (∀ r ∈ RA,Qe hi r.2.1.1 (r.2.2.flatMap Z6))/\∀(j:Nat)(a b:Ag),q.aggs[j]?=some a->(Qv RA)[j]?=some b->QqI a b,
  fun vs hh=>q.aggs.length-(Qo vs 0).toNat,⟨0,h2,none,0,[],none,0,rfl,cE _,qO h2,rfl,O15,fun r hr=>(by cases hr),fun j a b _ hb=>by simp [Qv] at hb⟩,?_⟩
 rintro vs hh ⟨i,hi,aA,cA,RA,aK,cK,rfl,hi',lhi,hRl,O,hin,hag⟩;refine⟨i,rfl,fun e1=>?_,fun e1=>?_⟩
 ·have hlt:i<q.aggs.length:=by have:=bC e1;omega
  have hx:q.aggs[i]?=some q.aggs[i]:=bD hlt
  have hg:=B.g _ (cM hlt);have hkt:(Qd q).take (i+1)=(Qd q).take i++[(q.aggs[i]).1]:=by
   rw [bL (by rw [Qw];exact hlt)]
   congr 2
   unfold Qd;rw [jF]
  generalize q.aggs[i]=ag at *
  obtain⟨b,o,a',c',ha,hrow,hS⟩:=((Q6.le lhi).g).row Ji (by decide) hx
  refine⟨b,o,⟨ha,by omega,by omega⟩,ag.1,a',ag.2.length,c',by rw [bF];exact Hp.row_le O.le hrow,?_⟩
  intro J33;have hJ:∀(a38:OaT)(n38 c38:Nat)(hk h39:Hp)(z:List Nd),hi.le hk->Zw hk h39 [clS,rdS,Y6 b13 132 (csE (vsl aA i cA) (vsl a2 n2 c2) (vsl a3 n3 c3) q (vsl aK i cK) (vsl (some ⟨b10,0,none⟩) parts parts) (vsl a7 parts c7)),⟨153,2,aA,i,cA,RA.flatMap (QV Qbz)⟩,⟨3,1,aK,i,cK,((Qd q).take i).map vi⟩]->n38=z.length->Qe hk a38 (z.flatMap Z6)->QqI ag (ag.1,z)->J33 a38 n38 c38 h39:=by
   intro a38 n38 c38 hk h39 z lk Ok hn38 hz hA;refine⟨_,_,_,Qc (Ok.blk (bT _ (bT _ (bY ..)))) rfl,?_⟩
   intro b41 hb41 h42;refine Ok.app (j:=3) rfl QpV (tn:=153) (m:=1) (news:=[vi ag.1,vsl a38 n38 c38]) hb41 rfl (by intro u hu;simp at hu;rcases hu with rfl|rfl<;>rfl) (by simp only;omega) (by simp only;omega) fun aA' cA' h44 O44 _=>⟨_,_,_,rfl,?_⟩
   simp only [d6,dJ] at O44;refine O44.put (j:=2) rfl (i:=0) (bP rfl) fun h46 O46 _=>?_
   simp only [d6,dJ,csE] at O46;refine⟨_,_,_,Qc (O46.blk (bT _ (bT _ (bY ..)))) rfl,?_⟩
   intro b48 hb48 h49;refine O46.app (j:=4) rfl QeT (tn:=3) (m:=1) (news:=[vi ag.1]) hb48 rfl (by intro u hu;simp at hu;rcases hu with rfl;rfl) (by simp only;omega) (by simp only;omega) fun aK' cK' h51 O51 _=>⟨_,_,_,rfl,?_⟩
   simp only [d6,dJ] at O51;refine O51.put (j:=2) rfl (i:=7) (bP rfl) fun h53 O53 _=>?_
   simp only [d6,dJ] at O53;refine⟨_,iW,⟨i+1,hk,aA',cA',RA++[(ag.1,(a38,c38),z)],aK',cK',by simp,by omega,qP lhi lk,by simp [hRl],?_,?_,?_⟩,by simp [Qo];omega⟩
   ·rw [hkt,cJ,cP];have e3:([(ag.1,(a38,c38),z)]:List (Xt Nd Int)).flatMap (QV Qbz)=[vi ag.1,vsl a38 n38 c38]:=by rw [hn38];rfl
    rw [e3];exact O53
   ·intro r hr;rcases bU.1 hr with q1|q1
    ·exact(hin r q1).le lk
    ·rw [cD.1 q1];exact hz
   ·intro j a b h1 h2;have hgl:(Qv RA).length=i:=by simp [Qv,hRl]
    rw [QcY] at h2;rcases kM j i with q1|q1
    ·rw [dO (by omega)] at h2
     exact hag j a b h1 h2
    ·rw [dP (by omega)] at h2
     have hj:j=i:=by
      have:=(bG.1 h2).1
      simp at this;omega
     subst hj;rw [hgl,fT] at h2;cases h2;rw [hx] at h1;cases h1;exact hA
  clear_value J33;refine⟨fun e2=>?_,fun e2=>?_⟩
  ·have hne:ag.1≠1:=bC e2;obtain⟨OE,hlen⟩:=Yq (hg.2.2.1 hne);refine O.frame (Vo hS OE (by omega) fun az nz cz hk z lk NSz Rp h29 l29 O29=>⟨_,_,_,rfl,?_⟩)
   exact hJ az nz cz hk h29 z lk O29 NSz.s.1 NSz.s.2 ⟨rfl,fun q1=>absurd q1 hne,fun _=>Rp⟩
  ·have he:ag.1=1:=gA.1 (bB e2);have hz:=hg.2.2.2 he;refine hJ a' ag.2.length c' hi hh [] (qO hi) O (by rw [hz]) (.inl rfl) ⟨rfl,fun _=>rfl,fun q1=>absurd he q1⟩
 ·have hge:i=q.aggs.length:=by have:=bB e1;omega
  subst hge;rw [cY (by rw [Qw];exact cB _)] at O
  obtain⟨hj,lj,Oj,kj⟩:=O.rebase (L':=[clS,rdS,Y6 b13 132 (csE (vsl aA q.aggs.length cA) (vsl a2 n2 c2) (vsl a3 n3 c3) q (vsl aK q.aggs.length cK) (vsl (some ⟨b10,0,none⟩) parts parts) (vsl a7 parts c7))]) (by simp)
  have keepR:∀(s:Ow)(k:Nat),(k=3\/k=4)->[clS,rdS,Y6 b13 132 (csE (vsl aA q.aggs.length cA) (vsl a2 n2 c2) (vsl a3 n3 c3) q (vsl aK q.aggs.length cK) (vsl (some ⟨b10,0,none⟩) parts parts) (vsl a7 parts c7)),⟨153,2,aA,q.aggs.length,cA,RA.flatMap (QV Qbz)⟩,⟨3,1,aK,q.aggs.length,cK,(Qd q).map vi⟩][k]?=some s->Qe hj s.a s.xs:=by
   intro s k hk hs;have hrow:=(O.ownV (cF hs)).row;refine Qe.over hrow fun b o ob hb ho=>kj b ob ho fun t ht q1=>?_
   have hb0:o=0:=(O.own s (cF hs)).at0 b o hb;subst hb0;simp only [bS,dB,fV] at ht;rcases ht with rfl|rfl|rfl
   ·exact O.apart hs (j:=0) rfl (by omega) hb q1
   ·exact O.apart hs (j:=1) rfl (by omega) hb q1
   ·exact O.apart hs (j:=2) rfl (by omega) hb q1
  have hgA:Ke Z6 Qbz hj aA q.aggs.length (Qv RA):=⟨RA,rfl,by simp [Qv,hRl],keepR _ 3 (.inl rfl) rfl,fun r hr=>(hin r hr).le lj⟩
  have hkK:SlI hj aK q.aggs.length (Qd q):=⟨by rw [Qw],keepR _ 4 (.inr rfl) rfl⟩
  have Qj:=Q6.le (qP lhi lj);have l0j:h.le hj:=qP l2 (qP lhi lj);have hgl:(Qv RA).length=q.aggs.length:=by simp [Qv,hRl]
  clear O keepR hin kj;have fin:∀(hk h':Hp)(w2:OaT)(m2 d2:Nat)(w3:OaT)(m3 d3:Nat)(wh by_:List Nd),hj.le hk->Zw hk h' [clS,rdS,Y6 b13 132 (csE (vsl aA q.aggs.length cA) (vsl w2 m2 d2) (vsl w3 m3 d3) q (vsl aK q.aggs.length cK) (vsl (some ⟨b10,0,none⟩) parts parts) (vsl a7 parts c7))]->SlP Z6 hk w2 m2 wh->SlP Z6 hk w3 m3 by_->NL q { q with aggs:=Qv RA,wh:=wh,by_:=by_ }->R' (Qf [vhp b13 0,ifv none]) h':=by
   intro hk h' w2 m2 d2 w3 m3 d3 wh by_ lk Ok S2 S3 F;rw [<-hrd,<-hcs] at Ok;exact hK hp1 hp3 b13 h' (qP l0j (qP lk Ok.le)) ⟨{ q with aggs:=Qv RA,wh:=wh,by_:=by_ },hk,aA,q.aggs.length,cA,w2,m2,d2,w3,m3,d3,aK,q.aggs.length,cK,some ⟨b10,0,none⟩,parts,a7,c7,qP l0j lk,Ok,F,⟨hgA.le lk,S2,S3⟩,hkK.le lk⟩
  have F0:∀ wh by_,(q.wh=[]->wh=[])->(q.wh≠[]->Rep (fun e=>ZM e q.wh) (tAt q.wh (q.wh.length-1)) q.wh.length wh)->(q.by_=[]->by_=[])->(q.by_≠[]->Rep (fun e=>ZM e q.by_) (tAt q.by_ (q.by_.length-1)) q.by_.length by_)->NL q { q with aggs:=Qv RA,wh:=wh,by_:=by_ }:=
   fun wh by_ f1 f2 f3 f4=>⟨rfl,rfl,rfl,rfl,hgl,hag,f1,f2,f3,f4⟩
  intro J62;have hJ62:∀(hk h':Hp)(w2:OaT)(m2 d2:Nat)(wh:List Nd),hj.le hk->Zw hk h' [clS,rdS,Y6 b13 132 (csE (vsl aA q.aggs.length cA) (vsl w2 m2 d2) (vsl a3 n3 c3) q (vsl aK q.aggs.length cK) (vsl (some ⟨b10,0,none⟩) parts parts) (vsl a7 parts c7))]->SlP Z6 hk w2 m2 wh->(q.wh=[]->wh=[])->(q.wh≠[]->Rep (fun e=>ZM e q.wh) (tAt q.wh (q.wh.length-1)) q.wh.length wh)->J62 h':=by
   intro hk h' w2 m2 d2 wh lk Ok S2 f1 f2;have hJ70:∀(hl h'':Hp)(w3:OaT)(m3 d3:Nat)(by_:List Nd),hk.le hl->Zw hl h'' [clS,rdS,Y6 b13 132 (csE (vsl aA q.aggs.length cA) (vsl w2 m2 d2) (vsl w3 m3 d3) q (vsl aK q.aggs.length cK) (vsl (some ⟨b10,0,none⟩) parts parts) (vsl a7 parts c7))]->SlP Z6 hl w3 m3 by_->(q.by_=[]->by_=[])->(q.by_≠[]->Rep (fun e=>ZM e q.by_) (tAt q.by_ (q.by_.length-1)) q.by_.length by_)->R' (Qf [vhp b13 0,ifv none]) h'':=
    fun hl h'' w3 m3 d3 by_ ll Ol S3 f3 f4=>fin hl h'' w2 m2 d2 w3 m3 d3 wh by_ (qP lk ll) Ol (S2.le ll) S3 (F0 wh by_ f1 f2 f3 f4)
   refine⟨fun e2=>?_,fun e2=>?_⟩
   ·have hne:q.by_≠[]:=by intro q1;have:=bC e2;rw [Q.b.1,q1] at this;simp at this
    obtain⟨OE,hlen⟩:=Yq (B.b hne);refine Ok.frame (Vo (Qj.b.le lk) OE (by omega) fun az nz cz hl z ll NSz Rp h65 l65 O65=>⟨_,_,_,rfl,?_⟩)
    refine O65.put (j:=2) rfl (i:=2) (bP rfl) fun h67 O67 _=>?_
    exact hJ70 hl h67 az nz cz z ll O67 NSz.s (fun q1=>absurd q1 hne) (fun _=>Rp)
   ·have he:q.by_=[]:=by have:=bB e2;rw [Q.b.1] at this;exact fU.1 (by omega)
    exact hJ70 hk h' a3 n3 c3 q.by_ (qO hk) Ok (Qj.b.le lk) (fun q1=>q1) (fun q1=>absurd he q1)
  clear_value J62;refine⟨fun e2=>?_,fun e2=>?_⟩
  ·have hne:q.wh≠[]:=by intro q1;have:=bC e2;rw [Q.w.1,q1] at this;simp at this
   obtain⟨OE,hlen⟩:=Yq (B.w hne);refine Oj.frame (Vo Qj.w OE (by omega) fun az nz cz hl z ll NSz Rp h57 l57 O57=>⟨_,_,_,rfl,?_⟩)
   refine O57.put (j:=2) rfl (i:=1) (bP rfl) fun h59 O59 _=>?_
   exact hJ62 hl h59 az nz cz z ll O59 NSz.s (fun q1=>absurd q1 hne) (fun _=>Rp)
  ·have he:q.wh=[]:=by have:=bB e2;rw [Q.w.1] at this;exact fU.1 (by omega)
   exact hJ62 hj hh a2 n2 c2 q.wh (qO hj) Oj Qj.w (fun q1=>q1) (fun q1=>absurd he q1)
theorem Qql.engX {q:Qy}{h0 h:Hp}{g parts:Nat}(X:Qql q h0 h g parts):W9 q h0 h g (Ja parts):=by
 obtain⟨qf,hi,a1,n1,c1,a2,n2,c2,a3,n3,c3,ak,nk,ck,ar,cr,ac,cc,l0,O,F,Q,K⟩:=X;have O1:=O.push (qO h) (s:=⟨150,5,none,0,0,[]⟩) (qX _ _ _) (fun b hb=>by cases hb)
 have O2:=O1.push (qO h) (s:=⟨95,5,none,0,0,[]⟩) (qX _ _ _) (fun b hb=>by cases hb)
 simp only [dA,dE] at O2;refine W9.of_owns (R:=[]) (RW:=[]) (tc:=0) (cw:=0) (tb:=none) (aw:=none) (c1:=c1) (c2:=c2) (c3:=c3) (ck:=ck) (ar:=ar) (cr:=cr) (ac:=ac) (cc:=cc) l0 ?_ F Q K (fun r hr=>by cases hr) (fun r hr=>by cases hr) rfl rfl
 simp only [Ja,dQ];exact O2
theorem NH {q:Qy}{a1:OaT}{n1 c1:Nat}{a2:OaT}{n2 c2:Nat}{a3:OaT}{n3 c3:Nat}{h:Hp}{p:Int}{R':RtT}(Q:QAt h q a1 n1 a2 n2 a3 n3)(B:QOk q)
  (hbad:¬(1<=p/\p<=3)->∀ h',h.le h'->R' (Qf [vp none,ifv (some (119,vi 1))]) h')
  (hK:1<=p->p<=3->∀ g h',h.le h'->W9 q h h' g (Ja p.toNat)->R' (Qf [vhp g 0,ifv none]) h'):Qa Pg 59 [qV a1 n1 c1 a2 n2 c2 a3 n3 c3 q,vi p] h R':=
 Mv Q B hbad fun h1 h3 g h' l X=>hK h1 h3 g h' l X.engX
open Go.RowKit Go.Txt
def RdO (hi h:Hp)(g:Nat)(L:List Ow)(s:RdW):Prop:=∃(a:OaT)(n c:Nat),Zw hi h (Y6 g 219 [vsl a n c,vb s.2] :: L)/\SlB hi a n s.1/\n<=c/\∀ w ∈ s.1,w.length<=1000000
theorem RdO.le {hi h:Hp}{g:Nat}{L:List Ow}{s:RdW}(X:RdO hi h g L s):hi.le h:=by
 obtain⟨a,n,c,O,_⟩:=X;exact O.le
section
variable {hi h:Hp}{g:Nat}{L:List Ow}{s:RdW}{R:RtT}
theorem Qel (X:RdO hi h g L s)(hK:∀ h',RdO hi h' g L (wdR s).2->(wdR s).1.length<=1000000->R (vs (bs (wdR s).1)) h'):Qa Pg 184 [vhp g 0] h R:=by
 refine Ni ?_
 obtain⟨a,n,c,O,S,hc,hw⟩:=X;obtain⟨ws,b⟩:=s;have hb:=O.blk (bY ..);have hn:=S.1;simp only at hn hw S;refine⟨_,_,_,Qc hb rfl,fun e=>?_,fun e=>?_⟩
 ·have h0:n=0:=by have:=bC e;omega
  have hws:ws=[]:=dR (by omega)
  subst hws;refine O.put (j:=0) rfl (i:=1) (bP rfl) fun h' O' _=>?_
  simp only [dJ,d6] at O';exact hK h' ⟨a,n,c,O',S,hc,hw⟩ (cE _)
 ·have h0:0<n:=by have:=bB e;omega
  match ws,S,hn,hw with
  | [],_,hn,_=>simp at hn;omega
  | w :: ws,S,hn,hw=>
   obtain⟨b5,o6,ea,hcell⟩:=(S.le O.le).get1 (i:=0) (by omega)
   have hT:Pg.underlying 162=some (.slice 9):=by kernel_rfl
   have hI:(Pg.info? 9).isSome=true:=by kernel_rfl
   have hsz:szT Pg 9=1:=by kernel_rfl
   have rdl:=YD (P:=Pg) (h:=h) (t:=162) (e:=9) hT hI (a:=a) (n:=n) (c:=c) (x:=((1:Nat):Int)) (by omega) (by omega)
   simp only [bF,hsz] at rdl;refine⟨_,_,_,Qc hb rfl,b5,o6,⟨ea,by omega,by omega⟩,_,hcell,_,_,_,Qc hb rfl,_,_,_,rdl,?_⟩
   have S2:=S.drop Z4 (i:=1) (by omega) hc
   rw [show (w :: ws).drop 1=ws from rfl] at S2
   refine O.put (j:=0) rfl (i:=0) (bP rfl) fun h' O' _=>?_
   simp only [dJ] at O';exact hK h' ⟨_,_,_,O',S2,by omega,fun x hx=>hw x (bT _ hx)⟩ (hw w (bY ..))
theorem Q7 {lo hi':Int}(X:RdO hi h g L s)(T:Uk hi)(E:MD hi)(hK:∀ h',RdO hi h' g L (nmR lo hi' s).2->R (vi (nmR lo hi' s).1) h'):Qa Pg 128 [vhp g 0,vi lo,vi hi'] h R:=by
 refine VN ?_
 refine Qel X fun h2 X2 hl=>⟨_,rfl,?_⟩
 have bad:∀ h',RdO hi h' g L (wdR s).2->nmV lo hi' (wdR s).1=none->(Hp.store h' g (0+1) [vb true] fun h15=>R (vi lo) h15):=by
  intro h' X' e;obtain⟨a,n,c,O,S,hc,hw⟩:=X';refine O.put (j:=0) rfl (i:=1) (bP rfl) fun h15 O15 _=>?_
  simp only [dJ,d6] at O15;have e1:nmR lo hi' s=(lo,((wdR s).2.1,true)):=by unfold nmR;rw [e]
  rw [e1] at hK;exact hK h15 ⟨a,n,c,O15,S,hc,hw⟩
 refine strconv_Atoi_ok hl (E.le X2.le) (fun n hn=>⟨n,none,rfl,?_⟩) fun hno x e=>⟨x,some e,rfl,?_⟩
 ·have hb:=Lib.atoiAll_bounds hn;refine⟨fun v hh=>hh=h2/\v=.t (.one (.v (vs (bs (Lib.itoa n))))),fun _=>XW (by unfold InR;omega) (T.le X2.le) ⟨_,rfl,rfl,rfl⟩,fun e=>absurd rfl e,?_⟩
  rintro h12 s13 ⟨rfl,e13⟩;cases e13;refine⟨_,fun _=>Uc (a:=Lib.itoa n) (b:=(wdR s).1),fun e=>bad _ X2 ?_,fun e=>?_⟩
  ·unfold nmV;rw [hn];simp only;rw [bE];rintro⟨k1,k2,k3⟩;rw [cL k1,cO (show ¬ n<lo by omega),cO (show ¬ n>hi' by omega)] at e
   cases e
  ·obtain⟨e,g3⟩:=YP e;obtain⟨e,g2⟩:=YP e;obtain⟨_,e⟩:=YP e;have g3:=bB g3;have g2:=bB g2;have g1:Lib.itoa n=(wdR s).1:=by simpa using e
   have e1:nmR lo hi' s=(n,(wdR s).2):=by unfold nmR nmV;rw [hn];simp only;rw [bJ ⟨g1,by omega,by omega⟩]
   rw [e1] at hK;exact hK _ X2
 ·refine⟨fun v hh=>hh=h2/\∃ y,v=.t (.one (.v (vs y))),fun e=>(by cases e),fun _=>⟨rfl,_,rfl⟩,?_⟩
  rintro h12 s13 ⟨rfl,y,e13⟩;refine⟨false,fun e=>(by cases e),fun _=>bad _ X2 ?_,fun e=>(by cases e)⟩
  unfold nmV;split
  ·rename_i n hn;exact absurd hn (hno n)
  ·rfl
theorem Mc (X:RdO hi h g L s)(T:Uk hi)(E:MD hi)(hK:∀ h',RdO hi h' g L (vlR s).2->R (vag (Qu (vlR s).1)) h'):Qa Pg 185 [vhp g 0] h R:=by
 refine GY ?_
 refine Qel X fun h2 X2 hl=>⟨_,rfl,?_⟩
 refine Gw hl (T.le X2.le) (E.le X2.le) ⟨_,_,_,rfl,?_⟩
 obtain⟨a,n,c,O,S,hc,hw⟩:=X2;refine⟨_,Qc (O.blk (bY ..)) rfl,?_⟩
 refine O.put (j:=0) rfl (i:=1) (bP rfl) fun h15 O15 _=>?_
 simp only [dJ,d6] at O15;refine hK h15 ⟨a,n,c,?_,S,hc,hw⟩
 have e:(bif (wdR s).2.2 then true else Option.isSome (QA (KX (wdR s).1).2))=((wdR s).2.2||decide ((KX (wdR s).1).2≠0)):=by rw [QR];cases (wdR s).2.2<;>simp
 rw [e] at O15;exact O15
end
abbrev owA (a:OaT)(n c:Nat)(l:List AcS):Ow:=⟨155,4,a,n,c,l.flatMap Yp⟩
abbrev QqH (a:OaT)(n c:Nat)(l:List Vl):Ow:=⟨54,2,a,n,c,l.flatMap Qu⟩
theorem RdO.ins {hi h:Hp}{g:Nat}{L:List Ow}{s:RdW}(X:RdO hi h g L s){o:Ow}(O':o.own h)(hn:∀ b,o.at b->h b=none):RdO hi h g (o :: L) s:=by
 obtain⟨a,n,c,O,S,hc,hw⟩:=X;exact⟨a,n,c,O.ins (qO h) O' hn,S,hc,hw⟩
theorem Ql0 (x:Vl):∀ u ∈ Qu x,u.oneCell'=true:=by
 intro u hu;simp only [Qu,bS,dB,fV] at hu;rcases hu with rfl|rfl<;>rfl
section
variable {hi h:Hp}{g:Nat}{L:List Ow}{s:RdW}{R:RtT}{q:Qy}{a1:OaT}{n1 c1:Nat}{a2:OaT}{n2 c2:Nat}{a3:OaT}{n3 c3:Nat}
set_option maxHeartbeats 1000000 in
theorem Qkx (X:RdO hi h g L s)(Q:QAt hi q a1 n1 a2 n2 a3 n3)(B:QOk q)(T:Uk hi)(E:MD hi)
  (hK:∀ a' c' hj h',hi.le hj->RdO hj h' g L (pnR (Qd q) s).2->Qe hj a' ((pnR (Qd q) s).1.2.1.flatMap Yp)->R (vag [vi (pnR (Qd q) s).1.1.1,vi (pnR (Qd q) s).1.1.2.1,vi (pnR (Qd q) s).1.1.2.2,vsl a' (pnR (Qd q) s).1.2.1.length c',vb (pnR (Qd q) s).1.2.2]) h') :
  Qa Pg 129 [vhp g 0,qV a1 n1 c1 a2 n2 c2 a3 n3 c3 q] h R:=by
 refine Na ?_
 have hn1:=Q.g.len;have hn4:=B.n2;refine Q7 X T E fun h2 X2=>⟨_,rfl,?_⟩
 refine Mc X2 T E fun h5 X5=>⟨_,_,rfl,?_⟩
 refine Q7 X5 T E fun h9 X9=>⟨_,rfl,?_⟩
 have e0:pnR (Qd q) s=((((nmR (-1000) 9999 s).1,(vlR (nmR (-1000) 9999 s).2).1),(Q1 acR (Qd q) (nmR 0 1 (vlR (nmR (-1000) 9999 s).2).2).2).1,decide ((nmR 0 1 (vlR (nmR (-1000) 9999 s).2).2).1=1)),(Q1 acR (Qd q) (nmR 0 1 (vlR (nmR (-1000) 9999 s).2).2).2).2):=rfl;rw [e0] at hK;clear e0 X X2 X5;generalize nmR (-1000) 9999 s=A at *
 generalize vlR A.2=K at *
 generalize nmR 0 1 K.2=U at *
 intro J44;have hJ:∀ a' c' hj h',hi.le hj->RdO hj h' g L (Q1 acR (Qd q) U.2).2->Qe hj a' ((Q1 acR (Qd q) U.2).1.flatMap Yp)->J44 A.1 K.1.1 K.1.2 a' q.aggs.length c' (decide (U.1=1)) h':=by
  intro a' c' hj h' l1 l2 l3;have:=hK a' c' hj h' l1 l2 l3;simp only [UQ,Qw] at this;exact this
 clear_value J44;clear hK;refine⟨fun vs hh=>∃(i:Nat)(aA:OaT)(cA:Nat),vs=[vi i,vi A.1,vi K.1.1,vi K.1.2,vsl aA i cA,vb (decide (U.1=1))]/\i<=q.aggs.length/\RdO hi hh g (owA aA i cA (Q1 acR ((Qd q).take i) U.2).1 :: L) (Q1 acR ((Qd q).take i) U.2).2,
  fun vs hh=>q.aggs.length-(Qo vs 0).toNat,⟨0,none,0,rfl,cE _,X9.ins (qX _ _ _) (fun b hb=>by cases hb)⟩,?_⟩
 rintro vs hh ⟨i,aA,cA,rfl,hi',X⟩;refine⟨_,_,_,_,_,_,_,_,rfl,fun e1=>?_,fun e1=>?_⟩
 ·have hlt:i<q.aggs.length:=by have:=bC e1;omega
  have hx:q.aggs[i]?=some q.aggs[i]:=bD hlt
  have hkt:(Qd q).take (i+1)=(Qd q).take i++[(q.aggs[i]).1]:=by
   rw [bL (by rw [Qw];exact hlt)]
   congr 2
   unfold Qd;rw [jF]
  generalize q.aggs[i]=ag at *
  obtain⟨b,o,a',c',ha,hrow,hS⟩:=((Q.le X.le).g).row Ji (by decide) hx
  refine⟨b,o,⟨ha,by omega,by omega⟩,ag.1,a',ag.2.length,c',by rw [bF];exact hrow,?_⟩
  have eS:=W8 acR ag.1 ((Qd q).take i) U.2;rw [<-hkt] at eS;generalize Q1 acR ((Qd q).take i) U.2=F at *
  have eA:acR ag.1 F.2=((ag.1,(nmR 0 120 F.2).1,(nmR (-1099511627776) 1099511627776 (nmR 0 120 F.2).2).1,(nmR (-1000000000) 1000000000 (nmR (-1099511627776) 1099511627776 (nmR 0 120 F.2).2).2).1),(nmR (-1000000000) 1000000000 (nmR (-1099511627776) 1099511627776 (nmR 0 120 F.2).2).2).2):=rfl;rw [eA] at eS;refine Q7 X T E fun h29 Y1=>⟨_,rfl,?_⟩
  refine Q7 Y1 T E fun h32 Y2=>⟨_,rfl,?_⟩
  refine Q7 Y2 T E fun h35 Y3=>⟨_,rfl,?_⟩
  clear eA X Y1 Y2;generalize nmR 0 120 F.2=x1 at *
  generalize nmR (-1099511627776) 1099511627776 x1.2=x2 at *
  generalize nmR (-1000000000) 1000000000 x2.2=x3 at *
  intro b37 hb37 h38;obtain⟨a,n,c,O,S,hc,hw⟩:=Y3;refine O.app (j:=1) rfl QlP (m:=1) (tn:=155) (news:=Yp (ag.1,x1.1,x2.1,x3.1)) hb37 rfl (Qhv _) (by simp only;omega) (by simp only;omega) fun aA' cA' h40 O40 _=>⟨_,_,_,rfl,?_⟩
  simp only [d6,dJ] at O40;refine⟨_,iW,⟨i+1,aA',cA',rfl,by omega,?_⟩,by simp [Qo];omega⟩
  rw [eS];refine⟨a,n,c,?_,S,hc,hw⟩
  unfold owA;rw [cP,dN];exact O40
 ·have hge:i=q.aggs.length:=by have:=bB e1;omega
  subst hge;rw [cY (by rw [Qw];exact cB _)] at X
  obtain⟨a,n,c,O,S,hc,hw⟩:=X;obtain⟨hj,lj,Oj,Hj⟩:=O.shut1;exact hJ aA cA hj hh lj ⟨a,n,c,Oj,S.le lj,hc,hw⟩ Hj
set_option maxHeartbeats 1000000 in
theorem Qmi (X:RdO hi h g L s)(Q:QAt hi q a1 n1 a2 n2 a3 n3)(B:QOk q)(T:Uk hi)(E:MD hi)
  (hK:∀ a' c' hj h',hi.le hj->RdO hj h' g L (rwR q.aggs.length s).2->Qe hj a' ((rwR q.aggs.length s).1.2.2.flatMap Qu)->R (vag [vb (rwR q.aggs.length s).1.1,vi (rwR q.aggs.length s).1.2.1.1,vi (rwR q.aggs.length s).1.2.1.2.1,vi (rwR q.aggs.length s).1.2.1.2.2,vsl a' (rwR q.aggs.length s).1.2.2.length c']) h') :
  Qa Pg 130 [vhp g 0,qV a1 n1 c1 a2 n2 c2 a3 n3 c3 q] h R:=by
 refine Qac ?_
 have hn1:=Q.g.len;have hn4:=B.n2;refine Q7 X T E fun h2 X2=>⟨_,rfl,?_⟩
 refine Q7 X2 T E fun h5 X5=>⟨_,rfl,?_⟩
 refine Mc X5 T E fun h9 X9=>⟨_,_,rfl,?_⟩
 have e0:rwR q.aggs.length s=((decide ((nmR 0 1 s).1=1),((nmR (-1000) 9999 (nmR 0 1 s).2).1,(vlR (nmR (-1000) 9999 (nmR 0 1 s).2).2).1),(Q1 (fun _:Unit=>vlR) (List.replicate q.aggs.length ()) (vlR (nmR (-1000) 9999 (nmR 0 1 s).2).2).2).1),(Q1 (fun _:Unit=>vlR) (List.replicate q.aggs.length ()) (vlR (nmR (-1000) 9999 (nmR 0 1 s).2).2).2).2):=rfl
 rw [e0] at hK;clear e0 X X2 X5;generalize nmR 0 1 s=U at *
 generalize nmR (-1000) 9999 U.2=A at *
 generalize vlR A.2=K at *
 intro J44;have hJ:∀ a' c' hj h',hi.le hj->RdO hj h' g L (Q1 (fun _:Unit=>vlR) (List.replicate q.aggs.length ()) K.2).2->Qe hj a' ((Q1 (fun _:Unit=>vlR) (List.replicate q.aggs.length ()) K.2).1.flatMap Qu)->J44 (decide (U.1=1)) A.1 K.1.1 K.1.2 a' q.aggs.length c' h':=by
  intro a' c' hj h' l1 l2 l3;have:=hK a' c' hj h' l1 l2 l3;simp only [UQ,dQ] at this;exact this
 clear_value J44;clear hK;refine⟨fun vs hh=>∃(i:Nat)(aA:OaT)(cA:Nat),vs=[vi i,vb (decide (U.1=1)),vi A.1,vi K.1.1,vi K.1.2,vsl aA i cA]/\i<=q.aggs.length/\RdO hi hh g (QqH aA i cA (Q1 (fun _:Unit=>vlR) (List.replicate i ()) K.2).1 :: L) (Q1 (fun _:Unit=>vlR) (List.replicate i ()) K.2).2,
  fun vs hh=>q.aggs.length-(Qo vs 0).toNat,⟨0,none,0,rfl,cE _,X9.ins (qX _ _ _) (fun b hb=>by cases hb)⟩,?_⟩
 rintro vs hh ⟨i,aA,cA,rfl,hi',X⟩;refine⟨_,_,_,_,_,_,_,_,rfl,fun e1=>?_,fun e1=>?_⟩
 ·have hlt:i<q.aggs.length:=by have:=bC e1;omega
  have eS:=W8 (fun _:Unit=>vlR) () (List.replicate i ()) K.2
  rw [<-jX] at eS;generalize Q1 (fun _:Unit=>vlR) (List.replicate i ()) K.2=F at *
  refine Mc X T E fun h25 Y3=>⟨_,_,rfl,?_⟩
  intro b37 hb37 h38;obtain⟨a,n,c,O,S,hc,hw⟩:=Y3;refine O.app (j:=1) rfl QhA (m:=1) (tn:=54) (news:=Qu (vlR F.2).1) hb37 rfl (Ql0 _) (by simp only;omega) (by simp only;omega) fun aA' cA' h40 O40 _=>⟨_,_,_,rfl,?_⟩
  simp only [d6,dJ] at O40;refine⟨_,iW,⟨i+1,aA',cA',rfl,by omega,?_⟩,by simp [Qo];omega⟩
  rw [eS];refine⟨a,n,c,?_,S,hc,hw⟩
  unfold QqH;rw [cP,dN];exact O40
 ·have hge:i=q.aggs.length:=by have:=bB e1;omega
  subst hge;obtain⟨a,n,c,O,S,hc,hw⟩:=X;obtain⟨hj,lj,Oj,Hj⟩:=O.shut1;exact hJ aA cA hj hh lj ⟨a,n,c,Oj,S.le lj,hc,hw⟩ Hj
end
def Qdh (h:Hp):Prop:=∃ m,h.cell 4 0=some (vk .i64 m)
theorem Qdh.le {h h':Hp}(T:Qdh h)(l:h.le h'):Qdh h':=by
 obtain⟨m,hm⟩:=T;exact⟨m,qS l hm⟩
theorem QiN:∀ l:List ByteArray,(l.map fun x=>x.data.toList).flatMap Yj=l.map Value.string
 | []=>rfl
 | x :: l=>by
  rw [dD,dI,QiN l,dD];show [Value.string (bs x.data.toList)]++_=_;have:bs x.data.toList=x:=by unfold bs;simp
  rw [this];rfl
theorem QcE {s:Wds}(hs:s.length<=1000000000){h:Hp}(T:Qdh h){R:RtT}(hK:∀ a h',Qg h h' 9 1 a (Yx s).length (Yx s).length ((Yx s).flatMap Yj)->R (vsl a (Yx s).length (Yx s).length) h'):Qa Pg 127 [vs (bs s),vs (bs [32])] h R:=by
 obtain⟨m,hm⟩:=T;intro w hw;have hsz:(bs s).size=s.length:=Yh s;have hd:(bs s).data.toList=s:=by simp [bs]
 have hd2:(bs [32]).data.toList=[32]:=by simp [bs]
 refine(Tryz.strings_Split (bs s) (bs [32]) m w (by omega) (ZA hm hw) (by decide)).mono ?_
 rintro e w' ⟨he,hw'⟩;subst hw';have hl:=Lib.splitB_all (bs [32]) (by decide) 0 _ (bs s) rfl
 have e1:=Lib.splitB_data (bs [32]) 0 (Lib.countB (bs s) (bs [32])) (bs s);have e2:Lib.countB (bs s) (bs [32])=Lib.count s [32]:=by show Lib.count _ _=_;rw [hd,hd2]
 rw [hd,hd2,e2] at e1;have e3:(Lib.splitB (bs [32]) 0 (Lib.countB (bs s) (bs [32])) (bs s)).map (fun x=>x.data.toList)=Yx s:=by rw [e2];exact e1
 have e4:(Yx s).length=Lib.countB (bs s) (bs [32])+1:=by rw [<-e3,bQ,hl]
 have hln:=(QjQ s).2.1;have e5:=QiN (Lib.splitB (bs [32]) 0 (Lib.countB (bs s) (bs [32])) (bs s));rw [e3] at e5;rw [<-e4] at he;refine⟨_,h.set w.heap.size (Qb ((Yx s).flatMap Yj) 9),he,?_,?_,hK _ _ (qZ (qO h) (hw.none) _ _ ?_ ?_)⟩
 ·rw [e5];exact Sub.pushSet hw _
 ·rw [e5];exact Fr.pushSet h w _
 ·rw [Qi Z4]
 ·unfold maxLen;omega
theorem Qpg {a:OaT}{n c:Nat}{l:List Wds}{sep:Wds}{h:Hp}{R:RtT}(S:SlB h a n l)(hn:0<n)(hc:n<=c)(hn2:n<=100000000)(hlen:(Lib.join l sep).length<=10000000000)(hK:R (vs (bs (Lib.join l sep))) h):Qa Pg 121 [vsl a n c,vs (bs sep)] h R:=by
 obtain rfl:=S.1;obtain⟨b,o,ha,hcell⟩:=SlP.get1 S hn;subst ha;have hmap:((l.map bs).map fun x=>x.data.toList)=l:=by
  rw [fH];have:((fun x:ByteArray=>x.data.toList) ∘ bs)=id:=by funext x;simp [bs]
  rw [this,j8]
 have hs:(bs sep).data.toList=sep:=by simp [bs]
 have hl:(l.map bs).length=l.length:=by simp
 refine Vf fun w hw=>?_
 have hcs:∀(j:Nat) x,(l.map bs)[j]?=some x->w.cell? ⟨b,o+j,none⟩=some (.string x):=by
  intro j x hx;rw [cC,dF] at hx
  obtain⟨y,hy,rfl⟩:=hx;have hj:=(bG.1 hy).1
  obtain⟨b',o',e,hc'⟩:=SlP.get1 S hj;cases e;rw [bI,hy,fZ] at hc'
  exact ZA hc' hw
 have hbk:b<w.heap.size:=by
  have h1:=ZA hcell hw;unfold World.cell? at h1;cases hb:w.heap[b]? with
  | none=>rw [hb] at h1;cases h1
  | some ob=>exact(bV.1 hb).1
 have:=Tryz.strings_Join b o c (l.map bs) (bs sep) w hcs hbk (by rw [hl];omega) (by rw [hl];exact hc) (by rw [hmap,hs];omega)
 rw [hl,hmap,hs] at this;refine this.mono fun e w' ⟨he,hB⟩=>⟨_,he,hB,hK⟩
theorem WE {n:Int}(hn:InR n){h:Hp}(T:Uk h){K:RtT}(hK:K (vs (bs (Lib.itoa n))) h):ZC Pg (.func (.func 119) #[] #[]) [vi n] h K:=
 ⟨_,_,_,rfl,⟨_,Tryz.func119,by kernel_rfl,by kernel_rfl⟩,XW hn T hK⟩
def ShE (q:Qy)(h h':Hp)(g:Nat)(X:ShX):Prop:=∀ st:En,st.rd=X.rd->st.far=X.far->st.late=X.late->st.pn.map (pnT (Qd q))=X.pn->st.rows=X.rows->W9 q h h' g st
abbrev Qms (a:OaT)(n c:Nat)(xs:List Value):Ow:=⟨150,5,a,n,c,xs⟩
abbrev Qmg (a:OaT)(n c:Nat)(xs:List Value):Ow:=⟨95,5,a,n,c,xs⟩
theorem Qlp {hi h:Hp}{a:OaT}{n c:Nat}{xs:List Value}{L:List Ow}(O:Zw hi h L)(hs:owI a n c xs ∈ L)(hn:0<n):∃ b,a=some ⟨b,0,none⟩:=by
 have O1:=O.ownV hs;have:=O1.own.cap;obtain⟨b,_,e,_⟩:=O1.blk (by simp only at this ⊢;omega) (show 0<1 by decide)
 exact⟨b,e⟩
theorem Qlq {α β:Type}(f:α->β)(l:List α)(x y:α)(k:Nat):QP ((l++List.replicate (k+1) x).map f) l.length [f y]=((l++[y])++List.replicate k x).map f:=by
 have h1:l.length<((l++List.replicate (k+1) x).map f).length:=by simp
 rw [Jy _ _ _ h1,<-gM];congr 1
 rw [gJ _ _ (cB _),fT,fS,dJ,bX];rfl
theorem Qp6 (s:RdW):0<=(rfR s).1.1/\(rfR s).1.1<=40/\-1<=(rfR s).1.2/\(rfR s).1.2<=9999:=
 ⟨(Qar (by decide) s).1,(Qar (by decide) s).2,(Qar (by decide) _).1,(Qar (by decide) _).2⟩
section
variable {h:Hp}{q:Qy}{a1:OaT}{n1 c1:Nat}{a2:OaT}{n2 c2:Nat}{a3:OaT}{n3 c3:Nat}
set_option maxHeartbeats 4000000 in
theorem QfN {s:Wds}{parts:Nat}{R':RtT}(Q:QAt h q a1 n1 a2 n2 a3 n3)(B:QOk q)(T:Uk h)(E:MD h)(M:Qdh h)(hs:s.length<=1000000)(h1:1<=parts)(h3:parts<=3)
  (hN:∀ h',h.le h'->Qfq (Qd q) parts (Yx s)=none->R' (Qf [vp none,ifv (some (119,vi 4))]) h')
  (hY:∀ X g h',h.le h'->Qfq (Qd q) parts (Yx s)=some X->ShE q h h' g X->R' (Qf [vhp g 0,ifv none]) h') :
  Qa Pg 61 [vs (bs s),vag [vsl a1 n1 c1,vsl a2 n2 c2,vsl a3 n3 c3,vi q.size,vi q.slide,vi q.delay,vi q.late],vi parts] h R':=by
 refine QfJ ?_
 refine Mv Q B (fun hbad=>absurd ⟨by omega,by omega⟩ hbad) fun _ _ g h2 l2 X=>⟨some ⟨g,0,none⟩,none,rfl,fun e=>(by cases e),fun _=>?_⟩
 rw [bF] at X;obtain⟨qf,hi,b1,m1,d1,b2,m2,d2,b3,m3,d3,ak,nk,ck,ar,cr,ac,cc,l0,O,F,QF,K⟩:=X;obtain⟨w1,w2,w3⟩:=QjQ s;refine O.frame (QcE (by omega) (M.le l0) fun a8 hk O8 h7 l7 O7=>⟨_,_,_,rfl,?_⟩)
 have lk:=O8.le;have S8:SlB hk a8 (Yx s).length (Yx s):=O8.slp Z4 (by decide)
 have O9:=(O7.push (qO h7) (s:=Qms none 0 0 []) (qX _ _ _) (fun b hb=>by cases hb)).push (qO h7) (s:=Qmg none 0 0 []) (qX _ _ _) (fun b hb=>by cases hb)
 simp only [dA,dE] at O9;clear O O7;intro b9 hb9 h10;have l10:h7.le h10:=qQ (qO _) hb9 _;have X0:RdO hk h10 b9 _ (Yx s,false):=⟨a8,_,_,O9.cons l10 (s:=Y6 b9 219 [vsl a8 (Yx s).length (Yx s).length,vb false]) (QiT (qK _ _ _)) (fun b hb=>by cases hb;exact hb9),S8,cB _,fun w hw=>dK (w3 w hw) hs⟩
 clear_value h10;have Tk:=T.le (qP l0 lk);have Ek:=E.le (qP l0 lk);have Qk:=Q.le (qP l0 lk);have Fk:=F;have QFk:=QF.le lk;have Kk:=K.le lk;have l0k:=qP l0 lk;clear O9 S8 O8 l10 hb9 Q QF K T E M l0 lk l2 l7;refine Q7 X0 Tk Ek fun h12 X12=>⟨_,rfl,?_⟩
 refine Q7 X12 Tk Ek fun h15 X15=>⟨_,rfl,?_⟩
 have eh:hdR (Yx s,false)=(((nmR 1 3 (Yx s,false)).1,(nmR 0 1099511627776 (nmR 1 3 (Yx s,false)).2).1,(nmR 0 10000 (nmR 0 1099511627776 (nmR 1 3 (Yx s,false)).2).2).1,(nmR 0 10000 (nmR 0 10000 (nmR 0 1099511627776 (nmR 1 3 (Yx s,false)).2).2).2).1),(nmR 0 10000 (nmR 0 10000 (nmR 0 1099511627776 (nmR 1 3 (Yx s,false)).2).2).2).2):=rfl;have bA:=Qar (lo:=0) (hi:=1099511627776) (by decide) (nmR 1 3 (Yx s,false)).2
 have bM:=Qar (lo:=0) (hi:=10000) (by decide) (nmR 0 1099511627776 (nmR 1 3 (Yx s,false)).2).2
 have bW:=Qar (lo:=0) (hi:=10000) (by decide) (nmR 0 10000 (nmR 0 1099511627776 (nmR 1 3 (Yx s,false)).2).2).2
 have hSh:∀ X,Qfq (Qd q) parts (Yx s)=X->Qfq (Qd q) parts (Yx s)=X:=fun _ e=>e
 unfold Qfq at hN hY;simp only [eh] at hN hY;generalize nmR 1 3 (Yx s,false)=yK at *
 generalize nmR 0 1099511627776 yK.2=yA at *
 obtain⟨late,hlate⟩:∃ n:Nat,yA.1=(n:Int):=⟨yA.1.toNat,by omega⟩
 obtain⟨aR,nR,cR,OR,SR,hcR,hwR⟩:=X15;refine⟨g,0,rfl,OR.put (j:=3) rfl (i:=11) (bP rfl) fun h19 O19 _=>?_⟩
 simp only [d6,dJ,KL] at O19;have X19:RdO hk h19 b9 _ yA.2:=⟨aR,nR,cR,O19,SR,hcR,hwR⟩;clear O19 OR SR hcR hwR X0 X12;refine Q7 X19 Tk Ek fun h21 X21=>⟨_,rfl,?_⟩
 refine Q7 X21 Tk Ek fun h24 X24=>⟨_,rfl,?_⟩
 generalize nmR 0 10000 yA.2=yM at *
 generalize nmR 0 10000 yM.2=yW at *
 clear X19 X21 eh hSh;obtain⟨many,hmany⟩:∃ n:Nat,yM.1=(n:Int):=⟨yM.1.toNat,by omega⟩
 obtain⟨rows,hrows⟩:∃ n:Nat,yW.1=(n:Int):=⟨yW.1.toNat,by omega⟩
 have rdL:∀{hi h:Hp} {L:List Ow} {s:RdW},RdO hi h b9 L s->∃(a:OaT)(n c:Nat),Hp.cell h b9 0=some (vsl a n c)/\Hp.cell h b9 (0+1)=some (vb s.2)/\n=s.1.length:=by intro hi h L s X;obtain⟨a,n,c,O,S,_⟩:=X;have hb:=O.blk (bY ..);exact⟨a,n,c,Qc hb rfl,Qc hb rfl,S.1⟩
 obtain⟨a27,n27,c27,k27,_,e27⟩:=rdL X24;have l024:=qP l0k X24.le;refine⟨_,fun _=>iW,a27,n27,c27,fun _=>k27,fun e1=>?_,fun e1=>?_⟩
 ·refine hN h24 l024 ?_
  rw [bJ];by_cases h9:yK.1=(parts:Int)
  ·refine .inr ?_
   rw [cO (fun q1=>q1 h9)] at e1
   have:=bC (show decide (yM.1+yW.1>((n27:Nat):Int))=true from e1)
   omega
  ·exact .inl h9
 obtain⟨e2,e3⟩:=YP e1;have hk9:yK.1=(parts:Int):=gA.1 (bB e2);have hmw:yM.1+yW.1<=((n27:Nat):Int):=by have:=bB e3;omega
 have hc0:¬(yK.1≠(parts:Int)\/yM.1+yW.1>(yW.2.1.length:Int)):=by
  rintro(q1|q1)
  ·exact q1 hk9
  ·omega
 simp only [bE hc0] at hN hY;simp only [hmany,hrows,hlate,bF] at hN hY;have hX9:RdO hk h24 b9 [owI ac parts cc ((((Q1 (fun _:Unit=>rfR) (List.replicate 0 ()) yW.2).1.map (·.2))++List.replicate parts (-1:Int)).map vi),owI ar parts cr ((((Q1 (fun _:Unit=>rfR) (List.replicate 0 ()) yW.2).1.map (·.1))++List.replicate parts (0:Int)).map vi),Y6 g 132 (KL b1 m1 d1 b2 m2 d2 b3 m3 d3 qf ak nk ck ar parts cr ac parts cc none 0 0 late none 0 0),Qms none 0 0 [],Qmg none 0 0 []] yW.2:=by
  have e:(List.replicate parts (0:Nat)).map (fun n:Nat=>vi n)=(List.replicate parts (0:Int)).map vi:=by rw [gW,gW];rfl
  rw [hlate,e] at X24;exact X24
 clear X24 k27 rdL;refine⟨fun vs hh=>∃ i:Nat,vs=[vi i]/\i<=parts/\RdO hk hh b9 [owI ac parts cc ((((Q1 (fun _:Unit=>rfR) (List.replicate i ()) yW.2).1.map (·.2))++List.replicate (parts-i) (-1:Int)).map vi),owI ar parts cr ((((Q1 (fun _:Unit=>rfR) (List.replicate i ()) yW.2).1.map (·.1))++List.replicate (parts-i) (0:Int)).map vi),Y6 g 132 (KL b1 m1 d1 b2 m2 d2 b3 m3 d3 qf ak nk ck ar parts cr ac parts cc none 0 0 late none 0 0),Qms none 0 0 [],Qmg none 0 0 []] (Q1 (fun _:Unit=>rfR) (List.replicate i ()) yW.2).2,
  fun vs hh=>parts-(Qo vs 0).toNat,⟨0,rfl,cE _,hX9⟩,?_⟩
 clear hX9;rintro vs hh ⟨i,rfl,hi',X⟩;refine⟨i,rfl,fun e4=>?_,fun e4=>?_⟩
 ·have hlt:i<parts:=by have:=bC e4;omega
  have eS:=W8 (fun _:Unit=>rfR) () (List.replicate i ()) yW.2
  rw [<-jX] at eS;have hl:=UQ (fun _:Unit=>rfR) (List.replicate i ()) yW.2
  rw [dQ] at hl;generalize Q1 (fun _:Unit=>rfR) (List.replicate i ()) yW.2=G at *
  have eR:rfR G.2=(((nmR 0 40 G.2).1,(nmR (-1) 9999 (nmR 0 40 G.2).2).1),(nmR (-1) 9999 (nmR 0 40 G.2).2).2):=rfl;obtain⟨k,hkk⟩:∃ k,parts-i=k+1:=⟨parts-i-1,by omega⟩
  have hk2:parts-(i+1)=k:=by omega
  rw [hkk] at X;have X':=X;obtain⟨aR,nR,cR,O,SR,hcR,hwR⟩:=X';obtain⟨br,er⟩:=Qlp (n:=parts) (c:=cr) (a:=ar) O (bT _ (bT _ (bY ..))) (by omega)
  obtain⟨bc,ec⟩:=Qlp (n:=parts) (c:=cc) (a:=ac) O (bT _ (bY ..)) (by omega)
  have blkOf:∀{hk h:Hp} {s:RdW} {c1 c2:Ow},RdO hk h b9 (c1 :: c2 :: Y6 g 132 (KL b1 m1 d1 b2 m2 d2 b3 m3 d3 qf ak nk ck ar parts cr ac parts cc none 0 0 late none 0 0) :: [Qms none 0 0 [],Qmg none 0 0 []]) s->h g=some (Qb (KL b1 m1 d1 b2 m2 d2 b3 m3 d3 qf ak nk ck ar parts cr ac parts cc none 0 0 late none 0 0) 132):=by rintro hk h s c1 c2 ⟨a,n,c,O,_⟩;exact O.blk (by simp)
  refine⟨g,0,rfl,_,_,_,Qc (blkOf X) rfl,?_⟩
  refine Q7 X Tk Ek fun h41 X41=>⟨_,rfl,Qc (blkOf X41) rfl,br,0,⟨er,by omega,by omega⟩,?_⟩
  obtain⟨aR,nR,cR,O,SR,hcR,hwR⟩:=X41;rw [bF,fZ];refine O.store (j:=2) rfl (i:=i) (by simp) (by simp only [dV];omega) er fun h45 O45 _=>?_
  simp only [d6,dJ] at O45;have hl1:(G.1.map (·.1)).length=i:=by rw [bQ];exact hl
  have hl2:(G.1.map (·.2)).length=i:=by rw [bQ];exact hl
  have es1:=Qlq vi (G.1.map (·.1)) (0:Int) (nmR 0 40 G.2).1 k
  rw [hl1] at es1;rw [es1] at O45;have X45:RdO hk h45 b9 _ (nmR 0 40 G.2).2:=⟨aR,nR,cR,O45,SR,hcR,hwR⟩;refine⟨g,0,rfl,_,_,_,Qc (blkOf X45) rfl,?_⟩
  refine Q7 X45 Tk Ek fun h50 X50=>⟨_,rfl,Qc (blkOf X50) rfl,bc,0,⟨ec,by omega,by omega⟩,?_⟩
  obtain⟨aR2,nR2,cR2,O2,SR2,hcR2,hwR2⟩:=X50;refine O2.store (j:=1) rfl (i:=i) (by simp) (by simp only [dV];omega) ec fun h54 O54 _=>?_
  simp only [d6,dJ] at O54;have es2:=Qlq vi (G.1.map (·.2)) (-1:Int) (nmR (-1) 9999 (nmR 0 40 G.2).2).1 k
  rw [hl2] at es2;rw [es2] at O54;refine⟨_,iW,⟨i+1,rfl,by omega,?_⟩,by simp [Qo];omega⟩
  rw [eS,hk2,eR];simp only [cJ,dD,kC] at O54 ⊢;exact⟨aR2,nR2,cR2,O54,SR2,hcR2,hwR2⟩
 ·have hge:i=parts:=by have:=bB e4;omega
  subst hge;rw [fT] at X;simp only [List.replicate_zero,dH] at X;have hlf:=UQ (fun _:Unit=>rfR) (List.replicate i ()) yW.2
  rw [dQ] at hlf;have hbf:=Qgz (f:=fun _:Unit=>rfR) (Q:=fun x=>0<=x.1/\x.1<=40/\-1<=x.2/\x.2<=9999) (fun _ s=>Qp6 s) (List.replicate i ()) yW.2
  generalize Q1 (fun _:Unit=>rfR) (List.replicate i ()) yW.2=G at *
  refine⟨fun vs hh=>∃(j:Nat)(hj:Hp)(tb:OaT)(tc:Nat)(R:List PR),vs=[vi j]/\j<=many/\hk.le hj/\R.length=j/\RdO hj hh b9 [owI ac i cc ((G.1.map (·.2)).map vi),owI ar i cr ((G.1.map (·.1)).map vi),Y6 g 132 (KL b1 m1 d1 b2 m2 d2 b3 m3 d3 qf ak nk ck ar i cr ac i cc tb j tc late none 0 0),Qms tb j tc (R.flatMap Ql),Qmg none 0 0 []] (Q1 (fun _:Unit=>pnR (Qd q)) (List.replicate j ()) G.2).2/\R.map prT=(Q1 (fun _:Unit=>pnR (Qd q)) (List.replicate j ()) G.2).1/\∀ r ∈ R,Qe hj r.a (r.acs.flatMap Yp),
   fun vs hh=>many-(Qo vs 0).toNat,⟨0,hk,none,0,[],rfl,cE _,qO _,rfl,X,rfl,fun r hr=>by cases hr⟩,?_⟩
  clear X;rintro vs hh ⟨j,hj,tb,tc,R,rfl,hj',lj,hRl,X,eRt,hRi⟩;refine⟨j,rfl,fun e5=>?_,fun e5=>?_⟩
  ·have hlt:j<many:=by have:=bC e5;omega
   have eS:=W8 (fun _:Unit=>pnR (Qd q)) () (List.replicate j ()) G.2
   rw [<-jX] at eS;generalize Q1 (fun _:Unit=>pnR (Qd q)) (List.replicate j ()) G.2=H at *
   have blkOf:∀{hk h:Hp} {s:RdW} {c1 c2:Ow} {L:List Ow},RdO hk h b9 (c1 :: c2 :: Y6 g 132 (KL b1 m1 d1 b2 m2 d2 b3 m3 d3 qf ak nk ck ar i cr ac i cc tb j tc late none 0 0) :: L) s->h g=some (Qb (KL b1 m1 d1 b2 m2 d2 b3 m3 d3 qf ak nk ck ar i cr ac i cc tb j tc late none 0 0) 132):=by rintro hk h s c1 c2 L ⟨a,n,c,O,_⟩;exact O.blk (by simp)
   refine⟨g,0,rfl,_,_,_,Qc (blkOf X) rfl,?_⟩
   refine Qkx X (Qk.le lj) B (Tk.le lj) (Ek.le lj) fun a73 c73 hj2 h69 l69 X69 H69=>⟨_,_,_,_,_,_,_,rfl,Qc (blkOf X69) rfl,?_⟩
   generalize pnR (Qd q) H.2=Z at *
   intro b75 hb75 h76;obtain⟨aR,nR,cR,O,SR,hcR,hwR⟩:=X69;refine O.app (j:=4) rfl Qal (m:=1) (tn:=150) (news:=Ql ⟨Z.1.1,a73,c73,Z.1.2.1,Z.1.2.2⟩) hb75 rfl (Jf _) (by simp only;omega) (by simp only;omega) fun tb' tc' h78 O78 _=>⟨_,_,_,rfl,g,0,rfl,?_⟩
   simp only [d6,dJ] at O78;refine O78.put (j:=3) rfl (i:=10) (bP rfl) fun h82 O82 _=>?_
   simp only [d6,dJ,KL] at O82;refine⟨_,iW,⟨j+1,hj2,tb',tc',R++[⟨Z.1.1,a73,c73,Z.1.2.1,Z.1.2.2⟩],rfl,by omega,qP lj l69,by simp [hRl],?_,?_,fun r hr=>?_⟩,by simp [Qo];omega⟩
   ·rw [eS,cP,dN];exact⟨aR,nR,cR,O82,SR,hcR,hwR⟩
   ·rw [eS,cJ,eRt];rfl
   ·rcases bU.1 hr with q1|q1
    ·exact(hRi r q1).le l69
    ·rw [cD.1 q1];exact H69
  ·have hge:j=many:=by have:=bB e5;omega
   rw [hge] at X eRt hRl;clear hge e5 hj';generalize Q1 (fun _:Unit=>pnR (Qd q)) (List.replicate many ()) G.2=H at *
   have hkl:(Qd q).length=q.aggs.length:=Qw q;rw [hkl] at hN hY;refine⟨fun vs hh=>∃(k:Nat)(hm:Hp)(aw:OaT)(cw:Nat)(RW:List (Xt Vl (Bool × PK))),vs=[vi k]/\k<=rows/\hj.le hm/\RW.length=k/\RdO hm hh b9 [owI ac i cc ((G.1.map (·.2)).map vi),owI ar i cr ((G.1.map (·.1)).map vi),Y6 g 132 (KL b1 m1 d1 b2 m2 d2 b3 m3 d3 qf ak nk ck ar i cr ac i cc tb many tc late aw k cw),Qms tb many tc (R.flatMap Ql),Qmg aw k cw (RW.flatMap (QV Zj))] (Q1 (fun _:Unit=>rwR q.aggs.length) (List.replicate k ()) H.2).2/\Qv RW=(Q1 (fun _:Unit=>rwR q.aggs.length) (List.replicate k ()) H.2).1.map YF/\∀ r ∈ RW,Qe hm r.2.1.1 (r.2.2.flatMap Qu),
    fun vs hh=>rows-(Qo vs 0).toNat,⟨0,hj,none,0,[],rfl,cE _,qO _,rfl,X,rfl,fun r hr=>by cases hr⟩,?_⟩
   clear X;rintro vs hh ⟨k,hm,aw,cw,RW,rfl,hk',lm,hWl,X,eWt,hWi⟩;refine⟨k,rfl,fun e5=>?_,fun e5=>?_⟩
   ·have hlt:k<rows:=by have:=bC e5;omega
    have eS:=W8 (fun _:Unit=>rwR q.aggs.length) () (List.replicate k ()) H.2
    rw [<-jX] at eS;generalize Q1 (fun _:Unit=>rwR q.aggs.length) (List.replicate k ()) H.2=J at *
    have blkOf:∀{hk h:Hp} {s:RdW} {c1 c2:Ow} {L:List Ow},RdO hk h b9 (c1 :: c2 :: Y6 g 132 (KL b1 m1 d1 b2 m2 d2 b3 m3 d3 qf ak nk ck ar i cr ac i cc tb many tc late aw k cw) :: L) s->h g=some (Qb (KL b1 m1 d1 b2 m2 d2 b3 m3 d3 qf ak nk ck ar i cr ac i cc tb many tc late aw k cw) 132):=by rintro hk h s c1 c2 L ⟨a,n,c,O,_⟩;exact O.blk (by simp)
    have ljm:=qP lj lm;refine⟨g,0,rfl,_,_,_,Qc (blkOf X) rfl,?_⟩
    refine Qmi X (Qk.le ljm) B (Tk.le ljm) (Ek.le ljm) fun a73 c73 hj2 h69 l69 X69 H69=>⟨_,_,_,_,_,_,_,rfl,Qc (blkOf X69) rfl,?_⟩
    generalize rwR q.aggs.length J.2=Z at *
    intro b75 hb75 h76;obtain⟨aR,nR,cR,O,SR,hcR,hwR⟩:=X69;refine O.app (j:=5) rfl Qku (m:=1) (tn:=95) (news:=QV Zj ((Z.1.1,Z.1.2.1),(a73,c73),Z.1.2.2)) hb75 rfl (by
     intro u hu;simp only [QV,Zj,bS,dB,fV] at hu;rcases hu with rfl|rfl|rfl|rfl|rfl<;>rfl) (by simp only;omega) (by simp only;omega) fun aw' cw' h78 O78 _=>⟨_,_,_,rfl,g,0,rfl,?_⟩
    simp only [d6,dJ] at O78;refine O78.put (j:=3) rfl (i:=12) (bP rfl) fun h82 O82 _=>?_
    simp only [d6,dJ,KL] at O82;refine⟨_,iW,⟨k+1,hj2,aw',cw',RW++[((Z.1.1,Z.1.2.1),(a73,c73),Z.1.2.2)],rfl,by omega,qP lm l69,by simp [hWl],?_,?_,fun r hr=>?_⟩,by simp [Qo];omega⟩
    ·rw [eS,cP,dN];exact⟨aR,nR,cR,O82,SR,hcR,hwR⟩
    ·rw [eS,QcY,eWt,cJ];rfl
    ·rcases bU.1 hr with q1|q1
     ·exact(hWi r q1).le l69
     ·rw [cD.1 q1];exact H69
   ·have hge:k=rows:=by have:=bB e5;omega
    rw [hge] at X eWt hWl;clear hge e5 hk';generalize Q1 (fun _:Unit=>rwR q.aggs.length) (List.replicate rows ()) H.2=J at *
    obtain⟨aR,nR,cR,O,SR,hcR,hwR⟩:=X;have hb:=O.blk (bY ..);have lend:=qP l0k (qP lj (qP lm O.le));refine⟨_,Qc hb rfl,_,_,_,fun _=>Qc hb rfl,fun e6=>?_,fun e6=>?_⟩
    ·refine hN hh lend ?_
     rw [bJ];cases h9:J.2.2 with
     | true=>exact .inl rfl
     | false=>
      rw [h9] at e6;have:=bC (show decide (((nR:Nat):Int)>0)=true from e6)
      refine .inr fun q1=>?_
      have:=SR.1;rw [q1] at this;simp at this;omega
    ·obtain⟨e7,e8⟩:=YP e6;have hnil:J.2.1=[]:=dR (by have:=bB e8;have:=SR.1;omega)
     refine hY _ g hh lend (by rw [bE (by rintro(q1|q1);(rw [e7] at q1;cases q1);exact q1 hnil)]) fun st s1 s2 s3 s4 s5=>?_
     have OE:=O.sub (fX _ _);have hrl:st.rd.length=i:=by rw [s1,bQ,hlf]
     have hfl:st.far.length=i:=by rw [s2,bQ,hlf]
     have erd:(G.1.map (·.1)).map vi=st.rd.map fun n:Nat=>vi n:=by
      rw [s1,fH,fH];refine fK fun x hx=>?_
      have:=hbf x hx;show vi x.1=vi ((x.1.toNat:Nat):Int);rw [Int.toNat_of_nonneg this.1]
     have s2':st.far=G.1.map (·.2):=s2
     have s3':st.late=late:=s3;rw [erd,<-s2'] at OE;refine W9.of_owns (qf:=qf) (R:=R) (RW:=RW) (tb:=tb) (tc:=tc) (aw:=aw) (cw:=cw) (c1:=d1) (c2:=d2) (c3:=d3) (ck:=ck) (ar:=ar) (cr:=cr) (ac:=ac) (cc:=cc) (qP l0k (qP lj lm)) ?_ Fk (QFk.le (qP lj lm)) (Kk.le (qP lj lm)) (fun r hr=>(hRi r hr).le lm) hWi (by rw [s4];exact eRt) (by rw [s5];exact eWt)
     rw [hrl,hfl,s3',hRl,hWl];exact OE
end
theorem Qmx (l:List Wds):∀ u ∈ l.flatMap Yj,u.oneCell'=true:=by
 intro u hu;obtain⟨x,_,hx⟩:=fI.1 hu;have:u=vs (bs x):=by simpa [Yj] using hx
 rw [this];rfl
theorem JK {n:Int}(h0:-1000000000000<=n)(h1:n<=1000000000000):InR n:=by unfold InR;omega
theorem QjG {α β:Type}(f:α->List β)(m:Nat)(h:∀ x,(f x).length=m):∀ l:List α,(l.flatMap f).length=l.length*m
 | []=>by simp
 | x :: l=>by rw [dI,bO,h x,QjG f m h l,cH,kA,mQ]
theorem Qiu {sep:Wds}(hs:sep.length<=1):∀ l:List Wds,(∀ w ∈ l,w.length<=14)->(Lib.join l sep).length<=15*l.length
 | [],_=>cB _
 | x :: l,h=>by
  rw [Lib.join_length];have hl:∀ l:List Wds,(∀ w ∈ l,w.length<=14)->Lib.lens l<=14*l.length:=by
   intro l;induction l with
   | nil=>intro _;exact cB _
   | cons y l ih=>
    intro h;have h1:=h y (bY ..);have h2:=ih fun w hw=>h w (bT _ hw)
    unfold Lib.lens at *
    simp only [dD,kU,cH] at *
    omega
  have:=hl (x :: l) h;have h3:sep.length*l.length<=l.length:=by
   rcases Nat.le_one_iff_eq_zero_or_eq_one.1 hs with e|e<;>rw [e]<;>omega
  rw [cH] at *
  omega
theorem Qej {ks:List Int}{parts:Nat}{st:En}(H:ShO ks parts st)(hk:ks.length<=4):(XL ks st).length<=10+10000*15+10000*7/\∀ w ∈ XL ks st,w.length<=14:=by
 have il:∀ n:Int,-1000000000000<=n->n<=1000000000000->(Lib.itoa n).length<=14:=fun n h0 h1=>QjR h0 h1
 have bl:∀ b,(Gx b).length<=14:=fun b=>by cases b<;>decide
 have fm:∀{α:Type} (f:α->List Wds) (l:List α) (m:Nat),(∀ x ∈ l,(f x).length<=m)->(l.flatMap f).length<=l.length*m:=by
  intro α f l m;induction l with
  | nil=>intro _;simp
  | cons y l ih=>
   intro h;have h1:=h y (bY ..);have h2:=ih fun w hw=>h w (bT _ hw)
   rw [dI,bO,cH,kA];omega
 have p3:=H.p3;have rl:=H.rl;have fl:=H.fl;have pl:=H.pl;have wl:=H.wl;have la:=H.la;refine⟨?_,?_⟩
 ·have f1:=fm rfW (st.rd.zip st.far) 2 fun x _=>cB _
  have f2:=fm pnW (st.pn.map (pnT ks)) 15 fun x hx=>by
   obtain⟨p,hp,rfl⟩:=cZ.1 hx;have h4:=congrArg List.length (H.pn p hp).2.2.2.1;rw [bQ] at h4;have h5:=fm acW (pnT ks p).2.1 3 fun x _=>cB _
   unfold pnW;simp only [bO,cH,fB];omega
  have f3:=fm rwW st.rows 7 fun w hw=>by
   have h4:=(H.rw w hw).2.2.2.1;unfold rwW;simp only [bO,cH,fB,bQ];omega
  unfold XL hdW;rw [kE] at f1;rw [bQ] at f2;simp only [bO,cH,fB];have e1:Nat.min st.rd.length st.far.length<=3:=by rw [rl,fl];exact dK (Nat.min_le_left ..) p3
  have e1':min st.rd.length st.far.length<=3:=e1;omega
 ·intro w hw;unfold XL hdW at hw;simp only [bU,fI,bS,dB,fV] at hw;rcases hw with ((hw|⟨x,hx0,hx⟩)|⟨x,hx0,hx⟩)|⟨x,hx0,hx⟩
  ·rcases hw with rfl|rfl|rfl|rfl<;>exact il _ (by omega) (by omega)
  ·unfold rfW at hx;simp only [bS,dB,fV] at hx;have h1:=H.rb _ (mN hx0).1;have h2:=H.fb _ (mN hx0).2;rcases hx with rfl|rfl<;>exact il _ (by omega) (by omega)
  ·obtain⟨p,hp,rfl⟩:=cZ.1 hx0;obtain⟨k1,k2,k3,k4,k5⟩:=H.pn p hp;unfold pnW acW at hx;simp only [bU,fI,bS,dB,fV] at hx;rcases hx with (rfl|rfl|rfl)|⟨a,ha0,ha⟩
   ·exact il _ (by omega) (by omega)
   ·exact Qez k3
   ·exact bl _
   ·obtain⟨a1,a2,a3,a4,a5,a6⟩:=k5 a ha0;rcases ha with rfl|rfl|rfl<;>exact il _ (by omega) (by omega)
  ·obtain⟨k1,k2,k3,k4,k5⟩:=H.rw x hx0;unfold rwW at hx;simp only [bU,cZ,bS,dB,fV] at hx;rcases hx with (rfl|rfl|rfl)|⟨a,ha0,rfl⟩
   ·exact bl _
   ·exact il _ (by omega) (by omega)
   ·exact Qez k3
   ·exact Qez (k5 a ha0)
theorem QcT {ks:List Int}{parts:Nat}{st:En}(H:ShO ks parts st)(hk:ks.length<=4):(XL ks st).length<=10+st.pn.length*15+st.rows.length*7:=by
 have fm:∀{α:Type} (f:α->List Wds) (l:List α) (m:Nat),(∀ x ∈ l,(f x).length<=m)->(l.flatMap f).length<=l.length*m:=by
  intro α f l m;induction l with
  | nil=>intro _;simp
  | cons y l ih=>
   intro h;have h1:=h y (bY ..);have h2:=ih fun w hw=>h w (bT _ hw)
   rw [dI,bO,cH,kA];omega
 have p3:=H.p3;have rl:=H.rl;have fl:=H.fl;have f1:=fm rfW (st.rd.zip st.far) 2 fun x _=>cB _
 have f2:=fm pnW (st.pn.map (pnT ks)) 15 fun x hx=>by
  obtain⟨p,hp,rfl⟩:=cZ.1 hx;have h4:=congrArg List.length (H.pn p hp).2.2.2.1;rw [bQ] at h4;have h5:=fm acW (pnT ks p).2.1 3 fun x _=>cB _
  unfold pnW;simp only [bO,cH,fB];omega
 have f3:=fm rwW st.rows 7 fun w hw=>by
  have h4:=(H.rw w hw).2.2.2.1;unfold rwW;simp only [bO,cH,fB,bQ];omega
 unfold XL hdW;rw [kE] at f1;rw [bQ] at f2;simp only [bO,cH,fB];have e1':min st.rd.length st.far.length<=3:=by rw [rl,fl];exact dK (Nat.min_le_left ..) p3
 omega
section
variable {h:Hp}{R':RtT}
abbrev WdV (h hh:Hp)(a:OaT)(c:Nat)(l:List Wds):Prop:=Qg h hh 9 1 a l.length c (l.flatMap Yj)
theorem WdV.app {hh:Hp}{a:OaT}{c:Nat}{l:List Wds}(O:WdV h hh a c l){b:Nat}(hb:hh b=none)(news:List Wds){tn ty:TypeId}{n m:Nat}(hn:n=l.length)(hm:m=news.length)(h1:l.length+news.length<=1000000){K:RtT}(hK:∀ a' c' h',WdV h h' a' c' (l++news)->K (vsl a' (l++news).length c') h') :
  Qh Pg (Builtin.append_ #[162,162] ty #[vsl a n c,vsl (some ⟨b,0,none⟩) m m]) (hh.set b (Qb (news.flatMap Yj) tn)) K:=by
 subst hn;subst hm;refine q8 QpS (O.set hb _) (qW _ _ _ _) (Qi Z4 news) (Qmx news) (by omega) (by omega) fun a' c' h' O' _ _=>?_
 have:=hK a' c' h' (by show Qg h h' _ 1 a' (l++news).length c' ((l++news).flatMap Yj);rw [bO,cP];exact O')
 rw [bO] at this;exact this
set_option maxHeartbeats 2000000 in
theorem Qg3 {q:Qy}{h0:Hp}{g parts:Nat}{st:En}(X:W9 q h0 h g st)(B:QOk q)(H:ShO (Qd q) parts st)(T:Uk h)(hK:∀ h',h.le h'->R' (vs (bs (WO (Qd q) st))) h'):Qa Pg 57 [vhp g 0] h R':=by
 refine Qhh ?_
 obtain⟨a1,n1,c1,a2,n2,c2,a3,n3,c3,qf,ak,nk,ck,ar,cr,ac,cc,tb,tc,aw,cw,RP,k1,s1,s2,g1,tb1,eP⟩:=X.seen;have hk4:(Qd q).length<=4:=by rw [Qw];exact B.n2
 obtain⟨sl,sw⟩:=Qej H hk4;have p3:=H.p3;have rl:=H.rl;have fl:=H.fl;have pl:=H.pl;have wl:=H.wl;have la:=H.la;have hgl:(st.rows.map YF).length=st.rows.length:=bQ _;have hRl:RP.length=st.pn.length:=by have:=congrArg List.length eP;simpa using this
 refine⟨_,_,_,Qc k1 rfl,_,Qc k1 rfl,_,_,_,Qc k1 rfl,_,_,_,Qc k1 rfl,?_⟩
 refine WE (JK (by omega) (by omega)) T ⟨_,rfl,Qc k1 rfl,Qc k1 rfl,Qc k1 rfl,?_⟩
 refine WE (JK (by omega) (by omega)) T ⟨_,rfl,Qc k1 rfl,Qc k1 rfl,?_⟩
 refine WE (JK (by omega) (by omega)) T ⟨_,rfl,Qc k1 rfl,?_⟩
 refine WE (JK (by omega) (by omega)) T ⟨_,rfl,?_⟩
 intro b17 hb17 h18;have V18:WdV h h18 (some ⟨b17,0,none⟩) 4 (hdW st):=by
  have e:hdW st=[Lib.itoa (st.rd.length:Nat),Lib.itoa (st.late:Nat),Lib.itoa (RP.length:Nat),Lib.itoa ((st.rows.map YF).length:Nat)]:=by unfold hdW;rw [hRl,hgl]
  rw [e];exact qZ (n:=4) (qO h) hb17 _ _ rfl (by decide)
 clear_value h18;have hfl:st.far.length=st.rd.length:=by omega
 refine⟨_,_,_,Qc (V18.le _ _ k1) rfl,?_⟩
 refine⟨fun vs hh=>∃(i:Nat)(a:OaT)(c:Nat),vs=[vsl a (hdW st++((st.rd.zip st.far).take i).flatMap rfW).length c,vi i]/\i<=st.rd.length/\WdV h hh a c (hdW st++((st.rd.zip st.far).take i).flatMap rfW),
  fun vs hh=>st.rd.length-(Qo vs 1).toNat,⟨0,some ⟨b17,0,none⟩,4,by simp [hdW],cE _,by simpa using V18⟩,?_⟩
 clear V18;rintro vs hh ⟨i,a,c,rfl,hi,V⟩;refine⟨_,_,_,_,rfl,fun e=>?_,fun e=>?_⟩
 ·have hlt:i<st.rd.length:=by have:=bC e;omega
  obtain⟨br,or_,er,hcr⟩:=(s1.le V.le).get hlt;obtain⟨bc,oc,ec,hcc⟩:=(s2.le V.le).get (i:=i) (by omega)
  have g1:(st.rd.map fun n:Nat=>(n:Int)).getD i 0=(st.rd[i]:Int):=by rw [bI,cC,bD hlt];rfl
  have g2:st.far.getD i 0=st.far[i]'(by omega):=by rw [bI,bD (by omega)];rfl
  rw [g1] at hcr;rw [g2] at hcc;have hz:i<(st.rd.zip st.far).length:=by rw [kE];omega
  have tk:(st.rd.zip st.far).take (i+1)=(st.rd.zip st.far).take i++[(st.rd[i],st.far[i]'(by omega))]:=by rw [bL hz,List.getElem_zip]
  have hb1:=H.rb _ (cM hlt);have hb2:=H.fb _ (cM (show i<st.far.length by omega))
  have hlen:(hdW st++((st.rd.zip st.far).take i).flatMap rfW).length<=10:=by
   have:(((st.rd.zip st.far).take i).flatMap rfW).length=i*2:=by
    rw [QjG rfW 2 (fun _=>rfl),bZ,kE]
    congr 1
    rw [hfl,pQ];exact dU (by omega)
   rw [bO,this];simp only [hdW,cH,fB];omega
  generalize st.rd[i]=x at *
  generalize st.far[i]'(by omega)=y at *
  have k1':=V.le _ _ k1;refine⟨_,_,_,Qc k1' rfl,br,or_,⟨er,by omega,by omega⟩,_,by rw [bF];exact hcr,_,_,_,Qc k1' rfl,bc,oc,⟨ec,by omega,by omega⟩,_,by rw [bF];exact hcc,?_⟩
  refine WE (JK (by omega) (by omega)) (T.le V.le) ⟨_,rfl,by rw [bF];exact hcc,Qc k1' rfl,?_⟩
  refine WE (JK (by omega) (by omega)) (T.le V.le) ⟨_,rfl,?_⟩
  intro b43 hb43 h44;refine V.app hb43 (rfW (x,y)) rfl rfl (by simp only [rfW,cH,fB];omega) fun a' c' h' V'=>⟨_,_,_,rfl,_,iW,⟨i+1,a',c',?_,by omega,?_⟩,by simp [Qo];omega⟩
  ·rw [tk,cP,dN,<-bX];rfl
  ·rw [tk,cP,dN,<-bX];exact V'
 ·have hge:i=st.rd.length:=by have:=bB e;omega
  have htk:(st.rd.zip st.far).take i=st.rd.zip st.far:=cY (by rw [kE];simp only [Nat.min_def];split<;>omega)
  rw [htk] at V ⊢;clear htk hge e hi;have e1:XL (Qd q) st=(hdW st++(st.rd.zip st.far).flatMap rfW)++(st.pn.map (pnT (Qd q))).flatMap pnW++st.rows.flatMap rwW:=rfl;generalize hdW st++(st.rd.zip st.far).flatMap rfW=W0 at *
  refine⟨_,_,_,Qc (V.le _ _ k1) rfl,?_⟩
  refine⟨fun vs hh=>∃(i:Nat)(a:OaT)(c:Nat),vs=[vsl a (W0++((st.pn.map (pnT (Qd q))).take i).flatMap pnW).length c,vi i]/\i<=RP.length/\WdV h hh a c (W0++((st.pn.map (pnT (Qd q))).take i).flatMap pnW),
   fun vs hh=>RP.length-(Qo vs 1).toNat,⟨0,a,c,by simp,cE _,by simpa using V⟩,?_⟩
  clear V;rintro vs hh ⟨i,a,c,rfl,hi,V⟩;refine⟨_,_,_,_,rfl,fun e=>?_,fun e=>?_⟩
  ·have hlt:i<RP.length:=by have:=bC e;omega
   have hx:RP[i]?=some RP[i]:=bD hlt
   have hpm:(st.pn.map (pnT (Qd q)))[i]?=some (prT RP[i]):=by rw [<-eP,cC,hx];rfl
   have tk:(st.pn.map (pnT (Qd q))).take (i+1)=(st.pn.map (pnT (Qd q))).take i++[prT RP[i]]:=by
    obtain⟨h1,h2⟩:=bG.1 hpm
    rw [bL h1,h2]
   have hO:PnO (Qd q) (prT RP[i]):=by have:=cF hpm;obtain⟨p,hp,e9⟩:=cZ.1 this;rw [<-e9];exact H.pn p hp
   have hlen:(W0++((st.pn.map (pnT (Qd q))).take (i+1)).flatMap pnW).length<=220010:=by
    have h1:((st.pn.map (pnT (Qd q))).take (i+1)).flatMap pnW++((st.pn.map (pnT (Qd q))).drop (i+1)).flatMap pnW=(st.pn.map (pnT (Qd q))).flatMap pnW:=by rw [<-cP,dX]
    rw [e1,<-h1] at sl;simp only [bO] at sl ⊢;omega
   rw [tk,cP,dN,<-bX] at hlen;obtain⟨b,o,ea,hr⟩:=(tb1.s.le V.le).get Qr (by decide) hx
   have hri:=(tb1.i _ (cM hlt)).le V.le;generalize RP[i]=r at *
   obtain⟨o1,o2,o3,o4,o5⟩:=hO;have o4':r.acs.length<=4:=by have:=congrArg List.length o4;rw [bQ] at this;exact dK (Nat.le_of_eq this) hk4
   have hr':Hp.row hh b (o+i*5) 5=some [vi r.k.1,vi r.k.2.1,vi r.k.2.2,vsl r.a r.acs.length r.c,vb r.t]:=hr;have o3':InR r.k.2.2:=by have:Qq r.k.2:=o3;unfold Qq at this;unfold InR;omega
   have o1':-1000<=r.k.1:=o1;have o2':r.k.1<=9999:=o2;refine⟨b,o,⟨ea,by omega,by omega⟩,_,_,_,_,_,_,_,by rw [bF];exact hr',?_⟩
   intro J69;have hJ:J69 (bs (Gx r.t)):=by
    refine WE (JK (by omega) (by omega)) (T.le V.le) ⟨_,rfl,?_⟩
    refine Uy (v:=r.k.2) o3' (T.le V.le) ⟨_,rfl,?_⟩
    intro b83 hb83 h84;have hlen2:(W0++((st.pn.map (pnT (Qd q))).take i).flatMap pnW).length+3+(r.acs.flatMap acW).length<=220010:=by
     simp only [pnW,prT,bO,cH,fB] at hlen ⊢;omega
    refine V.app hb83 [Lib.itoa r.k.1,Yf r.k.2,Gx r.t] rfl rfl (by simp only [cH,fB];omega) fun a' c' h' V'=>⟨_,_,_,rfl,?_⟩
    have hex:(W0++((st.pn.map (pnT (Qd q))).take i).flatMap pnW++[Lib.itoa r.k.1,Yf r.k.2,Gx r.t]).length=(W0++((st.pn.map (pnT (Qd q))).take i).flatMap pnW).length+3:=by rw [bO];rfl
    have tk2:∀ c:List Wds,c=r.acs.flatMap acW->W0++((st.pn.map (pnT (Qd q))).take i).flatMap pnW++[Lib.itoa r.k.1,Yf r.k.2,Gx r.t]++c=W0++((st.pn.map (pnT (Qd q))).take (i+1)).flatMap pnW:=by rintro c rfl;rw [tk,cP,dN];simp only [pnW,prT,bX]
    rw [<-hex] at hlen2;generalize W0++((st.pn.map (pnT (Qd q))).take i).flatMap pnW++[Lib.itoa r.k.1,Yf r.k.2,Gx r.t]=W1 at *
    refine⟨fun vs hh=>∃(j:Nat)(a:OaT)(c:Nat),vs=[vsl a (W1++(r.acs.take j).flatMap acW).length c,vi j]/\j<=r.acs.length/\WdV h hh a c (W1++(r.acs.take j).flatMap acW),
     fun vs hh=>r.acs.length-(Qo vs 1).toNat,⟨0,a',c',by simp,cE _,by simpa using V'⟩,?_⟩
    clear V';rintro vs h2 ⟨j,a2,c2,rfl,hj,V2⟩;refine⟨_,_,_,_,rfl,fun e5=>?_,fun e5=>?_⟩
    ·have hjl:j<r.acs.length:=by have:=bC e5;omega
     have hax:r.acs[j]?=some r.acs[j]:=bD hjl
     have tka:r.acs.take (j+1)=r.acs.take j++[r.acs[j]]:=bL hjl;have hri2:Qe h2 r.a (r.acs.flatMap Yp):=(Qe.le V2.le ((tb1.i r (cF hx))));obtain⟨b97,o98,e97,r97⟩:=(show SlP Yp h2 r.a r.acs.length r.acs from⟨rfl,hri2⟩).get Zg (by decide) hax
     obtain⟨m1,m2,m3,m4,m5,m6⟩:=o5 _ (cM hjl);have hlj:(W1++(r.acs.take j).flatMap acW).length+3<=220010:=by
      have h1:((r.acs.take (j+1)).flatMap acW).length<=(r.acs.flatMap acW).length:=by
       have:(r.acs.take (j+1)).flatMap acW++(r.acs.drop (j+1)).flatMap acW=r.acs.flatMap acW:=by rw [<-cP,dX]
       rw [<-this,bO];omega
      rw [tka,cP,bO,dN] at h1;have h2:(acW r.acs[j]).length=3:=rfl;rw [bO];omega
     generalize r.acs[j]=ax at *
     refine⟨b97,o98,⟨e97,by omega,by omega⟩,_,_,_,_,by rw [bF];exact r97,?_⟩
     refine WE (JK (by omega) (by omega)) (T.le V2.le) ⟨_,rfl,?_⟩
     refine WE (JK (by omega) (by omega)) (T.le V2.le) ⟨_,rfl,?_⟩
     refine WE (JK (by omega) (by omega)) (T.le V2.le) ⟨_,rfl,?_⟩
     intro b112 hb112 h113;refine V2.app hb112 (acW ax) rfl rfl (by simp only [acW,cH,fB];omega) fun a' c' h' V'=>⟨_,_,_,rfl,_,iW,⟨j+1,a',c',?_,by omega,?_⟩,by simp [Qo];omega⟩
     ·rw [tka,cP,dN,<-bX];rfl
     ·rw [tka,cP,dN,<-bX];exact V'
    ·have hge:j=r.acs.length:=by have:=bB e5;omega
     rw [hge,dG] at V2 ⊢;have ew:=tk2 _ rfl;rw [ew] at V2 ⊢;exact⟨_,iW,⟨i+1,a2,c2,rfl,by omega,V2⟩,by simp [Qo];omega⟩
   clear_value J69;refine⟨fun e6=>?_,fun e6=>?_⟩
   ·rw [e6] at hJ;exact hJ
   ·rw [e6] at hJ;exact hJ
  ·have hge:i=RP.length:=by have:=bB e;omega
   have htk:(st.pn.map (pnT (Qd q))).take i=st.pn.map (pnT (Qd q)):=cY (by rw [bQ];omega)
   rw [htk] at V ⊢;clear htk hge e hi;generalize W0++(st.pn.map (pnT (Qd q))).flatMap pnW=W1 at *
   refine⟨_,_,_,Qc (V.le _ _ k1) rfl,?_⟩
   refine⟨fun vs hh=>∃(i:Nat)(a:OaT)(c:Nat),vs=[vsl a (W1++(st.rows.take i).flatMap rwW).length c,vi i]/\i<=st.rows.length/\WdV h hh a c (W1++(st.rows.take i).flatMap rwW),
    fun vs hh=>st.rows.length-(Qo vs 1).toNat,⟨0,a,c,by simp,cE _,by simpa using V⟩,?_⟩
   clear V;rintro vs hh ⟨i,a,c,rfl,hi,V⟩;refine⟨_,_,_,_,rfl,fun e=>?_,fun e=>?_⟩
   ·have hlt:i<st.rows.length:=by have:=bC e;omega
    have hx:st.rows[i]?=some st.rows[i]:=bD hlt
    have tk:st.rows.take (i+1)=st.rows.take i++[st.rows[i]]:=bL hlt;have hO:=H.rw _ (cM hlt);have hlen:(W1++(st.rows.take (i+1)).flatMap rwW).length<=220010:=by
     have h1:(st.rows.take (i+1)).flatMap rwW++(st.rows.drop (i+1)).flatMap rwW=st.rows.flatMap rwW:=by rw [<-cP,dX]
     rw [e1,<-h1] at sl;simp only [bO] at sl ⊢;omega
    rw [tk,cP,dN,<-bX] at hlen;generalize st.rows[i]=w at *
    obtain⟨gw,k,l⟩:=w;have hxg:(st.rows.map YF)[i]?=some ((gw,k),l):=by rw [cC,hx];rfl
    obtain⟨b,o,av,cv,ea,hr,SV⟩:=(g1.le V.le).row MO (by decide) hxg
    obtain⟨o1,o2,o3,o4,o5⟩:=hO;have o4':l.length<=4:=dK (Nat.le_of_eq o4) hk4;have hr':Hp.row hh b (o+i*5) 5=some [vb gw,vi k.1,vi k.2.1,vi k.2.2,vsl av l.length cv]:=hr;have o3':InR k.2.2:=by have:Qq k.2:=o3;unfold Qq at this;unfold InR;omega
    have o1':-1000<=k.1:=o1;have o2':k.1<=9999:=o2;refine⟨b,o,⟨ea,by omega,by omega⟩,_,_,_,_,_,_,_,by rw [bF];exact hr',?_⟩
    intro J69;have hJ:J69 (bs (Gx gw)):=by
     refine WE (JK (by omega) (by omega)) (T.le V.le) ⟨_,rfl,?_⟩
     refine Uy (v:=k.2) o3' (T.le V.le) ⟨_,rfl,?_⟩
     intro b83 hb83 h84;have hlen2:(W1++(st.rows.take i).flatMap rwW).length+3+(l.map Yf).length<=220010:=by
      simp only [rwW,bO,cH,fB] at hlen ⊢;omega
     refine V.app hb83 [Gx gw,Lib.itoa k.1,Yf k.2] rfl rfl (by simp only [cH,fB];omega) fun a' c' h' V'=>⟨_,_,_,rfl,?_⟩
     have hex:(W1++(st.rows.take i).flatMap rwW++[Gx gw,Lib.itoa k.1,Yf k.2]).length=(W1++(st.rows.take i).flatMap rwW).length+3:=by rw [bO];rfl
     have tk2:∀ c:List Wds,c=l.map Yf->W1++(st.rows.take i).flatMap rwW++[Gx gw,Lib.itoa k.1,Yf k.2]++c=W1++(st.rows.take (i+1)).flatMap rwW:=by rintro c rfl;rw [tk,cP,dN];simp only [rwW,bX]
     rw [<-hex] at hlen2;have SVh:Qe h av (l.flatMap Qu)\/True:=.inr trivial;have l9:hh.le h'\/True:=.inr trivial;generalize W1++(st.rows.take i).flatMap rwW++[Gx gw,Lib.itoa k.1,Yf k.2]=W2 at *
     refine⟨fun vs h2=>∃(j:Nat)(a:OaT)(c:Nat),vs=[vsl a (W2++(l.take j).map Yf).length c,vi j]/\j<=l.length/\WdV h h2 a c (W2++(l.take j).map Yf),
      fun vs h2=>l.length-(Qo vs 1).toNat,⟨0,a',c',by simp,cE _,by simpa using V'⟩,?_⟩
     clear V';rintro vs h2 ⟨j,a2,c2,rfl,hj,V2⟩;refine⟨_,_,_,_,rfl,fun e5=>?_,fun e5=>?_⟩
     ·have hjl:j<l.length:=by have:=bC e5;omega
      have hax:l[j]?=some l[j]:=bD hjl
      have tka:l.take (j+1)=l.take j++[l[j]]:=bL hjl;have hv:=o5 _ (cM hjl);obtain⟨b0,o0,av0,cv0,ea0,hr0,SV0⟩:=g1.row MO (by decide) hxg
      have hr1:=Hp.row_le V.le hr0;rw [ea0] at ea;cases ea;rw [hr1] at hr';simp only [Zj,bH,g8,jL,mH] at hr';cases hr';obtain⟨b97,o98,e97,r97⟩:=(SV0.le V2.le).get (sz:=2) (fun _=>rfl) (by decide) hax
      have hlj:(W2++(l.take j).map Yf).length+1<=220010:=by rw [bQ] at hlen2;rw [bO,bQ,bZ,dU hj];omega
      generalize l[j]=v at *
      refine⟨b97,o98,⟨e97,by omega,by omega⟩,_,_,by rw [bF];exact r97,?_⟩
      refine Uy (v:=v) (by unfold Qq at hv;unfold InR;omega) (T.le V2.le) ⟨_,rfl,?_⟩
      intro b112 hb112 h113;refine V2.app hb112 [Yf v] rfl rfl (by simp only [cH,fB];omega) fun a' c' h' V'=>⟨_,_,_,rfl,_,iW,⟨j+1,a',c',?_,by omega,?_⟩,by simp [Qo];omega⟩
      ·rw [tka,cJ,<-bX];rfl
      ·rw [tka,cJ,<-bX];exact V'
     ·have hge:j=l.length:=by have:=bB e5;omega
      rw [hge,dG] at V2 ⊢;have ew:=tk2 _ rfl;rw [ew] at V2 ⊢;exact⟨_,iW,⟨i+1,a2,c2,rfl,by omega,V2⟩,by simp [Qo];omega⟩
    clear_value J69;refine⟨fun e6=>?_,fun e6=>?_⟩
    ·rw [e6] at hJ;exact hJ
    ·rw [e6] at hJ;exact hJ
   ·have hge:i=st.rows.length:=by have:=bB e;omega
    rw [hge,dG,<-e1] at V ⊢;have S:=(show SlB hh a (XL (Qd q) st).length (XL (Qd q) st) from V.slp Z4 (by decide))
    have hjl:=Qiu (sep:=[32]) (by decide) _ sw
    refine Qpg S (by unfold XL hdW;simp) V.own.cap (by omega) (by omega) ⟨_,rfl,?_⟩
    exact hK hh V.le
end
theorem QmM {q:Qy}{h:Hp}{parts:Nat}{st:En}{a1:OaT}{n1 c1:Nat}{a2:OaT}{n2 c2:Nat}{a3:OaT}{n3 c3:Nat}(Q:QAt h q a1 n1 a2 n2 a3 n3)(B:QOk q)(Z:EnZ q parts st)(h1:1<=parts)(h3:parts<=3)(h40:∀ x ∈ st.rd,x<=40)(T:Uk h)(E:MD h)(M:Qdh h){R':RtT}
  (hK:∀ g' h',h.le h'->W9 q h h' g' st->R' (Qf [vhp g' 0,ifv none]) h'):Qa Pg 61 [vs (bs (WO (Qd q) st)),vag [vsl a1 n1 c1,vsl a2 n2 c2,vsl a3 n3 c3,vi q.size,vi q.slide,vi q.delay,vi q.late],vi parts] h R':=by
 have H:=Z.sho h1 h3 h40;obtain⟨sl,sw⟩:=Qej H (by rw [Qw];exact B.n2)
 have hl:(WO (Qd q) st).length<=15*(XL (Qd q) st).length:=Qiu (by decide) _ sw
 have hZl:=Z.b.pl;have hZw:=Z.b.wl;have hZs:st.rd.sum<=120:=by have:=Qak st.rd h40;rw [Z.b.rl] at this;omega
 have e:=Ql1 H;rw [<-Qiw] at e;refine QfN (s:=WO (Qd q) st) Q B T E M ?_ h1 h3 (fun h' l' hn=>by rw [e] at hn;cases hn) fun Y g' h' l' hy hE=>?_
 ·refine dK hl ?_
  have:=QcT H (by rw [Qw];exact B.n2)
  omega
 ·rw [e] at hy;cases hy;exact hK g' h' l' (hE st rfl rfl rfl rfl rfl)
end Go.Proofs.YthicpjafcpfjoaaGreatDoor
namespace Go.Proofs.YthicpjafcpfjoaaGreatDoor
open Go Go.Vc
structure QS where
 a1:OaT
 n1:Nat
 c1:Nat
 a2:OaT
 n2:Nat
 c2:Nat
 a3:OaT
 n3:Nat
 c3:Nat
def QS.At (s:QS)(h:Hp)(q:Qy):Prop:=QAt h q s.a1 s.n1 s.a2 s.n2 s.a3 s.n3
def QS.l (s:QS)(q:Qy):List Value:=[vsl s.a1 s.n1 s.c1,vsl s.a2 s.n2 s.c2,vsl s.a3 s.n3 s.c3,vi q.size,vi q.slide,vi q.delay,vi q.late]
def StT (B p:Hp)(gt:Nat)(sv:List Rw)(pre:List Value):Prop:=∃(hN:Hp)(ar:OaT)(cr:Nat),B.le p/\p gt=some (Qb (pre++[vsl ar sv.length cr]) 123)/\B gt=none/\hN.le p/\hN gt=none/\Ke Qu Zj hN ar sv.length (sv.map YF)
def XF (q:Qy)(B h:Hp)(s:QS)(gs gd gt ge:Nat)(D:HpT)(st:En)(sv:List Rw):Prop:=
 ∃ pT pE pD:Hp,Par B h [pT,pE,pD]/\StT B pT gt sv (s.l q++[vhp gs 0,vhp gd 0,vhp ge 0])/\W9 q B pE ge st/\D pD
section
variable {q:Qy}{B h:Hp}{s:QS}{gs gd gt ge:Nat}{D:HpT}{st:En}{sv:List Rw}
theorem XF.le0 (X:XF q B h s gs gd gt ge D st sv):B.le h:=by
 obtain⟨pT,pE,pD,P,_⟩:=X;exact P.z
theorem XF.le {h':Hp}(X:XF q B h s gs gd gt ge D st sv)(l:h.le h'):XF q B h' s gs gd gt ge D st sv:=by
 obtain⟨pT,pE,pD,P,S,E,hD⟩:=X;exact⟨pT,pE,pD,P.grow l,S,E,hD⟩
theorem Jl {α:Type}{l:List α}{i:Nat}{d:α}(h:i<l.length):l.getD i d ∈ l:=by
 rw [bI,bD h]
 exact cM h
theorem Qm2 {α:Type}{l:List α}{i:Nat}{d:α}(h:i<l.length):l[i]?=some (l.getD i d):=by
 rw [bI,bD h]
 rfl
theorem Qkh {L:List (List EvL)}{F:NpT}{h':Hp}(S:KZ gs L h F)(l:h.le h'):KZ gs L h' F:=(QnB gs L).keep S fun b hb o ho=>l b o ho
theorem Qg1 {parts:Nat}(Z:EnZ q parts st)(h3:parts<=3)(h40:∀ x ∈ st.rd,x<=40)(Bq:QOk q):(st.rows.map YF).length<=1000000/\∀ x ∈ st.rows.map YF,x.2.length<=1000:=by
 have hs:st.rd.sum<=120:=by have:=Qak st.rd h40;rw [Z.b.rl] at this;omega
 have hw:=Z.b.wl;refine⟨by rw [bQ];omega,fun x hx=>?_⟩
 obtain⟨w,hw2,rfl⟩:=cZ.1 hx;have:=Z.b.wo w hw2;have:=Bq.n2;show w.2.2.length<=1000;omega
theorem Qeh {h0:Hp}{Ls:List Hp}{a:OaT}{n c:Nat}{W:List Rw}{R:RtT}(P:Par h0 h Ls)(G:Ke Qu Zj h a n (W.map YF))(hn:(W.map YF).length<=1000000)(hx:∀ x ∈ W.map YF,x.2.length<=1000)
  (hK:∀ a' c' h' hN p,h.le h'->Par h0 h' (p :: Ls)->hN.le p->(∀ b,h b≠none->hN b=none)->(∀ b o,h' b=some o->h b=none->p b=some o)->W.length<=c'->Ke Qu Zj hN a' W.length (W.map YF)->R (vsl a' W.length c') h'):Qa Pg 58 [vsl a n c] h R:=by
 have hnn:n=W.length:=by obtain⟨RW,_,hnl,_⟩:=G;rw [hnl,bQ]
 refine UB G hn hx fun a' c' h' hN l' lN hnew hcap G'=>?_
 rw [hnn] at G' hcap ⊢;obtain⟨p,lp,P',kp,_⟩:=P.fresh.adopt (i:=0) rfl l';refine hK a' c' h' hN p l' P' (fun b o ho=>?_) hnew kp hcap G'
 refine kp b o (lN b o ho) ?_
 cases hb:h b with
 | none=>rfl
 | some o'=>have:=hnew b (by rw [hb];simp);rw [this] at ho;cases ho
set_option maxHeartbeats 400000 in
theorem Mm {F F0S:NpT}{sd:DK}{n e:Nat}{t:LuT}{L:List (List EvL)}{R:RtT}(V:YE B h F gd sd n e t)(Q:s.At B q)(Qk:QOk q)(Sr:KZ gs L B F0S)(T:Uk B)(E:MD B)(M:Qdh B)(h1:1<=L.length)(h3:L.length<=3)
  (Z:EnZ q L.length st) (h40:∀ x ∈ st.rd,x<=40) (ht:(t=[]/\st=Ja L.length)\/(t≠[]/\t=WO (Qd q) st))
  (hK:∀ gt ge h',XF q B h' s gs gd gt ge (fun p=>YE B p F gd sd n e t) st st.rows->R (Qf [vhp gt 0,ifv none]) h'):Qa Pg 18 [vag (s.l q),vhp gs 0,vhp gd 0] h R:=by
 refine Qed ?_
 refine KJ (Qkh Sr V.le) ⟨_,rfl,?_⟩
 refine(Par.one V.le).fresh.call (i:=0) rfl (NH Q Qk (fun hb=>absurd ⟨by omega,by omega⟩ hb) fun _ _ g h5 l5 X5=>⟨l5,fun h5' P5=>?_⟩)
 rw [bF] at X5;refine⟨some ⟨g,0,none⟩,none,rfl,fun e=>(by cases e),fun _=>?_⟩
 have l5':h.le h5':=P5.last (i:=1) rfl;refine(V.grow l5').read ⟨_,_,rfl,fun e=>(by cases e),fun _=>?_⟩
 refine⟨_,Uc (b:=[]),?_⟩
 intro J24;have hJ:∀(g':Nat)(h' pE:Hp),Par B h' [pE,h]->W9 q B pE g' st->J24 (some ⟨g',0,none⟩) h':=by
  intro g' h' pE P' X';obtain⟨a1,n1,c1,a2,n2,c2,a3,n3,c3,qf,ak,nk,ck,ar,cr,ac,cc,tb,tc,aw,cw,RP,k1,s1,s2,g1,tb1,eP⟩:=(X'.le (P'.last (i:=0) rfl)).seen;obtain⟨r1,r2⟩:=Qg1 Z h3 h40 Qk;refine⟨g',0,rfl,_,_,_,Qc k1 rfl,?_⟩
  refine Qeh P' g1 r1 r2 fun a4 c4 h32 hN p l32 P32 lN hnew kp _ G'=>⟨_,_,_,rfl,?_⟩
  intro b34 hb34 h35;have l35:h32.le h35:=qQ (qO h32) hb34 _;have hc:h35 b34=some (Qb (s.l q++[vhp gs 0,vhp gd 0,vhp g' 0]++[vsl a4 st.rows.length c4]) 123):=qK _ _ _;clear_value h35;obtain⟨p2,lp2,P35,kp2,_⟩:=P32.adopt (i:=0) rfl l35;refine hK b34 g' h35 ⟨p2,pE,h,P35,⟨hN,a4,c4,(P35.at (i:=0) rfl).1,kp2 b34 _ hc hb34,?_,qP lN lp2,?_,G'⟩,X',V⟩
  ·exact qR P32.z hb34
  ·exact qR (qP lN (P32.at (i:=0) rfl).2) hb34
 clear_value J24;rcases ht with ⟨rfl,rfl⟩|⟨hne,rfl⟩
 ·refine⟨fun e=>(by cases e),fun _=>hJ g h5' h5 P5 X5⟩
 ·rw [cO hne];refine⟨fun _=>?_,fun e=>(by cases e)⟩
  refine KJ (Qkh Sr P5.z) ⟨_,rfl,?_⟩
  refine P5.fresh.call (i:=0) rfl (QmM Q Qk Z h1 h3 h40 T E M fun g' h19 l19 X19=>⟨l19,fun h' P'=>⟨some ⟨g',0,none⟩,none,rfl,fun e=>(by cases e),fun _=>?_⟩⟩)
  refine hJ g' h' h19 (P'.sub (L':=[h19,h]) ?_) X19
  exact List.Sublist.cons_cons _ (List.Sublist.cons _ (jH _))
theorem XF.see (X:XF q B h s gs gd gt ge D st sv):∃(ar:OaT)(cr:Nat),h gt=some (Qb (s.l q++[vhp gs 0,vhp gd 0,vhp ge 0]++[vsl ar sv.length cr]) 123)/\Ke Qu Zj h ar sv.length (sv.map YF)/\W9 q B h ge st:=by
 obtain⟨pT,pE,pD,P,⟨hN,ar,cr,z,k,_,lN,_,G⟩,X,_⟩:=X;have lT:=P.last (i:=0) rfl;exact⟨ar,cr,lT _ _ k,G.le (qP lN lT),X.le (P.last (i:=1) rfl)⟩
theorem QeU {h0:Hp}{Ls:List Hp}{R:RtT}(X:XF q B h s gs gd gt ge D st sv)(P:Par h0 h Ls)(hn:(sv.map YF).length<=1000000)(hx:∀ x ∈ sv.map YF,x.2.length<=1000)
  (hK:∀ a c h' hN p,h.le h'->Par h0 h' (p :: Ls)->hN.le p->sv.length<=c->Ke Qu Zj hN a sv.length (sv.map YF)->R (vsl a sv.length c) h'):Qa Pg 22 [vhp gt 0] h R:=by
 refine VK ?_
 obtain⟨ar,cr,k,G,_⟩:=X.see;refine⟨_,_,_,Qc k rfl,?_⟩
 exact Qeh P G hn hx fun a' c' h' hN p l' P' lN _ _ hc G'=>⟨_,_,_,rfl,hK a' c' h' hN p l' P' lN hc G'⟩
theorem Qbt {R:RtT}(X:XF q B h s gs gd gt ge D st sv)(hn:st.rows.length<=1000000)(hs:sv.length<=1000000)(hK:R (vi ((st.rows.length:Int)-sv.length)) h):Qa Pg 23 [vhp gt 0] h R:=by
 refine Us ?_
 obtain⟨ar,cr,k,G,X⟩:=X.see;obtain⟨a1,n1,c1,a2,n2,c2,a3,n3,c3,qf,ak,nk,ck,ar',cr',ac,cc,tb,tc,aw,cw,RP,k1,s1,s2,g1,tb1,eP⟩:=X.seen;have hl:(st.rows.map YF).length=st.rows.length:=bQ _;exact⟨_,Qc k rfl,ge,0,rfl,_,_,_,Qc k1 rfl,_,_,_,Qc k rfl,_,isW (by rw [hl];unfold InR;omega),by rw [hl];exact hK⟩
theorem Mo {R:RtT}(X:XF q B h s gs gd gt ge D st sv)(hK:R (vi (st.late:Nat)) h):Qa Pg 26 [vhp gt 0] h R:=by
 refine VV ?_
 obtain⟨ar,cr,k,G,X⟩:=X.see;obtain⟨a1,n1,c1,a2,n2,c2,a3,n3,c3,qf,ak,nk,ck,ar',cr',ac,cc,tb,tc,aw,cw,RP,k1,s1,s2,g1,tb1,eP⟩:=X.seen;exact⟨_,Qc k rfl,ge,0,rfl,_,Qc k1 rfl,hK⟩
theorem Qd3 {R:RtT}(X:XF q B h s gs gd gt ge D st sv)(hn:st.far.length<=1000)(hl:∀ x ∈ st.far,-1<=x/\x<=9999)(hd:0<=q.delay/\q.delay<=1000)(hK:R (Qf [vi (Zm q.delay st.far).1,vb (Zm q.delay st.far).2]) h):Qa Pg 19 [vhp gt 0] h R:=by
 refine VL ?_
 obtain⟨ar,cr,k,G,X⟩:=X.see;obtain⟨a1,n1,c1,a2,n2,c2,a3,n3,c3,qf,ak,nk,ck,ar',cr',ac,cc,tb,tc,aw,cw,RP,k1,s1,s2,g1,tb1,eP⟩:=X.seen;exact⟨_,Qc k rfl,ge,0,rfl,_,_,_,QO k1 (bP rfl),_,Qc k rfl,QaM s2 hn hl hd ⟨_,_,rfl,hK⟩⟩
theorem GO {F0S:NpT}{L:List (List EvL)}{parts:Nat}{p:Int}{R:RtT}(X:XF q B h s gs gd gt ge D st sv)(Qk:QOk q)(Sr:KZ gs L B F0S)(hL:L.length=parts)(h3:parts<=3)(Z:EnZ q parts st)(h40:∀ x ∈ st.rd,x<=40)(hE:∀ l ∈ L,∀ e ∈ l,Yb e)
  (hNo:¬(0<=p/\p<parts)->R (ifv (QA 5)) h) (hEnd:0<=p->p<parts->¬ st.rd.getD p.toNat 0<(L.getD p.toNat []).length->R (ifv (QA 8)) h)
  (hK:∀ h',0<=p->p<parts->st.rd.getD p.toNat 0<(L.getD p.toNat []).length->XF q B h' s gs gd gt ge D (Xv q p.toNat ((L.getD p.toNat []).getD (st.rd.getD p.toNat 0) (0,(0,0),(0,0),(0,0))) st) sv->R (ifv (QA 0)) h'):Qa Pg 16 [vhp gt 0,vi p] h R:=by
 refine VP ?_
 obtain⟨ar,cr,k,G,X2⟩:=X.see;have Srh:=Qkh Sr X.le0;refine⟨some ⟨gs,0,none⟩,fun _=>Qc k rfl,fun x hh=>hh=h/\(decide (p<0)=false->x=.t (.one (.v (vi (L.length:Nat))))),fun _=>KJ Srh ⟨_,rfl,rfl,fun _=>rfl⟩,fun e=>⟨rfl,fun q'=>absurd q' e⟩,?_⟩
 rintro h6 x7 ⟨rfl,hx⟩;have hx':¬ p<0->x7=(parts:Nat):=fun hp=>by
  have:=hx (cO hp);cases this;rw [hL]
 refine⟨fun e=>?_,fun e=>?_⟩
 ·refine hNo fun⟨q1,q2⟩=>?_
  rw [hx' (by omega),cO (show ¬ p<0 by omega),cO (show ¬ p>=(parts:Nat) by omega)] at e
  cases e
 ·obtain⟨e1,e2⟩:=YP e;have e1:=bB e1;have e2:=bB e2;rw [hx' e1] at e2;clear e hx hx';obtain⟨k',rfl⟩:=pL (show 0<=p by omega)
  have hk:k'<parts:=by omega
  obtain⟨a1,n1,c1,a2,n2,c2,a3,n3,c3,qf,ak,nk,ck,ar',cr',ac,cc,tb,tc,aw,cw,RP,k1,s1,s2,g1,tb1,eP⟩:=X2.seen;have hrl:=Z.b.rl;obtain⟨b,o,ea,hc⟩:=s1.get (i:=k') (by omega)
  have hg:(st.rd.map fun n:Nat=>(n:Int)).getD k' 0=((st.rd.getD k' 0:Nat):Int):=by rw [bI,bI,cC,bD (by omega)];rfl
  rw [hg] at hc;refine⟨_,Qc k rfl,_,Qc k rfl,ge,0,rfl,_,_,_,Qc k1 rfl,b,o,⟨ea,by omega,by omega⟩,_,by rw [bF];exact hc,?_⟩
  refine QfT Srh ?_
  unfold Qid;by_cases hlt:st.rd.getD k' 0<(L.getD k' []).length
  ·rw [bE (by rw [bF];omega)]
   rw [bF,bF];generalize hev:(L.getD k' []).getD (st.rd.getD k' 0) (0,(0,0),(0,0),(0,0))=ev;have hE':Yb ev:=by
    rw [<-hev];exact hE _ (Jl (by omega)) _ (Jl hlt)
   refine⟨_,_,_,_,_,_,_,_,rfl,fun e=>(by cases e),fun _=>?_⟩
   refine⟨_,Qc k rfl,?_⟩
   obtain⟨pT,pE,pD,P,S,XE,hD⟩:=X;have hs:st.rd.sum<=120:=by
    have:=Qak st.rd h40;rw [Z.b.rl] at this;omega
   refine P.call (i:=1) rfl (Jq (e:=ev) XE Qk hE' Z.b (by omega) hk (by omega) fun p' lp X'=>⟨lp,fun h' P'=>⟨rfl,?_⟩⟩)
   refine hK h' (by omega) (by omega) (by rw [bF];exact hlt) ?_
   rw [bF,hev];exact⟨pT,p',pD,P',S,X',hD⟩
  ·rw [bJ (by simp only [bF];omega)]
   refine⟨_,_,_,_,_,_,_,_,rfl,fun _=>?_,fun e=>(by cases e)⟩
   exact hEnd (by omega) (by omega) (by rw [bF];exact hlt)
theorem Gr {F:NpT}{sd:DK}{n e parts:Nat}{t:LuT}{R:RtT}(X:XF q B h s gs gd gt ge (fun p=>YE B p F gd sd n e t) st sv)(Qk:QOk q)(T:Uk B)(h1:1<=parts)(h3:parts<=3)(Z:EnZ q parts st)(h40:∀ x ∈ st.rd,x<=40)(he:e+1<4294967296)
  (hBig:¬(WO (Qd q) st).length<=(n-2) / 2*256->∀ h' F',XF q B h' s gs gd gt ge (fun p=>YE B p F' gd sd n e t) st sv->R (ifv (QA 6)) h')
  (hK:∀ h' F' sd',XF q B h' s gs gd gt ge (fun p=>YE B p F' gd sd' n (e+1) (WO (Qd q) st)) st st.rows->(sd.fuse=-1->sd'.fuse=-1)->R (ifv (QA 0)) h')
  (hF:∀ h' F' sd',Qn1 B h' F' gd sd' n e t (WO (Qd q) st)->sd'.wait.length<=900000->sd.fuse≠-1->R (ifv (QA 7)) h'):Qa Pg 17 [vhp gt 0] h R:=by
 refine V4 ?_
 obtain⟨ar,cr,k,G,X2⟩:=X.see;have H:=Z.sho h1 h3 h40;refine⟨_,Qc k rfl,_,Qc k rfl,?_⟩
 refine Qg3 X2 Qk H (T.le X.le0) fun h4 l4=>⟨_,rfl,Qc (l4 _ _ k) rfl,?_⟩
 have X4:=X.le l4;clear k G X2 ar cr X;obtain⟨pT,pE,pD,P,⟨hN,ar,cr,z,k,kB,lN,kN,G⟩,XE,V⟩:=X4;obtain⟨sl,sw⟩:=Qej H (by rw [Qw];exact Qk.n2)
 have hlt:(WO (Qd q) st).length<=15*(XL (Qd q) st).length:=Qiu (by decide) _ sw
 have hsum:st.rd.sum<=120:=by have:=Qak st.rd h40;rw [Z.b.rl] at this;omega
 have hpl:=Z.b.pl;have hwl:=Z.b.wl;have hbig:(WO (Qd q) st).length<=1000000:=by
  have:=QcT H (by rw [Qw];exact Qk.n2)
  omega
 by_cases hr:(WO (Qd q) st).length<=(n-2) / 2*256
 ·refine P.call (i:=2) rfl (V.write he hbig hr (fun p' F' sd' V' hf=>⟨V'.le,fun h7 P7=>?_⟩) fun p' F' sd' V' hw hf=>⟨V'.le,fun h7 P7=>?_⟩)
  ·refine⟨none,rfl,?_⟩
   intro J19;refine⟨fun _=>?_,fun e=>(by cases e)⟩
   have kT:=(P7.last (i:=0) rfl) _ _ k;have XE7:=XE.le (P7.last (i:=1) rfl);obtain⟨a1,n1,c1,a2,n2,c2,a3,n3,c3,qf,ak,nk,ck,ar',cr',ac,cc,tb,tc,aw,cw,RP,k1,s1,s2,g1,tb1,eP⟩:=XE7.seen;obtain⟨r1,r2⟩:=Qg1 Z h3 h40 Qk;refine⟨_,Qc kT rfl,ge,0,rfl,_,_,_,Qc k1 rfl,?_⟩
   refine UB g1 r1 r2 fun a4 c4 h14 hN2 l14 lN2 hnew _ G'=>⟨_,_,_,rfl,?_⟩
   have hrl:(st.rows.map YF).length=st.rows.length:=bQ _;rw [hrl] at G' ⊢;obtain⟨pT',lT',P14,kp,_⟩:=P7.adopt (i:=0) rfl l14;have kT14:=lT' _ _ k;have hg14:h14 gt=some _:=l14 _ _ kT;have hNg:hN2 gt=none:=hnew gt (by rw [kT];simp)
   have lNT:hN2.le pT':=fun b o ho=>by
    refine kp b o (lN2 b o ho) ?_
    cases hb:h7 b with
    | none=>rfl
    | some o'=>have:=hnew b (by rw [hb];simp);rw [this] at ho;cases ho
   refine Zu hg14 (by simp only [dV,bO,QS.l,cH,fB];omega) ?_
   have hset:QP (s.l q++[vhp gs 0,vhp gd 0,vhp ge 0]++[vsl ar sv.length cr]) (0+10) [vsl a4 st.rows.length c4]=s.l q++[vhp gs 0,vhp gd 0,vhp ge 0]++[vsl a4 st.rows.length c4]:=rfl;rw [hset];have P16:=P14.store (i:=0) rfl (g:=gt) (by rw [kT14];simp) kB (Qb (s.l q++[vhp gs 0,vhp gd 0,vhp ge 0]++[vsl a4 st.rows.length c4]) 123)
   refine hK _ F' sd' ⟨_,pE,p',P16,⟨hN2,a4,c4,(P16.at (i:=0) rfl).1,qK _ _ _,kB,fun b o ho=>?_,hNg,G'⟩,XE,V'⟩ hf
   have hb:b≠gt:=fun q=>by rw [q,hNg] at ho;cases ho
   rw [qL _ _ hb];exact lNT b o ho
  ·refine⟨_,rfl,?_⟩
   intro J19;refine⟨fun e=>(by cases e),fun _=>?_⟩
   refine hF h7 F' sd' ⟨P7.z,V'.nw,V'.p.le (P7.last (i:=2) rfl),V'.D,V'.S⟩ hw hf
 ·refine P.call (i:=2) rfl (V.writeBig hbig hr fun p' F' V'=>⟨V'.le,fun h7 P7=>⟨_,rfl,?_⟩⟩)
  intro J19;refine⟨fun e=>(by cases e),fun _=>?_⟩
  exact hBig hr h7 F' ⟨pT,pE,p',P7,⟨hN,ar,cr,z,k,kB,lN,kN,G⟩,XE,V'⟩
end
def Qj9 (y:Int × EvL):List Value:=vi y.1 :: Xk y.2
theorem Qeu (y:Int × EvL):(Qj9 y).length=8:=rfl
theorem SlP.evU {h:Hp}{a:OaT}{n:Nat}{l:List (Int × EvL)}(S:SlP Qj9 h a n l){i:Nat}{y:Int × EvL}(hx:l[i]?=some y):∃ b o,a=some ⟨b,o,none⟩/\h.cell b (o+i*8)=some (vi y.1)/\h.row b (o+i*8+1) 7=some (Xk y.2):=by
 obtain⟨b,o,ea,hr⟩:=S.get Qeu (by decide) hx
 exact⟨b,o,ea,qT hr (i:=0) rfl,qU hr (i:=1) (k:=7) (by decide)⟩
theorem Qdm {u0:OaT}{u1 u2:Nat}{u3:OaT}{u4 u5:Nat}{u6:OaT}{u7 u8:Nat}{u9:Int}{u10:Int}{u11:Int}{u12:Int}{u13:Int}{u14:OaT}{u15 u16:Nat}{h:Hp}{R:RtT}(H:Qa Pg 41 [vi u13] h fun v1 h2=>∃ q3 e4,v1=Qf [vp q3,ifv e4]/\Qa Pg 42 [vi 160] h2 fun v5 h6=>∃ q7 e8,v5=Qf [vp q7,ifv e8]/\∃ p9,((cond (Option.isSome e4) true (Option.isSome e8))=false->RdG .eql 33 (.tmp 32) (.const (vp none)) (vp q3) (vp none) h6 (vb p9))/\∃ p10,((cond (cond (Option.isSome e4) true (Option.isSome e8)) true p9)=false->RdG .eql 34 (.tmp 36) (.const (vp none)) (vp q7) (vp none) h6 (vb p10))/\∃(J11:ShT),((cond (cond (cond (Option.isSome e4) true (Option.isSome e8)) true p9) true p10)=false->Qa Pg 43 [vp q7] h6 fun v12 h13=>∃ e14,v12=ifv e14/\J11 (.t (.one (.ifc e14))) h13)/\(¬((cond (cond (cond (Option.isSome e4) true (Option.isSome e8)) true p9) true p10)=false)->J11 (.t (.one (.ifc none))) h6)/\∀ h15 e16,J11 (.t (.one (.ifc e16))) h15->((cond (cond (cond (cond (Option.isSome e4) true (Option.isSome e8)) true p9) true p10) true (Option.isSome e16))=true->R (Qf [vp none,vp none,vp none,vb false]) h15)/\((cond (cond (cond (cond (Option.isSome e4) true (Option.isSome e8)) true p9) true p10) true (Option.isSome e16))=false->∃(I19:LtT)(m20:LmT),I19 [vi 0] h15/\∀ vs21 h22,I19 vs21 h22->∃ x23,vs21=[vi x23]/\((decide (x23<(u15:Int)))=true->∃ b26 o27,Ix u14 b26 o27 x23 u15/\∃ x28,Hp.cell h22 b26 (o27+x23.toNat*8)=some (vi x28)/\∃ b29 o30,Ix u14 b29 o30 x23 u15/\∃ x31 x32 x33 x34 x35 x36 x37,Hp.row h22 b29 ((o30+x23.toNat*8)+1) 7=some [vi x31,vi x32,vi x33,vi x34,vi x35,vi x36,vi x37]/\Qa Pg 44 [vp q3,vi x28,vag [vi x31,vi x32,vi x33,vi x34,vi x35,vi x36,vi x37]] h22 fun v38 h39=>∃ e40,v38=ifv e40/\∃ x42,IsW x42 (x23+1)/\I19 [vi x42] h39/\m20 [vi x42] h39<m20 vs21 h22)/\((decide (x23<(u15:Int)))=false->Qa Pg 18 [vag [vsl u0 u1 u2,vsl u3 u4 u5,vsl u6 u7 u8,vi u9,vi u10,vi u11,vi u12],vp q3,vp q7] h22 fun v43 h44=>∃ q45 e46,v43=Qf [vp q45,ifv e46]/\∃ p47,((Option.isNone e46)=true->RdG .neq 35 (.tmp 75) (.const (vp none)) (vp q45) (vp none) h44 (vb p47))/\R (Qf [vp q3,vp q7,vp q45,(vb (cond (Option.isNone e46) p47 false))]) h44))):Qa Pg 10 [vag [vsl u0 u1 u2,vsl u3 u4 u5,vsl u6 u7 u8,vi u9,vi u10,vi u11,vi u12],vi u13,vsl u14 u15 u16] h R:=callC ⟨[],[(6,([14],[.one (.int .i64)],[]))],[(8,[0,1,2,3,4,5,6,7,8,9,10,11])]⟩ Tryz.func10 [.ag [.v (vsl u0 u1 u2),.v (vsl u3 u4 u5),.v (vsl u6 u7 u8),.v (vi u9),.v (vi u10),.v (vi u11),.v (vi u12)],.one (.v (vi u13)),.one (.v (vsl u14 u15 u16))] H
theorem QoK {P:Program}{h:Hp}{ts:Array TypeId}{t:TypeId}{a b:Int}:Rd P (Builtin.min_ ts t #[vi a,vi b]) h (vi (min a b)):=by
 intro w _;rw [run_min_int2];congr 2
 split<;>omega
theorem Qci (k:Int):∀(w:List (Int × LuT))(i:Nat)(l:List (LuT)),(∀ x ∈ w,x.2.length=256)->(∀ x ∈ l,x.length=256)->∀ x ∈ Yg k i w l,x.length=256
 | [],i,l,_,hl=>hl
 | t :: w,i,l,hw,hl=>by
  rw [Yg];refine Qci k w (i+1) _ (fun x hx=>hw x (bT _ hx)) ?_
  split
  ·intro x hx;rcases QlC hx with h1|h1
   ·exact hl x h1
   ·rw [h1];exact hw t bY
  ·exact hl
theorem DOK.restart {s:DK}{n:Nat}(D:DOK s n)(k:Int):DOK (Y9 s k) n:=
 ⟨⟨by show (Yg k 0 s.wait s.kept).length=n;rw [WG];exact D.wf.k,by show (Yg k 0 s.wait s.kept).length=n;rw [WG];exact D.wf.k,(fun x hx=>absurd hx dB),by simp [Y9],by simp [Y9],D.wf.n1,D.wf.n2⟩,Qci k _ 0 _ D.l3 D.l2,Qci k _ 0 _ D.l3 D.l2,(fun x hx=>absurd hx dB)⟩
def YU (L:List (List EvL))(l:List (Int × EvL)):List (List EvL):=l.foldl (fun L y=>(Up L y.1 y.2).1) L
theorem Qmy (L:List (List EvL))(p:Int)(e:EvL):(Up L p e).1.length=L.length:=by
 unfold Up;repeat' split
 all_goals simp
theorem Qop {L:List (List EvL)}(hs:∀ l ∈ L,l.length<=40)(p:Int)(e:EvL):∀ l ∈ (Up L p e).1,l.length<=40:=by
 unfold Up;split
 ·exact hs
 ·split
  ·exact hs
  ·split
   ·exact hs
   ·rename_i h1 h2 h3;intro l hl;rcases gD hl with h|h
    ·exact hs l h
    ·have hp:p.toNat<L.length:=by omega
     have hm:L.getD p.toNat [] ∈ L:=by rw [bI,bD hp];exact cM _
     have:=hs _ hm;rw [h,bO,dV];omega
theorem QoC {L:List (List EvL)}(hs:∀ l ∈ L,∀ e ∈ l,Yb e)(p:Int)(e:EvL):∀ l ∈ (Up L p e).1,∀ e ∈ l,Yb e:=by
 unfold Up;split
 ·exact hs
 ·split
  ·exact hs
  ·split
   ·exact hs
   ·rename_i h1 h2 h3;intro l hl x hx;rcases gD hl with h|h
    ·exact hs l h x hx
    ·rw [h] at hx;rcases bU.1 hx with h4|h4
     ·have hp:p.toNat<L.length:=by omega
      have hm:L.getD p.toNat [] ∈ L:=by rw [bI,bD hp];exact cM _
      exact hs _ hm x h4
     ·rw [cD.1 h4];exact Qbf (by omega)
theorem Qc6 (L:List (List EvL))(l:List (Int × EvL))(y:Int × EvL):YU L (l++[y])=(Up (YU L l) y.1 y.2).1:=by
 unfold YU;rw [fM];rfl
theorem QgH {L:List (List EvL)}(h0:∀ l ∈ L,l.length<=40)(h1:∀ l ∈ L,∀ e ∈ l,Yb e)(l:List (Int × EvL)):(YU L l).length=L.length/\(∀ x ∈ YU L l,x.length<=40)/\∀ x ∈ YU L l,∀ e ∈ x,Yb e:=by
 induction l using Y0 with
 | h0=>exact⟨rfl,h0,h1⟩
 | h1 l y ih=>
  rw [Qc6];exact⟨(Qmy _ _ _).trans ih.1,Qop ih.2.1 _ _,QoC ih.2.2 _ _⟩
section
variable {h:Hp}
theorem MQ {P:Program}{t e:TypeId}(ht:P.underlying t=some (.pointer e)){x y:Operand}{p:OaT}:Rd P (eqGuard .eql t x y (vp p) (vp none) >>= fun _=>binOp .eql t (vp p) (vp none)) h (vb p.isNone):=by
 intro w _;have:=run_eql_pointer_nil (P:=P) w t p (by simp [Program.pointee,ht])
 simp [eqGuard,this]
theorem Qfr {P:Program}{t e:TypeId}(ht:P.underlying t=some (.pointer e)){x y:Operand}{p:OaT}:Rd P (eqGuard .neq t x y (vp p) (vp none) >>= fun _=>binOp .neq t (vp p) (vp none)) h (vb (!p.isNone)):=by
 intro w _;have:=run_neq_pointer_nil (P:=P) w t p (by simp [Program.pointee,ht])
 simp [eqGuard,this]
set_option maxHeartbeats 400000 in
theorem Qde {q:Qy}{s:QS}{n m:Nat}{a:OaT}{c:Nat}{l:List (Int × EvL)}{R:RtT}(Q:s.At h q)(Qk:QOk q)(T:Uk h)(E:MD h)(M:Qdh h)(S:SlP Qj9 h a m l)(hm:m<=1000000)(h1:1<=n)(h3:n<=3)
  (hK:∀ B h' gs gd gt ge F F0S sd,h.le B->KZ gs (YU (List.replicate n []) l) B F0S->XF q B h' s gs gd gt ge (fun p=>YE B p F gd sd 160 2 []) (Ja n) []->sd.fuse=-1->R (Qf [vhp gs 0,vhp gd 0,vhp gt 0,vb true]) h'):Qa Pg 10 [vag (s.l q),vi n,vsl a m c] h R:=by
 refine Qdm ?_
 have P0:Par h h []:=Par.nil (qO h);refine P0.fresh.call (i:=0) rfl (QfC (fun hb=>absurd ⟨by omega,by omega⟩ hb) fun _ _ gs hS F0 lS nS DS=>⟨lS,fun h2 P2=>?_⟩)
 rw [bF] at DS;refine⟨some ⟨gs,0,none⟩,none,rfl,?_⟩
 refine P2.fresh.call (i:=0) rfl (QjD (fun hb=>absurd ⟨by decide,by decide⟩ hb) fun _ _ gd hD F1 lD nD DD=>⟨lD,fun h6 P6=>?_⟩)
 rw [show (160:Int).toNat=160 from rfl] at DD
 refine⟨some ⟨gd,0,none⟩,none,rfl,_,fun _=>MQ (e:=105) (by kernel_rfl),_,fun _=>MQ (e:=188) (by kernel_rfl),?_⟩
 refine⟨fun x hh=>∃(F:NpT)(sd:DK)(pD:Hp),x=.t (.one (.ifc none))/\sd.fuse=-1/\YE h pD F gd sd 160 2 []/\Par h hh [pD,hS],fun _=>?_,fun e=>absurd rfl e,?_⟩
 ·refine P6.call (i:=0) rfl (QkO lD nD DD (by decide) (by decide) (by decide) fun p' F' sd V hf=>⟨V.le,fun h13 P13=>⟨none,rfl,F',sd,p',rfl,hf,V,P13⟩⟩)
 rintro h15 e16 ⟨F,sd,pD,e,hf,V,P15⟩;cases e;refine⟨fun e=>(by cases e),fun _=>?_⟩
 have hml:=S.1;have p0:∀ l' ∈ List.replicate n ([]:List EvL),l'.length<=40:=fun l' hl'=>by rw [fQ hl'];exact cE _
 have p1:∀ l' ∈ List.replicate n ([]:List EvL),∀ e ∈ l',Yb e:=fun l' hl'=>by rw [fQ hl'];simp
 refine⟨fun vs hh=>∃(i:Nat)(pS:Hp)(F0:NpT),vs=[vi i]/\i<=m/\Par h hh [pD,pS]/\KZ gs (YU (List.replicate n []) (l.take i)) pS F0/\∀ b,F0 b->h b=none,fun vs hh=>m-(Qo vs 0).toNat,⟨0,hS,F0,rfl,cE _,P15,DS,nS⟩,?_⟩
 clear P15 DS nS lS;clear F0;rintro vs hh ⟨i,pS,F0,rfl,hi,P,DS,nS⟩;refine⟨_,rfl,fun e=>?_,fun e=>?_⟩
 ·have hlt:i<m:=by have:=bC e;omega
  have hx:l[i]?=some l[i]:=bD (by omega)
  have tk:l.take (i+1)=l.take i++[l[i]]:=bL (by omega)
  obtain⟨b,o,ea,hc,hr⟩:=SlP.evU (S.le P.z) hx;generalize l[i]=y at *
  refine⟨b,o,⟨ea,by omega,by omega⟩,_,by rw [bF];exact hc,b,o,⟨ea,by omega,by omega⟩,_,_,_,_,_,_,_,by rw [bF];exact hr,?_⟩
  refine P.call (i:=1) rfl (Qf9 DS (QgH p0 p1 _).2.1 fun p' F' D' M'=>?_)
  obtain⟨q1,q2⟩:=M'.old (P.at (i:=1) rfl).1 nS;refine⟨q1,fun h39 P39=>⟨_,rfl,_,iW,⟨i+1,p',F',rfl,by omega,P39,?_,q2⟩,by simp [Qo];omega⟩⟩
  rw [tk,Qc6];exact D'
 ·have hge:i=m:=by have:=bB e;omega
  have ht:l.take i=l:=cY (by omega)
  rw [ht] at DS;have hSle:=(P.at (i:=1) rfl).1;obtain⟨r,Pr,lr,hno⟩:=P.swap.rest;have V2:YE pS r F gd sd 160 2 []:=⟨(Pr.at (i:=0) rfl).1,fun b hb=>hno b (fun q=>V.p.al b hb q) (V.nw b hb),V.p.le lr,V.D,V.G,V.d⟩
  have hL:=QgH p0 p1 l;have hLn:(YU (List.replicate n []) l).length=n:=by rw [hL.1,dQ]
  have Z:=EnZ.new q n;rw [<-hLn] at Z h1 h3;refine Pr.call (i:=0) rfl (Mm V2 (Q.le hSle) Qk DS (T.le hSle) (E.le hSle) (M.le hSle) h1 h3 Z (fun x hx=>by unfold Ja at hx;rw [fQ hx];decide) (.inl ⟨rfl,rfl⟩) fun gt ge p' X=>⟨X.le0,fun h44 P44=>⟨some ⟨gt,0,none⟩,none,rfl,_,fun _=>Qfr (e:=123) (by kernel_rfl),?_⟩⟩)
  rw [hLn] at X;exact hK pS h44 gs gd gt ge F F0 sd hSle DS (X.le (P44.last (i:=0) rfl)) hf
end
theorem Qei {u0:OaT}{u1 u2:Nat}{u3:OaT}{u4 u5:Nat}{u6:OaT}{u7 u8:Nat}{u9:Int}{u10:Int}{u11:Int}{u12:Int}{u13:OaT}{u14 u15:Nat}{h:Hp}{R:RtT}(H:∀ b1,h b1=none->let h2:=Hp.set h b1 (Qb [vsl u0 u1 u2,vsl u3 u4 u5,vsl u6 u7 u8,vi u9,vi u10,vi u11,vi u12] 30);∃(I4:LtT)(m5:LmT),I4 [vsl none 0 0,vi 0] h2/\∀ vs6 h7,I4 vs6 h7->∃ a8 n8 c8 x9,vs6=[vsl a8 n8 c8,vi x9]/\((decide (x9<(u14:Int)))=true->∃(I13:LtT)(m14:LmT),I13 [vsl a8 n8 c8,vi 0] h7/\∀ vs15 h16,I13 vs15 h16->∃ a17 n17 c17 x18,vs15=[vsl a17 n17 c17,vi x18]/\∃ b19 o20,Ix u13 b19 o20 x9 u14/\∃ a21 n21 c21,Hp.cell h16 b19 (o20+x9.toNat*1)=some (vsl a21 n21 c21)/\((decide (x18<(n21:Int)))=true->∃ b24 o25,Ix u13 b24 o25 x9 u14/\∃ a26 n26 c26,Hp.cell h16 b24 (o25+x9.toNat*1)=some (vsl a26 n26 c26)/\∃ b27 o28,Ix a26 b27 o28 x18 n26/\∃ x29 x30 x31 x32 x33 x34 x35,Hp.row h16 b27 (o28+x18.toNat*7) 7=some [vi x29,vi x30,vi x31,vi x32,vi x33,vi x34,vi x35]/\∀ b36,h16 b36=none->let h37:=Hp.set h16 b36 (Qb [vi x9,vi x29,vi x30,vi x31,vi x32,vi x33,vi x34,vi x35] 90);Qh Pg (Builtin.append_ #[22,22] 22 #[vsl a17 n17 c17,(vsl (some ⟨b36,0,none⟩) 1 1)]) h37 fun v38 h39=>∃ a40 n40 c40,v38=vsl a40 n40 c40/\∃ x42,IsW x42 (x18+1)/\I13 [vsl a40 n40 c40,vi x42] h39/\m14 [vsl a40 n40 c40,vi x42] h39<m14 vs15 h16)/\((decide (x18<(n21:Int)))=false->∃ x43,IsW x43 (x9+1)/\I4 [vsl a17 n17 c17,vi x43] h16/\m5 [vsl a17 n17 c17,vi x43] h16<m5 vs6 h7))/\((decide (x9<(u14:Int)))=false->∃ a44 n44 c44 a45 n45 c45 a46 n46 c46 x47 x48 x49 x50,Hp.row h7 b1 0 7=some [vsl a44 n44 c44,vsl a45 n45 c45,vsl a46 n46 c46,vi x47,vi x48,vi x49,vi x50]/\Qa Pg 10 [vag [vsl a44 n44 c44,vsl a45 n45 c45,vsl a46 n46 c46,vi x47,vi x48,vi x49,vi x50],(vi (u14:Int)),vsl a8 n8 c8] h7 fun v51 h52=>∃ q53 q54 q55 p56,v51=Qf [vp q53,vp q54,vp q55,vb p56]/\∀ b57,h52 b57=none->let h58:=Hp.set h52 b57 (Qb [vp none] 33);∀ b59,h58 b59=none->let h60:=Hp.set h58 b59 (Qb [vp none] 34);Hp.store h60 b57 0 [vp q53] fun h61=>Hp.store h61 b59 0 [vp q54] fun h62=>((!p56)=true->R (Qf [vp none,vp none,Value.nilFunc,Value.nilFunc,vb false]) h62)/\((!p56)=false->∃ q64,Hp.cell h62 b57 0=some (vp q64)/\R (Qf [vp q64,vp q55,(Value.func (.func 66) #[] #[vhp b59 0,vhp b1 0,vhp b57 0]),(Value.func (.func 68) #[] #[vhp b59 0]),vb true]) h62))):Qa Pg 32 [vag [vsl u0 u1 u2,vsl u3 u4 u5,vsl u6 u7 u8,vi u9,vi u10,vi u11,vi u12],vsl u13 u14 u15] h R:=callC ⟨[13,2,12],[(6,([9,11],[.one (.slice),.one (.int .i64)],[])),(3,([9,10],[.one (.slice),.one (.int .i64)],[]))],[]⟩ Tryz.func32 [.ag [.v (vsl u0 u1 u2),.v (vsl u3 u4 u5),.v (vsl u6 u7 u8),.v (vi u9),.v (vi u10),.v (vi u11),.v (vi u12)],.one (.v (vsl u13 u14 u15))] H
theorem QbN {u0:Int}{f_0b f_0o:Nat}{f_1b f_1o:Nat}{f_2b f_2o:Nat}{h:Hp}{R:RtT}(H:∃ q1,Hp.cell h f_0b f_0o=some (vp q1)/\Qa Pg 67 [vp q1,(vk .u64 u0)] h fun v2 h3=>v2=Qf []/\∃ a4 n4 c4 a5 n5 c5 a6 n6 c6 x7 x8 x9 x10,Hp.row h3 f_1b f_1o 7=some [vsl a4 n4 c4,vsl a5 n5 c5,vsl a6 n6 c6,vi x7,vi x8,vi x9,vi x10]/\∃ q11,Hp.cell h3 f_2b f_2o=some (vp q11)/\∃ q12,Hp.cell h3 f_0b f_0o=some (vp q12)/\Qa Pg 18 [vag [vsl a4 n4 c4,vsl a5 n5 c5,vsl a6 n6 c6,vi x7,vi x8,vi x9,vi x10],vp q11,vp q12] h3 fun v13 h14=>∃ q15 e16,v13=Qf [vp q15,ifv e16]/\∃ p17,((Option.isNone e16)=true->RdG .neq 35 (.tmp 23) (.const (vp none)) (vp q15) (vp none) h14 (vb p17))/\R (Qf [vp q15,(vb (cond (Option.isNone e16) p17 false))]) h14):Qa Pg 66 [(vk .u64 u0),vhp f_0b f_0o,vhp f_1b f_1o,vhp f_2b f_2o] h R:=callO Tryz.func66 [.one (.v (vk .u64 u0)),.one (.hp f_0b f_0o),.one (.hp f_1b f_1o),.one (.hp f_2b f_2o)] H
theorem Qcc {u0:Int}{f_0b f_0o:Nat}{h:Hp}{R:RtT}(H:∃ q1,Hp.cell h f_0b f_0o=some (vp q1)/\∃ x2,Rd Pg (Builtin.max_ #[3,3] 3 #[vi u0,(vi (-1))]) h (vi x2)/\∃ x3,Rd Pg (Builtin.min_ #[3,3] 3 #[vi x2,vi 500]) h (vi x3)/\Qa Pg 69 [vp q1,vi x3] h fun v4 h5=>v4=Qf []/\R (Qf []) h5):Qa Pg 68 [vi u0,vhp f_0b f_0o] h R:=callO Tryz.func68 [.one (.v (vi u0)),.one (.hp f_0b f_0o)] H
theorem Qco {u0:ByteArray}{u1:OaT}{u2 u3:Nat}{u4:OaT}{u5 u6:Nat}{u7:Int}{h:Hp}{R:RtT}(H:Qa Pg 29 [] h fun v1 h2=>∃ p3,v1=vb p3/\((!p3)=true->R (vb false) h2)/\((!p3)=false->Qa Pg 30 [vs u0] h2 fun v5 h6=>∃ a7 n7 c7 a8 n8 c8 a9 n9 c9 x10 x11 x12 x13 p14,v5=Qf [vag [vsl a7 n7 c7,vsl a8 n8 c8,vsl a9 n9 c9,vi x10,vi x11,vi x12,vi x13],vb p14]/\∃(J15:ShT),((!p14)=false->Qa Pg 31 [vsl u1 u2 u3,vsl none 0 0] h6 fun v16 h17=>∃ p18,v16=vb p18/\J15 (.t (.one (.v (vb p18)))) h17)/\(¬((!p14)=false)->J15 (.t (.one (.v (vb false)))) h6)/\∀ h19 p20,J15 (.t (.one (.v (vb p20)))) h19->∃(J21:ShT),((cond (!p14) true (!p20))=false->Qa Pg 8 [vsl u4 u5 u6,vi 150] h19 fun v22 h23=>∃ p24,v22=vb p24/\J21 (.t (.one (.v (vb p24)))) h23)/\(¬((cond (!p14) true (!p20))=false)->J21 (.t (.one (.v (vb false)))) h19)/\∀ h25 p26,J21 (.t (.one (.v (vb p26)))) h25->((cond (cond (!p14) true (!p20)) true (!p26))=true->R (vb true) h25)/\((cond (cond (!p14) true (!p20)) true (!p26))=false->Qa Pg 32 [vag [vsl a7 n7 c7,vsl a8 n8 c8,vsl a9 n9 c9,vi x10,vi x11,vi x12,vi x13],vsl u1 u2 u3] h25 fun v28 h29=>∃(q30 q31:_)(y32:Value)(y33:Value)(p34:Bool),v28=Qf [vp q30,vp q31,y32,y33,vb p34]/\((!p34)=true->R (vb false) h29)/\((!p34)=false->ZC Pg y33 [vi u7] h29 fun v36 h37=>v36=Qf []/\let J89:HpT:=fun h90=>(ZC Pg y32 [(vk .u64 0)] h90 fun v91 h92=>∃ q93 p94,v91=Qf [vp q93,vb p94]/\((!p94)=true->R (vb false) h92)/\((!p94)=false->∃(I97:LtT)(m98:LmT),I97 [vi 0] h92/\∀ vs99 h100,I97 vs99 h100->∃ x101,vs99=[vi x101]/\((decide (x101<(u2:Int)))=true->∃(I105:LtT)(m106:LmT),I105 [vi 0] h100/\∀ vs107 h108,I105 vs107 h108->∃ x109,vs107=[vi x109]/\((decide (x109<40))=true->Qa Pg 16 [vp q93,vi x101] h108 fun v112 h113=>∃ e114,v112=ifv e114/\∃ x116,IsW x116 (x109+1)/\I105 [vi x116] h113/\m106 [vi x116] h113<m106 vs107 h108)/\((decide (x109<40))=false->∃ x117,IsW x117 (x101+1)/\I97 [vi x117] h108/\m98 [vi x117] h108<m98 vs99 h100))/\((decide (x101<(u2:Int)))=false->Qa Pg 17 [vp q93] h100 fun v118 h119=>∃ e120,v118=ifv e120/\Qa Pg 33 [ifv e120] h119 fun v121 h122=>∃ x123,v121=vi x123/\((decide (x123=6))=true->R (vb true) h122)/\((decide (x123=6))=false->Qa Pg 22 [vp q93] h122 fun v125 h126=>∃ a127 n127 c127,v125=vsl a127 n127 c127/\Qa Pg 35 [vsl a127 n127 c127] h126 fun v128 h129=>∃ a130 n130 c130 p131,v128=Qf [vsl a130 n130 c130,vb p131]/\Qa Pg 36 [vag [vsl a7 n7 c7,vsl a8 n8 c8,vsl a9 n9 c9,vi x10,vi x11,vi x12,vi x13],vsl u1 u2 u3] h129 fun v132 h133=>∃ a134 n134 c134 x135,v132=Qf [vsl a134 n134 c134,vi x135]/\Qa Pg 19 [vp q93] h133 fun v136 h137=>∃ x138 p139,v136=Qf [vi x138,vb p139]/\((!p139)=true->∃(J140:ShT),((cond (cond (Option.isNone e120) p131 false) (decide ((n130:Int)=0)) false)=true->Qa Pg 26 [vp q93] h137 fun v141 h142=>∃ x143,v141=vi x143/\J140 (.t (.one (.v (vi x143)))) h142)/\(¬((cond (cond (Option.isNone e120) p131 false) (decide ((n130:Int)=0)) false)=true)->J140 (.t (.one (.v (vi 0)))) h137)/\∀ h144 x145,J140 (.t (.one (.v (vi x145)))) h144->R (vb (cond (cond (cond (Option.isNone e120) p131 false) (decide ((n130:Int)=0)) false) (decide (x135=x145)) false)) h144)/\((!p139)=false->∃(J147:ShT),((cond (Option.isNone e120) p131 false)=true->Qa Pg 26 [vp q93] h137 fun v148 h149=>∃ x150,v148=vi x150/\J147 (.t (.one (.v (vi x150)))) h149)/\(¬((cond (Option.isNone e120) p131 false)=true)->J147 (.t (.one (.v (vi 0)))) h137)/\∀ h151 x152,J147 (.t (.one (.v (vi x152)))) h151->∃(J153:ShT),((cond (cond (Option.isNone e120) p131 false) (decide (x135=x152)) false)=true->Qa Pg 38 [vsl a134 n134 c134,vi x10,vi x138] h151 fun v154 h155=>∃ a156 n156 c156,v154=vsl a156 n156 c156/\J153 (.t (.one (.v (vsl a156 n156 c156)))) h155)/\(¬((cond (cond (Option.isNone e120) p131 false) (decide (x135=x152)) false)=true)->J153 (.t (.one (.v (vsl none 0 0)))) h151)/\∀ h157 a158 n158 c158,J153 (.t (.one (.v (vsl a158 n158 c158)))) h157->∃(J159:ShT),((cond (cond (Option.isNone e120) p131 false) (decide (x135=x152)) false)=true->Qa Pg 37 [vsl a130 n130 c130,vsl a158 n158 c158] h157 fun v160 h161=>∃ p162,v160=vb p162/\J159 (.t (.one (.v (vb p162)))) h161)/\(¬((cond (cond (Option.isNone e120) p131 false) (decide (x135=x152)) false)=true)->J159 (.t (.one (.v (vb false)))) h157)/\∀ h163 p164,J159 (.t (.one (.v (vb p164)))) h163->∃(J165:ShT),((cond (cond (cond (Option.isNone e120) p131 false) (decide (x135=x152)) false) p164 false)=true->Qa Pg 23 [vp q93] h163 fun v166 h167=>∃ x168,v166=vi x168/\J165 (.t (.one (.v (vi x168)))) h167)/\(¬((cond (cond (cond (Option.isNone e120) p131 false) (decide (x135=x152)) false) p164 false)=true)->J165 (.t (.one (.v (vi 0)))) h163)/\∀ h169 x170,J165 (.t (.one (.v (vi x170)))) h169->R (vb (cond (cond (cond (cond (Option.isNone e120) p131 false) (decide (x135=x152)) false) p164 false) (decide (x170=0)) false)) h169)))));∃(I39:LtT)(m40:LmT),I39 [vp q31,vi 0] h37/\∀ vs41 h42,I39 vs41 h42->∃ q43 x44,vs41=[vp q43,vi x44]/\((decide (x44<(u5:Int)))=true->let J83:OaT->Hp->Prop:=fun q86 h87=>(∃ x88,IsW x88 (x44+1)/\I39 [vp q86,vi x88] h87/\m40 [vp q86,vi x88] h87<m40 vs41 h42);∃ b47 o48,Ix u4 b47 o48 x44 u5/\∃ s49,Hp.cell h42 b47 (o48+x44.toNat*4)=some (vs s49)/\∃ p50,RdG .eql 9 (.tmp 69) (.const (vs ⟨#[115,116,101,112]⟩)) (vs s49) (vs ⟨#[115,116,101,112]⟩) h42 (vb p50)/\(p50=true->∃ b51 o52,Ix u4 b51 o52 x44 u5/\∃ x53,Hp.cell h42 b51 ((o52+x44.toNat*4)+1)=some (vi x53)/\∃ x54,Rd Pg (binOp .and 3 (vi x53) (vi 1023)) h42 (vi x54)/\(u2:Int)≠0/\Qa Pg 16 [vp q43,(vi (Int.tmod x54 (u2:Int)))] h42 fun v55 h56=>∃ e57,v55=ifv e57/\J83 q43 h56)/\(p50=false->∃ p59,RdG .eql 9 (.tmp 69) (.const (vs ⟨#[115,97,118,101]⟩)) (vs s49) (vs ⟨#[115,97,118,101]⟩) h42 (vb p59)/\(p59=true->Qa Pg 17 [vp q43] h42 fun v60 h61=>∃ e62,v60=ifv e62/\Qa Pg 33 [ifv e62] h61 fun v63 h64=>∃ x65,v63=vi x65/\((decide (x65=7))=true->∃ b66 o67,Ix u4 b66 o67 x44 u5/\∃ x68,Hp.cell h64 b66 ((o67+x44.toNat*4)+3)=some (vk .u64 x68)/\ZC Pg y32 [(vk .u64 x68)] h64 fun v69 h70=>∃ q71 p72,v69=Qf [vp q71,vb p72]/\((!p72)=true->R (vb false) h70)/\((!p72)=false->J83 q71 h70))/\((decide (x65=7))=false->J83 q43 h64))/\(p59=false->∃ b75 o76,Ix u4 b75 o76 x44 u5/\∃ x77,Hp.cell h42 b75 ((o76+x44.toNat*4)+3)=some (vk .u64 x77)/\ZC Pg y32 [(vk .u64 x77)] h42 fun v78 h79=>∃ q80 p81,v78=Qf [vp q80,vb p81]/\((!p81)=true->R (vb false) h79)/\((!p81)=false->J83 q80 h79))))/\((decide (x44<(u5:Int)))=false->J89 h42))))):Qa Pg 5 [vs u0,vsl u1 u2 u3,vsl u4 u5 u6,vi u7] h R:=callC ⟨[],[(12,([12,15],[.one (.ptr),.one (.int .i64)],[])),(32,([17],[.one (.int .i64)],[])),(29,([16],[.one (.int .i64)],[]))],[]⟩ Tryz.func5 [.one (.v (vs u0)),.one (.v (vsl u1 u2 u3)),.one (.v (vsl u4 u5 u6)),.one (.v (vi u7))] H
open Go.Txt
theorem Qgn {h:Hp}{b:Nat}{xs ys:List Value}{t:TypeId}(hl:ys.length=xs.length){K:HpT}(hK:K (h.set b (Qb ys t))):Hp.store (h.set b (Qb xs t)) b 0 ys K:=by
 refine⟨xs.toArray,t,qK _ _ _,by simp [hl],?_⟩
 rw [rB];have e:QP xs.toArray.toList 0 ys=ys:=by
  unfold QP;rw [jG,dE,jY,dW,gG (by omega),dH]
 rw [e];exact hK
theorem QiH {h:Hp}{b i:Nat}{xs:List Value}{t:TypeId}{v:Value}(hv:xs[i]?=some v):Hp.cell (h.set b (Qb xs t)) b i=some v:=by
 unfold Hp.cell;rw [qK];simpa using hv
theorem cell_le {h h':Hp}(l:h.le h'){b i:Nat}{v:Value}(hc:h.cell b i=some v):h'.cell b i=some v:=by
 unfold Hp.cell at hc ⊢;cases hb:h b with
 | none=>rw [hb] at hc;cases hc
 | some o=>rw [l b o hb];rw [hb] at hc;exact hc
def Wm (k:PK)(v:Value):List Value:=[vi k.1,vi k.2.1,vi k.2.2,v]
theorem Qe2 (k:PK)(v:Value):(Wm k v).length=4:=rfl
theorem Qix:ElT Pg 80 93 4 48:=.of (by kernel_rfl) (by kernel_rfl) (by decide)
set_option maxHeartbeats 4000000 in
theorem Qdq {q:Qy}{a1:OaT}{n1 c1:Nat}{a2:OaT}{n2 c2:Nat}{a3:OaT}{n3 c3:Nat}{h:Hp}{R':RtT}{ps:List (List EvL)}{pa:OaT}{pn pc:Nat}(Q:QAt h q a1 n1 a2 n2 a3 n3)(B:QOk q)(T:Nb Xk h pa pn ps)
  (hp:ps.length<=5) (hl:∀ p ∈ ps,p.length<=100) (hE:∀ p ∈ ps,∀ e ∈ p,Yb e)
  (hK:∀ a c h',h.le h'->Ke Qu Wm h' a (WV q ps).length (WV q ps)->R' (Qf [vsl a (WV q ps).length c,vi (Ky q ps:Nat)]) h'):Qa Pg 36 [qV a1 n1 c1 a2 n2 c2 a3 n3 c3 q,vsl pa pn pc] h R':=by
 refine Qdv ?_
 have hpn:pn=ps.length:=T.r.choose_spec.2.1;have s1:=B.s;have s2:=B.l;have s3:=B.n2;refine⟨fun vs hh=>∃(i:Nat)(a:OaT)(c:Nat)(R:List PR),vs=[vsl a R.length c,vi (Ky q (ps.take i):Nat),vi i]/\i<=ps.length/\Xc h hh a c R/\StA (Qd q) (KG q (ps.take i)) R,fun vs hh=>ps.length-(Qo vs 2).toNat,⟨0,none,0,[],rfl,cE _,Xc.nil (qO h),StA.nil⟩,?_⟩
 rintro vs hh ⟨i,a,c,R,rfl,hi,N,S⟩;refine⟨a,R.length,c,_,_,rfl,fun e=>?_,fun e=>?_⟩
 ·have hlt:i<ps.length:=by have:=bC e;omega
  have hx:ps[i]?=some ps[i]:=bD hlt
  have tk:ps.take (i+1)=ps.take i++[ps[i]]:=bL hlt;have hmem:ps[i] ∈ ps:=cM hlt;have hEp:=hE _ hmem;have hlp:=hl _ hmem;have hAi:=QdB B (ps:=ps.take i) fun p hp'=>hE p (gC hp')
  have hmi:=Qce B (ps.take i) fun p hp'=>hl p (gC hp')
  have hti:(ps.take i).length=i:=by rw [bZ];omega
  generalize ps[i]=part at *
  obtain⟨b,o,a',c',ea,hc,SP,hcap⟩:=T.cell hx;refine⟨b,o,⟨ea,by omega,by omega⟩,a',part.length,c',by rw [bF];exact cell_le N.le0 hc,?_⟩
  clear e;refine⟨fun vs hh=>∃(j:Nat)(a:OaT)(c:Nat)(R:List PR),vs=[vsl a R.length c,vi (Ky q (ps.take i)+K0 q (-1) (part.take j):Nat),vi j]/\j<=part.length/\Xc h hh a c R/\StA (Qd q) (KG q (ps.take i)++Ux q (-1) (part.take j)) R,fun vs hh=>part.length-(Qo vs 2).toNat,⟨0,a,c,R,by simp [K0],cE _,N,by simpa [Ux] using S⟩,?_⟩
  rintro vs hh2 ⟨j,a,c,R,rfl,hj,N,S⟩;refine⟨a,R.length,c,_,_,rfl,fun e=>?_,fun e=>?_⟩
  ·have hltj:j<part.length:=by have:=bC e;omega
   have hxj:part[j]?=some part[j]:=bD hltj
   have tkj:part.take (j+1)=part.take j++[part[j]]:=bL hltj;have hEv:=hEp _ (cM hltj);have hAj:=Qg8 B (part.take j) (-1) fun e he=>hEp e (gC he)
   have hmj:=QbT B (part.take j) (-1);have htj:(part.take j).length=j:=by rw [bZ];omega
   have hAA:∀ x ∈ KG q (ps.take i)++Ux q (-1) (part.take j),Qag q x:=by
    intro x hx;rcases bU.1 hx with h1|h1
    ·exact hAi x h1
    ·exact hAj x h1
   have hAn:(KG q (ps.take i)++Ux q (-1) (part.take j)).length<=499000/\Ky q (ps.take i)+K0 q (-1) (part.take j)<=499000:=by rw [bO];omega
   generalize part[j]=ev at *
   intro J173;have hJ:∀(a:OaT)(c:Nat)(R:List PR)(hh':Hp),Xc h hh' a c R->StA (Qd q) ((KG q (ps.take i)++Ux q (-1) (part.take j))++V9 q (ZX (part.take j)) ev) R->J173 a R.length c ((Ky q (ps.take i)+K0 q (-1) (part.take j)+UK q (ZX (part.take j)) ev:Nat):Int) hh':=by
    intro a c R hh' N S;refine⟨_,iW,⟨j+1,a,c,R,?_,by omega,N,?_⟩,by simp [Qo];omega⟩
    ·rw [tkj,Qaw,<-kG];rfl
    ·rw [tkj,Qcx,<-bX];exact S
   clear_value J173;have hAi2:=hAn;generalize KG q (ps.take i)++Ux q (-1) (part.take j)=Aj at *
   generalize Ky q (ps.take i)+K0 q (-1) (part.take j)=cj at *
   obtain⟨b2,o2,ea2,hr2⟩:=(SP.le N.le0).get (sz:=7) (fun _=>rfl) (by decide) hxj
   refine⟨b2,o2,⟨ea2,by omega,by omega⟩,_,_,_,_,_,_,_,by rw [bF];exact hr2,?_⟩
   refine QiQ (e:=ev) (Q.le N.le0) B fun h34 l34=>⟨_,rfl,fun e1=>?_,fun e1=>?_⟩
   ·have e1:Qbn q ev=false:=by simpa using e1
    have:=hJ a c R h34 (N.le l34) (by unfold V9;rw [e1];simpa using S)
    have e2:UK q (ZX (part.take j)) ev=0:=by unfold UK;rw [e1];rfl
    rw [e2,f7] at this;exact this
   ·have e1:Qbn q ev=true:=by simpa using e1
    have eA:V9 q (ZX (part.take j)) ev=JN q (ZX (part.take j)) ev (Zx ev.1 q.size q.slide):=by unfold V9;rw [bJ e1]
    have eL:UK q (ZX (part.take j)) ev=VG q (ZX (part.take j)) (Zx ev.1 q.size q.slide):=by unfold UK;rw [bJ e1]
    rw [eA,eL] at hJ;have ht:=hEv.t;have hsb:=Jg B hEv;have hsn:=JQ B (e:=ev);refine JW (by omega) (by omega) (by omega) (by omega) (by omega) (by omega) fun a40 n40 c40 h39 l39 SS hnew=>⟨_,_,_,rfl,?_⟩
    generalize Zx ev.1 q.size q.slide=ss at *
    have N34:=N.le l34;obtain⟨hx0,lx,hrow,Nx⟩:=N34.rebase l39 (g:=a40) (fun b o eb=>hnew b o eb)
    have SSx:SlI hx0 a40 n40 ss:=⟨SS.1,hrow SS.2⟩;have hn40:=SS.1;refine⟨fun vs hh=>∃(k:Nat)(a:OaT)(c:Nat)(R:List PR),vs=[vsl a R.length c,vi (cj+VG q (ZX (part.take j)) (ss.take k):Nat),vi k]/\k<=ss.length/\Xc hx0 hh a c R/\StA (Qd q) (Aj++JN q (ZX (part.take j)) ev (ss.take k)) R,fun vs hh=>ss.length-(Qo vs 2).toNat,⟨0,a,c,R,by simp [VG],cE _,Nx,by simpa [JN] using S⟩,?_⟩
    clear N34 Nx N S hrow;rintro vs hh3 ⟨k,a,c,R,rfl,hk,N,S⟩;refine⟨a,R.length,c,_,_,rfl,fun e=>?_,fun e=>?_⟩
    ·have hltk:k<ss.length:=by have:=bC e;omega
     have hxk:ss[k]?=some ss[k]:=bD hltk
     have tkk:ss.take (k+1)=ss.take k++[ss[k]]:=bL hltk;have hsk:=hsb _ (cM hltk);have hgd:ss.getD k 0=ss[k]:=by rw [bI,hxk];rfl
     have hSk:=QlI B hEv (far:=ZX (part.take j)) (ss:=ss.take k) fun s hs=>hsb s (gC hs)
     have hSm:=QgM (q:=q) (far:=ZX (part.take j)) (e:=ev) (ss:=ss.take k);have hSl:=Qfl (q:=q) (far:=ZX (part.take j)) (ss:=ss.take k);have htk:(ss.take k).length=k:=by rw [bZ];omega
     obtain⟨b51,o51,e51,c51⟩:=SSx.get (i:=k) (by omega)
     rw [hgd] at c51;generalize ss[k]=sk at *
     have hAk:∀ x ∈ Aj++JN q (ZX (part.take j)) ev (ss.take k),Qag q x:=by
      intro x hx;rcases bU.1 hx with h1|h1
      ·exact hAA x h1
      ·exact hSk x h1
     have hAkn:(Aj++JN q (ZX (part.take j)) ev (ss.take k)).length<=500000:=by rw [bO];omega
     intro J163;have hJ2:∀(a:OaT)(c:Nat)(R:List PR)(hh':Hp)(x:Int),Xc hx0 hh' a c R->StA (Qd q) ((Aj++JN q (ZX (part.take j)) ev (ss.take k))++if WP q (ZX (part.take j)) sk then [] else [((sk,Q3 q ev),Qp q ev)]) R->x=((cj+VG q (ZX (part.take j)) (ss.take k)+if WP q (ZX (part.take j)) sk then 1 else 0:Nat):Int)->J163 a R.length c x hh':=by
      intro a c R hh' x N S hx;refine⟨_,iW,⟨k+1,a,c,R,?_,by omega,N,?_⟩,by simp [Qo];omega⟩
      ·rw [tkk,QeF,hx,<-kG];rfl
      ·rw [tkk,QgQ,<-bX];exact S
     clear_value J163;refine⟨b51,o51,⟨e51,by omega,by omega⟩,sk,by rw [bF];exact cell_le N.le0 c51,?_⟩
     intro b54 hb54 h55;show Hp.store (Hp.set hh3 b54 (Qb [vi 0] 3)) b54 0 [vi sk] _;refine Qgn (xs:=[vi 0]) (by rfl) ?_
     refine⟨sk,QiH rfl,?_⟩
     have l56:hh3.le (hh3.set b54 (Qb [vi sk] 3)):=qQ (qO _) hb54 _;have c56:Hp.cell (hh3.set b54 (Qb [vi sk] 3)) b54 0=some (vi sk):=QiH rfl;generalize hh3.set b54 (Qb [vi sk] 3)=h56 at l56 c56;have N56:=N.le l56;have lh56:=qP lx N56.le0;refine QfQ (i:=j) (SP.le lh56) (by omega) hcap (by omega) (fun e he=>(hEp e he).t) (by omega) B ⟨_,rfl,fun e2=>?_,fun e2=>?_⟩
     ·refine⟨_,iW,hJ2 a c R h56 _ N56 (by rw [bJ e2,dH];exact S) ?_⟩
      rw [bJ e2];push_cast;rfl
     ·have hnl:¬ WP q (ZX (part.take j)) sk=true:=by rw [e2];decide
      simp only [bE hnl,f7] at hJ2;refine QhU (e:=ev) (Q.le lh56) B fun h65 l65=>⟨_,_,rfl,?_⟩
      intro b68 hb68 h69;show Hp.store (Hp.set h65 b68 (Qb [vi 0,vi 0] 54)) b68 0 [vi (Q3 q ev).1,vi (Q3 q ev).2] _;refine Qgn (xs:=[vi 0,vi 0]) (by rfl) ?_
      have l70:h65.le (h65.set b68 (Qb [vi (Q3 q ev).1,vi (Q3 q ev).2] 54)):=qQ (qO _) hb68 _;have r70:Hp.row (h65.set b68 (Qb [vi (Q3 q ev).1,vi (Q3 q ev).2] 54)) b68 0 2=some (Qu (Q3 q ev)):=QO (qK _ _ _) (by simp)
      generalize h65.set b68 (Qb [vi (Q3 q ev).1,vi (Q3 q ev).2] 54)=h70 at l70 r70;have l5670:=qP l65 l70;have N70:=N56.le l5670;have c70:=cell_le l5670 c56;have hRl:=S.len;have hRk:=Qad (Aj++JN q (ZX (part.take j)) ev (ss.take k));have hJ3:∀(J146:OaT->Nat->Nat->Int->Hp->Prop),(∀(a150:OaT)(n150 c150:Nat)(x151:Int)(h152:Hp),J146 a150 n150 c150 x151 h152=(∃(b153 o154:Nat),(a150=some ⟨b153,o154,none⟩/\(0:Int)<=x151/\x151<((n150:Nat):Int))/\(∃(a155:OaT)(n155 c155:Nat),(Hp.cell h152 b153 ((o154+x151.toNat*5)+3)=some (vsl a155 n155 c155))/\(Qa Pg 77 [(vsl a155 n155 c155),qV a1 n1 c1 a2 n2 c2 a3 n3 c3 q,vag (Xk ev)] h152 fun v156 h157=>∃(a158:OaT)(n158 c158:Nat),v156=(vsl a158 n158 c158)/\(∃(b159 o160:Nat),(a150=some ⟨b159,o160,none⟩/\(0:Int)<=x151/\x151<((n150:Nat):Int))/\(Hp.store h157 b159 ((o160+x151.toNat*5)+3) [(vsl a158 n158 c158)] fun h161=>(J163 a150 n150 c150 ((cj+VG q (ZX (part.take j)) (ss.take k):Nat):Int) h161))))))) ->
        ∀(a:OaT)(c:Nat)(R:List PR)(m:Nat)(r:PR)(hh':Hp),Xc hx0 hh' a c R->R[m]?=some r->r.acs.map (·.1)=Qd q->(∀ x ∈ r.acs,AcB x)->StA (Qd q) ((Aj++JN q (ZX (part.take j)) ev (ss.take k))++[((sk,Q3 q ev),Qp q ev)]) (R.set m { r with acs:=Za r.acs (Qp q ev) })->J146 a R.length c (m:Int) hh':=by
       intro J146 hdef a c R m r hh' N hr hkd hbd S';rw [hdef];obtain⟨hm,_⟩:=bG.1 hr
       obtain⟨b,o,ea,hrw⟩:=N.row hr;obtain⟨V,H⟩:=N.inner hr;have hcl:=qT hrw (i:=3) (x:=vsl r.a r.acs.length r.c) rfl;refine⟨b,o,⟨ea,by omega,by omega⟩,r.a,r.acs.length,r.c,by rw [bF];exact hcl,?_⟩
       refine Qhb (e:=ev) (Q.le lx) B hEv V hkd hbd fun h157 V' F'=>⟨_,_,_,rfl,?_⟩
       have hlen:(Qp q ev).length=r.acs.length:=by have:=congrArg List.length hkd;rw [bQ,Qw] at this;unfold Qp;rw [bQ,this]
       have hpl:=QaO hlen;have N':=H h157 _ V'.le0 V' hpl F';have hr':(R.set m { r with acs:=Za r.acs (Qp q ev) })[m]?=some { r with acs:=Za r.acs (Qp q ev) }:=by rw [gN,bJ rfl,bJ hm]
       obtain⟨b',o',ea',HS⟩:=N'.again hr';refine⟨b',o',⟨ea',by omega,by omega⟩,?_⟩
       rw [bF];simp only [hpl] at HS;refine HS _ fun h161 N161 l161=>?_
       have:=hJ2 a c _ h161 _ N161 S' rfl;rw [dL] at this;exact this
      refine Qbg N70 (by omega) (K:=(sk,Q3 q ev)) c70 r70 (fun m r hr hkr=>⟨_,rfl,?_⟩) (fun hno=>⟨_,rfl,?_⟩)
      ·intro J146;have hdef:∀(a150:OaT)(n150 c150:Nat)(x151:Int)(h152:Hp),J146 a150 n150 c150 x151 h152=_:=fun _ _ _ _ _=>rfl
       have hJ4:=hJ3 J146 (fun _ _ _ _ _=>rfl)
       clear hdef;clear_value J146;refine⟨fun e3=>absurd (bC e3) (by omega),fun _=>?_⟩
       obtain⟨f1,f2,_⟩:=S.facts hAk (by omega) hr
       refine hJ4 a c R m r h70 N70 hr f1 f2 ?_
       have:=S.put hr (Qp q ev);rw [<-hkr];exact this
      ·intro J146;have hJ4:=hJ3 J146 (fun _ _ _ _ _=>rfl)
       clear_value J146;refine⟨fun _=>?_,fun e3=>absurd (bB e3) (by omega)⟩
       refine⟨sk,c70,_,_,r70,?_⟩
       intro J107;have hkn:(sk,Q3 q ev) ∉ YN (Aj++JN q (ZX (part.take j)) ev (ss.take k)):=by
        rw [<-S.keys];intro hm;obtain⟨r,hr,e4⟩:=cZ.1 hm;exact hno r hr e4
       have hJ5:∀(a86:OaT)(c86:Nat)(h81:Hp),Qam h70 h81 a86 c86 (ZP (Qd q))->J107 sk (Q3 q ev).1 (Q3 q ev).2 a86 (ZP (Qd q)).length c86 false h81:=by
        intro a86 c86 h81 V b139 hb139 h140;refine N70.app V.le0 (r:=⟨(sk,Q3 q ev),a86,c86,ZP (Qd q),false⟩) V (by omega) hb139 fun a' c' h' N'=>⟨_,_,_,rfl,?_⟩
        have hr:(R++[(⟨(sk,Q3 q ev),a86,c86,ZP (Qd q),false⟩:PR)])[R.length]?=some ⟨(sk,Q3 q ev),a86,c86,ZP (Qd q),false⟩:=by simp
        obtain⟨g1,g2⟩:=QkW q;have:=hJ4 a' c' _ R.length _ h' N' hr g1 g2 (by
         rw [gJ _ _ (cB _),fT];exact S.new hkn (Qp q ev) a86 c86)
        rw [bO,dV] at this;exact this
       clear_value J107;have hna:=Q.g.len;refine⟨fun vs hh=>∃(m:Nat)(a:OaT)(c:Nat),vs=[vi m,vi sk,vi (Q3 q ev).1,vi (Q3 q ev).2,vsl a (ZP ((Qd q).take m)).length c,vb false]/\m<=n1/\Qam h70 hh a c (ZP ((Qd q).take m)),fun vs hh=>n1-(Qo vs 0).toNat,⟨0,none,0,rfl,cE _,qY (qO _) _ _⟩,?_⟩
       rintro vs hh4 ⟨m,a86,c86,rfl,hm,V⟩;refine⟨_,_,_,_,a86,_,c86,false,rfl,fun e5=>?_,fun e5=>?_⟩
       ·have hltm:m<n1:=by have:=bC e5;omega
        have hxm:q.aggs[m]?=some q.aggs[m]:=bD (by omega)
        have hkl:=Qw q;have tkm:(Qd q).take (m+1)=(Qd q).take m++[(q.aggs[m]'(by omega)).1]:=by
         rw [bL (by omega)]
         congr 2
         unfold Qd;rw [jF]
        have hal:(ZP ((Qd q).take m)).length=m:=by unfold ZP;rw [bQ,bZ];omega
        obtain⟨b,o,a',c',ha,hrow,hS⟩:=(Q.g.le (qP lx (qP N70.le0 V.le0))).row Ji (by decide) hxm
        refine⟨b,o,⟨ha,by omega,by omega⟩,(q.aggs[m]'(by omega)).1,a',(q.aggs[m]'(by omega)).2.length,c',by rw [bF];exact hrow,NJ ⟨_,_,_,_,rfl,?_⟩⟩
        intro b100 hb100 h101;refine Vec.app QlP Zg Qhv V (by rw [hal];omega) (by rw [hal];omega) (x:=((q.aggs[m]'(by omega)).1,(0,0,0))) hb100 fun a' c' h' V'=>⟨_,_,_,rfl,_,iW,⟨m+1,a',c',?_,by omega,?_⟩,by simp [Qo];omega⟩
        ·rw [tkm];unfold ZP;rw [cJ];rfl
        ·rw [tkm];unfold ZP at V' ⊢;rw [cJ];exact V'
       ·have hge:m=n1:=by have:=bB e5;omega
        rw [cY (by rw [Qw];omega)] at V ⊢
        exact hJ5 a86 c86 hh4 V
    ·have hge:k=ss.length:=by have:=bB e;omega
     rw [hge,dG] at S ⊢;exact hJ a c R hh3 (N.base lx) S
  ·have hge:j=part.length:=by have:=bB e;omega
   rw [hge,dG] at S ⊢;refine⟨_,iW,⟨i+1,a,c,R,?_,by omega,N,?_⟩,by simp [Qo];omega⟩
   ·rw [tk,QdY];rfl
   ·rw [tk,QgD];exact S
 ·have hge:i=ps.length:=by have:=bB e;omega
  rw [hge,dG] at S ⊢;have hA:=QdB B hE;have hm:=Qce B ps hl;have hRl:=S.len;have hRk:=Qad (KG q ps);refine N.sort S (fun r hr=>?_) (by omega) fun R2 h185 N2 hl2 hR2=>⟨rfl,?_⟩
  ·obtain⟨m,hr⟩:=gB hr
   have:=S.facts hA (by omega) hr
   omega
  have hans:R2.map (fun r=>(r.k,r.acs.map Yk))=WV q ps:=by
   have:=congrArg (List.map fun x:PK × List AcS=>(x.1,x.2.map Yk)) hR2
   rw [fH,fH] at this;exact this
  refine⟨fun vs hh=>∃(m:Nat)(a:OaT)(c:Nat),vs=[vsl a ((WV q ps).take m).length c,vi m]/\m<=R.length/\Y4 Qu Wm 4 93 (fun _=>False) h185 hh a c ((WV q ps).take m),fun vs hh=>R.length-(Qo vs 1).toNat,⟨0,none,0,rfl,cE _,Y4.nil (qO _)⟩,?_⟩
  rintro vs hh5 ⟨m,a5,c5,rfl,hm5,G⟩;have hal:(WV q ps).length=R.length:=by rw [<-hans,bQ,hl2]
  refine⟨a5,_,c5,_,rfl,fun e=>?_,fun e=>?_⟩
  ·have hltm:m<R.length:=by have:=bC e;omega
   have hxm:R2[m]?=some R2[m]:=bD (by omega)
   have hxa:(WV q ps)[m]?=some ((R2[m]'(by omega)).k,(R2[m]'(by omega)).acs.map Yk):=by rw [<-hans,cC,hxm];rfl
   have tkm:(WV q ps).take (m+1)=(WV q ps).take m++[((R2[m]'(by omega)).k,(R2[m]'(by omega)).acs.map Yk)]:=by rw [k8,hxa];rfl
   have htm:((WV q ps).take m).length=m:=by rw [bZ];omega
   have N5:=N2.le G.le0;obtain⟨b,o,ea,hrw⟩:=N5.row hxm;obtain⟨V,_⟩:=N5.inner hxm;have hacs:(R2[m]'(by omega)).acs.length<=1000:=by
    have h1:(R2.map fun r=>(r.k,r.acs))[m]?=some ((R2[m]'(by omega)).k,(R2[m]'(by omega)).acs):=by rw [cC,hxm];rfl
    rw [hR2,cC] at h1
    cases hkk:(Zi (KG q ps))[m]? with
    | none=>rw [hkk] at h1;cases h1
    | some kk=>
     rw [hkk] at h1;simp only [fD,bH,fC] at h1;have:=congrArg List.length (YG (QcA hA kk).1);rw [bQ,h1.2,Qw] at this;omega
   refine⟨b,o,⟨ea,by omega,by omega⟩,_,_,_,_,_,_,_,by rw [bF];exact hrw,?_⟩
   refine JY (r:=R2[m]'(by omega)) (V.slp Zg (by decide)) hacs fun a2' c2' h203 V2=>⟨_,_,_,_,_,_,rfl,?_⟩
   intro b208 hb208 h209;refine Y4.app Qix G (hB:=hh5) (h1:=h203) V2.le0 (fun _ hf=>hf.elim) (fun g hg=>G.al hg) (x:=(R2[m]'(by omega)).k) (a2:=a2') (c2:=c2') (l:=(R2[m]'(by omega)).acs.map Yk) (Qg.row V2) (fun b o eb=>V2.new b (by rw [eb,QT.at0 (Qg.own V2) b o eb])) ?_ rfl (fun _ hf=>hf.elim) (by rw [htm];omega) (by rw [htm];omega) hb208 fun a' c' h' G' _=>⟨_,_,_,rfl,_,iW,⟨m+1,a',c',?_,by omega,?_⟩,by simp [Qo];omega⟩
   ·intro u hu;simp only [Wm,bS,dB,fV] at hu;rcases hu with rfl|rfl|rfl|rfl<;>rfl
   ·rw [tkm,bO,dV];rfl
   ·rw [tkm];exact G'
  ·have hge5:m=R.length:=by have:=bB e;omega
   rw [cY (by omega)] at G ⊢
   exact hK a5 c5 hh5 (qP N2.le0 G.le0) G.tab
end Go.Proofs.YthicpjafcpfjoaaGreatDoor
namespace Go.Proofs.YthicpjafcpfjoaaGreatDoor
open Go Go.Vc
theorem VC {u0:OaT}{u1 u2:Nat}{u3:OaT}{u4 u5:Nat}{h:Hp}{R:RtT}(H:((decide ((u1:Int)≠(u4:Int)))=true->R (vb false) h)/\((decide ((u1:Int)≠(u4:Int)))=false->∃(I3:LtT)(m4:LmT),I3 [vi 0] h/\∀ vs5 h6,I3 vs5 h6->∃ x7,vs5=[vi x7]/\((decide (x7<(u1:Int)))=true->∃ b10 o11,Ix u0 b10 o11 x7 u1/\∃ x12 x13,Hp.row h6 b10 (o11+x7.toNat*2) 2=some [vi x12,vi x13]/\∃ b14 o15,Ix u3 b14 o15 x7 u4/\∃ x16 x17,Hp.row h6 b14 (o15+x7.toNat*2) 2=some [vi x16,vi x17]/\∃ p18,RdG .neq 54 (.tmp 20) (.tmp 24) (vag [vi x12,vi x13]) (vag [vi x16,vi x17]) h6 (vb p18)/\(p18=true->R (vb false) h6)/\(p18=false->∃ x20,IsW x20 (x7+1)/\I3 [vi x20] h6/\m4 [vi x20] h6<m4 vs5 h6))/\((decide (x7<(u1:Int)))=false->R (vb true) h6))):Qa Pg 52 [vsl u0 u1 u2,vsl u3 u4 u5] h R:=callC ⟨[],[(4,([5],[.one (.int .i64)],[]))],[(6,[0,1,2,3,4,5,6,7,8])]⟩ Tryz.func52 [.one (.v (vsl u0 u1 u2)),.one (.v (vsl u3 u4 u5))] H
theorem NC {u0:Int}{u1:Int}{u2:Int}{u3:OaT}{u4 u5:Nat}{u6:Int}{u7:Int}{u8:Int}{u9:OaT}{u10 u11:Nat}{h:Hp}{R:RtT}(H:Qa Pg 52 [vsl u3 u4 u5,vsl u9 u10 u11] h fun v1 h2=>∃ p3,v1=vb p3/\∃ p4,((decide (u0=u6))=true->RdG .eql 54 (.tmp 18) (.tmp 20) (vag [vi u1,vi u2]) (vag [vi u7,vi u8]) h2 (vb p4))/\R (vb (cond (cond (decide (u0=u6)) p4 false) p3 false)) h2):Qa Pg 63 [vag [vi u0,vi u1,vi u2,vsl u3 u4 u5],vag [vi u6,vi u7,vi u8,vsl u9 u10 u11]] h R:=callO Tryz.func63 [.ag [.v (vi u0),.v (vi u1),.v (vi u2),.v (vsl u3 u4 u5)],.ag [.v (vi u6),.v (vi u7),.v (vi u8),.v (vsl u9 u10 u11)]] H
section
variable {h:Hp}{R':RtT}
theorem Qdf {l:List Vl}{a b:OaT}{c d:Nat}(S:SlP Qu h a l.length l)(S2:SlP Qu h b l.length l)(hn:l.length<=1000000)(hK:R' (vb true) h):Qa Pg 52 [vsl a l.length c,vsl b l.length d] h R':=by
 refine VC ?_
 refine⟨fun e=>absurd rfl (bC e),fun _=>?_⟩
 refine⟨fun vs hh=>hh=h/\∃ i:Nat,vs=[vi i]/\i<=l.length,fun vs hh=>l.length-(Qo vs 0).toNat,⟨rfl,0,rfl,cE _⟩,?_⟩
 rintro vs hh ⟨rfl,i,rfl,hi⟩;refine⟨i,rfl,fun e=>?_,fun _=>hK⟩
 have hlt:i<l.length:=by have:=bC e;omega
 have hx:l[i]?=some l[i]:=bD hlt
 obtain⟨b1,o1,e1,r1⟩:=S.get (sz:=2) (fun _=>rfl) (by decide) hx
 obtain⟨b2,o2,e2,r2⟩:=S2.get (sz:=2) (fun _=>rfl) (by decide) hx
 refine⟨b1,o1,⟨e1,by omega,by omega⟩,_,_,by rw [bF];exact r1,b2,o2,⟨e2,by omega,by omega⟩,_,_,by rw [bF];exact r2,!decide (l[i]=l[i]),QdF,fun e3=>(by simp at e3),fun _=>⟨_,iW,⟨rfl,i+1,rfl,by omega⟩,by simp [Qo];omega⟩⟩
theorem QfV {k:PK}{l:List Vl}{a b:OaT}{c d:Nat}(S:SlP Qu h a l.length l)(S2:SlP Qu h b l.length l)(hn:l.length<=1000000)(hK:R' (vb true) h):Qa Pg 63 [vag (Wm k (vsl a l.length c)),vag (Wm k (vsl b l.length d))] h R':=by
 refine NC ?_
 refine Qdf S S2 hn ⟨_,rfl,decide (k.2=k.2),fun _=>Xz,?_⟩
 rw [cL (rfl:k.1=k.1),cL (rfl:k.2=k.2)];exact hK
end
theorem QnY {q:Qy}{A:List Ad}(hA:∀ x ∈ A,Qag q x)(k:PK):(YW (Qd q) (QD A k)).length=q.aggs.length:=by
 unfold YW;rw [bQ,<-Qw];have:=congrArg List.length (YG (QcA hA k).1);rw [bQ] at this;exact this
theorem Ql9 {q:Qy}(B:QOk q){ps:List (List EvL)}(hp:ps.length<=5)(hl:∀ p ∈ ps,p.length<=100)(hE:∀ p ∈ ps,∀ e ∈ p,Yb e):(WV q ps).length<=500000/\∀ x ∈ WV q ps,x.2.length<=1000000:=by
 have h1:=Qce B ps hl;have h2:=Qad (KG q ps);have h3:=(QbS (KG q ps)).length_eq;have h4:=B.n2;constructor
 ·unfold WV QhC;rw [bQ];omega
 ·intro x hx;unfold WV QhC at hx;obtain⟨k,_,rfl⟩:=cZ.1 hx;simp only;rw [QnY (QdB B hE)];omega
open Go.Txt
section
variable {q:Qy}{a1:OaT}{n1 c1:Nat}{a2:OaT}{n2 c2:Nat}{a3:OaT}{n3 c3:Nat}{h:Hp}{R:RtT}
end
structure PN where
 k:PK
 b:Nat
 t:Nat
 cs:List (List Vl)
 told:Bool
 vc:Nat
section
variable {h0 h:Hp}{a:OaT}{c:Nat}{R:List PN}
end
end Go.Proofs.YthicpjafcpfjoaaGreatDoor
namespace Go.Proofs.YthicpjafcpfjoaaGreatDoor
open Go Go.Vc
theorem QhG {u0:OaT}{u1 u2:Nat}{h:Hp}{R:RtT}(H:((decide ((u1:Int)>3))=true->R (vb false) h)/\((decide ((u1:Int)>3))=false->∃(I3:LtT)(m4:LmT),I3 [vi 0] h/\∀ vs5 h6,I3 vs5 h6->∃ x7,vs5=[vi x7]/\((decide (x7<(u1:Int)))=true->∃ b10 o11,Ix u0 b10 o11 x7 u1/\∃ a12 n12 c12,Hp.cell h6 b10 (o11+x7.toNat*1)=some (vsl a12 n12 c12)/\((decide ((n12:Int)>40))=true->R (vb false) h6)/\((decide ((n12:Int)>40))=false->∃(I15:LtT)(m16:LmT),I15 [vi 0] h6/\∀ vs17 h18,I15 vs17 h18->∃ x19,vs17=[vi x19]/\∃ b20 o21,Ix u0 b20 o21 x7 u1/\∃ a22 n22 c22,Hp.cell h18 b20 (o21+x7.toNat*1)=some (vsl a22 n22 c22)/\((decide (x19<(n22:Int)))=true->∃ b25 o26,Ix u0 b25 o26 x7 u1/\∃ a27 n27 c27,Hp.cell h18 b25 (o26+x7.toNat*1)=some (vsl a27 n27 c27)/\∃ b28 o29,Ix a27 b28 o29 x19 n27/\∃ x30 x31 x32 x33 x34 x35 x36,Hp.row h18 b28 (o29+x19.toNat*7) 7=some [vi x30,vi x31,vi x32,vi x33,vi x34,vi x35,vi x36]/\Qa Pg 104 [vag [vi x30,vi x31,vi x32,vi x33,vi x34,vi x35,vi x36]] h18 fun v37 h38=>∃ e39,v37=ifv e39/\((Option.isSome e39)=true->R (vb false) h38)/\((Option.isSome e39)=false->∃ x41,IsW x41 (x19+1)/\I15 [vi x41] h38/\m16 [vi x41] h38<m16 vs17 h18))/\((decide (x19<(n22:Int)))=false->∃ x42,IsW x42 (x7+1)/\I3 [vi x42] h18/\m4 [vi x42] h18<m4 vs5 h6)))/\((decide (x7<(u1:Int)))=false->R (vb true) h6))):Qa Pg 65 [vsl u0 u1 u2] h R:=callC ⟨[],[(9,([4],[.one (.int .i64)],[])),(4,([3],[.one (.int .i64)],[]))],[]⟩ Tryz.func65 [.one (.v (vsl u0 u1 u2))] H
theorem Qi1 {u0:OaT}{u1 u2:Nat}{u3:Int}{u4:Int}{h:Hp}{R:RtT}(H:∃(I2:LtT)(m3:LmT),I2 [vsl none 0 0,vi 0] h/\∀ vs4 h5,I2 vs4 h5->∃ a6 n6 c6 x7,vs4=[vsl a6 n6 c6,vi x7]/\((decide (x7<(u1:Int)))=true->let J27:OaT->Nat->Nat->Hp->Prop:=fun a30 n30 c30 h31=>(∃ x32,IsW x32 (x7+1)/\I2 [vsl a30 n30 c30,vi x32] h31/\m3 [vsl a30 n30 c30,vi x32] h31<m3 vs4 h5);∃ b10 o11,Ix u0 b10 o11 x7 u1/\∃ x12,Hp.cell h5 b10 (o11+x7.toNat*4)=some (vi x12)/\∃ x13,IsW x13 (x12+u3)/\((decide (x13<=u4))=true->∃ b14 o15,Ix u0 b14 o15 x7 u1/\∃ x16 x17 x18 a19 n19 c19,Hp.row h5 b14 (o15+x7.toNat*4) 4=some [vi x16,vi x17,vi x18,vsl a19 n19 c19]/\∀ b20,h5 b20=none->let h21:=Hp.set h5 b20 (Qb [vi x16,vi x17,vi x18,vsl a19 n19 c19] 93);Qh Pg (Builtin.append_ #[80,80] 80 #[vsl a6 n6 c6,(vsl (some ⟨b20,0,none⟩) 1 1)]) h21 fun v22 h23=>∃ a24 n24 c24,v22=vsl a24 n24 c24/\J27 a24 n24 c24 h23)/\((decide (x13<=u4))=false->J27 a6 n6 c6 h5))/\((decide (x7<(u1:Int)))=false->R (vsl a6 n6 c6) h5)):Qa Pg 38 [vsl u0 u1 u2,vi u3,vi u4] h R:=callC ⟨[],[(3,([7,8],[.one (.slice),.one (.int .i64)],[]))],[]⟩ Tryz.func38 [.one (.v (vsl u0 u1 u2)),.one (.v (vi u3)),.one (.v (vi u4))] H
section
variable {h:Hp}{R':RtT}
theorem QfH {ps:List (List EvL)}{pa:OaT}{pn pc:Nat}(TP:Nb Xk h pa pn ps)(hK:∀ p h',h.le h'->(p=true->ps.length<=3/\∀ x ∈ ps,x.length<=40/\∀ e ∈ x,K5 e=0)->R' (vb p) h'):Qa Pg 65 [vsl pa pn pc] h R':=by
 refine QhG ?_
 have hpn:pn=ps.length:=TP.r.choose_spec.2.1;refine⟨fun e=>hK false h (qO h) (fun q=>by cases q),fun e=>?_⟩
 have h3:ps.length<=3:=by have:=bB e;omega
 refine⟨fun vs hh=>∃ i:Nat,vs=[vi i]/\i<=ps.length/\h.le hh/\∀ x ∈ ps.take i,x.length<=40/\∀ e ∈ x,K5 e=0,fun vs hh=>ps.length-(Qo vs 0).toNat,⟨0,rfl,cE _,qO h,by simp⟩,?_⟩
 rintro vs hh ⟨i,rfl,hi,lh,hz⟩;refine⟨i,rfl,fun e1=>?_,fun e1=>?_⟩
 ·have hlt:i<ps.length:=by have:=bC e1;omega
  have hx:ps[i]?=some ps[i]:=bD hlt
  have tk:ps.take (i+1)=ps.take i++[ps[i]]:=bL hlt;generalize ps[i]=part at *
  obtain⟨b,o,a',c',ea,hcl,SP,_⟩:=TP.cell hx;have hb1:pa=some ⟨b,o,none⟩/\(0:Int)<=i/\(i:Int)<((pn:Nat):Int):=⟨ea,by omega,by omega⟩
  refine⟨b,o,hb1,a',part.length,c',by rw [bF];exact cell_le lh hcl,fun e2=>hK false hh lh (fun q=>by cases q),fun e2=>?_⟩
  have h40:part.length<=40:=by have:=bB e2;omega
  refine⟨fun vs hh'=>∃ j:Nat,vs=[vi j]/\j<=part.length/\hh.le hh'/\∀ e ∈ part.take j,K5 e=0,fun vs hh=>part.length-(Qo vs 0).toNat,⟨0,rfl,cE _,qO _,by simp⟩,?_⟩
  rintro vs hh3 ⟨j,rfl,hj,lh3,hc3⟩;have lh3':=qP lh lh3;have hc1:=cell_le lh3' hcl;refine⟨j,rfl,b,o,hb1,a',part.length,c',by rw [bF];exact hc1,fun e3=>?_,fun e3=>?_⟩
  ·have hltj:j<part.length:=by have:=bC e3;omega
   have hxj:part[j]?=some part[j]:=bD hltj
   have tkj:part.take (j+1)=part.take j++[part[j]]:=bL hltj;obtain⟨b2,o2,ea2,hr2⟩:=(SP.le lh3').get (sz:=7) (fun _=>rfl) (by decide) hxj
   generalize part[j]=ev at *
   refine⟨b,o,hb1,a',part.length,c',by rw [bF];exact hc1,b2,o2,⟨ea2,by omega,by omega⟩,_,_,_,_,_,_,_,by rw [bF];exact hr2,?_⟩
   refine VI (e:=ev) fun h54 l54=>⟨_,rfl,fun e4=>hK false h54 (qP lh3' l54) (fun q=>by cases q),fun e4=>?_⟩
   rw [QR] at e4;have hev:K5 ev=0:=by simpa using e4
   refine⟨_,iW,⟨j+1,rfl,by omega,qP lh3 l54,fun e he=>?_⟩,by simp [Qo];omega⟩
   rw [tkj] at he;rcases bU.1 he with h1|h1
   ·exact hc3 e h1
   ·rw [cD.1 h1];exact hev
  ·have hge:j=part.length:=by have:=bB e3;omega
   rw [hge,dG] at hc3;refine⟨_,iW,⟨i+1,rfl,by omega,lh3',fun x hx=>?_⟩,by simp [Qo];omega⟩
   rw [tk] at hx;rcases bU.1 hx with h1|h1
   ·exact hz x h1
   ·rw [cD.1 h1];exact⟨h40,hc3⟩
 ·have hge:i=ps.length:=by have:=bB e1;omega
  rw [hge,dG] at hz;exact hK true hh lh fun _=>⟨h3,hz⟩
def Ua (size far:Int)(L:List (PK × List Vl)):List (PK × List Vl):=L.filter fun x=>decide (x.1.1+size<=far)
theorem NT {α β:Type}(R:List (Xt α β))(r:Xt α β):Qv (R++[r])=Qv R++[(r.1,r.2.2)]:=by unfold Qv;rw [cJ];rfl
theorem QjY {L:List (PK × List Vl)}{a:OaT}{n c:Nat}{size far:Int}(G:Ke Qu Wm h a n L)(hn:n<=1000000)(hb:∀ x ∈ L,InR (x.1.1+size))(hK:∀ a' c' h',h.le h'->Ke Qu Wm h' a' (Ua size far L).length (Ua size far L)->R' (vsl a' (Ua size far L).length c') h'):Qa Pg 38 [vsl a n c,vi size,vi far] h R':=by
 obtain⟨R,rfl,hl,H,H2⟩:=G;have hRl:n=R.length:=by rw [hl];simp [Qv]
 subst hRl;clear hl;refine Qi1 ?_
 have S:SlP (QV Wm) h a R.length R:=⟨rfl,H⟩;refine⟨fun vs hh=>∃(i:Nat)(a':OaT)(c':Nat)(Q:List (Xt Vl PK)),vs=[vsl a' Q.length c',vi i]/\i<=R.length/\Q.length<=i/\Qv Q=Ua size far (Qv (R.take i))/\Qg h hh 93 4 a' Q.length c' (Q.flatMap (QV Wm))/\∀ r ∈ Q,Qe h r.2.1.1 (r.2.2.flatMap Qu),fun vs hh=>R.length-(Qo vs 1).toNat,⟨0,none,0,[],rfl,cE _,cB _,rfl,qY (qO h) _ _,fun r hr=>by cases hr⟩,?_⟩
 rintro vs hh ⟨i,a',c',Q,rfl,hi,hQi,eQ,O,HQ⟩;refine⟨a',_,c',_,rfl,fun e=>?_,fun e=>?_⟩
 ·have hlt:i<R.length:=by have:=bC e;omega
  have hx:R[i]?=some R[i]:=bD hlt
  have tk:R.take (i+1)=R.take i++[R[i]]:=bL hlt;have hm:R[i] ∈ R:=cM hlt;generalize R[i]=r at *
  have hbr:InR (r.1.1+size):=hb (r.1,r.2.2) (cZ.2 ⟨r,hm,rfl⟩);obtain⟨b,o,ea,hr⟩:=S.get (sz:=4) (fun r=>Qe2 _ _) (by decide) hx
  have hr':=Hp.row_le O.le hr;have tkU:Ua size far (Qv (R.take (i+1)))=Ua size far (Qv (R.take i))++if r.1.1+size<=far then [(r.1,r.2.2)] else []:=by rw [tk,NT];unfold Ua;rw [gV,fO,mM];by_cases hq:r.1.1+size<=far<;>simp [hq]
  intro J27;have hJ:∀ a2 c2 (Q2:List (Xt Vl PK)) h2,Q2.length<=i+1->Qv Q2=Ua size far (Qv (R.take (i+1)))->Qg h h2 93 4 a2 Q2.length c2 (Q2.flatMap (QV Wm))->(∀ r ∈ Q2,Qe h r.2.1.1 (r.2.2.flatMap Qu))->J27 a2 Q2.length c2 h2:=by
   intro a2 c2 Q2 h2 q1 q2 q3 q4;exact⟨_,iW,⟨i+1,a2,c2,Q2,rfl,by omega,q1,q2,q3,q4⟩,by simp [Qo];omega⟩
  clear_value J27;refine⟨b,o,⟨ea,by omega,by omega⟩,r.1.1,qT (by rw [bF];exact hr') (i:=0) rfl,_,isW hbr,fun e2=>?_,fun e2=>?_⟩
  ·have e2:=bC e2;refine⟨b,o,⟨ea,by omega,by omega⟩,_,_,_,_,_,_,by rw [bF];exact hr',?_⟩
   intro b20 hb20 h21;refine q8 Qix (Qg.set hb20 _ O) (qW _ _ (QV Wm r) _) (m:=1) rfl ?_ (by omega) (by omega) fun a2 c2 h2 O2 _ _=>⟨_,_,_,rfl,?_⟩
   ·intro u hu;simp only [QV,Wm,bS,dB,fV] at hu;rcases hu with rfl|rfl|rfl|rfl<;>rfl
   ·have:=hJ a2 c2 (Q++[r]) h2 (by simp;omega) (by rw [NT,eQ,tkU,bJ e2]) (by rw [cP,bO,dN];exact O2) (by
     intro r' hr2;rcases bU.1 hr2 with h1|h1
     ·exact HQ r' h1
     ·rw [cD.1 h1];exact H2 r hm)
    rw [bO] at this;exact this
  ·have e2:=bB e2;exact hJ a' c' Q hh (by omega) (by rw [eQ,tkU,bE e2,dH]) O HQ
 ·have hge:i=R.length:=by have:=bB e;omega
  subst hge;rw [dG] at eQ;have hlen:Q.length=(Ua size far (Qv R)).length:=by rw [<-eQ];simp [Qv]
  have:=hK a' c' hh O.le ⟨Q,eQ,rfl,O.row,fun r hr=>(HQ r hr).le O.le⟩
  rw [<-hlen] at this;exact this
theorem Nb.sub {ps:List (List EvL)}{pa:OaT}{pn pc:Nat}(TP:Nb Xk h pa pn ps)(hc:pn<=pc){i:Nat}{p:List EvL}(hi:ps[i]?=some p):Nb Xk h (VZ pa i pc 1) 1 [p]:=by
 obtain⟨R,rfl,hn,H,H2⟩:=TP;rw [bQ] at hn;subst hn;rw [cC,dF] at hi
 obtain⟨r,hr,rfl⟩:=hi;have hlt:i<R.length:=(bG.1 hr).1
 have e:∀ R:List (JF EvL),(R.flatMap fun r=>[QcD r])=R.map QcD:=by
  intro R;induction R with
  | nil=>rfl
  | cons r R ih=>rw [dI,ih];rfl
 have S:SlP (fun r=>[QcD r]) h pa R.length R:=⟨rfl,by rw [e];exact H⟩
 have S2:=(S.drop (sz:=1) (fun _=>rfl) (gF hlt) hc).take (sz:=1) (fun _=>rfl) (i:=1) (by omega)
 have e2:(R.drop i).take 1=[r]:=by rw [dS hlt];simp only [List.take_succ_cons,jG,g8,mH];exact(bG.1 hr).2
 rw [e2] at S2;refine⟨[r],rfl,rfl,S2.2,fun j r' hr'=>?_⟩
 match j,hr' with
 | 0,hr'=>cases hr';exact H2 i r hr
end
open Go.Txt
theorem QdC (h:Hp)(b:Nat)(l:List Wd)(hl:l.length<=maxLen):SlB (h.set b (Qb (l.flatMap Yj) 9)) (some ⟨b,0,none⟩) l.length l:=⟨rfl,(QT.new h b 9 (sz:=1) (n:=l.length) (l.flatMap Yj) (by induction l with
 | nil=>rfl
 | cons w l ih=>have:=ih (by simp at hl;omega);simp [Yj] at this ⊢;omega) hl).row⟩
theorem Qio {s:RS}{most:Int}(hm:0<=most):0<=(s.number most).1/\(s.number most).1<=most:=by
 unfold RS.number;split
 ·exact⟨gQ _,hm⟩
 ·split
  ·exact⟨gQ _,hm⟩
  ·rename_i h;exact⟨by omega,(QnL hm).2⟩
theorem QaP (op:Int)(x y:List Nd)(s:RS):(ZI op x y s).1.length<=40:=by
 unfold ZI;split
 ·simp
 ·rw [ZB];omega
theorem Qke {w:Wd}(h:w ∈ YC):(KX w).1=Qil w:=by
 have h2:w=JT\/w=KW\/w=Wr:=by simpa [YC] using h
 rcases h2 with rfl|rfl|rfl<;>rfl
theorem QeZ {P:Ps}{n:Nat}(F:Zr 86 P n)(kp:KP P n):Zr 288 (Qet P) (n+1):=by
 intro h0 h g s D E S R hK;refine GJ ?_
 intro b1 hb1 h2;have hl:h.le h2:=qQ (qO h) hb1 _;have hb:=S.big;have tk:=@QcJ s ([Xx]++YC++YA);have sp:=s.is_spec ([Xx]++YC++YA);have gi:=Ze S.good ([Xx]++YC++YA);have nr:=@Qio;unfold Qet at hK;simp only at hK;refine Q8 (D.le hl) (l:=[Xx]++YC++YA) (QdC h b1 ([Xx]++YC++YA) (by decide)) (by decide) (by omega) fun h4 D4 M4=>⟨_,rfl,?_⟩
 have M04:Mut (At g) h (At g) h4:=(rA hl).trans M4;generalize s.is ([Xx]++YC++YA)=A at *
 obtain⟨w,s1⟩:=A;simp -zeta only at hK D4 tk sp gi ⊢;have hS1:=S.goes gi;have E4:=E.mut M04;refine⟨_,QZ (b:=Xx),fun e=>?_,fun e1=>?_⟩
 ·have ew:w=Xx:=bC e;have tk:=tk (by rw [ew];decide)
  rw [bJ ew] at hK;have d1:=S.d1;have hdp:=gi.deep;have Sn:SOk n s1:=⟨hS1.good,by have:=S.len;omega,hS1.big,hS1.d0,hS1.d1⟩
  have kd:=Kg kp (XD.refl hS1.good) (gF Sn.len);refine JD ⟨_,Tryz.func86,by kernel_rfl,by kernel_rfl⟩ F kp D4 E4 Sn (by omega) fun a c h8 D8 N8 M8=>⟨_,_,_,rfl,?_⟩
  refine Zs D8 (by have:=kd.len;have:=hS1.big;omega) fun h11 D11 M11=>⟨rfl,?_⟩
  exact hK a c h11 D11 ((N8.base (M04.up D4.al)).mut D.al M11) ((M04.trans M8).trans M11)
 have e1:¬ w=Xx:=bB e1;rw [bE e1] at hK;have hwc:w ∈ YC↔w=JT\/w=KW\/w=Wr:=by simp [YC]
 refine⟨_,QZ (b:=JT),?_⟩
 intro J18;have yes:w ∈ YC->J18 true:=by
  intro hw;rw [bJ hw] at hK;have hwl:w.length<=1000000:=by
   have:w=JT\/w=KW\/w=Wr:=hwc.1 hw;rcases this with rfl|rfl|rfl<;>decide
  refine⟨fun _=>?_,fun e=>by cases e⟩
  refine Gw hwl E4.now.p E4.now.e ⟨_,_,_,rfl,?_⟩
  rw [Qke hw];refine Kp ⟨1,0,0,0,Qil w⟩ fun a c h26 N26 _ l26=>⟨_,_,_,rfl,?_⟩
  exact hK a c h26 (D4.le l26) (N26.base (M04.up D4.al)) (M04.trans (rA l26))
 have no:¬ w ∈ YC->J18 false:=by
  intro hw;rw [bE hw] at hK;refine⟨fun e=>by (cases e),fun _=>⟨_,QZ (b:=[]),fun e=>?_,fun e=>?_⟩⟩
  ·rw [bJ (bC e)] at hK;have nr1:=nr (s:=s1) (most:=1000000000) (by decide)
   refine WY D4 E4 (by have:=hS1.big;omega) (by decide) (by decide) fun h30 D30 M30=>⟨_,rfl,QJ ⟨_,_,rfl,?_⟩⟩
   have en:Kd (s1.number 1000000000).1=(1,(s1.number 1000000000).1):=by unfold Kd;rw [bE (by omega)]
   rw [en];refine Kp ⟨1,0,0,0,(1,(s1.number 1000000000).1)⟩ fun a c h37 N37 _ l37=>⟨_,_,_,rfl,?_⟩
   exact hK a c h37 (D30.le l37) (N37.base ((M04.trans M30).up D30.al)) ((M04.trans M30).trans (rA l37))
  ·have e3:=bB e;rw [bE e3] at hK;have hm:w ∈ YA:=by
    rcases sp with ⟨q,_⟩|⟨w',r,_,hm,q,_⟩
    ·exact absurd q e3
    ·rw [<-q] at hm;rcases bU.1 hm with h4|h4
     ·rcases bU.1 h4 with h5|h5
      ·exact absurd (by simpa using h5) e1
      ·exact absurd h5 hw
     ·exact h4
   obtain⟨fa,fc,hf,hfs⟩:=E4.now.f;refine⟨_,_,_,hf,KH hfs (by decide) ⟨_,rfl,?_⟩⟩
   rw [bJ hm];refine Kp ⟨2,0,0,YA.idxOf w,(0,0)⟩ fun a c h44 N44 _ l44=>⟨_,_,_,rfl,?_⟩
   exact hK a c h44 (D4.le l44) (N44.base (M04.up D4.al)) (M04.trans (rA l44))
 clear_value J18;refine⟨fun e=>?_,fun e2=>⟨_,QZ (b:=KW),fun e=>?_,fun e3=>⟨_,QZ (b:=Wr),?_⟩⟩⟩
 ·rw [e];exact yes (hwc.2 (.inl (bC e)))
 ·rw [e];exact yes (hwc.2 (.inr (.inl (bC e))))
 ·have e2:=bB e2;have e3:=bB e3;by_cases hf:w=Wr
  ·rw [cL hf];exact yes (hwc.2 (.inr (.inr hf)))
  ·rw [cO hf];refine no fun h=>?_
   rcases hwc.1 h with h|h|h
   ·exact e2 h
   ·exact e3 h
   ·exact hf h
theorem Qdr {U A:Ps}{n:Nat}(F:Zr 287 U n)(ku:KP U n)(FA:Zr 288 A (n+1)):Zr 287 (Qau U A) (n+1):=by
 intro h0 h g s D E S R hK;refine VX ?_
 intro b1 hb1 h2;have hl:h.le h2:=qQ (qO h) hb1 _;have hb:=S.big;have tk:=@QcJ s [Xy];have gi:=Ze S.good [Xy];unfold Qau at hK;have hi:=@RS.is_spec s [Xy];refine Q8 (D.le hl) (Kn h b1 Xy) (by decide) (by omega) fun h4 D4 M4=>⟨_,rfl,?_⟩
 have M04:Mut (At g) h (At g) h4:=(rA hl).trans M4;generalize s.is [Xy]=B at *
 obtain⟨w,s1⟩:=B;simp -zeta only at hK D4 tk gi hi ⊢;have hS1:=S.goes gi;have E4:=E.mut M04;refine⟨_,QZ (b:=[]),fun e=>?_,fun e=>?_⟩
 ·have ew:=bC e;rw [bJ ew] at hK;have es:s1=s:=by
   rcases hi with ⟨_,q⟩|⟨w',r,_,hm,q,_⟩
   ·exact q
   ·rw [ew] at q;rw [<-q] at hm;exact absurd hm (by decide)
  subst es;exact FA D4 E4 hS1 fun a c h8 D8 N8 M8=>⟨_,_,_,rfl,hK a c h8 D8 (N8.base (M04.up D4.al)) (M04.trans M8)⟩
 ·have ew:=bB e;rw [bE ew] at hK;have tk:=tk ew;have d1:=S.d1;have hdp:=gi.deep;have Sn:SOk n s1:=⟨hS1.good,by have:=S.len;omega,hS1.big,hS1.d0,hS1.d1⟩
  have kd:=Kg ku (XD.refl hS1.good) (gF Sn.len);refine JD ⟨_,Tryz.func287,by kernel_rfl,by kernel_rfl⟩ F ku D4 E4 Sn (by omega) fun a c h8 D8 N8 M8=>⟨_,_,_,rfl,?_⟩
  refine QK D8 N8.s (Ui h8 h8).s Wc (by have:=kd.le;omega) (by simp) fun a c h15 D15 N15 M15=>⟨_,_,_,rfl,?_⟩
  exact hK a c h15 D15 (N15.base ((M04.trans M8).up D8.al)) ((M04.trans M8).trans M15)
theorem QfM {U A:Ps}{n:Nat}(F:Zr 200 U n)(ku:KP U n)(FA:Zr 239 A (n+1)):Zr 200 (Qkd U A) (n+1):=by
 intro h0 h g s D E S R hK;refine M0 ?_
 intro b1 hb1 h2;have hl:h.le h2:=qQ (qO h) hb1 _;have hb:=S.big;have tk:=@QcJ s [Np];have gi:=Ze S.good [Np];unfold Qkd at hK;have hi:=@RS.is_spec s [Np];refine Q8 (D.le hl) (Kn h b1 Np) (by decide) (by omega) fun h4 D4 M4=>⟨_,rfl,?_⟩
 have M04:Mut (At g) h (At g) h4:=(rA hl).trans M4;generalize s.is [Np]=B at *
 obtain⟨w,s1⟩:=B;simp -zeta only at hK D4 tk gi hi ⊢;have hS1:=S.goes gi;have E4:=E.mut M04;refine⟨_,QZ (b:=[]),fun e=>?_,fun e=>?_⟩
 ·have ew:=bC e;rw [bJ ew] at hK;have es:s1=s:=by
   rcases hi with ⟨_,q⟩|⟨w',r,_,hm,q,_⟩
   ·exact q
   ·rw [ew] at q;rw [<-q] at hm;exact absurd hm (by decide)
  subst es;exact FA D4 E4 hS1 fun a c h8 D8 N8 M8=>⟨_,_,_,rfl,hK a c h8 D8 (N8.base (M04.up D4.al)) (M04.trans M8)⟩
 ·have ew:=bB e;rw [bE ew] at hK;have tk:=tk ew;have d1:=S.d1;have hdp:=gi.deep;have Sn:SOk n s1:=⟨hS1.good,by have:=S.len;omega,hS1.big,hS1.d0,hS1.d1⟩
  have kd:=Kg ku (XD.refl hS1.good) (gF Sn.len);refine JD ⟨_,Tryz.func200,by kernel_rfl,by kernel_rfl⟩ F ku D4 E4 Sn (by omega) fun a c h8 D8 N8 M8=>⟨_,_,_,rfl,?_⟩
  refine QK D8 N8.s (Ui h8 h8).s Wc (by have:=kd.le;omega) (by simp) fun a c h15 D15 N15 M15=>⟨_,_,_,rfl,?_⟩
  exact hK a c h15 D15 (N15.base ((M04.trans M8).up D8.al)) ((M04.trans M8).trans M15)
theorem QbA {P:Ps}{n:Nat}(F:Zr 267 P n)(kp:KP P n):Zr 239 (Qkn P) n:=by
 intro h0 h g s D E S R hK;refine US ?_
 have k:=kp s S.good (gF S.len);unfold Qkn at hK;simp only at hK;refine F D E S fun a3 c3 h2 D2 N2 M2=>⟨_,_,_,rfl,?_⟩
 intro b4 hb4 h5;have l5:h2.le h5:=qQ (qO h2) hb4 _;have S2:=S.goes k.goes;have G0:=k.goes;have k0:=k.le;generalize P s=X at *
 obtain⟨x,s0⟩:=X;simp only at hK D2 N2 S2 G0 k0;have gi:=Ze S2.good [wLt,wGt,wLe,wGe,wEq,wNe,wIs];refine Q8 (D2.le l5) (QdC h2 b4 [wLt,wGt,wLe,wGe,wEq,wNe,wIs] (by decide)) (by decide) (by have:=S2.big;omega) fun h7 D7 M7=>⟨_,rfl,?_⟩
 have M57:Mut (At g) h2 (At g) h7:=(rA l5).trans M7;have M07:Mut (At g) h (At g) h7:=M2.trans M57;have N7:=N2.mut D.al M57;generalize s0.is [wLt,wGt,wLe,wGe,wEq,wNe,wIs]=B at *
 obtain⟨w,s1⟩:=B;simp -zeta only at hK D7 gi ⊢;have S7:=S2.goes gi;have k2:=kp s1 S7.good (gF S7.len);have kw:=k2.wf;have kl:=k2.le;have E7:=E.mut M07;have sumK:∀{R2:RtT},(∀ a c h',Q5 h0 h' g (P s1).2->JB h7 h' a (P s1).1.length (P s1).1->Mut (At g) h7 (At g) h'->R2 (vsl a (P s1).1.length c) h')->Qa Pg 267 [vhp g 0] h7 R2:=fun H=>F D7 E7 S7 H
 have kx:=k.wf;intro J78;generalize P s1=Y at *
 obtain⟨y,s2⟩:=Y;simp -zeta only at hK sumK kw kl ⊢;refine⟨_,QZ (b:=wLt),fun e=>?_,fun e1=>⟨_,QZ (b:=wGt),fun e=>?_,fun e2=>⟨_,QZ (b:=wLe),fun e=>?_,fun e3=>⟨_,QZ (b:=wGe),fun e=>?_,fun e4=>⟨_,QZ (b:=wEq),fun e=>?_,fun e5=>⟨_,QZ (b:=wNe),fun e=>?_,fun e6=>⟨_,QZ (b:=wIs),fun e=>?_,fun e7=>?_⟩⟩⟩⟩⟩⟩⟩
 ·rw [bJ (bC e)] at hK;exact sumK fun a c h11 D11 N11 M11=>⟨_,_,_,rfl,QK D11 (N7.mut D.al M11).s N11.s kw (by omega) (by omega) fun a c h14 D14 N14 M14=>⟨_,_,_,rfl,hK a c h14 D14 (N14.base ((M07.trans M11).up D11.al)) ((M07.trans M11).trans M14)⟩⟩
 ·rw [bE (bB e1),bJ (bC e)] at hK;exact sumK fun a c h11 D11 N11 M11=>⟨_,_,_,rfl,QK D11 N11.s (N7.mut D.al M11).s kx (by omega) (by omega) fun a c h14 D14 N14 M14=>⟨_,_,_,rfl,hK a c h14 D14 (N14.base ((M07.trans M11).up D11.al)) ((M07.trans M11).trans M14)⟩⟩
 ·rw [bE (bB e1),bE (bB e2),bJ (bC e)] at hK;have jl:=QaP 11 y x s2;exact sumK fun a c h11 D11 N11 M11=>⟨_,_,_,rfl,QK D11 N11.s (N7.mut D.al M11).s kx (by omega) (by omega) fun a c h14 D14 N14 M14=>⟨_,_,_,rfl,QK D14 N14.s (Ui h14 h14).s Wc (by omega) (by simp) fun a c h17 D17 N17 M17=>⟨_,_,_,rfl,hK a c h17 D17 (N17.base (((M07.trans M11).trans M14).up D14.al)) (((M07.trans M11).trans M14).trans M17)⟩⟩⟩
 ·rw [bE (bB e1),bE (bB e2),bE (bB e3),bJ (bC e)] at hK;have jl:=QaP 11 x y s2;exact sumK fun a c h11 D11 N11 M11=>⟨_,_,_,rfl,QK D11 (N7.mut D.al M11).s N11.s kw (by omega) (by omega) fun a c h14 D14 N14 M14=>⟨_,_,_,rfl,QK D14 N14.s (Ui h14 h14).s Wc (by omega) (by simp) fun a c h17 D17 N17 M17=>⟨_,_,_,rfl,hK a c h17 D17 (N17.base (((M07.trans M11).trans M14).up D14.al)) (((M07.trans M11).trans M14).trans M17)⟩⟩⟩
 ·rw [bE (bB e1),bE (bB e2),bE (bB e3),bE (bB e4),bJ (bC e)] at hK;exact sumK fun a c h11 D11 N11 M11=>⟨_,_,_,rfl,QK D11 (N7.mut D.al M11).s N11.s kw (by omega) (by omega) fun a c h14 D14 N14 M14=>⟨_,_,_,rfl,hK a c h14 D14 (N14.base ((M07.trans M11).up D11.al)) ((M07.trans M11).trans M14)⟩⟩
 ·rw [bE (bB e1),bE (bB e2),bE (bB e3),bE (bB e4),bE (bB e5),bJ (bC e)] at hK;have jl:=QaP 12 x y s2;exact sumK fun a c h11 D11 N11 M11=>⟨_,_,_,rfl,QK D11 (N7.mut D.al M11).s N11.s kw (by omega) (by omega) fun a c h14 D14 N14 M14=>⟨_,_,_,rfl,QK D14 N14.s (Ui h14 h14).s Wc (by omega) (by simp) fun a c h17 D17 N17 M17=>⟨_,_,_,rfl,hK a c h17 D17 (N17.base (((M07.trans M11).trans M14).up D14.al)) (((M07.trans M11).trans M14).trans M17)⟩⟩⟩
 ·rw [bE (bB e1),bE (bB e2),bE (bB e3),bE (bB e4),bE (bB e5),bE (bB e6),bJ (bC e)] at hK;intro b61 hb61 h62;have l62:h7.le h62:=qQ (qO h7) hb61 _;have g3:=Ze S7.good [Np];refine Q8 (D7.le l62) (Kn h7 b61 Np) (by decide) (by have:=S7.big;omega) fun h64 D64 M64=>⟨_,rfl,?_⟩
  have M64':Mut (At g) h7 (At g) h64:=(rA l62).trans M64;have S8:=S7.goes g3;generalize s1.is [Np]=C at *
  obtain⟨v,s3⟩:=C;simp -zeta only at hK D64 S8 ⊢;refine Zs D64 (by have:=S8.big;omega) fun h67 D67 M67=>⟨rfl,?_⟩
  have M67':=M64'.trans M67;refine QK D67 (N7.mut D.al M67').s (Ui h67 h67).s Wc (by omega) (by simp) fun a c h69 D69 N69 M69=>⟨_,_,_,rfl,?_⟩
  have jl:=QaP 5 x [] (s3.must JT);refine⟨_,Uc (b:=[]),fun q=>?_,fun q=>?_⟩
  ·have q:v≠[]:=by simpa using q
   rw [bJ q] at hK;exact QK D69 N69.s (Ui h69 h69).s Wc (dK jl (by decide)) (by simp) fun a c h73 D73 N73 M73=>⟨_,_,_,rfl,hK a c h73 D73 (N73.base (((M07.trans M67').trans M69).up D69.al)) (((M07.trans M67').trans M69).trans M73)⟩
  ·have q:¬ v≠[]:=by simpa using q
   rw [bE q] at hK;exact hK a c h69 D69 (N69.base ((M07.trans M67').up D67.al)) ((M07.trans M67').trans M69)
 ·rw [bE (bB e1),bE (bB e2),bE (bB e3),bE (bB e4),bE (bB e5),bE (bB e6),bE (bB e7)] at hK;exact hK _ _ h7 D7 N7 M07
def GV (h:Hp)(g:Nat):Nat:=match h.cell g 0 with|some (.slice _ n _)=>n|_=>0
theorem Q5.wn {h0 h:Hp}{g:Nat}{s:RS}(D:Q5 h0 h g s):GV h g=s.ws.length:=by
 obtain⟨a,c,e⟩:=D.c0;unfold GV;rw [e]
theorem ND {f:FuncId}{P:Ps}{n:Nat}(B:Qhy f)(F:Zr f P n)(kp:KP P n){ops:List (Wd × Int)}(ho:∀ q ∈ ops,Opr q.2)(hne:∀ q ∈ ops,q.1≠[])(hol:ops.length<=100){h0 h:Hp}{g:Nat}{s:RS}(D:Q5 h0 h g s)(E:QaJ h0 h g)(S:SOk n s){y:Value}{wa:OaT}{wn wc:Nat}(W:QoL Yj h g wa wn (ops.map (·.1)))
  (hop:∀ h',Mut (At g) h (At g) h'->∀ w ∈ ops.map (·.1),Rd Pg (Instr.lookup 236 y (vs (bs w)) false) h' (vi (QjL ops w)))
  {R:RtT} (hK:∀ a c h',Q5 h0 h' g (UY P ops s).2->JB h h' a (UY P ops s).1.length (UY P ops s).1->Mut (At g) h (At g) h'->R (vsl a (UY P ops s).1.length c) h'):Qa Pg 143 [vhp g 0,.func (.func f) #[vhp g 0] #[],y,vsl wa wn wc] h R:=by
 refine Nl ?_
 have k:=kp s S.good (gF S.len);have Sx:=S.goes k.goes;have kx:=k.wf;have kl:=k.le;have kp1:=k.pos;unfold UY at hK;have hwn:wn=ops.length:=by have:=W.s.1;simpa using this
 refine Qkc B (F D E S fun a3 c3 h2 D2 N2 M2=>⟨_,_,_,rfl,?_⟩)
 generalize P s=X at *
 obtain⟨x0,s0⟩:=X;simp -zeta only at hK D2 N2 Sx kx kl kp1 ⊢;intro J26;refine⟨fun vs' hh=>∃(k:Nat)(x:List Nd)(t:RS)(a:OaT)(c:Nat),vs'=[vsl a x.length c]/\Q5 h0 hh g t/\JB h hh a x.length x/\Mut (At g) h (At g) hh/\SOk n t/\1<=x.length/\x.length<=40/\WfL x/\t.ws.length<k/\Qg6 P ops k x t=Qg6 P ops (s0.ws.length+1) x0 s0,fun _ hh=>GV hh g,⟨_,x0,s0,a3,c3,rfl,D2,N2,M2,Sx,kp1,kl,kx,jO _,rfl⟩,?_⟩
 rintro vs' hh ⟨k,x,t,a,c,rfl,Dt,Nt,Mt,St,hx1,hx,Wx,hk,hrow⟩;obtain⟨k,rfl⟩:∃ j,k=j+1:=⟨k-1,by omega⟩
 rw [Qg6] at hrow;refine⟨_,_,_,rfl,_,Dt.c2,fun e=>?_,fun e=>?_⟩
 ·have f0:¬ t.f≠0:=by rw [YR] at e;simpa using e
  rw [bE f0] at hrow;have gi:=Ze St.good (ops.map (·.1))
  have gm:=@Qk4 t (ops.map (·.1))
  have tk:=@QcJ t (ops.map (·.1))
  have hDt:=Dt.wn;refine Q8 Dt (W.mut Mt).s (by omega) (by have:=St.big;omega) fun h14 D14 M14=>⟨_,rfl,?_⟩
  have M014:=Mt.trans M14;simp only at hrow;generalize t.is (ops.map (·.1))=A at *
  obtain⟨w,s1⟩:=A;simp -zeta only at hrow D14 gi gm tk ⊢;have S1:=St.goes gi;refine⟨_,QZ (b:=[]),fun e=>?_,fun e=>?_⟩
  ·rw [bJ (bC e)] at hrow;rw [<-hrow] at hK;exact hK _ _ h14 D14 (Nt.mut D.al M14) M014
  ·have ew:=bB e;rw [bE ew] at hrow;have hop':=Qiv ho (gm ew);have kn:=kp s1 S1.good (gF S1.len);have tk:=tk ew;refine⟨_,hop h14 M014 w (gm ew),Qkc B (F D14 (E.mut M014) S1 fun a22 c22 h21 D21 N21 M21=>⟨_,_,_,rfl,hop h21 (M014.trans M21) w (gm ew),?_⟩)⟩
   generalize QjL ops w=op at *
   have kj:Xw (ZI op x (P s1).1 (P s1).2) t:=Q9 hop' (gi.trans kn.goes) Wx kn.wf hx1 (fun _=>kn.pos)
   have kn1:=kn.wf;have kn2:=kn.le;have kn3:=kn.len;have kj2:(ZI op x (P s1).1 (P s1).2).2.ws.length<=(P s1).2.ws.length:=by
    unfold ZI;split
    ·exact cE _
    ·exact cB _
   generalize P s1=Y at *
   obtain⟨y1,s2⟩:=Y;simp -zeta only at hrow D21 N21 kj kn1 kn2 kn3 kj2 ⊢;refine QK D21 ((Nt.mut D.al M14).mut D.al M21).s N21.s kn1 (by omega) (by omega) fun a25 c25 h24 D24 N24 M24=>⟨_,_,_,rfl,⟨k,_,_,a25,c25,rfl,D24,N24.base ((M014.trans M21).up D21.al),(M014.trans M21).trans M24,St.goes kj.goes,kj.pos,kj.le,kj.wf,by omega,hrow⟩,?_⟩
   have h24n:=D24.wn;show GV h24 g<GV hh g;omega
 ·have f0:t.f≠0:=by rw [YR] at e;simpa using e
  rw [bJ f0] at hrow;rw [<-hrow] at hK;exact hK _ _ hh Dt Nt Mt
theorem Qhl {h:Hp}{b:Nat}{es:Array MapEntry}{clock:Nat}(hb:h b=some (.map es clock)){w:Wd}{x:Int}{i:Nat}(hf:Instr.findNow .string (vs (bs w)) es.toList 0=some (some (i,vi x))):Rd Pg (Instr.lookup 236 (.map (some b)) (vs (bs w)) false) h (vi x):=
 Qmz (k:=9) (e:=3) (d:=.string) (by kernel_rfl) (by kernel_rfl) hb trivial hf
theorem QeY {h:Hp}{b:Nat}{es:Array MapEntry}{clock:Nat}(hb:h b=some (.map es clock)){w:Wd}{x:Int}(hf:Instr.findNow .string (vs (bs w)) es.toList 0=some none){K:HpT}(hK:K (h.set b (.map (es.push { key:=vs (bs w),val:=vi x,born:=clock }) (clock+1)))):WX Pg (Instr.mapUpdate 236 (.map (some b)) (vs (bs w)) (vi x)) h K:=
 QkS (k:=9) (e:=3) (d:=.string) (key:=vs (bs w)) (by kernel_rfl) (by kernel_rfl) hb trivial hf hK
theorem Uu {f:FuncId}{P:Ps}{n:Nat}(B:Qhy f)(F:Zr f P n)(kp:KP P n){w:Wd}{op:Int}(ho:Opr op)(hw:w≠[]){h0 h:Hp}{g:Nat}{s:RS}(D:Q5 h0 h g s)(E:QaJ h0 h g)(S:SOk n s){R:RtT}(hK:∀ a c h',Q5 h0 h' g (UY P [(w,op)] s).2->JB h h' a (UY P [(w,op)] s).1.length (UY P [(w,op)] s).1->Mut (At g) h (At g) h'->R (vsl a (UY P [(w,op)] s).1.length c) h') :
  Qh Pg (Instr.makeMap 236 none) h fun v1 h2=>∃(y3:Value),v1=y3/\(WX Pg (Instr.mapUpdate 236 y3 (vs (bs w)) (vi op)) h2 fun h4=>(∀(b5:Nat),h4 b5=none->let h6:Hp:=Hp.set h4 b5 (Qb [(vs (bs w))] 9);(Qa Pg 143 [(vhp g 0),(Value.func (.func f) #[(vhp g 0)] #[]),y3,(vsl (some ⟨b5,0,none⟩) 1 1)] h6 fun v7 h8=>∃(a9:OaT)(n9 c9:Nat),v7=(vsl a9 n9 c9)/\R (vsl a9 n9 c9) h8))):=by
 refine QcP fun b hb=>⟨_,rfl,?_⟩
 refine QeY (qK _ _ _) rfl ?_
 intro b5 hb5 h6;have hbg:b≠g:=fun e=>by rw [e] at hb;exact D.al hb
 have l1:h.le (h.set b (.map #[] 0)):=qQ (qO h) hb _;rw [rB] at hb5;have l2:h.le h6:=by
  have:h6=(h.set b (.map (#[].push { key:=vs (bs w),val:=vi op,born:=0 }) (0+1))).set b5 (Qb [vs (bs w)] 9):=by show ((h.set b _).set b _).set b5 _=_;rw [rB]
  rw [this];exact qP (qQ (qO h) hb _) (qQ (qO _) hb5 _)
 have hb6:h6 b=some (.map (#[].push { key:=vs (bs w),val:=vi op,born:=0 }) (0+1)):=by
  have hne:b≠b5:=fun e=>by rw [e,qK] at hb5;cases hb5
  show (((h.set b _).set b _).set b5 _) b=_;rw [qL _ _ hne,qK]
 have D6:=D.le l2;have hb5g:b5≠g:=fun e=>by
  subst e;have:(h.set b (.map (#[].push { key:=vs (bs w),val:=vi op,born:=0 }) (0+1))) b5≠none:=by rw [qL _ _ hbg.symm];exact D.al
  exact this hb5
 refine ND B F kp (ops:=[(w,op)]) (by simpa using ho) (by simpa using hw) (by simp) D6 (E.mut (rA l2)) S ⟨Kn _ b5 w,fun b' o e=>by cases e;exact hb5g⟩ (fun h' M w' hw'=>?_) fun a c h' D' N' M'=>⟨_,_,_,rfl,?_⟩
 ·have e:w'=w:=by simpa using hw'
  subst e;have ho:QjL [(w',op)] w'=op:=by simp [QjL]
  rw [ho];have hm:h' b=_:=M.keep b _ (fun e=>hbg e) hb6
  refine Qhl hm (i:=0) ?_
  show Instr.findNow .string (vs (bs w')) [{ key:=vs (bs w'),val:=vi op,born:=0 }] 0=_;simp [Instr.findNow,Instr.sameNow,(Go.MapKept.bytes_beq (bs w') (bs w')).2 rfl]
 ·exact hK a c h' D' (N'.base (QpP l2)) ((rA l2).trans M')
theorem Qbu {P:Ps}{n:Nat}(F:Zr 287 P n)(kp:KP P n):Zr 280 (UY P [(Gn,8)]) n:=by
 intro h0 h g s D E S R hK;refine UU ?_
 exact Uu ⟨_,Tryz.func287,by kernel_rfl,by kernel_rfl⟩ F kp (by decide) (by decide) D E S hK
theorem Qf7 {P:Ps}{n:Nat}(F:Zr 200 P n)(kp:KP P n):Zr 144 (UY P [(QqO,9)]) n:=by
 intro h0 h g s D E S R hK;refine Nc ?_
 exact Uu ⟨_,Tryz.func200,by kernel_rfl,by kernel_rfl⟩ F kp (by decide) (by decide) D E S hK
theorem Qhu {P:Ps}{n:Nat}(F:Zr 144 P n)(kp:KP P n):Zr 86 (UY P [(wOr,10)]) n:=by
 intro h0 h g s D E S R hK;refine NV ?_
 exact Uu ⟨_,Tryz.func144,by kernel_rfl,by kernel_rfl⟩ F kp (by decide) (by decide) D E S hK
theorem QfE {P:Ps}{n:Nat}(F:Zr 280 P n)(kp:KP P n):Zr 267 (UY P [(Qgf,6),(Xy,7)]) n:=by
 intro h0 h g s D E S R hK;refine MZ ?_
 refine QcP fun b hb=>⟨_,rfl,?_⟩
 refine QeY (w:=Qgf) (qK _ _ _) rfl ?_
 refine QeY (w:=Xy) (qK _ _ _) rfl ?_
 rw [rB,rB];generalize hM:Obj.map _ _=ob;intro b5 hb5 h6;have hbg:b≠g:=fun e=>by rw [e] at hb;exact D.al hb
 have l2:h.le h6:=qP (qQ (qO h) hb _) (qQ (qO _) hb5 _);have hb6:h6 b=some ob:=by
  have hne:b≠b5:=fun e=>by rw [e,qK] at hb5;cases hb5
  show ((h.set b _).set b5 _) b=_;rw [qL _ _ hne,qK]
 have D6:=D.le l2;have hb5g:b5≠g:=fun e=>by
  subst e;have:(h.set b ob) b5≠none:=by rw [qL _ _ hbg.symm];exact D.al
  exact this hb5
 refine ND ⟨_,Tryz.func280,by kernel_rfl,by kernel_rfl⟩ F kp (ops:=[(Qgf,6),(Xy,7)]) (by decide) (by decide) (by simp) D6 (E.mut (rA l2)) S ⟨QdC _ b5 [Qgf,Xy] (by decide),fun b' o e=>by cases e;exact hb5g⟩ (fun h' M w' hw'=>?_) fun a c h' D' N' M'=>⟨_,_,_,rfl,?_⟩
 ·have hm:h' b=some ob:=M.keep b _ (fun e=>hbg e) hb6
  rw [<-hM] at hm;have e:w'=Qgf\/w'=Xy:=by simpa using hw'
  rcases e with rfl|rfl
  ·exact Qhl hm (i:=0) rfl
  ·exact Qhl hm (i:=1) rfl
 ·exact hK a c h' D' (N'.base (QpP l2)) ((rA l2).trans M')
theorem Qk1 {t:Mi}{n:Nat}(h:KP t.o n/\KP t.n n/\KP t.u n)(H:Zr 86 t.o n/\Zr 200 t.n n/\Zr 287 t.u n):Zr 86 (orS t) (n+1)/\Zr 200 (Qhz t) (n+1)/\Zr 287 (unS t) (n+1):=by
 obtain⟨k1,k2,k3,k4,k5,k6,k7⟩:=Qlz h;have h1:Zr 287 (unS t) (n+1):=Qdr H.2.2 h.2.2 (QeZ H.1 h.1);have h2:Zr 280 (Qlf t) (n+1):=Qbu h1 k3;have h3:Zr 267 (Qnj t) (n+1):=QfE h2 k4;have h4:Zr 239 (QoF t) (n+1):=QbA h3 k5;have h5:Zr 200 (Qhz t) (n+1):=QfM H.2.1 h.2.1 h4;have h6:Zr 144 (Qo9 t) (n+1):=Qf7 h5 k2;exact⟨Qhu h6 k7,h5,h1⟩
theorem Qao (f:FuncId)(P:Ps):Zr f P 0:=by
 intro h0 h g s D E S R hK;exact absurd S.len (mJ _)
theorem QmU (n:Nat):Zr 86 (W6 n).o n/\Zr 200 (W6 n).n n/\Zr 287 (W6 n).u n:=by
 induction n with
 | zero=>exact⟨Qao _ _,Qao _ _,Qao _ _⟩
 | succ n ih=>rw [Qcv];exact Qk1 (Qcy n) ih
theorem Qe1 {s:RS}{w:Wd}(hw:w≠[])(h:(s.is [w]).1=[]):(s.is [w]).2=s:=by
 rcases s.is_spec [w] with ⟨_,q⟩|⟨w',r,_,hm,q,_⟩
 ·exact q
 ·rw [h] at q;rw [<-q] at hm;exact absurd (cD.1 hm).symm hw
theorem X8 {n:Nat}{h0 h:Hp}{g:Nat}{s:RS}(D:Q5 h0 h g s)(E:QaJ h0 h g)(S:SOk n s){w:Wd}(hw:w≠[]){d:Int}{R:RtT}(hK:∀ h',Q5 h0 h' g (Qbm w d s).2->Mut (At g) h (At g) h'->R (vi (Qbm w d s).1) h'):Qa Pg 88 [vhp g 0,vs (bs w),vi d] h R:=by
 refine Uj ?_
 intro b1 hb1 h2;have hl:h.le h2:=qQ (qO h) hb1 _;have hb:=S.big;have io:=@Qe1 s w hw;have gi:=Ze S.good [w];unfold Qbm at hK;refine Q8 (D.le hl) (Kn h b1 w) (by decide) (by omega) fun h4 D4 M4=>⟨_,rfl,?_⟩
 have M04:Mut (At g) h (At g) h4:=(rA hl).trans M4;refine⟨_,QZ (b:=[]),fun e=>?_,fun e=>?_⟩
 ·have e:=bC e;rw [bJ e] at hK;rw [io e] at D4;exact hK h4 D4 M04
 ·have e:=bB e;rw [bE e] at hK;exact WY D4 (E.mut M04) (by have:=gi.len;omega) (by decide) (by decide) fun h9 D9 M9=>⟨_,rfl,hK h9 D9 (M04.trans M9)⟩
theorem Qoj {w:Wd}(h:w ∈ [[],ZF,V1,VM,V6]):w ∈ Qly/\(Qly.idxOf w:Int)=QdE w:=by
 have h2:w=[]\/w=ZF\/w=V1\/w=VM\/w=V6:=by simpa using h
 rcases h2 with rfl|rfl|rfl|rfl|rfl<;>exact⟨by decide,by decide⟩
theorem Nr {P:Ps}{n:Nat}(F:Zr 86 P n)(kp:KP P n){h0 h:Hp}{g:Nat}{s:RS}(D:Q5 h0 h g s)(E:QaJ h0 h g)(S:SOk n s){R:RtT}(hK:∀ a c h',Q5 h0 h' g (UR P s).2->JB h h' a (UR P s).1.2.length (UR P s).1.2->Mut (At g) h (At g) h'->R (vag [vi (UR P s).1.1,vsl a (UR P s).1.2.length c]) h'):Qa Pg 84 [vhp g 0] h R:=by
 refine No ?_
 intro b1 hb1 h2;have hl:h.le h2:=qQ (qO h) hb1 _;have hb:=S.big;have gi:=Ze S.good [ZF,V1,VM,V6];have gm:=@Qk4 s [ZF,V1,VM,V6];unfold UR at hK;simp only at hK;refine Q8 (D.le hl) (QdC h b1 [ZF,V1,VM,V6] (by decide)) (by decide) (by omega) fun h4 D4 M4=>⟨_,rfl,?_⟩
 have M04:Mut (At g) h (At g) h4:=(rA hl).trans M4;generalize s.is [ZF,V1,VM,V6]=B at *
 obtain⟨w,s1⟩:=B;simp -zeta only at hK D4 gi gm ⊢;have S1:=S.goes gi;have hwm:w ∈ [[],ZF,V1,VM,V6]:=by
  by_cases e:w=[]
  ·rw [e];simp
  ·exact bT _ (gm e)
 obtain⟨hwa,hwi⟩:=Qoj hwm;refine⟨_,QZ (b:=[]),?_⟩
 intro J11;have hJ:∀(h12:Hp)(t:RS),t=(if w=[] then s1.fail 4 else s1)->Q5 h0 h12 g t->Mut (At g) h (At g) h12->XD t s->J11 h12:=by
  intro h12 t ht D12 M12 Gt;rw [<-ht] at hK;clear ht;have St:=S.goes Gt;refine Zs D12 (by have:=St.big;omega) fun h14 D14 M14=>⟨rfl,?_⟩
  have M014:=M12.trans M14;have E14:=E.mut M014;have G2:=Gt.trans (ZY Gt.ok Xx);obtain⟨qa,qc,hq,hqs⟩:=E14.now.a;refine⟨_,_,_,hq,KH hqs (by decide) ⟨_,rfl,?_⟩⟩
  rw [bJ hwa,hwi];have D14:Q5 h0 h14 g (t.must Xx):=D14;generalize t.must Xx=s2 at *
  have S2:=S.goes G2;intro J56;have fin:∀(k:Int)(a:OaT)(c:Nat)(h66:Hp)(l:List Nd)(u:RS),Q5 h0 h66 g u->JB h h66 a l.length l->Mut (At g) h (At g) h66->SOk n u->(∀ a c h',Q5 h0 h' g (u.must Qb4)->JB h h' a l.length l->Mut (At g) h (At g) h'->R (vag [vi k,vsl a l.length c]) h')->J56 k a l.length c h66:=by intro k a c h66 l u D66 N66 M66 Su hR;exact Zs D66 (by have:=Su.big;omega) fun h68 D68 M68=>⟨rfl,hR a c h68 D68 (N66.mut D.al M68) (M66.trans M68)⟩
  clear_value J56;have orK:∀{h26:Hp} (k:Int),Q5 h0 h26 g s2->Mut (At g) h (At g) h26->(∀ a c h',Q5 h0 h' g ((P s2).2.must Qb4)->JB h h' a (P s2).1.length (P s2).1->Mut (At g) h (At g) h'->R (vag [vi k,vsl a (P s2).1.length c]) h')->Qa Pg 86 [vhp g 0] h26 fun v31 h32=>∃(a33:OaT)(n33 c33:Nat),v31=vsl a33 n33 c33/\J56 k a33 n33 c33 h32:=by
   intro h26 k D26 M26 hR;have k2:=kp s2 S2.good (gF S2.len);exact F D26 (E.mut M26) S2 fun a c h' D' N' M'=>⟨_,_,_,rfl,fin k a c h' _ _ D' (N'.base (M26.up D26.al)) (M26.trans M') (S2.goes k2.goes) hR⟩
  refine⟨_,QZ (b:=ZF),fun e=>?_,fun e=>?_⟩
  ·have ew:w=ZF:=bC e;have hk1:QdE w=1:=by rw [ew];rfl
   intro b20 hb20 h21;have l21:h14.le h21:=qQ (qO h14) hb20 _;have M21:=M014.trans (rA l21);have gi2:=Ze S2.good [Gn];have io:=@Qe1 s2 Gn (by decide)
   refine⟨fun x hh=>x=.t (.one (.v (vs (bs (s2.is [Gn]).1))))/\Q5 h0 hh g (s2.is [Gn]).2/\Mut (At g) h (At g) hh,fun _=>Q8 (D14.le l21) (Kn h14 b20 Gn) (by decide) (by have:=S2.big;omega) fun h24 D24 M24=>⟨_,rfl,rfl,D24,M21.trans M24⟩,fun q=>absurd e q,?_⟩
   rintro h26 s27 ⟨e27,D26,M26⟩;cases e27;generalize s2.is [Gn]=C at *
   obtain⟨v,s3⟩:=C;simp only at hK D26 gi2 io ⊢;refine⟨_,fun _=>Uc (b:=[]),fun q=>?_,fun q=>?_⟩
   ·have q2:v≠[]:=by simpa [ew] using q
    rw [bJ ⟨ew,q2⟩] at hK;rw [hk1];exact fin 1 none 0 h26 [] s3 D26 (Ui _ _) M26 (S2.goes gi2) hK
   ·have q2:v=[]:=by simpa [ew] using q
    rw [bE (by rintro⟨_,h⟩;exact h q2),bJ ew] at hK
    rw [io q2] at D26;refine⟨_,QZ (b:=ZF),fun q3=>orK 2 D26 M26 hK,fun q3=>absurd ew (bB q3)⟩
  ·have e0:¬ w=ZF:=fun h=>e (cL h)
   rw [bE (by rintro⟨h,_⟩;exact e0 h),bE e0] at hK
   refine⟨fun x hh=>x=.t (.one (.v (vs ⟨#[]⟩)))/\hh=h14,fun q=>absurd q e,fun _=>⟨rfl,rfl⟩,?_⟩
   rintro h43 s44 ⟨e43,rfl⟩;cases e43;refine⟨false,fun q=>absurd q e,fun q=>by simp at q,fun _=>?_⟩
   refine⟨_,QZ (b:=ZF),fun q3=>absurd (bC q3) e0,fun q3=>orK (QdE w) D14 M014 hK⟩
 clear_value J11;refine⟨fun e=>?_,fun e=>?_⟩
 ·have e:=bC e;exact Xa D4 (by decide) fun h8 D8 M8=>⟨rfl,hJ h8 _ (by rw [bJ e]) D8 (M04.trans M8) (gi.trans (W5 _ _))⟩
 ·have e:=bB e;exact hJ h4 _ (by rw [bE e]) D4 M04 gi
theorem QqJ:ElT Pg 27 153 2 32:=.of (by kernel_rfl) (by kernel_rfl) (by decide)
abbrev Qov (G:NpT):=Y4 Z6 Qbz 2 153 G
theorem Q5.keep {h0 h h':Hp}{g:Nat}{s:RS}(D:Q5 h0 h g s)(hb:h' g=h g)(l:h0.le h'):Q5 h0 h' g s:=by
 obtain⟨a,c,hb',hS,hc⟩:=D.b;exact⟨⟨a,c,hb.trans hb',hS,hc⟩,l,D.n,D.w⟩
theorem Qk7 {h0 hB h1:Hp}{g:Nat}{a:OaT}{c:Nat}{L:List Ag}{s:RS}(B:Qov (At g) h0 h1 a c L)(D:Q5 h0 h1 g s)(hBg:hB g≠none)(hBa:∀ b,a=some ⟨b,0,none⟩->hB b≠none){k:Int}{a2:OaT}{c2:Nat}{l:List Nd}(N:JB hB h1 a2 l.length l)(hL:L.length<=1000)
  {b:Nat} (hb:h1 b=none) {K:RtT} (hK:∀ a' c' h',Qov (At g) h0 h' a' c' (L++[(k,l)])->Q5 h0 h' g s->K (vsl a' (L.length+1) c') h') :
  Qh Pg (Builtin.append_ #[27,27] 27 #[vsl a L.length c,vsl (some ⟨b,0,none⟩) 1 1]) (h1.set b (Qb [vi k,vsl a2 l.length c2] 153)) K:=by
 refine B.app (x:=k) (c2:=c2) QqJ (qO h1) (fun b' e=>by rw [show b'=g from e];exact hBg) hBa N.s.2 N.nw ?_ rfl (fun b' e=>by rw [show b'=g from e];exact D.al) (by omega) (by omega) hb fun a' c' h' B' hk=>hK a' c' h' B' ?_
 ·intro u hu;have:u=vi k\/u=vsl a2 l.length c2:=by simpa [Qbz] using hu
  rcases this with rfl|rfl<;>rfl
 ·obtain⟨o,ho⟩:∃ o,h1 g=some o:=by
   cases e:h1 g with
   | none=>exact absurd e D.al
   | some o=>exact⟨o,rfl⟩
  exact D.keep ((hk g o ho (B.ne rfl)).trans ho.symm) B'.le0
theorem Qkb (h:Hp):QAt h noQ none 0 none 0 none 0:=⟨⟨[],rfl,rfl,.inl rfl,fun r hr=>by cases hr⟩,⟨rfl,.inl rfl⟩,⟨rfl,.inl rfl⟩⟩
set_option maxHeartbeats 1000000 in
theorem GF {l:LuT}{h:Hp}(T:QfA h){R:RtT}(hK:∀ a1 n1 c1 a2 n2 c2 a3 n3 c3 h',h.le h'->QAt h' (YV l).1 a1 n1 a2 n2 a3 n3->R (Qf [qV a1 n1 c1 a2 n2 c2 a3 n3 c3 (YV l).1,ifv (QA (YV l).2)]) h'):Qa Pg 39 [vs (bs l)] h R:=by
 refine Qff ?_
 refine Qfu fun wa wn wc h2 O=>⟨_,_,_,_,rfl,?_⟩
 have lw:=Qh9 l;have l02:=O.le;unfold YV at hK;generalize XZ l=WW at *
 obtain⟨W,fw⟩:=WW;simp only at hK lw O;show (Option.isSome (QA fw)=true->R (Qf [qV none 0 0 none 0 0 none 0 0 noQ,ifv (QA fw)]) h2)/\(Option.isSome (QA fw)=false->_);rw [QR];refine⟨fun e=>?_,fun e=>?_⟩
 ·have e2:fw≠0:=by simpa using e
  rw [bJ e2] at hK;exact hK none 0 0 none 0 0 none 0 0 h2 l02 (Qkb h2)
 have e2:¬ fw≠0:=by simpa using e
 rw [bE e2] at hK;clear e e2;have hS:=O.slp Z4 (by decide)
 obtain rfl:=hS.1;intro b6 hb6 h7;have l7:h2.le h7:=qQ (qO h2) hb6 _;have D7:Q5 h2 h7 b6 ⟨W,0,0⟩:=⟨⟨wa,wc,qK _ _ _,hS,O.own.cap⟩,l7,hb6,fun x hx=>dK (lw.2 x hx) (by decide)⟩
 have E7:QaJ h2 h7 b6:=⟨T.le l02,l7,hb6⟩;have F:Zr 86 (W6 (W.length+1)).o (W.length+1):=(QmU (W.length+1)).1;have kp:=(Qcy (W.length+1)).1;have g0:(⟨W,0,0⟩:RS).good:=fun h=>absurd rfl h
 have S7:SOk (W.length+1) ⟨W,0,0⟩:=⟨g0,jO _,by show W.length<=1000;omega,gQ _,by show (0:Int)+(W.length:Int)<=1000000;omega⟩
 have hAll:=QpJ W;unfold Qkj at hK;rw [Qjd] at hK;unfold QpE QcH at hK hAll;generalize (W6 (W.length+1)).o=o at *
 have G1:=ZY g0 U7;refine Zs D7 (by show W.length<=1000000;omega) fun h9 D9 M9=>⟨rfl,?_⟩
 have D9:Q5 h2 h9 b6 ((⟨W,0,0⟩:RS).must U7):=D9;generalize (⟨W,0,0⟩:RS).must U7=s1 at *
 have S9:=S7.goes G1;have G2:=Qbi kp S9.good (gF S9.len);have hs1:s1.ws.length<=80:=dK G1.len lw.1;refine Nr F kp D9 (E7.mut M9) S9 fun a13 c13 h11 D11 N11 M11=>⟨_,_,_,_,rfl,?_⟩
 generalize UR o s1=A at *
 obtain⟨⟨k1,l1⟩,s2⟩:=A;simp -zeta only at hK D11 N11 G2 hAll ⊢;have S11:=S9.goes G2.1;have l11:h2.le h11:=D11.l;intro b14 hb14 h15;refine Qk7 (L:=[]) (a:=none) (c:=0) (hB:=h9) (k:=k1) (Y4.nil l11) D11 D9.al (fun b e=>by cases e) N11 (by decide) hb14 fun a18 c18 h17 B17 D17=>⟨_,_,_,rfl,?_⟩
 intro J48;have hRest:∀(L:List Ag)(t:RS)(a:OaT)(c:Nat)(hE:Hp),Qov (At b6) h2 hE a c L->Q5 h2 hE b6 t->SOk (W.length+1) t->UT o (s2.ws.length+1) [(k1,l1)] s2=(L,t)->L.length<=1000->J48 a L.length c none 0 0 none 0 0 hE:=by
  intro L t a c hE BE DE SE hL hLn;rw [hL] at hK hAll;simp only at hK hAll;have EE:QaJ h2 hE b6:=⟨E7.t,DE.l,hb6⟩;have hgE:=DE.al;have hG2:∀ b,At b6 b->h2 b=none:=fun b e=>by rw [show b=b6 from e];exact hb6
  have G3:=ZY SE.good Qgm;refine Zs DE (by have:=SE.big;omega) fun h261 D261 M261=>⟨rfl,?_⟩
  have D261:Q5 h2 h261 b6 (t.must Qgm):=D261;have S261:=SE.goes G3;have G4:=G3.trans (ZY G3.ok QbJ);refine Zs D261 (by have:=S261.big;omega) fun h263 D263 M263=>⟨rfl,?_⟩
  have D263:Q5 h2 h263 b6 ((t.must Qgm).must QbJ):=D263;have ME:=M261.trans M263;have S263:=SE.goes G4;unfold QpN at hK;generalize (t.must Qgm).must QbJ=t2 at *
  clear G3 D261 S261;intro b264 hb264 h265;have l265:h263.le h265:=qQ (qO h263) hb264 _;have gi:=Ze S263.good [KM];have io:=@Qe1 t2 KM (by decide)
  refine Q8 (D263.le l265) (Kn h263 b264 KM) (by decide) (by have:=S263.big;omega) fun h267 D267 M267=>⟨_,rfl,_,Uc (b:=[]),?_⟩
  have D267:Q5 h2 h267 b6 (t2.is [KM]).2:=D267;have M267':=(ME.trans (rA l265)).trans M267;intro J275;have h275:∀(wh:List Nd)(aw:OaT)(cw:Nat)(u:RS)(h315:Hp),Nm KM o t2=(wh,u)->Q5 h2 h315 b6 u->SOk (W.length+1) u->JB hE h315 aw wh.length wh->QcZ wh->Mut (At b6) hE (At b6) h315->J275 aw wh.length cw h315:=by
   intro wh aw cw u h315 hw D315 S315 N315 Kw M315;rw [hw] at hK;simp only at hK;unfold byQ at hK;intro b316 hb316 h317;have l317:h315.le h317:=qQ (qO h315) hb316 _;have gi:=Ze S315.good [WT];have io:=@Qe1 u WT (by decide)
   refine Q8 (D315.le l317) (Kn h315 b316 WT) (by decide) (by have:=S315.big;omega) fun h319 D319 M319=>⟨_,rfl,_,Uc (b:=[]),?_⟩
   have D319:Q5 h2 h319 b6 (u.is [WT]).2:=D319;have M319':=(M315.trans (rA l317)).trans M319;intro J329;have h329:∀(by_:List Nd)(ab:OaT)(cb:Nat)(v:RS)(h354:Hp),Nm WT (fun s=>o (s.must wBy)) u=(by_,v)->Q5 h2 h354 b6 v->SOk (W.length+1) v->JB hE h354 aw wh.length wh->JB hE h354 ab by_.length by_->QcZ by_->Mut (At b6) hE (At b6) h354->J329 ab by_.length cb h354:=by
    intro by_ ab cb v h354 hv D354 S354 Nw N354 Kb M354;rw [hv] at hK;simp only at hK;unfold Qqu at hK;simp only at hK;have Ga:=ZY S354.good MI;refine Zs D354 (by have:=S354.big;omega) fun h356 D356 M356=>⟨rfl,?_⟩
    have D356:Q5 h2 h356 b6 (v.must MI):=D356;have Sa:=S354.goes Ga;generalize v.must MI=v1 at *
    have Gb:=Gk Sa.good 1000;refine WY D356 (EE.mut (M354.trans M356)) (by have:=Sa.big;omega) (by decide) (by decide) fun h358 D358 M358=>⟨_,rfl,?_⟩
    have Sb:=Sa.goes Gb;generalize v1.number 1000=Z at *
    obtain⟨z,v2⟩:=Z;simp -zeta only at hK D358 Sb ⊢;have Gc:=QbQ Sb.good Qcm z;refine X8 (w:=Qcm) D358 (EE.mut ((M354.trans M356).trans M358)) Sb (by decide) fun h361 D361 M361=>⟨_,rfl,?_⟩
    have Sc:=Sb.goes Gc;generalize Qbm Qcm z v2=Z at *
    obtain⟨sl,v3⟩:=Z;simp -zeta only at hK D361 Sc ⊢;have Gd:=QbQ Sc.good Qck 0;refine X8 (w:=Qck) D361 (EE.mut (((M354.trans M356).trans M358).trans M361)) Sc (by decide) fun h364 D364 M364=>⟨_,rfl,?_⟩
    have Sd:=Sc.goes Gd;generalize Qbm Qck 0 v3=Z at *
    obtain⟨d,v4⟩:=Z;simp -zeta only at hK D364 Sd ⊢;have Ge:=QbQ Sd.good Qgv 0;refine X8 (w:=Qgv) D364 (EE.mut ((((M354.trans M356).trans M358).trans M361).trans M364)) Sd (by decide) fun h367 D367 M367=>⟨_,rfl,?_⟩
    have Se:=Sd.goes Ge;generalize Qbm Qgv 0 v4=Z at *
    obtain⟨lt,v5⟩:=Z;simp -zeta only at hK D367 Se ⊢;have M367':=((((M354.trans M356).trans M358).trans M361).trans M364).trans M367;have M36:=((((M356).trans M358).trans M361).trans M364).trans M367;obtain⟨qa,qc,hq⟩:=D367.c0;refine⟨_,D367.c2,_,_,_,fun _=>hq,?_⟩
    intro J374;have h374:∀(h375:Hp)(y:RS),y.f=(if v5.f=0/\v5.ws≠[] then v5.fail 4 else v5).f->Q5 h2 h375 b6 y->Mut (At b6) h367 (At b6) h375->J374 h375:=by
     intro h375 y hy D375 M375;rw [<-hy] at hK;have M375':=M367'.trans M375;have BE2:Qov (At b6) h2 h375 a c L:=BE.keep hG2 M375'.keep;have Nw2:=Nw.mut hgE (M36.trans M375);have N2:=N354.mut hgE (M36.trans M375);have QE:QAt h375 ⟨L,wh,by_,z,sl,d,lt⟩ a L.length aw wh.length ab by_.length:=⟨BE2.tab,Nw2.s,N2.s⟩;refine⟨_,D375.c2,?_⟩
     intro J383;have h383:∀(h384:Hp)(f:Int),h384.cell b6 (0+2)=some (ifv (QA f))->h.le h384->(f≠0->∀ h',h.le h'->R (Qf [qV none 0 0 none 0 0 none 0 0 noQ,ifv (QA f)]) h')->(f=0->R (Qf [qV a L.length c aw wh.length cw ab by_.length cb ⟨L,wh,by_,z,sl,d,lt⟩,ifv none]) h384)->J383 h384:=by
      intro h384 f hc lh hb hg;refine⟨_,hc,fun e=>⟨_,hc,hc,?_⟩,fun e=>?_⟩
      ·rw [QR] at e;exact hb (by simpa using e) h384 lh
      ·rw [QR] at e;exact hg (by simpa using e)
     clear_value J383;refine⟨fun e=>?_,fun e=>?_⟩
     ·rw [YR] at e;have e:y.f=0:=bC e;rw [e,bE (fun h=>h rfl)] at hK
      have hbig:Qp9 ⟨L,wh,by_,z,sl,d,lt⟩:=⟨dK Kw.1 (by decide),dK Kb.1 (by decide),fun x hx=>dK (hAll x hx).1 (by decide),by show L.length<=1000000;omega⟩
      refine G5 (q:=⟨L,wh,by_,z,sl,d,lt⟩) (c1:=c) (c2:=cw) (c3:=cb) QE hbig fun h378 l378=>⟨QA (Qdo ⟨L,wh,by_,z,sl,d,lt⟩),rfl,?_⟩
      refine(D375.le l378).put2 fun h380 D380 M380=>?_
      have lh:h.le h380:=qP l02 D380.l;refine h383 h380 _ D380.c2 lh (fun hf h' l'=>?_) fun hf=>?_
      ·rw [bJ hf] at hK;exact hK none 0 0 none 0 0 none 0 0 h' l' (Qkb h')
      ·rw [bE (fun h=>h hf)] at hK
       have M2:=(rA l378).trans M380;exact hK _ _ c _ _ cw _ _ cb h380 lh ⟨(BE2.keep hG2 M2.keep).tab,(Nw2.mut hgE M2).s,(N2.mut hgE M2).s⟩
     ·rw [YR] at e;have e:y.f≠0:=bB e;rw [bJ e] at hK;refine h383 h375 y.f D375.c2 (qP l02 D375.l) (fun hf h' l'=>?_) fun hf=>absurd hf e
      exact hK none 0 0 none 0 0 none 0 0 h' l' (Qkb h')
    clear_value J374;have hcond:(bif Option.isNone (QA v5.f) then decide (((v5.ws.length:Nat):Int)>0) else false)=decide (v5.f=0/\v5.ws≠[]):=by
     rw [YR,KS];refine fN.2 ?_
     rw [ne_eq,MH];constructor
     ·rintro⟨h1,h2⟩;exact⟨h1,by omega⟩
     ·rintro⟨h1,h2⟩;exact⟨h1,by omega⟩
    rw [hcond];refine⟨fun e=>?_,fun e=>?_⟩
    ·have e:=bC e;refine(D367.put2 (f:=4) fun h371 D371 M371=>h374 h371 _ ?_ D371 M371)
     rw [bJ e];unfold RS.fail;rw [bJ e.1]
    ·have e:=bB e;exact h374 h367 v5 (by rw [bE e]) D367 (rA (qO _))
   clear_value J329;have Nw:=(N315.mut hgE ((rA l317).trans M319));refine⟨fun e=>?_,fun e=>?_⟩
   ·have e:(u.is [WT]).1≠[]:=by simpa using e
    have hop:Nm WT (fun s=>o (s.must wBy)) u=o ((u.is [WT]).2.must wBy):=by unfold Nm;rw [bE e]
    rw [hop] at h329;have Su:=S315.goes gi;have Gy:=ZY Su.good wBy;refine Zs D319 (by have:=Su.big;omega) fun h323 D323 M323=>⟨rfl,?_⟩
    have D323:Q5 h2 h323 b6 ((u.is [WT]).2.must wBy):=D323;have S323:=Su.goes Gy;have k2:=kp _ S323.good (gF S323.len);have M323':=M319'.trans M323;refine F D323 (EE.mut M323') S323 fun a c h325 D325 N325 M325=>⟨_,_,_,rfl,?_⟩
    exact h329 _ _ _ _ h325 rfl D325 (S323.goes k2.goes) ((Nw.mut hgE M323).mut hgE M325) (N325.base (M323'.up D323.al)) k2.nds (M323'.trans M325)
   ·have e:(u.is [WT]).1=[]:=by simpa using e
    have hop:Nm WT (fun s=>o (s.must wBy)) u=([],u):=by unfold Nm;rw [bJ e]
    rw [io e] at D319;exact h329 [] none 0 u h319 hop D319 S315 Nw (Ui _ _) QhZ M319'
  clear_value J275;refine⟨fun e=>?_,fun e=>?_⟩
  ·have e:(t2.is [KM]).1≠[]:=by simpa using e
   have hop:Nm KM o t2=o (t2.is [KM]).2:=by unfold Nm;rw [bE e]
   rw [hop] at h275;have Su:=S263.goes gi;have k2:=kp _ Su.good (gF Su.len);refine F D267 (EE.mut M267') Su fun a c h271 D271 N271 M271=>⟨_,_,_,rfl,?_⟩
   exact h275 _ _ _ _ h271 rfl D271 (Su.goes k2.goes) (N271.base (M267'.up D267.al)) k2.nds (M267'.trans M271)
  ·have e:(t2.is [KM]).1=[]:=by simpa using e
   have hop:Nm KM o t2=([],t2):=by unfold Nm;rw [bJ e]
   rw [io e] at D267;exact h275 [] none 0 t2 h267 hop D267 S263 (Ui _ _) QhZ M267'
 clear_value J48;refine⟨fun vs' hh=>∃(k:Nat)(L:List Ag)(t:RS)(a:OaT)(c:Nat),vs'=[vsl a L.length c,vsl none 0 0,vsl none 0 0,vi 0,vi 0,vi 0,vi 0]/\Qov (At b6) h2 hh a c L/\Q5 h2 hh b6 t/\SOk (W.length+1) t/\t.ws.length<k/\UT o (s2.ws.length+1) [(k1,l1)] s2=UT o k L t/\L.length+t.ws.length<=100,fun _ hh=>GV hh b6,⟨_,[(k1,l1)],s2,a18,c18,rfl,B17,D17,S11,jO _,rfl,?_⟩,?_⟩
 ·have:=G2.1.len;show 1+s2.ws.length<=100;omega
 rintro vs' hh ⟨k,L,t,a,c,rfl,B,D,S,hk,hrow,hL⟩;obtain⟨k,rfl⟩:∃ j,k=j+1:=⟨k-1,by omega⟩
 have hst:UT o (k+1) L t=if (t.is [XA]).1=[] then(L,t) else UT o k (L++[(UR o (t.is [XA]).2).1]) (UR o (t.is [XA]).2).2:=rfl
 rw [hst] at hrow;clear hst;refine⟨_,_,_,_,_,_,_,_,_,_,_,_,_,rfl,?_⟩
 intro b31 hb31 h32;have l32:hh.le h32:=qQ (qO hh) hb31 _;have gi:=Ze S.good [XA];have io:=@Qe1 t XA (by decide)
 have tk:=@QcJ t [XA];have hG2:∀ b,At b6 b->h2 b=none:=fun b e=>by rw [show b=b6 from e];exact hb6
 have hwn:=D.wn;refine Q8 (D.le l32) (Kn hh b31 XA) (by decide) (by have:=S.big;omega) fun h34 D34 M34=>⟨_,rfl,_,Uc (b:=[]),fun e=>?_,fun e=>?_⟩
 ·have e:(t.is [XA]).1≠[]:=by simpa using e
  rw [bE e] at hrow;have tk:=tk e;have D34:Q5 h2 h34 b6 (t.is [XA]).2:=D34;have B34:=(B.grow l32).keep hG2 M34.keep;have St:=S.goes gi;have Ga:=Qbi kp St.good (gF St.len);have E34:QaJ h2 h34 b6:=⟨E7.t,D34.l,hb6⟩;refine Nr F kp D34 E34 St fun a42 c42 h40 D40 N40 M40=>⟨_,_,_,_,rfl,?_⟩
  generalize UR o (t.is [XA]).2=A at *
  obtain⟨⟨k2,l2⟩,t2⟩:=A;simp -zeta only at hrow D40 N40 Ga ⊢;have B40:=B34.keep hG2 M40.keep;intro b43 hb43 h44;have hlen:=Ga.1.len;refine Qk7 (hB:=h34) (k:=k2) B40 D40 D34.al (fun b e=>B34.al e) N40 (by omega) hb43 fun a47 c47 h46 B46 D46=>⟨_,_,_,rfl,⟨k,L++[(k2,l2)],t2,a47,c47,by simp,B46,D46,St.goes Ga.1,by omega,hrow,by simp;omega⟩,?_⟩
  have h46n:=D46.wn;show GV h46 b6<GV hh b6;omega
 ·have e:(t.is [XA]).1=[]:=by simpa using e
  rw [bJ e] at hrow;rw [io e] at D34;exact hRest L t a c h34 ((B.grow l32).keep hG2 M34.keep) D34 S hrow (by omega)
end Go.Proofs.YthicpjafcpfjoaaGreatDoor
namespace Go.Proofs.YthicpjafcpfjoaaGreatDoor
open Go Go.Vc
theorem Qhr {h:Hp}{R:RtT}(H:Qa Pg 39 [(vs ⟨#[115,101,108,101,99,116,32,99,111,117,110,116,40,42,41,32,102,114,111,109,32,101,118,101,110,116,115,32,119,105,110,100,111,119,32,49,48]⟩)] h fun v1 h2=>∃ a3 n3 c3 a4 n4 c4 a5 n5 c5 x6 x7 x8 x9 e10,v1=Qf [vag [vsl a3 n3 c3,vsl a4 n4 c4,vsl a5 n5 c5,vi x6,vi x7,vi x8,vi x9],ifv e10]/\((Option.isSome e10)=true->R (vb false) h2)/\((Option.isSome e10)=false->Qa Pg 59 [vag [vsl a3 n3 c3,vsl a4 n4 c4,vsl a5 n5 c5,vi x6,vi x7,vi x8,vi x9],vi 1] h2 fun v12 h13=>∃ q14 e15,v12=Qf [vp q14,ifv e15]/\∃ p16,((Option.isSome e15)=false->RdG .eql 121 (.tmp 18) (.const (vp none)) (vp q14) (vp none) h13 (vb p16))/\((cond (Option.isSome e15) true p16)=true->R (vb false) h13)/\((cond (Option.isSome e15) true p16)=false->Qa Pg 55 [vp q14,vi 0,vag [vi 3,vi 0,vi 0,vi 0,vi 0,vi 0,vi 0]] h13 fun v18 h19=>v18=Qf []/\Qa Pg 55 [vp q14,vi 0,vag [vi 12,vi 0,vi 0,vi 0,vi 0,vi 0,vi 0]] h19 fun v20 h21=>v20=Qf []/\∃ b22 o23,q14=some ⟨b22,o23,none⟩/\∃ a24 n24 c24,Hp.cell h21 b22 (o23+12)=some (vsl a24 n24 c24)/\∃ b25 o26,((decide ((n24:Int)=1))=true->q14=some ⟨b25,o26,none⟩)/\∃ a27 n27 c27,((decide ((n24:Int)=1))=true->Hp.cell h21 b25 (o26+12)=some (vsl a27 n27 c27))/\∃ b28 o29,((decide ((n24:Int)=1))=true->Ix a27 b28 o29 0 n27)/\∃ a30 n30 c30,((decide ((n24:Int)=1))=true->Hp.cell h21 b28 (((o29+(0:Int).toNat*5)+1)+3)=some (vsl a30 n30 c30))/\∃ b31 o32,((decide ((n24:Int)=1))=true->Ix a30 b31 o32 0 n30)/\∃ x33,((decide ((n24:Int)=1))=true->Hp.cell h21 b31 ((o32+(0:Int).toNat*2)+1)=some (vi x33))/\R (vb (cond (decide ((n24:Int)=1)) (decide (x33=1)) false)) h21))):Qa Pg 29 [] h R:=callO Tryz.func29 [] H
theorem Qkg {u0:OaT}{u1 u2:Nat}{u3:OaT}{u4 u5:Nat}{h:Hp}{R:RtT}(H:∃(J1:ShT),((decide ((u1:Int)>0))=true->Qa Pg 65 [vsl u0 u1 u2] h fun v2 h3=>∃ p4,v2=vb p4/\J1 (.t (.one (.v (vb p4)))) h3)/\(¬((decide ((u1:Int)>0))=true)->J1 (.t (.one (.v (vb false)))) h)/\∀ h5 p6,J1 (.t (.one (.v (vb p6)))) h5->R (vb (cond (cond (decide ((u1:Int)>0)) p6 false) (decide ((u4:Int)<=200)) false)) h5 ):Qa Pg 31 [vsl u0 u1 u2,vsl u3 u4 u5] h R:=callO Tryz.func31 [.one (.v (vsl u0 u1 u2)),.one (.v (vsl u3 u4 u5))] H
theorem Qj3 {u0:OaT}{u1 u2:Nat}{h:Hp}{R:RtT}(H:∃(I2:LtT)(m3:LmT),I2 [vsl none 0 0,vi 0] h/\∀ vs4 h5,I2 vs4 h5->∃ a6 n6 c6 x7,vs4=[vsl a6 n6 c6,vi x7]/\((decide (x7<(u1:Int)))=true->let J73:OaT->Nat->Nat->Hp->Prop:=fun a76 n76 c76 h77=>(∃ x78,IsW x78 (x7+1)/\I2 [vsl a76 n76 c76,vi x78] h77/\m3 [vsl a76 n76 c76,vi x78] h77<m3 vs4 h5);∃ b10 o11,Ix u0 b10 o11 x7 u1/\∃ x12 x13 x14 a15 n15 c15,Hp.row h5 b10 ((o11+x7.toNat*5)+1) 4=some [vi x12,vi x13,vi x14,vsl a15 n15 c15]/\∃(I17:LtT)(m18:LmT),I17 [(vi (-1)),vi 0] h5/\∀ vs19 h20,I17 vs19 h20->∃ x21 x22,vs19=[vi x21,vi x22]/\((decide (x22<(n6:Int)))=true->let J35:Int->Prop:=fun x37=>(∃ x38,IsW x38 (x22+1)/\I17 [vi x37,vi x38] h20/\m18 [vi x37,vi x38] h20<m18 vs19 h20);∃ b25 o26,Ix a6 b25 o26 x22 n6/\∃ x27,Hp.cell h20 b25 (o26+x22.toNat*4)=some (vi x27)/\∃ b28 o29,((decide (x27=x12))=true->Ix a6 b28 o29 x22 n6)/\∃ x30 x31,((decide (x27=x12))=true->Hp.row h20 b28 ((o29+x22.toNat*4)+1) 2=some [vi x30,vi x31])/\∃ p32,((decide (x27=x12))=true->RdG .eql 54 (.tmp 39) (.tmp 41) (vag [vi x30,vi x31]) (vag [vi x13,vi x14]) h20 (vb p32))/\((cond (decide (x27=x12)) p32 false)=true->J35 x22)/\((cond (decide (x27=x12)) p32 false)=false->J35 x21))/\((decide (x22<(n6:Int)))=false->∃ b39 o40,Ix u0 b39 o40 x7 u1/\∃ p41,Hp.cell h20 b39 (o40+x7.toNat*5)=some (vb p41)/\((!p41)=true->((decide (x21>=0))=true->R (Qf [vsl none 0 0,vb false]) h20)/\((decide (x21>=0))=false->∀ b43,h20 b43=none->let h44:=Hp.set h20 b43 (Qb [vi x12,vi x13,vi x14,vsl a15 n15 c15] 93);Qh Pg (Builtin.append_ #[80,80] 80 #[vsl a6 n6 c6,(vsl (some ⟨b43,0,none⟩) 1 1)]) h44 fun v45 h46=>∃ a47 n47 c47,v45=vsl a47 n47 c47/\J73 a47 n47 c47 h46))/\((!p41)=false->∃ b50 o51,((decide (x21<0))=false->Ix a6 b50 o51 x21 n6)/\∃ x52 x53 x54 a55 n55 c55,((decide (x21<0))=false->Hp.row h20 b50 (o51+x21.toNat*4) 4=some [vi x52,vi x53,vi x54,vsl a55 n55 c55])/\∃(J56:ShT),((decide (x21<0))=false->Qa Pg 63 [vag [vi x52,vi x53,vi x54,vsl a55 n55 c55],vag [vi x12,vi x13,vi x14,vsl a15 n15 c15]] h20 fun v57 h58=>∃ p59,v57=vb p59/\J56 (.t (.one (.v (vb p59)))) h58)/\(¬((decide (x21<0))=false)->J56 (.t (.one (.v (vb false)))) h20)/\∀ h60 p61,J56 (.t (.one (.v (vb p61)))) h60->((cond (decide (x21<0)) true (!p61))=true->R (Qf [vsl none 0 0,vb false]) h60)/\((cond (decide (x21<0)) true (!p61))=false->∃ a63 n63 c63,Rd Pg (Instr.sliceAt 80 (vsl a6 n6 c6) none (some (vi x21)) none) h60 (vsl a63 n63 c63)/\∃ x64,IsW x64 (x21+1)/\∃ a65 n65 c65,Rd Pg (Instr.sliceAt 80 (vsl a6 n6 c6) (some (vi x64)) none none) h60 (vsl a65 n65 c65)/\Qh Pg (Builtin.append_ #[80,80] 80 #[vsl none 0 0,vsl a63 n63 c63]) h60 fun v66 h67=>∃ a68 n68 c68,v66=vsl a68 n68 c68/\Rd Pg (Instr.sliceAt 80 (vsl a6 n6 c6) (some (vi x64)) none none) h67 (vsl a65 n65 c65)/\Qh Pg (Builtin.append_ #[80,80] 80 #[vsl a68 n68 c68,vsl a65 n65 c65]) h67 fun v69 h70=>∃ a71 n71 c71,v69=vsl a71 n71 c71/\J73 a71 n71 c71 h70))))/\((decide (x7<(u1:Int)))=false->R (Qf [vsl a6 n6 c6,vb true]) h5)):Qa Pg 35 [vsl u0 u1 u2] h R:=callC ⟨[],[(8,([7,8],[.one (.int .i64),.one (.int .i64)],[])),(3,([4,5],[.one (.slice),.one (.int .i64)],[]))],[(10,[0,1,2,3,4,5,6,7,8,9,10,11,12,13,14,15,16,17]),(16,[0,1,2,3,4,5,6,7,8,9,10]),(18,[0,1,2,4,5,6,7,3,8,9])]⟩ Tryz.func35 [.one (.v (vsl u0 u1 u2))] H
theorem QhH {u0:OaT}{u1 u2:Nat}{u3:OaT}{u4 u5:Nat}{h:Hp}{R:RtT}(H:((decide ((u1:Int)≠(u4:Int)))=true->R (vb false) h)/\((decide ((u1:Int)≠(u4:Int)))=false->∃(I3:LtT)(m4:LmT),I3 [vi 0] h/\∀ vs5 h6,I3 vs5 h6->∃ x7,vs5=[vi x7]/\((decide (x7<(u1:Int)))=true->∃(I11:LtT)(m12:LmT),I11 [vb false,vi 0] h6/\∀ vs13 h14,I11 vs13 h14->∃ p15 x16,vs13=[vb p15,vi x16]/\((decide (x16<(u4:Int)))=true->∃ b19 o20,Ix u0 b19 o20 x7 u1/\∃ x21 x22 x23 a24 n24 c24,Hp.row h14 b19 (o20+x7.toNat*4) 4=some [vi x21,vi x22,vi x23,vsl a24 n24 c24]/\∃ b25 o26,Ix u3 b25 o26 x16 u4/\∃ x27 x28 x29 a30 n30 c30,Hp.row h14 b25 (o26+x16.toNat*4) 4=some [vi x27,vi x28,vi x29,vsl a30 n30 c30]/\Qa Pg 63 [vag [vi x21,vi x22,vi x23,vsl a24 n24 c24],vag [vi x27,vi x28,vi x29,vsl a30 n30 c30]] h14 fun v31 h32=>∃ p33,v31=vb p33/\∃ x35,IsW x35 (x16+1)/\I11 [(vb (cond p15 true p33)),vi x35] h32/\m12 [(vb (cond p15 true p33)),vi x35] h32<m12 vs13 h14)/\((decide (x16<(u4:Int)))=false->((!p15)=true->R (vb false) h14)/\((!p15)=false->∃ x37,IsW x37 (x7+1)/\I3 [vi x37] h14/\m4 [vi x37] h14<m4 vs5 h6)))/\((decide (x7<(u1:Int)))=false->R (vb true) h6))):Qa Pg 37 [vsl u0 u1 u2,vsl u3 u4 u5] h R:=callC ⟨[],[(8,([6,7],[.one (.bool),.one (.int .i64)],[])),(4,([5],[.one (.int .i64)],[]))],[(10,[0,1,2,3,4,5,6,7,8,9])]⟩ Tryz.func37 [.one (.v (vsl u0 u1 u2)),.one (.v (vsl u3 u4 u5))] H
open Go.Txt
def pt (n:Nat)(t:Int):Nat:=(Int.tmod (t % 1024) (n:Int)).toNat
theorem Qqv {n:Nat}(hn:1<=n)(t:Int):Int.tmod (t % 1024) (n:Int)=(pt n t:Int)/\pt n t<n:=by
 have h1:0<=t % 1024:=p7 _ (by decide)
 unfold pt;obtain⟨y,hy⟩:=pL h1;rw [hy,<-Int.ofNat_tmod];exact⟨rfl,mD _ hn⟩
def Nh (ps:List (List EvL))(cs:List Nat):List (List EvL):=List.zipWith (fun l c=>l.take c) ps cs
structure Qhx (q:Qy)(ps:List (List EvL))(cs:List Nat)(st:En):Prop where
 cl:cs.length=ps.length
 cb:∀ p,p<ps.length->cs.getD p 0<=(ps.getD p []).length
 rd:st.rd=cs
 en:EnI q (Nh ps cs) st
theorem QmZ {ps:List (List EvL)}{cs:List Nat}(h:cs.length=ps.length):(Nh ps cs).length=ps.length:=by
 unfold Nh;rw [g7];omega
theorem Qpn {ps:List (List EvL)}{cs:List Nat}(h:cs.length=ps.length){p:Nat}(hp:p<ps.length):(Nh ps cs).getD p []=(ps.getD p []).take (cs.getD p 0):=by
 unfold Nh;have e1:ps.getD p []=ps[p]:=by rw [bI,bD hp];rfl
 have e2:cs.getD p 0=cs[p]'(by omega):=by rw [bI,bD (by omega)];rfl
 rw [e1,e2,bI,jD,bD hp,bD (by omega)]
 rfl
theorem QlS {ps:List (List EvL)}{cs:List Nat}(h:cs.length=ps.length){p:Nat}(hp:p<ps.length){e:EvL}(he:(ps.getD p [])[cs.getD p 0]?=some e):Nh ps (cs.set p (cs.getD p 0+1))=Nv (Nh ps cs) p e:=by
 obtain⟨hlt,ee⟩:=bG.1 he
 have e1:(ps.getD p []).take (cs.getD p 0+1)=(ps.getD p []).take (cs.getD p 0)++[e]:=by rw [bL hlt,ee]
 unfold Nv;rw [Qpn h hp,<-e1];unfold Nh;apply fR;intro i;rw [jD,gN,gN,g7,jD]
 by_cases q:p=i
 ·subst q;have e2:ps.getD p []=ps[p]:=by rw [bI,bD hp];rfl
  rw [bJ rfl,bJ rfl,bJ (by omega),bJ (by omega),bD hp,e2]
 ·rw [bE q,bE q]
theorem Qhx.step {q:Qy}{ps:List (List EvL)}{cs:List Nat}{st:En}(X:Qhx q ps cs st)(B:QOk q){p:Nat}(hp:p<ps.length){e:EvL}(he:(ps.getD p [])[cs.getD p 0]?=some e) :
  Qhx q ps (cs.set p (cs.getD p 0+1)) (Xv q p e st)/\∃ more,(Xv q p e st).rows=st.rows++more/\∀ w ∈ more,ZT q (Zm q.delay st.far) w.2.1=false:=by
 obtain⟨hlt,ee⟩:=bG.1 he
 obtain⟨I,M⟩:=X.en.step B (p:=p) (by rw [QmZ X.cl];exact hp) e
 have hcp:p<cs.length:=by rw [X.cl];exact hp
 refine⟨⟨by rw [dL];exact X.cl,fun p' hp'=>?_,?_,by rw [QlS X.cl hp he];exact I⟩,M⟩
 ·by_cases q1:p=p'
  ·subst q1;rw [bI,fG hcp]
   exact hlt
  ·rw [bI,gK q1,<-bI]
   exact X.cb p' hp'
 ·have hse:∀ s:En,(Jc q s).rd=s.rd:=fun s=>by unfold Jc;split<;>rfl
  unfold Xv;rw [hse];unfold XR;rw [(Vz).1,X.rd]
theorem Qhx.new (q:Qy)(ps:List (List EvL)):Qhx q ps (List.replicate ps.length 0) (Ja ps.length):=by
 refine⟨dQ ..,fun p hp=>?_,rfl,?_⟩
 ·rw [bI,jJ,bJ hp]
  exact cE _
 ·have:Nh ps (List.replicate ps.length 0)=List.replicate ps.length []:=by
   unfold Nh;apply fR;intro i;rw [jD,jJ,jJ]
   by_cases h:i<ps.length
   ·rw [bJ h,bJ h,bD h];rfl
   ·rw [bE h,bE h,gI (by omega)]
  rw [this];exact EnI.new q ps.length
section
variable {h:Hp}{R':RtT}
end
end Go.Proofs.YthicpjafcpfjoaaGreatDoor
namespace Go.Proofs.YthicpjafcpfjoaaGreatDoor
open Go Go.Vc
section
variable {h0 h:Hp}{a:OaT}{c:Nat}{R:List PN}
end
section
variable {h:Hp}{R':RtT}
theorem Qcw {l m:List Vl}{a b:OaT}{c d:Nat}(S:SlP Qu h a l.length l)(S2:SlP Qu h b m.length m)(hn:l.length<=1000000)(hK:R' (vb (decide (l=m))) h):Qa Pg 52 [vsl a l.length c,vsl b m.length d] h R':=by
 refine VC ?_
 refine⟨fun e=>?_,fun e=>?_⟩
 ·have hne:l≠m:=by intro q;subst q;exact bC e rfl
  rw [cO hne] at hK;exact hK
 ·have hlen:l.length=m.length:=by have:=bB e;omega
  refine⟨fun vs hh=>hh=h/\∃ i:Nat,vs=[vi i]/\i<=l.length/\l.take i=m.take i,fun vs hh=>l.length-(Qo vs 0).toNat,⟨rfl,0,rfl,cE _,rfl⟩,?_⟩
  rintro vs hh ⟨rfl,i,rfl,hi,ht⟩;refine⟨i,rfl,fun e=>?_,fun e=>?_⟩
  ·have hlt:i<l.length:=by have:=bC e;omega
   have hx:l[i]?=some l[i]:=bD hlt
   have hy:m[i]?=some (m[i]'(by omega)):=bD (by omega)
   obtain⟨b1,o1,e1,r1⟩:=S.get (sz:=2) (fun _=>rfl) (by decide) hx
   obtain⟨b2,o2,e2,r2⟩:=S2.get (sz:=2) (fun _=>rfl) (by decide) hy
   have tk:l.take (i+1)=l.take i++[l[i]]:=bL hlt;have tm:m.take (i+1)=m.take i++[m[i]'(by omega)]:=bL (by omega)
   refine⟨b1,o1,⟨e1,by omega,by omega⟩,_,_,(show Hp.row hh b1 (o1+((i:Nat):Int).toNat*2) 2=some (Qu l[i]) by rw [bF];exact r1),b2,o2,⟨e2,by omega,by omega⟩,_,_,(show Hp.row hh b2 (o2+((i:Nat):Int).toNat*2) 2=some (Qu (m[i]'(by omega))) by rw [bF];exact r2),!decide (l[i]=m[i]'(by omega)),QdF,fun e3=>?_,fun e3=>?_⟩
   ·have hne:l≠m:=by
     intro q;have h1:l[i]?=m[i]?:=by rw [q]
     rw [hx,hy] at h1;have h2:=cU h1;rw [cL h2] at e3;cases e3
    rw [cO hne] at hK;exact hK
   ·have h2:l[i]=m[i]'(by omega):=by simpa using e3
    refine⟨_,iW,⟨rfl,i+1,rfl,by omega,?_⟩,by simp [Qo];omega⟩
    rw [tk,tm,ht,h2]
  ·have hge:i=l.length:=by have:=bB e;omega
   have heq:l=m:=by rw [hge,dG,hlen,dG] at ht;exact ht
   rw [cL heq] at hK;exact hK
end
theorem Qji (v:Value)(w:World):(Instr.typeAssert (.iface 119 v) 59 119 true).run Pg w=.ok (.tuple #[v,.bool true]) w:=by kernel_rfl
end Go.Proofs.YthicpjafcpfjoaaGreatDoor
