/-
  Laws and contracts on which the statement's proof stands, part 5. Conditions: those stated at each.
-/
import Derived.Lib.SplitLaws
import Derived.Lib.Join
import Derived.Test.YtgmplfdecikgoaaGreatDoorSh4
set_option linter.unusedVariables false
set_option maxRecDepth 100000
namespace Go.Proofs.YtgmplfdecikgoaaGreatDoor
open Go Go.Vc Go.Txt
theorem Mf (h:Hp)(b:Nat)(l:List Wd)(hl:l.length≤maxLen):SlB (h.set b (Qc (l.flatMap JR) 9)) (some ⟨b,0,none⟩) l.length l:=⟨rfl,(QI.new h b 9 (sz:=1) (n:=l.length) (l.flatMap JR) (by induction l with
 | nil=>rfl
 | cons w l ih=>have:=ih (by simp at hl;omega);simp [JR] at this ⊢;omega) hl).row⟩
theorem Qa2 {s:RS}{most:Int}(hm:0≤most):0≤(s.number most).1∧(s.number most).1≤most:=by
 unfold RS.number
 split
 ·exact⟨Int.le_refl _,hm⟩
 ·split
  ·exact⟨Int.le_refl _,hm⟩
  ·rename_i h
   exact⟨by omega,(Qny hm).2⟩
theorem WQ (op:Int)(x y:List Nd)(s:RS):(QO op x y s).1.length≤40:=by
 unfold QO
 split
 ·simp
 ·rw [Zv];omega
theorem Qd0 {w:Wd}(h:w ∈ Ze):(Wo w).1=QbJ w:=by
 have h2:w=Xe∨w=YD∨w=Ye:=by simpa [Ze] using h
 rcases h2 with rfl|rfl|rfl<;>rfl
theorem Qd8 {P:Ps}{n:Nat}(F:Zf 62 P n)(kp:KP P n):Zf 211 (XH P) (n+1):=by
 intro h0 h g s D E S R hK
 refine VV ?_
 unfold W6
 intro b1 hb1 h2
 have hl:h.le h2:=Hp.le_set (Hp.le_refl h) hb1 _
 have hb:=S.big
 have tk:=@Ns s ([Zn]++Ze++Q5)
 have sp:=s.is_spec ([Zn]++Ze++Q5)
 have gi:=QA S.good ([Zn]++Ze++Q5)
 have nr:=@Qa2
 unfold XH at hK
 simp only at hK
 refine Q1 (D.le hl) (l:=[Zn]++Ze++Q5) (Mf h b1 ([Zn]++Ze++Q5) (by decide)) (by decide) (by omega) fun h4 D4 M4=>⟨_,rfl,?_⟩
 have M04:Mut (At g) h (At g) h4:=(Mut.of_le hl).trans M4
 generalize s.is ([Zn]++Ze++Q5)=A at *
 obtain⟨w,s1⟩:=A
 simp -zeta only at hK D4 tk sp gi ⊢
 have hS1:=S.goes gi
 have E4:=E.mut M04
 refine⟨_,Qt (b:=Zn),fun e=>?_,fun e1=>?_⟩
 ·have ew:w=Zn:=of_decide_eq_true e
  have tk:=tk (by rw [ew];decide)
  rw [if_pos ew] at hK
  have d1:=S.d1
  have hdp:=gi.deep
  have Sn:SOk n s1:=⟨hS1.good,by have:=S.len;omega,hS1.big,hS1.d0,hS1.d1⟩
  have kd:=XE kp (Yr.refl hS1.good) (Nat.le_of_lt Sn.len)
  refine Jc ⟨_,Tryz.func62,by kernel_rfl,by kernel_rfl⟩ F kp D4 E4 Sn (by omega) fun a c h8 D8 N8 M8=>⟨_,_,_,rfl,?_⟩
  refine Zi D8 (by have:=kd.len;have:=hS1.big;omega) fun h11 D11 M11=>⟨rfl,?_⟩
  exact hK a c h11 D11 ((N8.base (M04.up D4.al)).mut D.al M11) ((M04.trans M8).trans M11)
 have e1:¬ w=Zn:=of_decide_eq_false e1
 rw [if_neg e1] at hK
 have hwc:w ∈ Ze↔w=Xe∨w=YD∨w=Ye:=by simp [Ze]
 refine⟨_,Qt (b:=Xe),?_⟩
 intro J18
 have yes:w ∈ Ze→J18 true:=by
  intro hw
  rw [if_pos hw] at hK
  have hwl:w.length≤1000000:=by
   have:w=Xe∨w=YD∨w=Ye:=hwc.1 hw
   rcases this with rfl|rfl|rfl<;>decide
  refine⟨fun _=>?_,fun e=>by cases e⟩
  refine GO hwl E4.now.p E4.now.e ⟨_,_,_,rfl,?_⟩
  rw [Qd0 hw]
  refine WK ⟨1,0,0,0,QbJ w⟩ fun a c h26 N26 _ l26=>⟨_,_,_,rfl,?_⟩
  exact hK a c h26 (D4.le l26) (N26.base (M04.up D4.al)) (M04.trans (Mut.of_le l26))
 have no:¬ w ∈ Ze→J18 false:=by
  intro hw
  rw [if_neg hw] at hK
  refine⟨fun e=>by (cases e),fun _=>⟨_,Qt (b:=[]),fun e=>?_,fun e=>?_⟩⟩
  ·rw [if_pos (of_decide_eq_true e)] at hK
   have nr1:=nr (s:=s1) (most:=1000000000) (by decide)
   refine WA D4 E4 (by have:=hS1.big;omega) (by decide) (by decide) fun h30 D30 M30=>⟨_,rfl,Qz ⟨_,_,rfl,?_⟩⟩
   have en:YP (s1.number 1000000000).1=(1,(s1.number 1000000000).1):=by unfold YP;rw [if_neg (by omega)]
   rw [en]
   refine WK ⟨1,0,0,0,(1,(s1.number 1000000000).1)⟩ fun a c h37 N37 _ l37=>⟨_,_,_,rfl,?_⟩
   exact hK a c h37 (D30.le l37) (N37.base ((M04.trans M30).up D30.al)) ((M04.trans M30).trans (Mut.of_le l37))
  ·have e3:=of_decide_eq_false e
   rw [if_neg e3] at hK
   have hm:w ∈ Q5:=by
    rcases sp with ⟨q,_⟩|⟨w',r,_,hm,q,_⟩
    ·exact absurd q e3
    ·rw [←q] at hm
     rcases List.mem_append.1 hm with h4|h4
     ·rcases List.mem_append.1 h4 with h5|h5
      ·exact absurd (by simpa using h5) e1
      ·exact absurd h5 hw
     ·exact h4
   obtain⟨fa,fc,hf,hfs⟩:=E4.now.f
   refine⟨_,_,_,hf,Kq hfs (by decide) ⟨_,rfl,?_⟩⟩
   rw [if_pos hm]
   refine WK ⟨2,0,0,Q5.idxOf w,(0,0)⟩ fun a c h44 N44 _ l44=>⟨_,_,_,rfl,?_⟩
   exact hK a c h44 (D4.le l44) (N44.base (M04.up D4.al)) (M04.trans (Mut.of_le l44))
 clear_value J18
 refine⟨fun e=>?_,fun e2=>⟨_,Qt (b:=YD),fun e=>?_,fun e3=>⟨_,Qt (b:=Ye),?_⟩⟩⟩
 ·rw [e];exact yes (hwc.2 (.inl (of_decide_eq_true e)))
 ·rw [e];exact yes (hwc.2 (.inr (.inl (of_decide_eq_true e))))
 ·have e2:=of_decide_eq_false e2
  have e3:=of_decide_eq_false e3
  by_cases hf:w=Ye
  ·rw [decide_eq_true hf];exact yes (hwc.2 (.inr (.inr hf)))
  ·rw [decide_eq_false hf]
   refine no fun h=>?_
   rcases hwc.1 h with h|h|h
   ·exact e2 h
   ·exact e3 h
   ·exact hf h
theorem Qda {U A:Ps}{n:Nat}(F:Zf 210 U n)(ku:KP U n)(FA:Zf 211 A (n+1)):Zf 210 (Qas U A) (n+1):=by
 intro h0 h g s D E S R hK
 refine Vr ?_
 unfold Wr
 intro b1 hb1 h2
 have hl:h.le h2:=Hp.le_set (Hp.le_refl h) hb1 _
 have hb:=S.big
 have tk:=@Ns s [ZE]
 have gi:=QA S.good [ZE]
 unfold Qas at hK
 have hi:=@RS.is_spec s [ZE]
 refine Q1 (D.le hl) (WO h b1 ZE) (by decide) (by omega) fun h4 D4 M4=>⟨_,rfl,?_⟩
 have M04:Mut (At g) h (At g) h4:=(Mut.of_le hl).trans M4
 generalize s.is [ZE]=B at *
 obtain⟨w,s1⟩:=B
 simp -zeta only at hK D4 tk gi hi ⊢
 have hS1:=S.goes gi
 have E4:=E.mut M04
 refine⟨_,Qt (b:=[]),fun e=>?_,fun e=>?_⟩
 ·have ew:=of_decide_eq_true e
  rw [if_pos ew] at hK
  have es:s1=s:=by
   rcases hi with ⟨_,q⟩|⟨w',r,_,hm,q,_⟩
   ·exact q
   ·rw [ew] at q;rw [←q] at hm;exact absurd hm (by decide)
  subst es
  exact FA D4 E4 hS1 fun a c h8 D8 N8 M8=>⟨_,_,_,rfl,hK a c h8 D8 (N8.base (M04.up D4.al)) (M04.trans M8)⟩
 ·have ew:=of_decide_eq_false e
  rw [if_neg ew] at hK
  have tk:=tk ew
  have d1:=S.d1
  have hdp:=gi.deep
  have Sn:SOk n s1:=⟨hS1.good,by have:=S.len;omega,hS1.big,hS1.d0,hS1.d1⟩
  have kd:=XE ku (Yr.refl hS1.good) (Nat.le_of_lt Sn.len)
  refine Jc ⟨_,Tryz.func210,by kernel_rfl,by kernel_rfl⟩ F ku D4 E4 Sn (by omega) fun a c h8 D8 N8 M8=>⟨_,_,_,rfl,?_⟩
  refine QB D8 N8.s (Yu h8 h8).s Yb (by have:=kd.le;omega) (by simp) fun a c h15 D15 N15 M15=>⟨_,_,_,rfl,?_⟩
  exact hK a c h15 D15 (N15.base ((M04.trans M8).up D8.al)) ((M04.trans M8).trans M15)
theorem QfW {U A:Ps}{n:Nat}(F:Zf 150 U n)(ku:KP U n)(FA:Zf 184 A (n+1)):Zf 150 (QjK U A) (n+1):=by
 intro h0 h g s D E S R hK
 refine MU ?_
 unfold KD
 intro b1 hb1 h2
 have hl:h.le h2:=Hp.le_set (Hp.le_refl h) hb1 _
 have hb:=S.big
 have tk:=@Ns s [Jr]
 have gi:=QA S.good [Jr]
 unfold QjK at hK
 have hi:=@RS.is_spec s [Jr]
 refine Q1 (D.le hl) (WO h b1 Jr) (by decide) (by omega) fun h4 D4 M4=>⟨_,rfl,?_⟩
 have M04:Mut (At g) h (At g) h4:=(Mut.of_le hl).trans M4
 generalize s.is [Jr]=B at *
 obtain⟨w,s1⟩:=B
 simp -zeta only at hK D4 tk gi hi ⊢
 have hS1:=S.goes gi
 have E4:=E.mut M04
 refine⟨_,Qt (b:=[]),fun e=>?_,fun e=>?_⟩
 ·have ew:=of_decide_eq_true e
  rw [if_pos ew] at hK
  have es:s1=s:=by
   rcases hi with ⟨_,q⟩|⟨w',r,_,hm,q,_⟩
   ·exact q
   ·rw [ew] at q;rw [←q] at hm;exact absurd hm (by decide)
  subst es
  exact FA D4 E4 hS1 fun a c h8 D8 N8 M8=>⟨_,_,_,rfl,hK a c h8 D8 (N8.base (M04.up D4.al)) (M04.trans M8)⟩
 ·have ew:=of_decide_eq_false e
  rw [if_neg ew] at hK
  have tk:=tk ew
  have d1:=S.d1
  have hdp:=gi.deep
  have Sn:SOk n s1:=⟨hS1.good,by have:=S.len;omega,hS1.big,hS1.d0,hS1.d1⟩
  have kd:=XE ku (Yr.refl hS1.good) (Nat.le_of_lt Sn.len)
  refine Jc ⟨_,Tryz.func150,by kernel_rfl,by kernel_rfl⟩ F ku D4 E4 Sn (by omega) fun a c h8 D8 N8 M8=>⟨_,_,_,rfl,?_⟩
  refine QB D8 N8.s (Yu h8 h8).s Yb (by have:=kd.le;omega) (by simp) fun a c h15 D15 N15 M15=>⟨_,_,_,rfl,?_⟩
  exact hK a c h15 D15 (N15.base ((M04.trans M8).up D8.al)) ((M04.trans M8).trans M15)
theorem QbF {P:Ps}{n:Nat}(F:Zf 202 P n)(kp:KP P n):Zf 184 (QdW P) n:=by
 intro h0 h g s D E S R hK
 refine Uy ?_
 unfold XG
 have k:=kp s S.good (Nat.le_of_lt S.len)
 unfold QdW at hK
 simp only at hK
 refine F D E S fun a3 c3 h2 D2 N2 M2=>⟨_,_,_,rfl,?_⟩
 intro b4 hb4 h5
 have l5:h2.le h5:=Hp.le_set (Hp.le_refl h2) hb4 _
 have S2:=S.goes k.goes
 have G0:=k.goes
 have k0:=k.le
 generalize P s=X at *
 obtain⟨x,s0⟩:=X
 simp only at hK D2 N2 S2 G0 k0
 have gi:=QA S2.good [wLt,wGt,wLe,wGe,wEq,wNe,wIs]
 refine Q1 (D2.le l5) (Mf h2 b4 [wLt,wGt,wLe,wGe,wEq,wNe,wIs] (by decide)) (by decide) (by have:=S2.big;omega) fun h7 D7 M7=>⟨_,rfl,?_⟩
 have M57:Mut (At g) h2 (At g) h7:=(Mut.of_le l5).trans M7
 have M07:Mut (At g) h (At g) h7:=M2.trans M57
 have N7:=N2.mut D.al M57
 generalize s0.is [wLt,wGt,wLe,wGe,wEq,wNe,wIs]=B at *
 obtain⟨w,s1⟩:=B
 simp -zeta only at hK D7 gi ⊢
 have S7:=S2.goes gi
 have k2:=kp s1 S7.good (Nat.le_of_lt S7.len)
 have kw:=k2.wf
 have kl:=k2.le
 have E7:=E.mut M07
 have sumK:∀{R2:Value→Hp→Prop},(∀ a c h',QY h0 h' g (P s1).2→YF h7 h' a (P s1).1.length (P s1).1→Mut (At g) h7 (At g) h'→R2 (vsl a (P s1).1.length c) h')→Qa Tryz.prog 202 [vhp g 0] h7 R2:=fun H=>F D7 E7 S7 H
 have kx:=k.wf
 intro J78
 generalize P s1=Y at *
 obtain⟨y,s2⟩:=Y
 simp -zeta only at hK sumK kw kl ⊢
 refine⟨_,Qt (b:=wLt),fun e=>?_,fun e1=>⟨_,Qt (b:=wGt),fun e=>?_,fun e2=>⟨_,Qt (b:=wLe),fun e=>?_,fun e3=>⟨_,Qt (b:=wGe),fun e=>?_,fun e4=>⟨_,Qt (b:=wEq),fun e=>?_,fun e5=>⟨_,Qt (b:=wNe),fun e=>?_,fun e6=>⟨_,Qt (b:=wIs),fun e=>?_,fun e7=>?_⟩⟩⟩⟩⟩⟩⟩
 ·rw [if_pos (of_decide_eq_true e)] at hK
  exact sumK fun a c h11 D11 N11 M11=>⟨_,_,_,rfl,QB D11 (N7.mut D.al M11).s N11.s kw (by omega) (by omega) fun a c h14 D14 N14 M14=>⟨_,_,_,rfl,hK a c h14 D14 (N14.base ((M07.trans M11).up D11.al)) ((M07.trans M11).trans M14)⟩⟩
 ·rw [if_neg (of_decide_eq_false e1),if_pos (of_decide_eq_true e)] at hK
  exact sumK fun a c h11 D11 N11 M11=>⟨_,_,_,rfl,QB D11 N11.s (N7.mut D.al M11).s kx (by omega) (by omega) fun a c h14 D14 N14 M14=>⟨_,_,_,rfl,hK a c h14 D14 (N14.base ((M07.trans M11).up D11.al)) ((M07.trans M11).trans M14)⟩⟩
 ·rw [if_neg (of_decide_eq_false e1),if_neg (of_decide_eq_false e2),if_pos (of_decide_eq_true e)] at hK
  have jl:=WQ 11 y x s2
  exact sumK fun a c h11 D11 N11 M11=>⟨_,_,_,rfl,QB D11 N11.s (N7.mut D.al M11).s kx (by omega) (by omega) fun a c h14 D14 N14 M14=>⟨_,_,_,rfl,QB D14 N14.s (Yu h14 h14).s Yb (by omega) (by simp) fun a c h17 D17 N17 M17=>⟨_,_,_,rfl,hK a c h17 D17 (N17.base (((M07.trans M11).trans M14).up D14.al)) (((M07.trans M11).trans M14).trans M17)⟩⟩⟩
 ·rw [if_neg (of_decide_eq_false e1),if_neg (of_decide_eq_false e2),if_neg (of_decide_eq_false e3),if_pos (of_decide_eq_true e)] at hK
  have jl:=WQ 11 x y s2
  exact sumK fun a c h11 D11 N11 M11=>⟨_,_,_,rfl,QB D11 (N7.mut D.al M11).s N11.s kw (by omega) (by omega) fun a c h14 D14 N14 M14=>⟨_,_,_,rfl,QB D14 N14.s (Yu h14 h14).s Yb (by omega) (by simp) fun a c h17 D17 N17 M17=>⟨_,_,_,rfl,hK a c h17 D17 (N17.base (((M07.trans M11).trans M14).up D14.al)) (((M07.trans M11).trans M14).trans M17)⟩⟩⟩
 ·rw [if_neg (of_decide_eq_false e1),if_neg (of_decide_eq_false e2),if_neg (of_decide_eq_false e3),if_neg (of_decide_eq_false e4),if_pos (of_decide_eq_true e)] at hK
  exact sumK fun a c h11 D11 N11 M11=>⟨_,_,_,rfl,QB D11 (N7.mut D.al M11).s N11.s kw (by omega) (by omega) fun a c h14 D14 N14 M14=>⟨_,_,_,rfl,hK a c h14 D14 (N14.base ((M07.trans M11).up D11.al)) ((M07.trans M11).trans M14)⟩⟩
 ·rw [if_neg (of_decide_eq_false e1),if_neg (of_decide_eq_false e2),if_neg (of_decide_eq_false e3),if_neg (of_decide_eq_false e4),if_neg (of_decide_eq_false e5),if_pos (of_decide_eq_true e)] at hK
  have jl:=WQ 12 x y s2
  exact sumK fun a c h11 D11 N11 M11=>⟨_,_,_,rfl,QB D11 (N7.mut D.al M11).s N11.s kw (by omega) (by omega) fun a c h14 D14 N14 M14=>⟨_,_,_,rfl,QB D14 N14.s (Yu h14 h14).s Yb (by omega) (by simp) fun a c h17 D17 N17 M17=>⟨_,_,_,rfl,hK a c h17 D17 (N17.base (((M07.trans M11).trans M14).up D14.al)) (((M07.trans M11).trans M14).trans M17)⟩⟩⟩
 ·rw [if_neg (of_decide_eq_false e1),if_neg (of_decide_eq_false e2),if_neg (of_decide_eq_false e3),if_neg (of_decide_eq_false e4),if_neg (of_decide_eq_false e5),if_neg (of_decide_eq_false e6),if_pos (of_decide_eq_true e)] at hK
  intro b61 hb61 h62
  have l62:h7.le h62:=Hp.le_set (Hp.le_refl h7) hb61 _
  have g3:=QA S7.good [Jr]
  refine Q1 (D7.le l62) (WO h7 b61 Jr) (by decide) (by have:=S7.big;omega) fun h64 D64 M64=>⟨_,rfl,?_⟩
  have M64':Mut (At g) h7 (At g) h64:=(Mut.of_le l62).trans M64
  have S8:=S7.goes g3
  generalize s1.is [Jr]=C at *
  obtain⟨v,s3⟩:=C
  simp -zeta only at hK D64 S8 ⊢
  refine Zi D64 (by have:=S8.big;omega) fun h67 D67 M67=>⟨rfl,?_⟩
  have M67':=M64'.trans M67
  refine QB D67 (N7.mut D.al M67').s (Yu h67 h67).s Yb (by omega) (by simp) fun a c h69 D69 N69 M69=>⟨_,_,_,rfl,?_⟩
  have jl:=WQ 5 x [] (s3.must Xe)
  refine⟨_,YC (b:=[]),fun q=>?_,fun q=>?_⟩
  ·have q:v≠[]:=by simpa using q
   rw [if_pos q] at hK
   exact QB D69 N69.s (Yu h69 h69).s Yb (Nat.le_trans jl (by decide)) (by simp) fun a c h73 D73 N73 M73=>⟨_,_,_,rfl,hK a c h73 D73 (N73.base (((M07.trans M67').trans M69).up D69.al)) (((M07.trans M67').trans M69).trans M73)⟩
  ·have q:¬ v≠[]:=by simpa using q
   rw [if_neg q] at hK
   exact hK a c h69 D69 (N69.base ((M07.trans M67').up D67.al)) ((M07.trans M67').trans M69)
 ·rw [if_neg (of_decide_eq_false e1),if_neg (of_decide_eq_false e2),if_neg (of_decide_eq_false e3),if_neg (of_decide_eq_false e4),if_neg (of_decide_eq_false e5),if_neg (of_decide_eq_false e6),if_neg (of_decide_eq_false e7)] at hK
  exact hK _ _ h7 D7 N7 M07
def Gp (h:Hp)(g:Nat):Nat:=match h.cell g 0 with|some (.slice _ n _)=>n|_=>0
theorem QY.wn {h0 h:Hp}{g:Nat}{s:RS}(D:QY h0 h g s):Gp h g=s.ws.length:=by
 obtain⟨a,c,e⟩:=D.c0
 unfold Gp
 rw [e]
theorem NO {f:FuncId}{P:Ps}{n:Nat}(B:QhW f)(F:Zf f P n)(kp:KP P n){ops:List (Wd × Int)}(ho:∀ q ∈ ops,Opr q.2)(hne:∀ q ∈ ops,q.1≠[])(hol:ops.length≤100){h0 h:Hp}{g:Nat}{s:RS}(D:QY h0 h g s)(E:Qai h0 h g)(S:SOk n s){y:Value}{wa:Option Addr}{wn wc:Nat}(W:QmE JR h g wa wn (ops.map (·.1)))
  (hop:∀ h',Mut (At g) h (At g) h'→∀ w ∈ ops.map (·.1),Rd Tryz.prog (Instr.lookup 186 y (vs (bs w)) false) h' (vi (QaM ops w)))
  {R:Value→Hp→Prop} (hK:∀ a c h',QY h0 h' g (K8 P ops s).2→YF h h' a (K8 P ops s).1.length (K8 P ops s).1→Mut (At g) h (At g) h'→R (vsl a (K8 P ops s).1.length c) h'):Qa Tryz.prog 108 [vhp g 0,.func (.func f) #[vhp g 0] #[],y,vsl wa wn wc] h R:=by
 refine MJ ?_
 unfold KC
 have k:=kp s S.good (Nat.le_of_lt S.len)
 have Sx:=S.goes k.goes
 have kx:=k.wf
 have kl:=k.le
 have kp1:=k.pos
 unfold K8 at hK
 have hwn:wn=ops.length:=by have:=W.s.1;simpa using this
 refine Qjl B (F D E S fun a3 c3 h2 D2 N2 M2=>⟨_,_,_,rfl,?_⟩)
 generalize P s=X at *
 obtain⟨x0,s0⟩:=X
 simp -zeta only at hK D2 N2 Sx kx kl kp1 ⊢
 intro J26
 refine⟨fun vs' hh=>∃(k:Nat) (x:List Nd) (t:RS) (a:Option Addr) (c:Nat),vs'=[vsl a x.length c]∧QY h0 hh g t∧YF h hh a x.length x∧Mut (At g) h (At g) hh∧SOk n t∧1≤x.length∧x.length≤40∧WfL x∧t.ws.length < k∧QbP P ops k x t=QbP P ops (s0.ws.length+1) x0 s0,fun _ hh=>Gp hh g,⟨_,x0,s0,a3,c3,rfl,D2,N2,M2,Sx,kp1,kl,kx,Nat.lt_succ_self _,rfl⟩,?_⟩
 rintro vs' hh ⟨k,x,t,a,c,rfl,Dt,Nt,Mt,St,hx1,hx,Wx,hk,hrow⟩
 obtain⟨k,rfl⟩:∃ j,k=j+1:=⟨k - 1,by omega⟩
 rw [QbP] at hrow
 refine⟨_,_,_,rfl,_,Dt.c2,fun e=>?_,fun e=>?_⟩
 ·have f0:¬ t.f≠0:=by rw [WG] at e;simpa using e
  rw [if_neg f0] at hrow
  have gi:=QA St.good (ops.map (·.1))
  have gm:=@Qh1 t (ops.map (·.1))
  have tk:=@Ns t (ops.map (·.1))
  have hDt:=Dt.wn
  refine Q1 Dt (W.mut Mt).s (by omega) (by have:=St.big;omega) fun h14 D14 M14=>⟨_,rfl,?_⟩
  have M014:=Mt.trans M14
  simp only at hrow
  generalize t.is (ops.map (·.1))=A at *
  obtain⟨w,s1⟩:=A
  simp -zeta only at hrow D14 gi gm tk ⊢
  have S1:=St.goes gi
  refine⟨_,Qt (b:=[]),fun e=>?_,fun e=>?_⟩
  ·rw [if_pos (of_decide_eq_true e)] at hrow
   rw [←hrow] at hK
   exact hK _ _ h14 D14 (Nt.mut D.al M14) M014
  ·have ew:=of_decide_eq_false e
   rw [if_neg ew] at hrow
   have hop':=QeO ho (gm ew)
   have kn:=kp s1 S1.good (Nat.le_of_lt S1.len)
   have tk:=tk ew
   refine⟨_,hop h14 M014 w (gm ew),Qjl B (F D14 (E.mut M014) S1 fun a22 c22 h21 D21 N21 M21=>⟨_,_,_,rfl,hop h21 (M014.trans M21) w (gm ew),?_⟩)⟩
   generalize QaM ops w=op at *
   have kj:YV (QO op x (P s1).1 (P s1).2) t:=QW hop' (gi.trans kn.goes) Wx kn.wf hx1 (fun _=>kn.pos)
   have kn1:=kn.wf
   have kn2:=kn.le
   have kn3:=kn.len
   have kj2:(QO op x (P s1).1 (P s1).2).2.ws.length≤(P s1).2.ws.length:=by
    unfold QO
    split
    ·exact Nat.zero_le _
    ·exact Nat.le_refl _
   generalize P s1=Y at *
   obtain⟨y1,s2⟩:=Y
   simp -zeta only at hrow D21 N21 kj kn1 kn2 kn3 kj2 ⊢
   refine QB D21 ((Nt.mut D.al M14).mut D.al M21).s N21.s kn1 (by omega) (by omega) fun a25 c25 h24 D24 N24 M24=>⟨_,_,_,rfl,⟨k,_,_,a25,c25,rfl,D24,N24.base ((M014.trans M21).up D21.al),(M014.trans M21).trans M24,St.goes kj.goes,kj.pos,kj.le,kj.wf,by omega,hrow⟩,?_⟩
   have h24n:=D24.wn
   show Gp h24 g < Gp hh g
   omega
 ·have f0:t.f≠0:=by rw [WG] at e;simpa using e
  rw [if_pos f0] at hrow
  rw [←hrow] at hK
  exact hK _ _ hh Dt Nt Mt
theorem QgS {h:Hp}{b:Nat}{es:Array MapEntry}{clock:Nat}(hb:h b=some (.map es clock)){w:Wd}{x:Int}{i:Nat}(hf:Instr.findNow .string (vs (bs w)) es.toList 0=some (some (i,vi x))):Rd Tryz.prog (Instr.lookup 186 (.map (some b)) (vs (bs w)) false) h (vi x):=
 Qld (k:=9) (e:=3) (d:=.string) (by kernel_rfl) (by kernel_rfl) hb trivial hf
theorem Qe4 {h:Hp}{b:Nat}{es:Array MapEntry}{clock:Nat}(hb:h b=some (.map es clock)){w:Wd}{x:Int}(hf:Instr.findNow .string (vs (bs w)) es.toList 0=some none){K:Hp→Prop}(hK:K (h.set b (.map (es.push { key:=vs (bs w),val:=vi x,born:=clock }) (clock+1)))):JH Tryz.prog (Instr.mapUpdate 186 (.map (some b)) (vs (bs w)) (vi x)) h K:=
 QjW (k:=9) (e:=3) (d:=.string) (key:=vs (bs w)) (by kernel_rfl) (by kernel_rfl) hb trivial hf hK
theorem JF {f:FuncId}{P:Ps}{n:Nat}(B:QhW f)(F:Zf f P n)(kp:KP P n){w:Wd}{op:Int}(ho:Opr op)(hw:w≠[]){h0 h:Hp}{g:Nat}{s:RS}(D:QY h0 h g s)(E:Qai h0 h g)(S:SOk n s){R:Value→Hp→Prop}(hK:∀ a c h',QY h0 h' g (K8 P [(w,op)] s).2→YF h h' a (K8 P [(w,op)] s).1.length (K8 P [(w,op)] s).1→Mut (At g) h (At g) h'→R (vsl a (K8 P [(w,op)] s).1.length c) h') :
  Ql Tryz.prog (Instr.makeMap 186 none) h fun v1 h2=>∃(y3:Value),v1=y3∧(JH Tryz.prog (Instr.mapUpdate 186 y3 (vs (bs w)) (vi op)) h2 fun h4=>(∀(b5:Nat),h4 b5=none→let h6:Hp:=Hp.set h4 b5 (Qc [(vs (bs w))] 9);(Qa Tryz.prog 108 [(vhp g 0),(Value.func (.func f) #[(vhp g 0)] #[]),y3,(vsl (some (⟨b5,0,none⟩:Addr)) 1 1)] h6 fun v7 h8=>∃(a9:Option Addr) (n9 c9:Nat),v7=(vsl a9 n9 c9)∧R (vsl a9 n9 c9) h8))):=by
 refine QcF fun b hb=>⟨_,rfl,?_⟩
 refine Qe4 (Hp.set_same _ _ _) rfl ?_
 intro b5 hb5 h6
 have hbg:b≠g:=fun e=>by rw [e] at hb;exact D.al hb
 have l1:h.le (h.set b (.map #[] 0)):=Hp.le_set (Hp.le_refl h) hb _
 rw [Hp.set_set] at hb5
 have l2:h.le h6:=by
  have:h6=(h.set b (.map (#[].push { key:=vs (bs w),val:=vi op,born:=0 }) (0+1))).set b5 (Qc [vs (bs w)] 9):=by
   show ((h.set b _).set b _).set b5 _=_
   rw [Hp.set_set]
  rw [this]
  exact Hp.le_trans (Hp.le_set (Hp.le_refl h) hb _) (Hp.le_set (Hp.le_refl _) hb5 _)
 have hb6:h6 b=some (.map (#[].push { key:=vs (bs w),val:=vi op,born:=0 }) (0+1)):=by
  have hne:b≠b5:=fun e=>by rw [e,Hp.set_same] at hb5;cases hb5
  show (((h.set b _).set b _).set b5 _) b=_
  rw [Hp.set_other _ _ hne,Hp.set_same]
 have D6:=D.le l2
 have hb5g:b5≠g:=fun e=>by
  subst e
  have:(h.set b (.map (#[].push { key:=vs (bs w),val:=vi op,born:=0 }) (0+1))) b5≠none:=by rw [Hp.set_other _ _ hbg.symm];exact D.al
  exact this hb5
 refine NO B F kp (ops:=[(w,op)]) (by simpa using ho) (by simpa using hw) (by simp) D6 (E.mut (Mut.of_le l2)) S ⟨WO _ b5 w,fun b' o e=>by cases e;exact hb5g⟩ (fun h' M w' hw'=>?_) fun a c h' D' N' M'=>⟨_,_,_,rfl,?_⟩
 ·have e:w'=w:=by simpa using hw'
  subst e
  have ho:QaM [(w',op)] w'=op:=by simp [QaM]
  rw [ho]
  have hm:h' b=_:=M.keep b _ (fun e=>hbg e) hb6
  refine QgS hm (i:=0) ?_
  show Instr.findNow .string (vs (bs w')) [{ key:=vs (bs w'),val:=vi op,born:=0 }] 0=_
  simp [Instr.findNow,Instr.sameNow,(Go.MapKept.bytes_beq (bs w') (bs w')).2 rfl]
 ·exact hK a c h' D' (N'.base (Qo3 l2)) ((Mut.of_le l2).trans M')
theorem QaQ {P:Ps}{n:Nat}(F:Zf 210 P n)(kp:KP P n):Zf 209 (K8 P [(Xa,8)]) n:=by
 intro h0 h g s D E S R hK
 refine JY ?_
 unfold XN
 exact JF ⟨_,Tryz.func210,by kernel_rfl,by kernel_rfl⟩ F kp (by decide) (by decide) D E S hK
theorem Qfh {P:Ps}{n:Nat}(F:Zf 150 P n)(kp:KP P n):Zf 109 (K8 P [(Qkj,9)]) n:=by
 intro h0 h g s D E S R hK
 refine Na ?_
 unfold KG
 exact JF ⟨_,Tryz.func150,by kernel_rfl,by kernel_rfl⟩ F kp (by decide) (by decide) D E S hK
theorem Qhh {P:Ps}{n:Nat}(F:Zf 109 P n)(kp:KP P n):Zf 62 (K8 P [(wOr,10)]) n:=by
 intro h0 h g s D E S R hK
 refine Qaw ?_
 unfold K1
 exact JF ⟨_,Tryz.func109,by kernel_rfl,by kernel_rfl⟩ F kp (by decide) (by decide) D E S hK
theorem QfV {P:Ps}{n:Nat}(F:Zf 209 P n)(kp:KP P n):Zf 202 (K8 P [(Vk,6),(ZE,7)]) n:=by
 intro h0 h g s D E S R hK
 refine MS ?_
 unfold KF
 refine QcF fun b hb=>⟨_,rfl,?_⟩
 refine Qe4 (w:=Vk) (Hp.set_same _ _ _) rfl ?_
 refine Qe4 (w:=ZE) (Hp.set_same _ _ _) rfl ?_
 rw [Hp.set_set,Hp.set_set]
 generalize hM:Obj.map _ _=ob
 intro b5 hb5 h6
 have hbg:b≠g:=fun e=>by rw [e] at hb;exact D.al hb
 have l2:h.le h6:=Hp.le_trans (Hp.le_set (Hp.le_refl h) hb _) (Hp.le_set (Hp.le_refl _) hb5 _)
 have hb6:h6 b=some ob:=by
  have hne:b≠b5:=fun e=>by rw [e,Hp.set_same] at hb5;cases hb5
  show ((h.set b _).set b5 _) b=_
  rw [Hp.set_other _ _ hne,Hp.set_same]
 have D6:=D.le l2
 have hb5g:b5≠g:=fun e=>by
  subst e
  have:(h.set b ob) b5≠none:=by rw [Hp.set_other _ _ hbg.symm];exact D.al
  exact this hb5
 refine NO ⟨_,Tryz.func209,by kernel_rfl,by kernel_rfl⟩ F kp (ops:=[(Vk,6),(ZE,7)]) (by decide) (by decide) (by simp) D6 (E.mut (Mut.of_le l2)) S ⟨Mf _ b5 [Vk,ZE] (by decide),fun b' o e=>by cases e;exact hb5g⟩ (fun h' M w' hw'=>?_) fun a c h' D' N' M'=>⟨_,_,_,rfl,?_⟩
 ·have hm:h' b=some ob:=M.keep b _ (fun e=>hbg e) hb6
  rw [←hM] at hm
  have e:w'=Vk∨w'=ZE:=by simpa using hw'
  rcases e with rfl|rfl
  ·exact QgS hm (i:=0) rfl
  ·exact QgS hm (i:=1) rfl
 ·exact hK a c h' D' (N'.base (Qo3 l2)) ((Mut.of_le l2).trans M')
theorem QjS {t:Vo}{n:Nat}(h:KP t.o n∧KP t.n n∧KP t.u n)(H:Zf 62 t.o n∧Zf 150 t.n n∧Zf 210 t.u n):Zf 62 (orS t) (n+1)∧Zf 150 (Qc6 t) (n+1)∧Zf 210 (unS t) (n+1):=by
 obtain⟨k1,k2,k3,k4,k5,k6,k7⟩:=QhN h
 have h1:Zf 210 (unS t) (n+1):=Qda H.2.2 h.2.2 (Qd8 H.1 h.1)
 have h2:Zf 209 (Qje t) (n+1):=QaQ h1 k3
 have h3:Zf 202 (Qmf t) (n+1):=QfV h2 k4
 have h4:Zf 184 (Qln t) (n+1):=QbF h3 k5
 have h5:Zf 150 (Qc6 t) (n+1):=QfW H.2.1 h.2.1 h4
 have h6:Zf 109 (Qnb t) (n+1):=Qfh h5 k2
 exact⟨Qhh h6 k7,h5,h1⟩
theorem Qav (f:FuncId)(P:Ps):Zf f P 0:=by
 intro h0 h g s D E S R hK
 exact absurd S.len (Nat.not_lt_zero _)
theorem QlF (n:Nat):Zf 62 (Xm n).o n∧Zf 150 (Xm n).n n∧Zf 210 (Xm n).u n:=by
 induction n with
 | zero=>exact⟨Qav _ _,Qav _ _,Qav _ _⟩
 | succ n ih=>rw [Mw];exact QjS (Ut n) ih
theorem Qfg {s:RS}{w:Wd}(hw:w≠[])(h:(s.is [w]).1=[]):(s.is [w]).2=s:=by
 rcases s.is_spec [w] with ⟨_,q⟩|⟨w',r,_,hm,q,_⟩
 ·exact q
 ·rw [h] at q
  rw [←q] at hm
  exact absurd (List.mem_singleton.1 hm).symm hw
theorem XD {n:Nat}{h0 h:Hp}{g:Nat}{s:RS}(D:QY h0 h g s)(E:Qai h0 h g)(S:SOk n s){w:Wd}(hw:w≠[]){d:Int}{R:Value→Hp→Prop}(hK:∀ h',QY h0 h' g (Um w d s).2→Mut (At g) h (At g) h'→R (vi (Um w d s).1) h'):Qa Tryz.prog 64 [vhp g 0,vs (bs w),vi d] h R:=by
 refine JK ?_
 unfold Xn
 intro b1 hb1 h2
 have hl:h.le h2:=Hp.le_set (Hp.le_refl h) hb1 _
 have hb:=S.big
 have io:=@Qfg s w hw
 have gi:=QA S.good [w]
 unfold Um at hK
 refine Q1 (D.le hl) (WO h b1 w) (by decide) (by omega) fun h4 D4 M4=>⟨_,rfl,?_⟩
 have M04:Mut (At g) h (At g) h4:=(Mut.of_le hl).trans M4
 refine⟨_,Qt (b:=[]),fun e=>?_,fun e=>?_⟩
 ·have e:=of_decide_eq_true e
  rw [if_pos e] at hK
  rw [io e] at D4
  exact hK h4 D4 M04
 ·have e:=of_decide_eq_false e
  rw [if_neg e] at hK
  exact WA D4 (E.mut M04) (by have:=gi.len;omega) (by decide) (by decide) fun h9 D9 M9=>⟨_,rfl,hK h9 D9 (M04.trans M9)⟩
theorem QnA {w:Wd}(h:w ∈ [[],QJ,Kl,Ks,Kn]):w ∈ QkF∧(QkF.idxOf w:Int)=US w:=by
 have h2:w=[]∨w=QJ∨w=Kl∨w=Ks∨w=Kn:=by simpa using h
 rcases h2 with rfl|rfl|rfl|rfl|rfl<;>exact⟨by decide,by decide⟩
theorem Nm {P:Ps}{n:Nat}(F:Zf 62 P n)(kp:KP P n){h0 h:Hp}{g:Nat}{s:RS}(D:QY h0 h g s)(E:Qai h0 h g)(S:SOk n s){R:Value→Hp→Prop}(hK:∀ a c h',QY h0 h' g (Yp P s).2→YF h h' a (Yp P s).1.2.length (Yp P s).1.2→Mut (At g) h (At g) h'→R (vag [vi (Yp P s).1.1,vsl a (Yp P s).1.2.length c]) h'):Qa Tryz.prog 60 [vhp g 0] h R:=by
 refine Nc ?_
 unfold Ku
 intro b1 hb1 h2
 have hl:h.le h2:=Hp.le_set (Hp.le_refl h) hb1 _
 have hb:=S.big
 have gi:=QA S.good [QJ,Kl,Ks,Kn]
 have gm:=@Qh1 s [QJ,Kl,Ks,Kn]
 unfold Yp at hK
 simp only at hK
 refine Q1 (D.le hl) (Mf h b1 [QJ,Kl,Ks,Kn] (by decide)) (by decide) (by omega) fun h4 D4 M4=>⟨_,rfl,?_⟩
 have M04:Mut (At g) h (At g) h4:=(Mut.of_le hl).trans M4
 generalize s.is [QJ,Kl,Ks,Kn]=B at *
 obtain⟨w,s1⟩:=B
 simp -zeta only at hK D4 gi gm ⊢
 have S1:=S.goes gi
 have hwm:w ∈ [[],QJ,Kl,Ks,Kn]:=by
  by_cases e:w=[]
  ·rw [e];simp
  ·exact List.mem_cons_of_mem _ (gm e)
 obtain⟨hwa,hwi⟩:=QnA hwm
 refine⟨_,Qt (b:=[]),?_⟩
 intro J11
 have hJ:∀(h12:Hp) (t:RS),t=(if w=[] then s1.fail 4 else s1)→QY h0 h12 g t→Mut (At g) h (At g) h12→Yr t s→J11 h12:=by
  intro h12 t ht D12 M12 Gt
  rw [←ht] at hK
  clear ht
  have St:=S.goes Gt
  refine Zi D12 (by have:=St.big;omega) fun h14 D14 M14=>⟨rfl,?_⟩
  have M014:=M12.trans M14
  have E14:=E.mut M014
  have G2:=Gt.trans (QN Gt.ok Zn)
  obtain⟨qa,qc,hq,hqs⟩:=E14.now.a
  refine⟨_,_,_,hq,Kq hqs (by decide) ⟨_,rfl,?_⟩⟩
  rw [if_pos hwa,hwi]
  have D14:QY h0 h14 g (t.must Zn):=D14
  generalize t.must Zn=s2 at *
  have S2:=S.goes G2
  intro J56
  have fin:∀(k:Int) (a:Option Addr) (c:Nat) (h66:Hp) (l:List Nd) (u:RS),QY h0 h66 g u→YF h h66 a l.length l→Mut (At g) h (At g) h66→SOk n u→(∀ a c h',QY h0 h' g (u.must Yc)→YF h h' a l.length l→Mut (At g) h (At g) h'→R (vag [vi k,vsl a l.length c]) h')→J56 k a l.length c h66:=by
   intro k a c h66 l u D66 N66 M66 Su hR
   exact Zi D66 (by have:=Su.big;omega) fun h68 D68 M68=>⟨rfl,hR a c h68 D68 (N66.mut D.al M68) (M66.trans M68)⟩
  clear_value J56
  have orK:∀{h26:Hp} (k:Int),QY h0 h26 g s2→Mut (At g) h (At g) h26→(∀ a c h',QY h0 h' g ((P s2).2.must Yc)→YF h h' a (P s2).1.length (P s2).1→Mut (At g) h (At g) h'→R (vag [vi k,vsl a (P s2).1.length c]) h')→Qa Tryz.prog 62 [vhp g 0] h26 fun v31 h32=>∃(a33:Option Addr) (n33 c33:Nat),v31=vsl a33 n33 c33∧J56 k a33 n33 c33 h32:=by
   intro h26 k D26 M26 hR
   have k2:=kp s2 S2.good (Nat.le_of_lt S2.len)
   exact F D26 (E.mut M26) S2 fun a c h' D' N' M'=>⟨_,_,_,rfl,fin k a c h' _ _ D' (N'.base (M26.up D26.al)) (M26.trans M') (S2.goes k2.goes) hR⟩
  refine⟨_,Qt (b:=QJ),fun e=>?_,fun e=>?_⟩
  ·have ew:w=QJ:=of_decide_eq_true e
   have hk1:US w=1:=by rw [ew];rfl
   intro b20 hb20 h21
   have l21:h14.le h21:=Hp.le_set (Hp.le_refl h14) hb20 _
   have M21:=M014.trans (Mut.of_le l21)
   have gi2:=QA S2.good [Xa]
   have io:=@Qfg s2 Xa (by decide)
   refine⟨fun x hh=>x=.t (.one (.v (vs (bs (s2.is [Xa]).1))))∧QY h0 hh g (s2.is [Xa]).2∧Mut (At g) h (At g) hh,fun _=>Q1 (D14.le l21) (WO h14 b20 Xa) (by decide) (by have:=S2.big;omega) fun h24 D24 M24=>⟨_,rfl,rfl,D24,M21.trans M24⟩,fun q=>absurd e q,?_⟩
   rintro h26 s27 ⟨e27,D26,M26⟩
   cases e27
   generalize s2.is [Xa]=C at *
   obtain⟨v,s3⟩:=C
   simp only at hK D26 gi2 io ⊢
   refine⟨_,fun _=>YC (b:=[]),fun q=>?_,fun q=>?_⟩
   ·have q2:v≠[]:=by simpa [ew] using q
    rw [if_pos ⟨ew,q2⟩] at hK
    rw [hk1]
    exact fin 1 none 0 h26 [] s3 D26 (Yu _ _) M26 (S2.goes gi2) hK
   ·have q2:v=[]:=by simpa [ew] using q
    rw [if_neg (by rintro⟨_,h⟩;exact h q2),if_pos ew] at hK
    rw [io q2] at D26
    refine⟨_,Qt (b:=QJ),fun q3=>orK 2 D26 M26 hK,fun q3=>absurd ew (of_decide_eq_false q3)⟩
  ·have e0:¬ w=QJ:=fun h=>e (decide_eq_true h)
   rw [if_neg (by rintro⟨h,_⟩;exact e0 h),if_neg e0] at hK
   refine⟨fun x hh=>x=.t (.one (.v (vs ⟨#[]⟩)))∧hh=h14,fun q=>absurd q e,fun _=>⟨rfl,rfl⟩,?_⟩
   rintro h43 s44 ⟨e43,rfl⟩
   cases e43
   refine⟨false,fun q=>absurd q e,fun q=>by simp at q,fun _=>?_⟩
   refine⟨_,Qt (b:=QJ),fun q3=>absurd (of_decide_eq_true q3) e0,fun q3=>orK (US w) D14 M014 hK⟩
 clear_value J11
 refine⟨fun e=>?_,fun e=>?_⟩
 ·have e:=of_decide_eq_true e
  exact YZ D4 (by decide) fun h8 D8 M8=>⟨rfl,hJ h8 _ (by rw [if_pos e]) D8 (M04.trans M8) (gi.trans (XO _ _))⟩
 ·have e:=of_decide_eq_false e
  exact hJ h4 _ (by rw [if_neg e]) D4 M04 gi
theorem QnC:ElT Tryz.prog 25 96 2 32:=.of (by kernel_rfl) (by kernel_rfl) (by decide)
abbrev Ql9 (G:Nat→Prop):=YN Zo Ny 2 96 G
theorem QY.keep {h0 h h':Hp}{g:Nat}{s:RS}(D:QY h0 h g s)(hb:h' g=h g)(l:h0.le h'):QY h0 h' g s:=by
 obtain⟨a,c,hb',hS,hc⟩:=D.b
 exact⟨⟨a,c,hb.trans hb',hS,hc⟩,l,D.n,D.w⟩
theorem Qkt {h0 hB h1:Hp}{g:Nat}{a:Option Addr}{c:Nat}{L:List Ag}{s:RS}(B:Ql9 (At g) h0 h1 a c L)(D:QY h0 h1 g s)(hBg:hB g≠none)(hBa:∀ b,a=some ⟨b,0,none⟩→hB b≠none){k:Int}{a2:Option Addr}{c2:Nat}{l:List Nd}(N:YF hB h1 a2 l.length l)(hL:L.length≤1000)
  {b:Nat} (hb:h1 b=none) {K:Value→Hp→Prop} (hK:∀ a' c' h',Ql9 (At g) h0 h' a' c' (L++[(k,l)])→QY h0 h' g s→K (vsl a' (L.length+1) c') h') :
  Ql Tryz.prog (Builtin.append_ #[25,25] 25 #[vsl a L.length c,vsl (some ⟨b,0,none⟩) 1 1]) (h1.set b (Qc [vi k,vsl a2 l.length c2] 96)) K:=by
 refine B.app (x:=k) (c2:=c2) QnC (Hp.le_refl h1) (fun b' e=>by rw [show b'=g from e];exact hBg) hBa N.s.2 N.nw ?_ rfl (fun b' e=>by rw [show b'=g from e];exact D.al) (by omega) (by omega) hb fun a' c' h' B' hk=>hK a' c' h' B' ?_
 ·intro u hu
  have:u=vi k∨u=vsl a2 l.length c2:=by simpa [Ny] using hu
  rcases this with rfl|rfl<;>rfl
 ·obtain⟨o,ho⟩:∃ o,h1 g=some o:=by
   cases e:h1 g with
   | none=>exact absurd e D.al
   | some o=>exact⟨o,rfl⟩
  exact D.keep ((hk g o ho (B.ne rfl)).trans ho.symm) B'.le0
theorem Qcl (h:Hp):QAt h noQ none 0 none 0 none 0:=⟨⟨[],rfl,rfl,.inl rfl,fun r hr=>by cases hr⟩,⟨rfl,.inl rfl⟩,⟨rfl,.inl rfl⟩⟩
set_option maxHeartbeats 1000000 in
theorem QdM {l:List UInt8}{h:Hp}(T:QgF h){R:Value→Hp→Prop}(hK:∀ a1 n1 c1 a2 n2 c2 a3 n3 c3 h',h.le h'→QAt h' (Z7 l).1 a1 n1 a2 n2 a3 n3→R (Qf [qV a1 n1 c1 a2 n2 c2 a3 n3 c3 (Z7 l).1,ifv (YA (Z7 l).2)]) h'):Qa Tryz.prog 23 [vs (bs l)] h R:=by
 refine Qeu ?_
 unfold GJ
 refine QeT fun wa wn wc h2 O=>⟨_,_,_,_,rfl,?_⟩
 have lw:=Qbg l
 have l02:=O.le
 unfold Z7 at hK
 generalize Zm l=WW at *
 obtain⟨W,fw⟩:=WW
 simp only at hK lw O
 show (Option.isSome (YA fw)=true→R (Qf [qV none 0 0 none 0 0 none 0 0 noQ,ifv (YA fw)]) h2)∧(Option.isSome (YA fw)=false→_)
 rw [Zj]
 refine⟨fun e=>?_,fun e=>?_⟩
 ·have e2:fw≠0:=by simpa using e
  rw [if_pos e2] at hK
  exact hK none 0 0 none 0 0 none 0 0 h2 l02 (Qcl h2)
 have e2:¬ fw≠0:=by simpa using e
 rw [if_neg e2] at hK
 clear e e2
 have hS:=O.slp Yi (by decide)
 obtain rfl:=hS.1
 intro b6 hb6 h7
 have l7:h2.le h7:=Hp.le_set (Hp.le_refl h2) hb6 _
 have D7:QY h2 h7 b6 ⟨W,0,0⟩:=⟨⟨wa,wc,Hp.set_same _ _ _,hS,O.own.cap⟩,l7,hb6,fun x hx=>Nat.le_trans (lw.2 x hx) (by decide)⟩
 have E7:Qai h2 h7 b6:=⟨T.le l02,l7,hb6⟩
 have F:Zf 62 (Xm (W.length+1)).o (W.length+1):=(QlF (W.length+1)).1
 have kp:=(Ut (W.length+1)).1
 have g0:(⟨W,0,0⟩:RS).good:=fun h=>absurd rfl h
 have S7:SOk (W.length+1) ⟨W,0,0⟩:=⟨g0,Nat.lt_succ_self _,by show W.length≤1000;omega,Int.le_refl _,by show (0:Int)+(W.length:Int)≤1000000;omega⟩
 have hAll:=Qkv W
 unfold QgW at hK
 rw [QeN] at hK
 unfold Qm9 Qaz at hK hAll
 generalize (Xm (W.length+1)).o=o at *
 have G1:=QN g0 WL
 refine Zi D7 (by show W.length≤1000000;omega) fun h9 D9 M9=>⟨rfl,?_⟩
 have D9:QY h2 h9 b6 ((⟨W,0,0⟩:RS).must WL):=D9
 generalize (⟨W,0,0⟩:RS).must WL=s1 at *
 have S9:=S7.goes G1
 have G2:=Ur kp S9.good (Nat.le_of_lt S9.len)
 have hs1:s1.ws.length≤80:=Nat.le_trans G1.len lw.1
 refine Nm F kp D9 (E7.mut M9) S9 fun a13 c13 h11 D11 N11 M11=>⟨_,_,_,_,rfl,?_⟩
 generalize Yp o s1=A at *
 obtain⟨⟨k1,l1⟩,s2⟩:=A
 simp -zeta only at hK D11 N11 G2 hAll ⊢
 have S11:=S9.goes G2.1
 have l11:h2.le h11:=D11.l
 intro b14 hb14 h15
 refine Qkt (L:=[]) (a:=none) (c:=0) (hB:=h9) (k:=k1) (YN.nil l11) D11 D9.al (fun b e=>by cases e) N11 (by decide) hb14 fun a18 c18 h17 B17 D17=>⟨_,_,_,rfl,?_⟩
 intro J48
 -- the rest, behind what is gathered
 have hRest:∀(L:List Ag) (t:RS) (a:Option Addr) (c:Nat) (hE:Hp),Ql9 (At b6) h2 hE a c L→QY h2 hE b6 t→SOk (W.length+1) t→XM o (s2.ws.length+1) [(k1,l1)] s2=(L,t)→L.length≤1000→J48 a L.length c none 0 0 none 0 0 hE:=by
  intro L t a c hE BE DE SE hL hLn
  rw [hL] at hK hAll
  simp only at hK hAll
  have EE:Qai h2 hE b6:=⟨E7.t,DE.l,hb6⟩
  have hgE:=DE.al
  have hG2:∀ b,At b6 b→h2 b=none:=fun b e=>by rw [show b=b6 from e];exact hb6
  have G3:=QN SE.good Qbk
  refine Zi DE (by have:=SE.big;omega) fun h261 D261 M261=>⟨rfl,?_⟩
  have D261:QY h2 h261 b6 (t.must Qbk):=D261
  have S261:=SE.goes G3
  have G4:=G3.trans (QN G3.ok Jw)
  refine Zi D261 (by have:=S261.big;omega) fun h263 D263 M263=>⟨rfl,?_⟩
  have D263:QY h2 h263 b6 ((t.must Qbk).must Jw):=D263
  have ME:=M261.trans M263
  have S263:=SE.goes G4
  unfold QmJ at hK
  generalize (t.must Qbk).must Jw=t2 at *
  clear G3 D261 S261
  intro b264 hb264 h265
  have l265:h263.le h265:=Hp.le_set (Hp.le_refl h263) hb264 _
  have gi:=QA S263.good [Z9]
  have io:=@Qfg t2 Z9 (by decide)
  refine Q1 (D263.le l265) (WO h263 b264 Z9) (by decide) (by have:=S263.big;omega) fun h267 D267 M267=>⟨_,rfl,_,YC (b:=[]),?_⟩
  have D267:QY h2 h267 b6 (t2.is [Z9]).2:=D267
  have M267':=(ME.trans (Mut.of_le l265)).trans M267
  intro J275
  have h275:∀(wh:List Nd) (aw:Option Addr) (cw:Nat) (u:RS) (h315:Hp),Ka Z9 o t2=(wh,u)→QY h2 h315 b6 u→SOk (W.length+1) u→YF hE h315 aw wh.length wh→NJ wh→Mut (At b6) hE (At b6) h315→J275 aw wh.length cw h315:=by
   intro wh aw cw u h315 hw D315 S315 N315 Kw M315
   rw [hw] at hK
   simp only at hK
   unfold byQ at hK
   intro b316 hb316 h317
   have l317:h315.le h317:=Hp.le_set (Hp.le_refl h315) hb316 _
   have gi:=QA S315.good [ZW]
   have io:=@Qfg u ZW (by decide)
   refine Q1 (D315.le l317) (WO h315 b316 ZW) (by decide) (by have:=S315.big;omega) fun h319 D319 M319=>⟨_,rfl,_,YC (b:=[]),?_⟩
   have D319:QY h2 h319 b6 (u.is [ZW]).2:=D319
   have M319':=(M315.trans (Mut.of_le l317)).trans M319
   intro J329
   have h329:∀(by_:List Nd) (ab:Option Addr) (cb:Nat) (v:RS) (h354:Hp),Ka ZW (fun s=>o (s.must wBy)) u=(by_,v)→QY h2 h354 b6 v→SOk (W.length+1) v→YF hE h354 aw wh.length wh→YF hE h354 ab by_.length by_→NJ by_→Mut (At b6) hE (At b6) h354→J329 ab by_.length cb h354:=by
    intro by_ ab cb v h354 hv D354 S354 Nw N354 Kb M354
    rw [hv] at hK
    simp only at hK
    unfold QpD at hK
    simp only at hK
    have Ga:=QN S354.good Jv
    refine Zi D354 (by have:=S354.big;omega) fun h356 D356 M356=>⟨rfl,?_⟩
    have D356:QY h2 h356 b6 (v.must Jv):=D356
    have Sa:=S354.goes Ga
    generalize v.must Jv=v1 at *
    have Gb:=JB Sa.good 1000
    refine WA D356 (EE.mut (M354.trans M356)) (by have:=Sa.big;omega) (by decide) (by decide) fun h358 D358 M358=>⟨_,rfl,?_⟩
    have Sb:=Sa.goes Gb
    generalize v1.number 1000=Z at *
    obtain⟨z,v2⟩:=Z
    simp -zeta only at hK D358 Sb ⊢
    have Gc:=KY Sb.good Gr z
    refine XD (w:=Gr) D358 (EE.mut ((M354.trans M356).trans M358)) Sb (by decide) fun h361 D361 M361=>⟨_,rfl,?_⟩
    have Sc:=Sb.goes Gc
    generalize Um Gr z v2=Z at *
    obtain⟨sl,v3⟩:=Z
    simp -zeta only at hK D361 Sc ⊢
    have Gd:=KY Sc.good Gk 0
    refine XD (w:=Gk) D361 (EE.mut (((M354.trans M356).trans M358).trans M361)) Sc (by decide) fun h364 D364 M364=>⟨_,rfl,?_⟩
    have Sd:=Sc.goes Gd
    generalize Um Gk 0 v3=Z at *
    obtain⟨d,v4⟩:=Z
    simp -zeta only at hK D364 Sd ⊢
    have Ge:=KY Sd.good Qcz 0
    refine XD (w:=Qcz) D364 (EE.mut ((((M354.trans M356).trans M358).trans M361).trans M364)) Sd (by decide) fun h367 D367 M367=>⟨_,rfl,?_⟩
    have Se:=Sd.goes Ge
    generalize Um Qcz 0 v4=Z at *
    obtain⟨lt,v5⟩:=Z
    simp -zeta only at hK D367 Se ⊢
    have M367':=((((M354.trans M356).trans M358).trans M361).trans M364).trans M367
    have M36:=((((M356).trans M358).trans M361).trans M364).trans M367
    obtain⟨qa,qc,hq⟩:=D367.c0
    refine⟨_,D367.c2,_,_,_,fun _=>hq,?_⟩
    intro J374
    have h374:∀(h375:Hp) (y:RS),y.f=(if v5.f=0∧v5.ws≠[] then v5.fail 4 else v5).f→QY h2 h375 b6 y→Mut (At b6) h367 (At b6) h375→J374 h375:=by
     intro h375 y hy D375 M375
     rw [←hy] at hK
     have M375':=M367'.trans M375
     have BE2:Ql9 (At b6) h2 h375 a c L:=BE.keep hG2 M375'.keep
     have Nw2:=Nw.mut hgE (M36.trans M375)
     have N2:=N354.mut hgE (M36.trans M375)
     have QE:QAt h375 ⟨L,wh,by_,z,sl,d,lt⟩ a L.length aw wh.length ab by_.length:=⟨BE2.tab,Nw2.s,N2.s⟩
     refine⟨_,D375.c2,?_⟩
     intro J383
     have h383:∀(h384:Hp) (f:Int),h384.cell b6 (0+2)=some (ifv (YA f))→h.le h384→(f≠0→∀ h',h.le h'→R (Qf [qV none 0 0 none 0 0 none 0 0 noQ,ifv (YA f)]) h')→(f=0→R (Qf [qV a L.length c aw wh.length cw ab by_.length cb ⟨L,wh,by_,z,sl,d,lt⟩,ifv none]) h384)→J383 h384:=by
      intro h384 f hc lh hb hg
      refine⟨_,hc,fun e=>⟨_,hc,hc,?_⟩,fun e=>?_⟩
      ·rw [Zj] at e
       exact hb (by simpa using e) h384 lh
      ·rw [Zj] at e
       exact hg (by simpa using e)
     clear_value J383
     refine⟨fun e=>?_,fun e=>?_⟩
     ·rw [WG] at e
      have e:y.f=0:=of_decide_eq_true e
      rw [e,if_neg (fun h=>h rfl)] at hK
      have hbig:QjR ⟨L,wh,by_,z,sl,d,lt⟩:=⟨Nat.le_trans Kw.1 (by decide),Nat.le_trans Kb.1 (by decide),fun x hx=>Nat.le_trans (hAll x hx).1 (by decide),by show L.length≤1000000;omega⟩
      refine VW (q:=⟨L,wh,by_,z,sl,d,lt⟩) (c1:=c) (c2:=cw) (c3:=cb) QE hbig fun h378 l378=>⟨YA (Ul ⟨L,wh,by_,z,sl,d,lt⟩),rfl,?_⟩
      refine(D375.le l378).put2 fun h380 D380 M380=>?_
      have lh:h.le h380:=Hp.le_trans l02 D380.l
      refine h383 h380 _ D380.c2 lh (fun hf h' l'=>?_) fun hf=>?_
      ·rw [if_pos hf] at hK
       exact hK none 0 0 none 0 0 none 0 0 h' l' (Qcl h')
      ·rw [if_neg (fun h=>h hf)] at hK
       have M2:=(Mut.of_le l378).trans M380
       exact hK _ _ c _ _ cw _ _ cb h380 lh ⟨(BE2.keep hG2 M2.keep).tab,(Nw2.mut hgE M2).s,(N2.mut hgE M2).s⟩
     ·rw [WG] at e
      have e:y.f≠0:=of_decide_eq_false e
      rw [if_pos e] at hK
      refine h383 h375 y.f D375.c2 (Hp.le_trans l02 D375.l) (fun hf h' l'=>?_) fun hf=>absurd hf e
      exact hK none 0 0 none 0 0 none 0 0 h' l' (Qcl h')
    clear_value J374
    have hcond:(bif Option.isNone (YA v5.f) then decide (((v5.ws.length:Nat):Int) > 0) else false)=decide (v5.f=0∧v5.ws≠[]):=by
     rw [WG,ZJ]
     refine decide_eq_decide.2 ?_
     rw [ne_eq,Xy]
     constructor
     ·rintro⟨h1,h2⟩;exact⟨h1,by omega⟩
     ·rintro⟨h1,h2⟩;exact⟨h1,by omega⟩
    rw [hcond]
    refine⟨fun e=>?_,fun e=>?_⟩
    ·have e:=of_decide_eq_true e
     refine(D367.put2 (f:=4) fun h371 D371 M371=>h374 h371 _ ?_ D371 M371)
     rw [if_pos e]
     unfold RS.fail
     rw [if_pos e.1]
    ·have e:=of_decide_eq_false e
     exact h374 h367 v5 (by rw [if_neg e]) D367 (Mut.of_le (Hp.le_refl _))
   clear_value J329
   have Nw:=(N315.mut hgE ((Mut.of_le l317).trans M319))
   refine⟨fun e=>?_,fun e=>?_⟩
   ·have e:(u.is [ZW]).1≠[]:=by simpa using e
    have hop:Ka ZW (fun s=>o (s.must wBy)) u=o ((u.is [ZW]).2.must wBy):=by unfold Ka;rw [if_neg e]
    rw [hop] at h329
    have Su:=S315.goes gi
    have Gy:=QN Su.good wBy
    refine Zi D319 (by have:=Su.big;omega) fun h323 D323 M323=>⟨rfl,?_⟩
    have D323:QY h2 h323 b6 ((u.is [ZW]).2.must wBy):=D323
    have S323:=Su.goes Gy
    have k2:=kp _ S323.good (Nat.le_of_lt S323.len)
    have M323':=M319'.trans M323
    refine F D323 (EE.mut M323') S323 fun a c h325 D325 N325 M325=>⟨_,_,_,rfl,?_⟩
    exact h329 _ _ _ _ h325 rfl D325 (S323.goes k2.goes) ((Nw.mut hgE M323).mut hgE M325) (N325.base (M323'.up D323.al)) k2.nds (M323'.trans M325)
   ·have e:(u.is [ZW]).1=[]:=by simpa using e
    have hop:Ka ZW (fun s=>o (s.must wBy)) u=([],u):=by unfold Ka;rw [if_pos e]
    rw [io e] at D319
    exact h329 [] none 0 u h319 hop D319 S315 Nw (Yu _ _) Qbr M319'
  clear_value J275
  refine⟨fun e=>?_,fun e=>?_⟩
  ·have e:(t2.is [Z9]).1≠[]:=by simpa using e
   have hop:Ka Z9 o t2=o (t2.is [Z9]).2:=by unfold Ka;rw [if_neg e]
   rw [hop] at h275
   have Su:=S263.goes gi
   have k2:=kp _ Su.good (Nat.le_of_lt Su.len)
   refine F D267 (EE.mut M267') Su fun a c h271 D271 N271 M271=>⟨_,_,_,rfl,?_⟩
   exact h275 _ _ _ _ h271 rfl D271 (Su.goes k2.goes) (N271.base (M267'.up D267.al)) k2.nds (M267'.trans M271)
  ·have e:(t2.is [Z9]).1=[]:=by simpa using e
   have hop:Ka Z9 o t2=([],t2):=by unfold Ka;rw [if_pos e]
   rw [io e] at D267
   exact h275 [] none 0 t2 h267 hop D267 S263 (Yu _ _) Qbr M267'
 clear_value J48
 -- what is gathered, one behind the other
 refine⟨fun vs' hh=>∃(k:Nat) (L:List Ag) (t:RS) (a:Option Addr) (c:Nat),vs'=[vsl a L.length c,vsl none 0 0,vsl none 0 0,vi 0,vi 0,vi 0,vi 0]∧Ql9 (At b6) h2 hh a c L∧QY h2 hh b6 t∧SOk (W.length+1) t∧t.ws.length < k∧XM o (s2.ws.length+1) [(k1,l1)] s2=XM o k L t∧L.length+t.ws.length≤100,fun _ hh=>Gp hh b6,⟨_,[(k1,l1)],s2,a18,c18,rfl,B17,D17,S11,Nat.lt_succ_self _,rfl,?_⟩,?_⟩
 ·have:=G2.1.len
  show 1+s2.ws.length≤100
  omega
 rintro vs' hh ⟨k,L,t,a,c,rfl,B,D,S,hk,hrow,hL⟩
 obtain⟨k,rfl⟩:∃ j,k=j+1:=⟨k - 1,by omega⟩
 have hst:XM o (k+1) L t=if (t.is [Zw]).1=[] then(L,t) else XM o k (L++[(Yp o (t.is [Zw]).2).1]) (Yp o (t.is [Zw]).2).2:=rfl
 rw [hst] at hrow
 clear hst
 refine⟨_,_,_,_,_,_,_,_,_,_,_,_,_,rfl,?_⟩
 intro b31 hb31 h32
 have l32:hh.le h32:=Hp.le_set (Hp.le_refl hh) hb31 _
 have gi:=QA S.good [Zw]
 have io:=@Qfg t Zw (by decide)
 have tk:=@Ns t [Zw]
 have hG2:∀ b,At b6 b→h2 b=none:=fun b e=>by rw [show b=b6 from e];exact hb6
 have hwn:=D.wn
 refine Q1 (D.le l32) (WO hh b31 Zw) (by decide) (by have:=S.big;omega) fun h34 D34 M34=>⟨_,rfl,_,YC (b:=[]),fun e=>?_,fun e=>?_⟩
 ·have e:(t.is [Zw]).1≠[]:=by simpa using e
  rw [if_neg e] at hrow
  have tk:=tk e
  have D34:QY h2 h34 b6 (t.is [Zw]).2:=D34
  have B34:=(B.grow l32).keep hG2 M34.keep
  have St:=S.goes gi
  have Ga:=Ur kp St.good (Nat.le_of_lt St.len)
  have E34:Qai h2 h34 b6:=⟨E7.t,D34.l,hb6⟩
  refine Nm F kp D34 E34 St fun a42 c42 h40 D40 N40 M40=>⟨_,_,_,_,rfl,?_⟩
  generalize Yp o (t.is [Zw]).2=A at *
  obtain⟨⟨k2,l2⟩,t2⟩:=A
  simp -zeta only at hrow D40 N40 Ga ⊢
  have B40:=B34.keep hG2 M40.keep
  intro b43 hb43 h44
  have hlen:=Ga.1.len
  refine Qkt (hB:=h34) (k:=k2) B40 D40 D34.al (fun b e=>B34.al e) N40 (by omega) hb43 fun a47 c47 h46 B46 D46=>⟨_,_,_,rfl,⟨k,L++[(k2,l2)],t2,a47,c47,by simp,B46,D46,St.goes Ga.1,by omega,hrow,by simp;omega⟩,?_⟩
  have h46n:=D46.wn
  show Gp h46 b6 < Gp hh b6
  omega
 ·have e:(t.is [Zw]).1=[]:=by simpa using e
  rw [if_pos e] at hrow
  rw [io e] at D34
  exact hRest L t a c h34 ((B.grow l32).keep hG2 M34.keep) D34 S hrow (by omega)
end Go.Proofs.YtgmplfdecikgoaaGreatDoor
namespace Go.Proofs.YtgmplfdecikgoaaGreatDoor
open Go Go.Vc
def Qa6 (u0 u1:Nat)(u2:Int)(h:Hp)(R:Value→Hp→Prop):Prop:=
 (∃ x1,(Hp.cell h u0 (u1+3)=some (vi x1))∧(((decide (x1=0))=true→(Hp.store h u0 (u1+3) [vi u2] fun h2=>R (Qf []) h2))∧((decide (x1=0))=false→R (Qf []) h)))
theorem Qh0 {u0 u1 u2 h R}(H:Qa6 u0 u1 u2 h R):Qa Tryz.prog 68 [vhp u0 u1,vi u2] h R:=
 Qd (cfg:=⟨[],[],[]⟩) Qo mixed Tryz.func68 [.one (.hp u0 u1),.one (.v (vi u2))] (by kernel_rfl) rfl (by kernel_rfl) H
def Qa9 (u0 u1:Nat)(h:Hp)(R:Value→Hp→Prop):Prop:=
 (∃ x1,(Hp.cell h u0 (u1+3)=some (vi x1))∧(∃ x2,((decide (x1 > 0))=false→Hp.cell h u0 (u1+1)=some (vi x2))∧(∃ a3 n3 c3,((decide (x1 > 0))=false→Hp.cell h u0 u1=some (vsl a3 n3 c3))∧(((bif (decide (x1 > 0)) then true else(decide (x2≥(n3:Int))))=true→R (vs ⟨#[]⟩) h)∧((bif (decide (x1 > 0)) then true else(decide (x2≥(n3:Int))))=false→(∃ a5 n5 c5,(Hp.cell h u0 u1=some (vsl a5 n5 c5))∧(∃ x6,(Hp.cell h u0 (u1+1)=some (vi x6))∧(∃ b7 o8,(a5=some ⟨b7,o8,none⟩∧(0:Int)≤x6∧x6 < (n5:Int))∧(∃ s9,(Hp.cell h b7 (o8+x6.toNat*1)=some (vs s9))∧R (vs s9) h)))))))))
theorem Qhp {u0 u1 h R}(H:Qa9 u0 u1 h R):Qa Tryz.prog 110 [vhp u0 u1] h R:=
 Qd (cfg:=⟨[],[],[(1,[0,1,2,3,4,5,6,7,8,9,10,11,12,13,14,15,16]),(3,[0,1,2,3,4,5,6,7,8,9,10])]⟩) Qo mixed Tryz.func110 [.one (.hp u0 u1)] (by kernel_rfl) rfl (by kernel_rfl) H
def QaN (u0 u1:Nat)(u2:ByteArray)(h:Hp)(R:Value→Hp→Prop):Prop:=
 (Qa Tryz.prog 110 [vhp u0 u1] h fun v1 h2=>∃ s3,v1=(vs s3)∧(∃ p4,(Rd Tryz.prog ((eqGuard .eql 9 (.tmp 8) (.const (vs ⟨#[]⟩)) (vs s3) (vs ⟨#[]⟩) >>= fun _=>binOp .eql 9 (vs s3) (vs ⟨#[]⟩))) h2 (vb p4))∧(∃ p5,(p4=false→Rd Tryz.prog ((eqGuard .neq 9 (.tmp 11) (.tmp 12) (vs s3) (vs u2) >>= fun _=>binOp .neq 9 (vs s3) (vs u2))) h2 (vb p5))∧(((bif p4 then true else p5)=true→R (vb false) h2)∧((bif p4 then true else p5)=false→(∃ x7,(Hp.cell h2 u0 (u1+1)=some (vi x7))∧(∃ x8,(IsW x8 (x7+1))∧(Hp.store h2 u0 (u1+1) [vi x8] fun h9=>R (vb true) h9))))))))
theorem Qhf {u0 u1 u2 h R}(H:QaN u0 u1 u2 h R):Qa Tryz.prog 67 [vhp u0 u1,vs u2] h R:=
 Qd (cfg:=⟨[],[],[]⟩) Qo mixed Tryz.func67 [.one (.hp u0 u1),.one (.v (vs u2))] (by kernel_rfl) rfl (by kernel_rfl) H
def QaP (u0 u1:Nat)(u2:ByteArray)(h:Hp)(R:Value→Hp→Prop):Prop:=
 (Qa Tryz.prog 67 [vhp u0 u1,vs u2] h fun v1 h2=>∃ p3,v1=(vb p3)∧(((!p3)=true→(Qa Tryz.prog 68 [vhp u0 u1,vi 4] h2 fun v4 h5=>v4=(Qf [])∧R (Qf []) h5))∧((!p3)=false→R (Qf []) h2)))
theorem QhM {u0 u1 u2 h R}(H:QaP u0 u1 u2 h R):Qa Tryz.prog 66 [vhp u0 u1,vs u2] h R:=
 Qd (cfg:=⟨[],[],[]⟩) Qo mixed Tryz.func66 [.one (.hp u0 u1),.one (.v (vs u2))] (by kernel_rfl) rfl (by kernel_rfl) H
def Gf (u0 u1:Nat)(u2:Int)(h:Hp)(R:Value→Hp→Prop):Prop:=
 (Qa Tryz.prog 110 [vhp u0 u1] h fun v1 h2=>∃ s3,v1=(vs s3)∧(Qa Tryz.prog 116 [vs s3,vi u2,vb false] h2 fun v4 h5=>∃ x6,v4=(vi x6)∧(((decide (x6 < 0))=true→(Qa Tryz.prog 68 [vhp u0 u1,vi 4] h5 fun v7 h8=>v7=(Qf [])∧R (vi 0) h8))∧((decide (x6 < 0))=false→(∃ x10,(Hp.cell h5 u0 (u1+1)=some (vi x10))∧(∃ x11,(IsW x11 (x10+1))∧(Hp.store h5 u0 (u1+1) [vi x11] fun h12=>R (vi x6) h12)))))))
theorem Qe0 {u0 u1 u2 h R}(H:Gf u0 u1 u2 h R):Qa Tryz.prog 70 [vhp u0 u1,vi u2] h R:=
 Qd (cfg:=⟨[],[],[]⟩) Qo mixed Tryz.func70 [.one (.hp u0 u1),.one (.v (vi u2))] (by kernel_rfl) rfl (by kernel_rfl) H
def Qcv (u0 u1:Nat)(u2:Int)(u3:Option Addr)(u4 u5:Nat)(u6:Option Addr)(u7 u8:Nat)(h:Hp)(R:Value→Hp→Prop):Prop:=
 (∃ x1,(Hp.cell h u0 (u1+3)=some (vi x1))∧(((decide (x1 > 0))=true→R (vsl u3 u4 u5) h)∧((decide (x1 > 0))=false→(∃ x3,(IsW x3 ((u4:Int)+(u7:Int)))∧(∃ x4,(IsW x4 (x3+1))∧(((decide (x4 > 40))=true→(Qa Tryz.prog 68 [vhp u0 u1,vi 2] h fun v5 h6=>v5=(Qf [])∧R (vsl u3 u4 u5) h6))∧((decide (x4 > 40))=false→(Ql Tryz.prog (Builtin.append_ #[26,26] 26 #[vsl none 0 0,vsl u3 u4 u5]) h fun v8 h9=>∃ a10 n10 c10,v8=(vsl a10 n10 c10)∧(∃(I12:List Value→Hp→Prop) (m13:List Value→Hp→Nat),I12 [vsl a10 n10 c10,vi 0] h9∧∀ vs14 h15,I12 vs14 h15→∃ a16 n16 c16 x17,vs14=[vsl a16 n16 c16,vi x17]∧(((decide (x17 < (u7:Int)))=true→(∃ b20 o21,(u6=some ⟨b20,o21,none⟩∧(0:Int)≤x17∧x17 < (u7:Int))∧(∃ x22 x23 x24 x25 x26 x27,(Hp.row h15 b20 (o21+x17.toNat*6) 6=some [vi x22,vi x23,vi x24,vi x25,vi x26,vi x27])∧(Qa Tryz.prog 151 [vi x22] h15 fun v28 h29=>∃ x30,v28=(vi x30)∧(let J34:Int→Prop:=fun x41=>(let J45:Int→Prop:=fun x48=>(∀ b49,h29 b49=none→let h50:= Hp.set h29 b49 (Qc [vi x22,vi x41,vi x48,vi x25,vi x26,vi x27] 160);(Ql Tryz.prog (Builtin.append_ #[26,26] 26 #[vsl a16 n16 c16,(vsl (some (⟨b49,0,none⟩:Addr)) 1 1)]) h50 fun v51 h52=>∃ a53 n53 c53,v51=(vsl a53 n53 c53)∧(∃ x55,(IsW x55 (x17+1))∧(I12 [vsl a53 n53 c53,vi x55] h52∧m13 [vsl a53 n53 c53,vi x55] h52 < m13 vs14 h15))));(((decide (x30 > 1))=true→(∃ x42,(IsW x42 (x24+(u4:Int)))∧(J45 x42)))∧((decide (x30 > 1))=false→(J45 x24))));(((decide (x30 > 0))=true→(∃ x31,(IsW x31 (x23+(u4:Int)))∧(J34 x31)))∧((decide (x30 > 0))=false→(J34 x23))))))))∧((decide (x17 < (u7:Int)))=false→(∃ x56,(IsW x56 ((u4:Int) - 1))∧(let J60:Int→Prop:=fun x63=>(∀ b64,h15 b64=none→let h65:= Hp.set h15 b64 (Qc [vi u2,vi x56,vi x63,vi 0,vi 0,vi 0] 160);(Ql Tryz.prog (Builtin.append_ #[26,26] 26 #[vsl a16 n16 c16,(vsl (some (⟨b64,0,none⟩:Addr)) 1 1)]) h65 fun v66 h67=>∃ a68 n68 c68,v66=(vsl a68 n68 c68)∧R (vsl a68 n68 c68) h67));(((decide ((u7:Int) > 0))=true→(∃ x57,(IsW x57 ((n16:Int) - 1))∧(J60 x57)))∧((decide ((u7:Int) > 0))=false→(J60 0))))))))))))))))
theorem QiE {u0 u1 u2 u3 u4 u5 u6 u7 u8 h R}(H:Qcv u0 u1 u2 u3 u4 u5 u6 u7 u8 h R):Qa Tryz.prog 113 [vhp u0 u1,vi u2,vsl u3 u4 u5,vsl u6 u7 u8] h R:=
 Qd (cfg:=⟨[],[(8,([9,10],[.one (.slice),.one (.int .i64)],[]))],[]⟩) Qo mixed Tryz.func113 [.one (.hp u0 u1),.one (.v (vi u2)),.one (.v (vsl u3 u4 u5)),.one (.v (vsl u6 u7 u8))] (by kernel_rfl) rfl (by kernel_rfl) H
def QeQ (u0 u1:Nat)(h:Hp)(R:Value→Hp→Prop):Prop:=
 (∃ x1,(Hp.cell h u0 (u1+2)=some (vi x1))∧(∃ x2,(IsW x2 (x1+1))∧(Hp.store h u0 (u1+2) [vi x2] fun h3=>(∃ x4,(Hp.cell h3 u0 (u1+2)=some (vi x4))∧(((decide (x4 > 12))=true→(Qa Tryz.prog 68 [vhp u0 u1,vi 2] h3 fun v5 h6=>v5=(Qf [])∧R (Qf []) h6))∧((decide (x4 > 12))=false→R (Qf []) h3))))))
theorem QjX {u0 u1 h R}(H:QeQ u0 u1 h R):Qa Tryz.prog 112 [vhp u0 u1] h R:=
 Qd (cfg:=⟨[],[],[]⟩) Qo mixed Tryz.func112 [.one (.hp u0 u1)] (by kernel_rfl) rfl (by kernel_rfl) H
def Xq (u0 u1:Nat)(u2:Int)(h:Hp)(R:Value→Hp→Prop):Prop:=
 (∃ x1,(Hp.cell h u0 (u1+3)=some (vi x1))∧(((decide (x1 > 0))=true→R (vsl none 0 0) h)∧((decide (x1 > 0))=false→(let J7:Bool→Prop:=fun p8=>((p8=true→(Qa Tryz.prog 111 [vhp u0 u1,vi u2] h fun v9 h10=>∃ a11 n11 c11,v9=(vsl a11 n11 c11)∧R (vsl a11 n11 c11) h10))∧(p8=false→(let J14:Bool→Prop:=fun p15=>((p15=true→(let J18:ByteArray→Int→Prop:=fun s36 x37=>(Qa Tryz.prog 67 [vhp u0 u1,vs s36] h fun v38 h39=>∃ p40,v38=(vb p40)∧(((!p40)=true→(∃ x41,(IsW x41 (u2+1))∧(Qa Tryz.prog 69 [vhp u0 u1,vi x41] h39 fun v42 h43=>∃ a44 n44 c44,v42=(vsl a44 n44 c44)∧R (vsl a44 n44 c44) h43)))∧((!p40)=false→(Qa Tryz.prog 112 [vhp u0 u1] h39 fun v46 h47=>v46=(Qf [])∧(Qa Tryz.prog 69 [vhp u0 u1,vi u2] h47 fun v48 h49=>∃ a50 n50 c50,v48=(vsl a50 n50 c50)∧(∃ x51,(Hp.cell h49 u0 (u1+2)=some (vi x51))∧(∃ x52,(IsW x52 (x51 - 1))∧(Hp.store h49 u0 (u1+2) [vi x52] fun h53=>(Qa Tryz.prog 113 [vhp u0 u1,vi x37,vsl a50 n50 c50,vsl none 0 0] h53 fun v54 h55=>∃ a56 n56 c56,v54=(vsl a56 n56 c56)∧R (vsl a56 n56 c56) h55)))))))));(((decide (u2=6))=true→(J18 ⟨#[45]⟩ 3))∧((decide (u2=6))=false→(J18 ⟨#[110,111,116]⟩ 4)))))∧(p15=false→(((decide (u2=3))=true→(Qa Tryz.prog 114 [vhp u0 u1] h fun v57 h58=>∃ a59 n59 c59,v57=(vsl a59 n59 c59)∧R (vsl a59 n59 c59) h58))∧((decide (u2=3))=false→(Qa Tryz.prog 115 [vhp u0 u1] h fun v61 h62=>∃ a63 n63 c63,v61=(vsl a63 n63 c63)∧R (vsl a63 n63 c63) h62)))));(((decide (u2=2))=true→(J14 (decide (u2=2))))∧((decide (u2=2))=false→(J14 (decide (u2=6))))))));(((decide (u2=0))=true→(J7 (decide (u2=0))))∧((decide (u2=0))=false→(((decide (u2=1))=true→(J7 (decide (u2=1))))∧((decide (u2=1))=false→(((decide (u2=4))=true→(J7 (decide (u2=4))))∧((decide (u2=4))=false→(J7 (decide (u2=5)))))))))))))
theorem WM {u0 u1 u2 h R}(H:Xq u0 u1 u2 h R):Qa Tryz.prog 69 [vhp u0 u1,vi u2] h R:=
 Qd (cfg:=⟨[],[],[]⟩) Qo mixed Tryz.func69 [.one (.hp u0 u1),.one (.v (vi u2))] (by kernel_rfl) rfl (by kernel_rfl) H
def Qbn (u0 u1:Nat)(u2:Int)(h:Hp)(R:Value→Hp→Prop):Prop:=
 (∃ x1,(IsW x1 (u2+1))∧(Qa Tryz.prog 69 [vhp u0 u1,vi x1] h fun v2 h3=>∃ a4 n4 c4,v2=(vsl a4 n4 c4)∧(let J47:Option Addr→Nat→Nat→Hp→Prop:=fun a49 n49 c49 h50=>R (vsl a49 n49 c49) h50;(∃(I6:List Value→Hp→Prop) (m7:List Value→Hp→Nat),I6 [vsl a4 n4 c4] h3∧∀ vs8 h9,I6 vs8 h9→∃ a10 n10 c10,vs8=[vsl a10 n10 c10]∧(∃ x11,(Hp.cell h9 u0 (u1+3)=some (vi x11))∧(((decide (x11=0))=true→(Qa Tryz.prog 110 [vhp u0 u1] h9 fun v14 h15=>∃ s16,v14=(vs s16)∧(let J33:Int→Prop:=fun x34=>(((decide (x34=0))=true→(J47 a10 n10 c10 h15))∧((decide (x34=0))=false→(∃ x37,(Hp.cell h15 u0 (u1+1)=some (vi x37))∧(∃ x38,(IsW x38 (x37+1))∧(Hp.store h15 u0 (u1+1) [vi x38] fun h39=>(∃ x40,(IsW x40 (u2+1))∧(Qa Tryz.prog 69 [vhp u0 u1,vi x40] h39 fun v41 h42=>∃ a43 n43 c43,v41=(vsl a43 n43 c43)∧(Qa Tryz.prog 113 [vhp u0 u1,vi x34,vsl a10 n10 c10,vsl a43 n43 c43] h42 fun v44 h45=>∃ a46 n46 c46,v44=(vsl a46 n46 c46)∧(I6 [vsl a46 n46 c46] h45∧m7 [vsl a46 n46 c46] h45 < m7 vs8 h9)))))))));(∃ p17,(Rd Tryz.prog ((eqGuard .eql 9 (.tmp 18) (.const (vs ⟨#[111,114]⟩)) (vs s16) (vs ⟨#[111,114]⟩) >>= fun _=>binOp .eql 9 (vs s16) (vs ⟨#[111,114]⟩))) h15 (vb p17))∧((p17=true→(((decide (u2=0))=true→(J33 10))∧((decide (u2=0))=false→(J33 0))))∧(p17=false→(∃ p20,(Rd Tryz.prog ((eqGuard .eql 9 (.tmp 18) (.const (vs ⟨#[97,110,100]⟩)) (vs s16) (vs ⟨#[97,110,100]⟩) >>= fun _=>binOp .eql 9 (vs s16) (vs ⟨#[97,110,100]⟩))) h15 (vb p20))∧((p20=true→(((decide (u2=1))=true→(J33 9))∧((decide (u2=1))=false→(J33 0))))∧(p20=false→(∃ p23,(Rd Tryz.prog ((eqGuard .eql 9 (.tmp 18) (.const (vs ⟨#[43]⟩)) (vs s16) (vs ⟨#[43]⟩) >>= fun _=>binOp .eql 9 (vs s16) (vs ⟨#[43]⟩))) h15 (vb p23))∧((p23=true→(((decide (u2=4))=true→(J33 6))∧((decide (u2=4))=false→(J33 0))))∧(p23=false→(∃ p26,(Rd Tryz.prog ((eqGuard .eql 9 (.tmp 18) (.const (vs ⟨#[45]⟩)) (vs s16) (vs ⟨#[45]⟩) >>= fun _=>binOp .eql 9 (vs s16) (vs ⟨#[45]⟩))) h15 (vb p26))∧((p26=true→(((decide (u2=4))=true→(J33 7))∧((decide (u2=4))=false→(J33 0))))∧(p26=false→(∃ p29,(Rd Tryz.prog ((eqGuard .eql 9 (.tmp 18) (.const (vs ⟨#[42]⟩)) (vs s16) (vs ⟨#[42]⟩) >>= fun _=>binOp .eql 9 (vs s16) (vs ⟨#[42]⟩))) h15 (vb p29))∧((p29=true→(((decide (u2=5))=true→(J33 8))∧((decide (u2=5))=false→(J33 0))))∧(p29=false→(J33 0)))))))))))))))))))∧((decide (x11=0))=false→(J47 a10 n10 c10 h9))))))))
theorem Qhu {u0 u1 u2 h R}(H:Qbn u0 u1 u2 h R):Qa Tryz.prog 111 [vhp u0 u1,vi u2] h R:=
 Qd (cfg:=⟨[],[(2,([5],[.one (.slice)],[]))],[]⟩) Qo mixed Tryz.func111 [.one (.hp u0 u1),.one (.v (vi u2))] (by kernel_rfl) rfl (by kernel_rfl) H
def UG (u0 u1:Nat)(h:Hp)(R:Value→Hp→Prop):Prop:=
 (Qa Tryz.prog 69 [vhp u0 u1,vi 4] h fun v1 h2=>∃ a3 n3 c3,v1=(vsl a3 n3 c3)∧(Qa Tryz.prog 110 [vhp u0 u1] h2 fun v4 h5=>∃ s6,v4=(vs s6)∧(∃ p7,(Rd Tryz.prog ((eqGuard .neq 9 (.tmp 14) (.const (vs ⟨#[60]⟩)) (vs s6) (vs ⟨#[60]⟩) >>= fun _=>binOp .neq 9 (vs s6) (vs ⟨#[60]⟩))) h5 (vb p7))∧(∃ p8,(p7=true→Rd Tryz.prog ((eqGuard .neq 9 (.tmp 17) (.const (vs ⟨#[62]⟩)) (vs s6) (vs ⟨#[62]⟩) >>= fun _=>binOp .neq 9 (vs s6) (vs ⟨#[62]⟩))) h5 (vb p8))∧(∃ p9,((bif p7 then p8 else false)=true→Rd Tryz.prog ((eqGuard .neq 9 (.tmp 21) (.const (vs ⟨#[60,61]⟩)) (vs s6) (vs ⟨#[60,61]⟩) >>= fun _=>binOp .neq 9 (vs s6) (vs ⟨#[60,61]⟩))) h5 (vb p9))∧(∃ p10,((bif (bif p7 then p8 else false) then p9 else false)=true→Rd Tryz.prog ((eqGuard .neq 9 (.tmp 25) (.const (vs ⟨#[62,61]⟩)) (vs s6) (vs ⟨#[62,61]⟩) >>= fun _=>binOp .neq 9 (vs s6) (vs ⟨#[62,61]⟩))) h5 (vb p10))∧(∃ p11,((bif (bif (bif p7 then p8 else false) then p9 else false) then p10 else false)=true→Rd Tryz.prog ((eqGuard .neq 9 (.tmp 29) (.const (vs ⟨#[61]⟩)) (vs s6) (vs ⟨#[61]⟩) >>= fun _=>binOp .neq 9 (vs s6) (vs ⟨#[61]⟩))) h5 (vb p11))∧(∃ p12,((bif (bif (bif (bif p7 then p8 else false) then p9 else false) then p10 else false) then p11 else false)=true→Rd Tryz.prog ((eqGuard .neq 9 (.tmp 33) (.const (vs ⟨#[60,62]⟩)) (vs s6) (vs ⟨#[60,62]⟩) >>= fun _=>binOp .neq 9 (vs s6) (vs ⟨#[60,62]⟩))) h5 (vb p12))∧(∃ p13,((bif (bif (bif (bif (bif p7 then p8 else false) then p9 else false) then p10 else false) then p11 else false) then p12 else false)=true→Rd Tryz.prog ((eqGuard .neq 9 (.tmp 37) (.const (vs ⟨#[105,115]⟩)) (vs s6) (vs ⟨#[105,115]⟩) >>= fun _=>binOp .neq 9 (vs s6) (vs ⟨#[105,115]⟩))) h5 (vb p13))∧(((bif (bif (bif (bif (bif (bif p7 then p8 else false) then p9 else false) then p10 else false) then p11 else false) then p12 else false) then p13 else false)=true→R (vsl a3 n3 c3) h5)∧((bif (bif (bif (bif (bif (bif p7 then p8 else false) then p9 else false) then p10 else false) then p11 else false) then p12 else false) then p13 else false)=false→(∃ x15,(Hp.cell h5 u0 (u1+1)=some (vi x15))∧(∃ x16,(IsW x16 (x15+1))∧(Hp.store h5 u0 (u1+1) [vi x16] fun h17=>(∃ p18,(Rd Tryz.prog ((eqGuard .eql 9 (.tmp 48) (.const (vs ⟨#[105,115]⟩)) (vs s6) (vs ⟨#[105,115]⟩) >>= fun _=>binOp .eql 9 (vs s6) (vs ⟨#[105,115]⟩))) h17 (vb p18))∧((p18=true→(Qa Tryz.prog 67 [vhp u0 u1,(vs ⟨#[110,111,116]⟩)] h17 fun v19 h20=>∃ p21,v19=(vb p21)∧(Qa Tryz.prog 66 [vhp u0 u1,(vs ⟨#[110,117,108,108]⟩)] h20 fun v22 h23=>v22=(Qf [])∧(Qa Tryz.prog 113 [vhp u0 u1,vi 5,vsl a3 n3 c3,vsl none 0 0] h23 fun v24 h25=>∃ a26 n26 c26,v24=(vsl a26 n26 c26)∧(let J32:Option Addr→Nat→Nat→Hp→Prop:=fun a34 n34 c34 h35=>R (vsl a34 n34 c34) h35;((p21=true→(Qa Tryz.prog 113 [vhp u0 u1,vi 4,vsl a26 n26 c26,vsl none 0 0] h25 fun v27 h28=>∃ a29 n29 c29,v27=(vsl a29 n29 c29)∧(J32 a29 n29 c29 h28)))∧(p21=false→(J32 a26 n26 c26 h25))))))))∧(p18=false→(Qa Tryz.prog 69 [vhp u0 u1,vi 4] h17 fun v37 h38=>∃ a39 n39 c39,v37=(vsl a39 n39 c39)∧(∃ p40,(Rd Tryz.prog ((eqGuard .eql 9 (.tmp 64) (.const (vs ⟨#[60]⟩)) (vs s6) (vs ⟨#[60]⟩) >>= fun _=>binOp .eql 9 (vs s6) (vs ⟨#[60]⟩))) h38 (vb p40))∧((p40=true→(Qa Tryz.prog 113 [vhp u0 u1,vi 11,vsl a3 n3 c3,vsl a39 n39 c39] h38 fun v41 h42=>∃ a43 n43 c43,v41=(vsl a43 n43 c43)∧R (vsl a43 n43 c43) h42))∧(p40=false→(∃ p44,(Rd Tryz.prog ((eqGuard .eql 9 (.tmp 64) (.const (vs ⟨#[62]⟩)) (vs s6) (vs ⟨#[62]⟩) >>= fun _=>binOp .eql 9 (vs s6) (vs ⟨#[62]⟩))) h38 (vb p44))∧((p44=true→(Qa Tryz.prog 113 [vhp u0 u1,vi 11,vsl a39 n39 c39,vsl a3 n3 c3] h38 fun v45 h46=>∃ a47 n47 c47,v45=(vsl a47 n47 c47)∧R (vsl a47 n47 c47) h46))∧(p44=false→(∃ p48,(Rd Tryz.prog ((eqGuard .eql 9 (.tmp 64) (.const (vs ⟨#[60,61]⟩)) (vs s6) (vs ⟨#[60,61]⟩) >>= fun _=>binOp .eql 9 (vs s6) (vs ⟨#[60,61]⟩))) h38 (vb p48))∧((p48=true→(Qa Tryz.prog 113 [vhp u0 u1,vi 11,vsl a39 n39 c39,vsl a3 n3 c3] h38 fun v49 h50=>∃ a51 n51 c51,v49=(vsl a51 n51 c51)∧(Qa Tryz.prog 113 [vhp u0 u1,vi 4,vsl a51 n51 c51,vsl none 0 0] h50 fun v52 h53=>∃ a54 n54 c54,v52=(vsl a54 n54 c54)∧R (vsl a54 n54 c54) h53)))∧(p48=false→(∃ p55,(Rd Tryz.prog ((eqGuard .eql 9 (.tmp 64) (.const (vs ⟨#[62,61]⟩)) (vs s6) (vs ⟨#[62,61]⟩) >>= fun _=>binOp .eql 9 (vs s6) (vs ⟨#[62,61]⟩))) h38 (vb p55))∧((p55=true→(Qa Tryz.prog 113 [vhp u0 u1,vi 11,vsl a3 n3 c3,vsl a39 n39 c39] h38 fun v56 h57=>∃ a58 n58 c58,v56=(vsl a58 n58 c58)∧(Qa Tryz.prog 113 [vhp u0 u1,vi 4,vsl a58 n58 c58,vsl none 0 0] h57 fun v59 h60=>∃ a61 n61 c61,v59=(vsl a61 n61 c61)∧R (vsl a61 n61 c61) h60)))∧(p55=false→(∃ p62,(Rd Tryz.prog ((eqGuard .eql 9 (.tmp 64) (.const (vs ⟨#[61]⟩)) (vs s6) (vs ⟨#[61]⟩) >>= fun _=>binOp .eql 9 (vs s6) (vs ⟨#[61]⟩))) h38 (vb p62))∧((p62=true→(Qa Tryz.prog 113 [vhp u0 u1,vi 12,vsl a3 n3 c3,vsl a39 n39 c39] h38 fun v63 h64=>∃ a65 n65 c65,v63=(vsl a65 n65 c65)∧R (vsl a65 n65 c65) h64))∧(p62=false→(Qa Tryz.prog 113 [vhp u0 u1,vi 12,vsl a3 n3 c3,vsl a39 n39 c39] h38 fun v67 h68=>∃ a69 n69 c69,v67=(vsl a69 n69 c69)∧(Qa Tryz.prog 113 [vhp u0 u1,vi 4,vsl a69 n69 c69,vsl none 0 0] h68 fun v70 h71=>∃ a72 n72 c72,v70=(vsl a72 n72 c72)∧R (vsl a72 n72 c72) h71)))))))))))))))))))))))))))))))))))
theorem Qb9 {u0 u1 h R}(H:UG u0 u1 h R):Qa Tryz.prog 114 [vhp u0 u1] h R:=
 Qd (cfg:=⟨[],[],[]⟩) Qo mixed Tryz.func114 [.one (.hp u0 u1)] (by kernel_rfl) rfl (by kernel_rfl) H
def Qbq (u0 u1:Nat)(h:Hp)(R:Value→Hp→Prop):Prop:=
 (Qa Tryz.prog 110 [vhp u0 u1] h fun v1 h2=>∃ s3,v1=(vs s3)∧(Qa Tryz.prog 67 [vhp u0 u1,(vs ⟨#[40]⟩)] h2 fun v4 h5=>∃ p6,v4=(vb p6)∧((p6=true→(Qa Tryz.prog 112 [vhp u0 u1] h5 fun v7 h8=>v7=(Qf [])∧(Qa Tryz.prog 69 [vhp u0 u1,vi 0] h8 fun v9 h10=>∃ a11 n11 c11,v9=(vsl a11 n11 c11)∧(∃ x12,(Hp.cell h10 u0 (u1+2)=some (vi x12))∧(∃ x13,(IsW x13 (x12 - 1))∧(Hp.store h10 u0 (u1+2) [vi x13] fun h14=>(Qa Tryz.prog 66 [vhp u0 u1,(vs ⟨#[41]⟩)] h14 fun v15 h16=>v15=(Qf [])∧R (vsl a11 n11 c11) h16)))))))∧(p6=false→(∀ b18,h5 b18=none→let h19:= Hp.set h5 b18 (Qc [(vs ⟨#[116]⟩),(vs ⟨#[107]⟩),(vs ⟨#[97]⟩),(vs ⟨#[98]⟩)] 9);(∃(I21:List Value→Hp→Prop) (m22:List Value→Hp→Nat),I21 [vi 0] h19∧∀ vs23 h24,I21 vs23 h24→∃ x25,vs23=[vi x25]∧(((decide (x25 < 4))=true→(∃ b28 o29,((some (⟨b18,0,none⟩:Addr))=some ⟨b28,o29,none⟩∧(0:Int)≤x25∧x25 < ((4:Nat):Int))∧(∃ s30,(Hp.cell h24 b28 (o29+x25.toNat*1)=some (vs s30))∧(∃ p31,(Rd Tryz.prog ((eqGuard .eql 9 (.tmp 34) (.tmp 38) (vs s3) (vs s30) >>= fun _=>binOp .eql 9 (vs s3) (vs s30))) h24 (vb p31))∧((p31=true→(∃ x32,(Hp.cell h24 u0 (u1+1)=some (vi x32))∧(∃ x33,(IsW x33 (x32+1))∧(Hp.store h24 u0 (u1+1) [vi x33] fun h34=>(∀ b35,h34 b35=none→let h36:= Hp.set h34 b35 (Qc [vi 2,vi 0,vi 0,vi x25,vi 0,vi 0] 160);R (vsl (some (⟨b35,0,none⟩:Addr)) 1 1) h36)))))∧(p31=false→(∃ x38,(IsW x38 (x25+1))∧(I21 [vi x38] h24∧m22 [vi x38] h24 < m22 vs23 h24))))))))∧((decide (x25 < 4))=false→(∃ p39,(Rd Tryz.prog ((eqGuard .eql 9 (.tmp 50) (.const (vs ⟨#[110,117,108,108]⟩)) (vs s3) (vs ⟨#[110,117,108,108]⟩) >>= fun _=>binOp .eql 9 (vs s3) (vs ⟨#[110,117,108,108]⟩))) h24 (vb p39))∧(∃ p40,(p39=false→Rd Tryz.prog ((eqGuard .eql 9 (.tmp 53) (.const (vs ⟨#[116,114,117,101]⟩)) (vs s3) (vs ⟨#[116,114,117,101]⟩) >>= fun _=>binOp .eql 9 (vs s3) (vs ⟨#[116,114,117,101]⟩))) h24 (vb p40))∧(∃ p41,((bif p39 then true else p40)=false→Rd Tryz.prog ((eqGuard .eql 9 (.tmp 57) (.const (vs ⟨#[102,97,108,115,101]⟩)) (vs s3) (vs ⟨#[102,97,108,115,101]⟩) >>= fun _=>binOp .eql 9 (vs s3) (vs ⟨#[102,97,108,115,101]⟩))) h24 (vb p41))∧(((bif (bif p39 then true else p40) then true else p41)=true→(∃ x42,(Hp.cell h24 u0 (u1+1)=some (vi x42))∧(∃ x43,(IsW x43 (x42+1))∧(Hp.store h24 u0 (u1+1) [vi x43] fun h44=>(Qa Tryz.prog 152 [vs s3] h44 fun v45 h46=>∃ x47 x48 x49,v45=(Qf [vag [vi x47,vi x48],vi x49])∧(∀ b50,h46 b50=none→let h51:= Hp.set h46 b50 (Qc [vi 1,vi 0,vi 0,vi 0,vi x47,vi x48] 160);R (vsl (some (⟨b50,0,none⟩:Addr)) 1 1) h51))))))∧((bif (bif p39 then true else p40) then true else p41)=false→(Qa Tryz.prog 70 [vhp u0 u1,vi 1000000000] h24 fun v53 h54=>∃ x55,v53=(vi x55)∧(Qa Tryz.prog 146 [vi x55] h54 fun v56 h57=>∃ x58 x59,v56=(vag [vi x58,vi x59])∧(∀ b60,h57 b60=none→let h61:= Hp.set h57 b60 (Qc [vi 1,vi 0,vi 0,vi 0,vi x58,vi x59] 160);R (vsl (some (⟨b60,0,none⟩:Addr)) 1 1) h61))))))))))))))))
theorem QgY {u0 u1 h R}(H:Qbq u0 u1 h R):Qa Tryz.prog 115 [vhp u0 u1] h R:=
 Qd (cfg:=⟨[],[(11,([7],[.one (.int .i64)],[]))],[]⟩) Qo mixed Tryz.func115 [.one (.hp u0 u1)] (by kernel_rfl) rfl (by kernel_rfl) H
def QaG (u0:ByteArray)(h:Hp)(R:Value→Hp→Prop):Prop:=
 (Qa Tryz.prog 65 [vs u0] h fun v1 h2=>∃ a3 n3 c3 x4,v1=(Qf [vsl a3 n3 c3,vi x4])∧(((decide (x4 > 0))=true→R (Qf [vag [vsl none 0 0,vsl none 0 0,vsl none 0 0,vi 0,vi 0,vi 0,vi 0],vi x4]) h2)∧((decide (x4 > 0))=false→(∀ b6,h2 b6=none→let h7:= Hp.set h2 b6 (Qc [vsl a3 n3 c3,vi 0,vi 0,vi 0] 147);(Qa Tryz.prog 66 [vhp b6 0,(vs ⟨#[115,101,108,101,99,116]⟩)] h7 fun v8 h9=>v8=(Qf [])∧(let J145:Option Addr→Nat→Nat→Option Addr→Nat→Nat→Option Addr→Nat→Nat→Int→Int→Hp→Prop:=fun a860 n860 c860 a861 n861 c861 a862 n862 c862 x863 x864 h865=>(Qa Tryz.prog 66 [vhp b6 0,(vs ⟨#[102,114,111,109]⟩)] h865 fun v866 h867=>v866=(Qf [])∧(Qa Tryz.prog 66 [vhp b6 0,(vs ⟨#[101,118,101,110,116,115]⟩)] h867 fun v868 h869=>v868=(Qf [])∧(Qa Tryz.prog 67 [vhp b6 0,(vs ⟨#[119,104,101,114,101]⟩)] h869 fun v870 h871=>∃ p872,v870=(vb p872)∧(let J878:Option Addr→Nat→Nat→Hp→Prop:=fun a936 n936 c936 h937=>(Qa Tryz.prog 67 [vhp b6 0,(vs ⟨#[103,114,111,117,112]⟩)] h937 fun v938 h939=>∃ p940,v938=(vb p940)∧(let J948:Option Addr→Nat→Nat→Hp→Prop:=fun a994 n994 c994 h995=>(Qa Tryz.prog 66 [vhp b6 0,(vs ⟨#[119,105,110,100,111,119]⟩)] h995 fun v996 h997=>v996=(Qf [])∧(Qa Tryz.prog 70 [vhp b6 0,vi 1000] h997 fun v998 h999=>∃ x1000,v998=(vi x1000)∧(Qa Tryz.prog 67 [vhp b6 0,(vs ⟨#[115,108,105,100,101]⟩)] h999 fun v1001 h1002=>∃ p1003,v1001=(vb p1003)∧(let J1009:Int→Hp→Prop:=fun x1040 h1041=>(Qa Tryz.prog 67 [vhp b6 0,(vs ⟨#[100,101,108,97,121]⟩)] h1041 fun v1042 h1043=>∃ p1044,v1042=(vb p1044)∧(let J1050:Int→Hp→Prop:=fun x1071 h1072=>(Qa Tryz.prog 67 [vhp b6 0,(vs ⟨#[108,97,116,101]⟩)] h1072 fun v1073 h1074=>∃ p1075,v1073=(vb p1075)∧(let J1081:Int→Hp→Prop:=fun x1092 h1093=>(∃ x1094,(Hp.cell h1093 b6 (0+3)=some (vi x1094))∧(∃ x1095,((decide (x1094=0))=true→Hp.cell h1093 b6 (0+1)=some (vi x1095))∧(∃ a1096 n1096 c1096,((decide (x1094=0))=true→Hp.cell h1093 b6 0=some (vsl a1096 n1096 c1096))∧(let J1100:Hp→Prop:=fun h1101=>(∃ x1102,(Hp.cell h1101 b6 (0+3)=some (vi x1102))∧(let J1109:Hp→Prop:=fun h1110=>(∃ x1111,(Hp.cell h1110 b6 (0+3)=some (vi x1111))∧(((decide (x1111 > 0))=true→(∃ x1112,(Hp.cell h1110 b6 (0+3)=some (vi x1112))∧((Hp.cell h1110 b6 (0+3)=some (vi x1112))∧R (Qf [vag [vsl none 0 0,vsl none 0 0,vsl none 0 0,vi 0,vi 0,vi 0,vi 0],vi x1112]) h1110)))∧((decide (x1111 > 0))=false→R (Qf [vag [vsl a860 n860 c860,vsl a936 n936 c936,vsl a994 n994 c994,vi x1000,vi x1040,vi x1071,vi x1092],vi 0]) h1110)));(((decide (x1102=0))=true→(Qa Tryz.prog 71 [vag [vsl a860 n860 c860,vsl a936 n936 c936,vsl a994 n994 c994,vi x1000,vi x1040,vi x1071,vi x1092]] h1101 fun v1103 h1104=>∃ x1105,v1103=(vi x1105)∧(Hp.store h1104 b6 (0+3) [vi x1105] fun h1106=>(J1109 h1106))))∧((decide (x1102=0))=false→(J1109 h1101)))));(((bif (decide (x1094=0)) then(decide (x1095 < (n1096:Int))) else false)=true→(Hp.store h1093 b6 (0+3) [vi 4] fun h1097=>(J1100 h1097)))∧((bif (decide (x1094=0)) then(decide (x1095 < (n1096:Int))) else false)=false→(J1100 h1093)))))));((p1075=true→(Qa Tryz.prog 70 [vhp b6 0,vi 1000] h1074 fun v1076 h1077=>∃ x1078,v1076=(vi x1078)∧(J1081 x1078 h1077)))∧(p1075=false→(J1081 x864 h1074)))));((p1044=true→(Qa Tryz.prog 70 [vhp b6 0,vi 1000] h1043 fun v1045 h1046=>∃ x1047,v1045=(vi x1047)∧(J1050 x1047 h1046)))∧(p1044=false→(J1050 x863 h1043)))));((p1003=true→(Qa Tryz.prog 70 [vhp b6 0,vi 1000] h1002 fun v1004 h1005=>∃ x1006,v1004=(vi x1006)∧(J1009 x1006 h1005)))∧(p1003=false→(J1009 x1000 h1002)))))));((p940=true→(Qa Tryz.prog 66 [vhp b6 0,(vs ⟨#[98,121]⟩)] h939 fun v941 h942=>v941=(Qf [])∧(Qa Tryz.prog 69 [vhp b6 0,vi 0] h942 fun v943 h944=>∃ a945 n945 c945,v943=(vsl a945 n945 c945)∧(J948 a945 n945 c945 h944))))∧(p940=false→(J948 a862 n862 c862 h939)))));((p872=true→(Qa Tryz.prog 69 [vhp b6 0,vi 0] h871 fun v873 h874=>∃ a875 n875 c875,v873=(vsl a875 n875 c875)∧(J878 a875 n875 c875 h874)))∧(p872=false→(J878 a861 n861 c861 h871)))))));(∃(I11:List Value→Hp→Prop) (m12:List Value→Hp→Nat),I11 [vb true,vsl none 0 0,vsl none 0 0,vsl none 0 0,vi 0,vi 0,vi 0,vi 0] h9∧∀ vs13 h14,I11 vs13 h14→∃ p15 a16 n16 c16 a17 n17 c17 a18 n18 c18 x19 x20 x21 x22,vs13=[vb p15,vsl a16 n16 c16,vsl a17 n17 c17,vsl a18 n18 c18,vi x19,vi x20,vi x21,vi x22]∧((p15=true→(∀ b25,h14 b25=none→let h26:= Hp.set h14 b25 (Qc [(vs ⟨#[99,111,117,110,116]⟩),(vs ⟨#[115,117,109]⟩),(vs ⟨#[109,105,110]⟩),(vs ⟨#[109,97,120]⟩)] 9);(∀ b27,h26 b27=none→let h28:= Hp.set h26 b27 (Qc [vi 2,vi 3,vi 4,vi 5] 3);(let J56:Int→Option Addr→Nat→Nat→Hp→Prop:=fun x95 a96 n96 c96 h97=>(let J102:Hp→Prop:=fun h103=>(Qa Tryz.prog 66 [vhp b6 0,(vs ⟨#[40]⟩)] h103 fun v104 h105=>v104=(Qf [])∧(let J111:Bool→Hp→Prop:=fun p113 h114=>(let J120:Int→Option Addr→Nat→Nat→Hp→Prop:=fun x132 a133 n133 c133 h134=>(Qa Tryz.prog 66 [vhp b6 0,(vs ⟨#[41]⟩)] h134 fun v135 h136=>v135=(Qf [])∧(∀ b137,h136 b137=none→let h138:= Hp.set h136 b137 (Qc [vi x132,vsl a133 n133 c133] 96);(Ql Tryz.prog (Builtin.append_ #[25,25] 25 #[vsl a16 n16 c16,(vsl (some (⟨b137,0,none⟩:Addr)) 1 1)]) h138 fun v139 h140=>∃ a141 n141 c141,v139=(vsl a141 n141 c141)∧(Qa Tryz.prog 67 [vhp b6 0,(vs ⟨#[44]⟩)] h140 fun v142 h143=>∃ p144,v142=(vb p144)∧(I11 [vb p144,vsl a141 n141 c141,vsl a17 n17 c17,vsl a18 n18 c18,vi x19,vi x20,vi x21,vi x22] h143∧m12 [vb p144,vsl a141 n141 c141,vsl a17 n17 c17,vsl a18 n18 c18,vi x19,vi x20,vi x21,vi x22] h143 < m12 vs13 h14)))));((p113=true→(J120 1 a96 n96 c96 h114))∧(p113=false→(Qa Tryz.prog 69 [vhp b6 0,vi 0] h114 fun v116 h117=>∃ a118 n118 c118,v116=(vsl a118 n118 c118)∧(J120 x95 a118 n118 c118 h117)))));(((decide (x95=2))=true→(Qa Tryz.prog 67 [vhp b6 0,(vs ⟨#[42]⟩)] h105 fun v106 h107=>∃ p108,v106=(vb p108)∧(J111 p108 h107)))∧((decide (x95=2))=false→(J111 false h105)))));(((decide (x95=0))=true→(Qa Tryz.prog 68 [vhp b6 0,vi 4] h97 fun v98 h99=>v98=(Qf [])∧(J102 h99)))∧((decide (x95=0))=false→(J102 h97))));(∃(I30:List Value→Hp→Prop) (m31:List Value→Hp→Nat),I30 [vi 0,vi 0,vsl none 0 0] h28∧∀ vs32 h33,I30 vs32 h33→∃ x34 x35 a36 n36 c36,vs32=[vi x34,vi x35,vsl a36 n36 c36]∧(((bif (decide (x34 < 4)) then(decide (x35=0)) else false)=true→(let J50:Int→Hp→Prop:=fun x53 h54=>(∃ x55,(IsW x55 (x34+1))∧(I30 [vi x55,vi x53,vsl a36 n36 c36] h54∧m31 [vi x55,vi x53,vsl a36 n36 c36] h54 < m31 vs32 h33));(∃ b39 o40,((some (⟨b25,0,none⟩:Addr))=some ⟨b39,o40,none⟩∧(0:Int)≤x34∧x34 < ((4:Nat):Int))∧(∃ s41,(Hp.cell h33 b39 (o40+x34.toNat*1)=some (vs s41))∧(Qa Tryz.prog 67 [vhp b6 0,vs s41] h33 fun v42 h43=>∃ p44,v42=(vb p44)∧((p44=true→(∃ b45 o46,((some (⟨b27,0,none⟩:Addr))=some ⟨b45,o46,none⟩∧(0:Int)≤x34∧x34 < ((4:Nat):Int))∧(∃ x47,(Hp.cell h43 b45 (o46+x34.toNat*1)=some (vi x47))∧(J50 x47 h43))))∧(p44=false→(J50 x35 h43))))))))∧((bif (decide (x34 < 4)) then(decide (x35=0)) else false)=false→(J56 x35 a36 n36 c36 h33))))))))∧(p15=false→(J145 a16 n16 c16 a17 n17 c17 a18 n18 c18 x21 x22 h14))))))))))
theorem QhX {u0 h R}(H:QaG u0 h R):Qa Tryz.prog 24 [vs u0] h R:=
 Qd (cfg:=⟨[27],[(13,([12],[.one (.int .i64)],[(2,[.int .i64,.slice])])),(8,([8],[.one (.bool)],[(1,[.slice,.slice,.slice,.int .i64,.int .i64,.int .i64,.int .i64])]))],[(51,[0,1,2,3,4,5,6,7,8,9,10,11,12,13,14,15,16]),(56,[0,1,2,3,4,5,6])]⟩) Qo mixed Tryz.func24 [.one (.v (vs u0))] (by kernel_rfl) rfl (by kernel_rfl) H
open Go.Txt
structure QU (h0 h:Hp)(g:Nat)(W:List Wd)(s:RS):Prop where
 b:∃(a:Option Addr) (c i:Nat),h g=some (Qc [vsl a W.length c,vi i,vi s.deep,vi s.f] 147)∧SlB h0 a W.length W∧i≤W.length∧s.ws=(if s.f=0 then W.drop i else [])
 l:h0.le h
 z:h0 g=none
 f0:0≤s.f
 n:W.length≤1000
 w:∀ x ∈ W,x.length≤1000000
theorem QU.al {h0 h:Hp}{g:Nat}{W:List Wd}{s:RS}(D:QU h0 h g W s):h g≠none:=by
 obtain⟨a,c,i,hb,_⟩:=D.b
 rw [hb];simp
theorem QU.le {h0 h h':Hp}{g:Nat}{W:List Wd}{s:RS}(D:QU h0 h g W s)(l:h.le h'):QU h0 h' g W s:=by
 obtain⟨a,c,i,hb,hS,hi,hw⟩:=D.b
 exact⟨⟨a,c,i,l g _ hb,hS,hi,hw⟩,Hp.le_trans D.l l,D.z,D.f0,D.n,D.w⟩
theorem QU.good {h0 h:Hp}{g:Nat}{W:List Wd}{s:RS}(D:QU h0 h g W s):s.good:=by
 obtain⟨a,c,i,hb,hS,hi,hw⟩:=D.b
 intro hf
 rw [hw,if_neg hf]
theorem QU.c2 {h0 h:Hp}{g:Nat}{W:List Wd}{s:RS}(D:QU h0 h g W s):h.cell g (0+2)=some (vi s.deep):=by
 obtain⟨a,c,i,hb,_⟩:=D.b
 exact Qb hb rfl
theorem QU.c3 {h0 h:Hp}{g:Nat}{W:List Wd}{s:RS}(D:QU h0 h g W s):h.cell g (0+3)=some (vi s.f):=by
 obtain⟨a,c,i,hb,_⟩:=D.b
 exact Qb hb rfl
theorem QU.adv {h0 h:Hp}{g:Nat}{W:List Wd}{s:RS}(D:QU h0 h g W s){w:Wd}{r:List Wd}(hs:s.ws=w :: r):∃ i:Nat,h.cell g (0+1)=some (vi i)∧(i:Int)+1≤1001∧∀{K:Hp→Prop},(∀ h',QU h0 h' g W ⟨r,s.deep,s.f⟩→Mut (At g) h (At g) h'→K h')→h.store g (0+1) [vi ((i:Int)+1)] K:=by
 obtain⟨a,c,i,hb,hS,hi,hw⟩:=D.b
 have hf:s.f=0:=by
  rcases Decidable.em (s.f=0) with q|q
  ·exact q
  ·rw [hs,if_neg q] at hw;cases hw
 rw [hs,if_pos hf] at hw
 have hlt:i < W.length:=by
  rcases Nat.lt_or_ge i W.length with q|q
  ·exact q
  ·rw [List.drop_eq_nil_of_le q] at hw;cases hw
 have hr:r=W.drop (i+1):=by
  rw [List.drop_eq_getElem_cons hlt] at hw
  exact(List.cons.inj hw).2
 refine⟨i,Qb hb rfl,by have:=D.n;omega,fun hK=>?_⟩
 refine QX hb (by simp) (hK _ ⟨⟨a,c,i+1,Hp.set_same _ _ _,hS,by omega,?_⟩,K0 D.l D.z _,D.z,D.f0,D.n,D.w⟩ (X4 _ _ _))
 show r=if s.f=0 then W.drop (i+1) else []
 rw [if_pos hf,hr]
theorem QU.put2 {h0 h:Hp}{g:Nat}{W:List Wd}{s:RS}(D:QU h0 h g W s){d:Int}{K:Hp→Prop}(hK:∀ h',QU h0 h' g W ⟨s.ws,d,s.f⟩→Mut (At g) h (At g) h'→K h'):h.store g (0+2) [vi d] K:=by
 obtain⟨a,c,i,hb,hS,hi,hw⟩:=D.b
 exact QX hb (by simp) (hK _ ⟨⟨a,c,i,Hp.set_same _ _ _,hS,hi,hw⟩,K0 D.l D.z _,D.z,D.f0,D.n,D.w⟩ (X4 _ _ _))
theorem Jl {h0 h:Hp}{g:Nat}{W:List Wd}{s:RS}(D:QU h0 h g W s){f:Int}(hf:0 < f){R:Value→Hp→Prop}(hK:∀ h',QU h0 h' g W (s.fail f)→Mut (At g) h (At g) h'→R (Qf []) h'):Qa Tryz.prog 68 [vhp g 0,vi f] h R:=by
 refine Qh0 ?_
 unfold Qa6
 have gd:=D.good
 refine⟨_,D.c3,fun e=>?_,fun e=>?_⟩
 ·have e:s.f=0:=of_decide_eq_true e
  obtain⟨a,c,i,hb,hS,hi,hw⟩:=D.b
  have ef:s.fail f=⟨[],s.deep,f⟩:=by unfold RS.fail;rw [if_pos e]
  rw [ef] at hK
  refine QX hb (by simp) (hK _ ⟨⟨a,c,i,Hp.set_same _ _ _,hS,hi,?_⟩,K0 D.l D.z _,D.z,by show 0≤f;omega,D.n,D.w⟩ (X4 _ _ _))
  show []=if f=0 then W.drop i else []
  rw [if_neg (by omega)]
 ·have e:s.f≠0:=of_decide_eq_false e
  have ef:s.fail f=s:=by
   unfold RS.fail
   rw [if_neg e,←gd e]
  rw [ef] at hK
  exact hK h D (Mut.of_le (Hp.le_refl _))
def Qw (s:RS):Wd:=s.ws.headD []
theorem Jj {h0 h:Hp}{g:Nat}{W:List Wd}{s:RS}(D:QU h0 h g W s){R:Value→Hp→Prop}(hK:R (vs (bs (Qw s))) h):Qa Tryz.prog 110 [vhp g 0] h R:=by
 refine Qhp ?_
 unfold Qa9
 have f0:=D.f0
 unfold Qw at hK
 obtain⟨a,c,i,hb,hS,hi,hw⟩:=D.b
 have c0:h.cell g 0=some (vsl a W.length c):=Qb hb rfl
 have c1:h.cell g (0+1)=some (vi i):=Qb hb rfl
 have c3:h.cell g (0+3)=some (vi s.f):=Qb hb rfl
 refine⟨_,c3,_,fun _=>c1,_,_,_,fun _=>c0,?_⟩
 rw [cor]
 refine⟨fun e=>?_,fun e=>?_⟩
 ·have e:=of_decide_eq_true e
  have:s.ws=[]:=by
   rw [hw]
   split
   ·exact List.drop_eq_nil_of_le (by omega)
   ·rfl
  rw [this] at hK
  exact hK
 ·have e:=of_decide_eq_false e
  have hlt:i < W.length:=by omega
  obtain⟨b,o,ha,hc⟩:=SlP.get1 (SlP.le D.l hS) hlt
  refine⟨_,_,_,c0,_,c1,b,o,⟨ha,by omega,by omega⟩,_,hc,?_⟩
  rw [hw,if_pos (by omega),List.drop_eq_getElem_cons hlt] at hK
  rw [List.getD_eq_getElem?_getD,List.getElem?_eq_getElem hlt]
  exact hK
theorem GI {s:RS}{w:Wd}(hw:w≠[]):((s.is [w]).1≠[]↔Qw s=w)∧(Qw s=w→∃ r,s.ws=w :: r∧(s.is [w]).2=⟨r,s.deep,s.f⟩)∧(Qw s≠w→(s.is [w]).2=s):=by
 unfold Qw RS.is
 cases h:s.ws with
 | nil=>exact⟨⟨fun q=>absurd rfl q,fun q=>absurd q.symm hw⟩,fun q=>absurd q.symm hw,fun _=>rfl⟩
 | cons v r=>
  by_cases e:v=w
  ·subst e
   refine⟨⟨fun _=>rfl,fun _=>?_⟩,fun _=>⟨r,rfl,?_⟩,fun q=>absurd rfl q⟩
   ·simpa using hw
   ·simp
  ·refine⟨⟨fun q=>?_,fun q=>absurd q e⟩,fun q=>absurd q e,fun _=>?_⟩
   ·simp [e] at q
   ·simp [e]
theorem ZF {h0 h:Hp}{g:Nat}{W:List Wd}{s:RS}(D:QU h0 h g W s){w:Wd}(hw:w≠[]){R:Value→Hp→Prop}(hK:∀ h',QU h0 h' g W (s.is [w]).2→Mut (At g) h (At g) h'→R (vb (decide ((s.is [w]).1≠[]))) h'):Qa Tryz.prog 67 [vhp g 0,vs (bs w)] h R:=by
 refine Qhf ?_
 unfold QaN
 obtain⟨n1,n2,n3⟩:=GI (s:=s) hw
 refine Jj D ⟨_,rfl,_,Qt (b:=[]),_,fun _=>YC,?_⟩
 have hc:(bif decide (Qw s=[]) then true else(!decide (Qw s=w)))=!decide (Qw s=w):=by
  by_cases e:Qw s=[]
  ·rw [decide_eq_true e,decide_eq_false (by rw [e];exact fun h=>hw h.symm)];rfl
  ·rw [decide_eq_false e];rfl
 rw [hc]
 refine⟨fun e=>?_,fun e=>?_⟩
 ·have e:Qw s≠w:=by simpa using e
  have:=hK h (by rw [n3 e];exact D) (Mut.of_le (Hp.le_refl _))
  rw [decide_eq_false (fun q=>e (n1.1 q))] at this
  exact this
 ·have e:Qw s=w:=by simpa using e
  obtain⟨r,hr,hr2⟩:=n2 e
  obtain⟨i,hc,hi,hst⟩:=D.adv hr
  refine⟨_,hc,_,isW (by unfold InR;omega),hst fun h' D' M'=>?_⟩
  have:=hK h' (by rw [hr2];exact D') M'
  rw [decide_eq_true (n1.2 e)] at this
  exact this
theorem YB {h0 h:Hp}{g:Nat}{W:List Wd}{s:RS}(D:QU h0 h g W s){w:Wd}(hw:w≠[]){R:Value→Hp→Prop}(hK:∀ h',QU h0 h' g W (s.must w)→Mut (At g) h (At g) h'→R (Qf []) h'):Qa Tryz.prog 66 [vhp g 0,vs (bs w)] h R:=by
 refine QhM ?_
 unfold QaP
 unfold RS.must at hK
 refine ZF D hw fun h2 D2 M2=>⟨_,rfl,fun e=>?_,fun e=>?_⟩
 ·have e:(s.is [w]).1=[]:=by simpa using e
  rw [if_pos e] at hK
  exact Jl D2 (by decide) fun h5 D5 M5=>⟨rfl,hK h5 D5 (M2.trans M5)⟩
 ·have e:(s.is [w]).1≠[]:=by simpa using e
  rw [if_neg e] at hK
  exact hK h2 D2 M2
theorem UW {h0 h:Hp}{g:Nat}{W:List Wd}{s:RS}(D:QU h0 h g W s){most:Int}(hm:0≤most)(hm2:most≤1000000000000){R:Value→Hp→Prop}(hK:∀ h',QU h0 h' g W (s.number most).2→Mut (At g) h (At g) h'→R (vi (s.number most).1) h'):Qa Tryz.prog 70 [vhp g 0,vi most] h R:=by
 refine Qe0 ?_
 unfold Gf
 have hlen:(Qw s).length≤1000000:=by
  unfold Qw
  cases h:s.ws with
  | nil=>decide
  | cons w r=>
   obtain⟨a,c,i,hb,hS,hi,hw⟩:=D.b
   refine D.w w (List.mem_of_mem_drop (i:=i) ?_)
   rw [h] at hw
   split at hw
   ·rw [←hw];exact List.mem_cons_self ..
   ·cases hw
 have hfail:s.number most=(0,s.fail 4)→Qa Tryz.prog 68 [vhp g 0,vi 4] h fun v7 h8=>v7=Qf []∧R (vi 0) h8:=by
  intro e
  rw [e] at hK
  exact Jl D (by decide) fun h' D' M=>⟨rfl,hK h' D' M⟩
 refine Jj D ⟨_,rfl,QaA hlen hm hm2 ⟨_,rfl,fun e=>?_,fun e=>?_⟩⟩
 ·have e:=of_decide_eq_true e
  refine hfail ?_
  unfold RS.number
  unfold Qw at e
  cases h:s.ws with
  | nil=>rfl
  | cons w r=>rw [h] at e;exact if_pos e
 ·have e:=of_decide_eq_false e
  unfold Qw at e ⊢
  cases hws:s.ws with
  | nil=>
   rw [hws] at e
   exact absurd (show ZT [] most false < 0 by unfold ZT;simp) e
  | cons w r=>
   rw [hws] at e
   have hn:s.number most=(ZT w most false,⟨r,s.deep,s.f⟩):=by
    unfold RS.number
    rw [hws]
    exact if_neg e
   rw [hn] at hK
   obtain⟨i,hc,hi,hst⟩:=D.adv hws
   exact⟨_,hc,_,isW (by unfold InR;omega),hst fun h' D' M'=>hK h' D' M'⟩
def inS (s:RS):RS:=if s.deep+1 > 12 then(⟨s.ws,s.deep+1,s.f⟩:RS).fail 2 else⟨s.ws,s.deep+1,s.f⟩
theorem Qih (p:Ps)(s:RS):Xc p s=((p (inS s)).1,⟨(p (inS s)).2.ws,(p (inS s)).2.deep - 1,(p (inS s)).2.f⟩):=rfl
theorem QiF {h0 h:Hp}{g:Nat}{W:List Wd}{s:RS}(D:QU h0 h g W s)(hd0:0≤s.deep)(hd1:s.deep≤1000000){R:Value→Hp→Prop}(hK:∀ h',QU h0 h' g W (inS s)→Mut (At g) h (At g) h'→R (Qf []) h'):Qa Tryz.prog 112 [vhp g 0] h R:=by
 refine QjX ?_
 unfold QeQ
 unfold inS at hK
 refine⟨_,D.c2,_,isW (by unfold InR;omega),D.put2 fun h3 D3 M3=>⟨_,D3.c2,fun e=>?_,fun e=>?_⟩⟩
 ·have e:s.deep+1 > 12:=of_decide_eq_true e
  rw [if_pos e] at hK
  exact Jl D3 (by decide) fun h' D' M'=>⟨rfl,hK h' D' (M3.trans M')⟩
 ·have e:¬ s.deep+1 > 12:=of_decide_eq_false e
  rw [if_neg e] at hK
  exact hK h3 D3 M3
theorem Qj4 {s:RS}(hg:s.good)(hf:s.f≠0)(f:Int):s.fail f=s:=by
 unfold RS.fail
 rw [if_neg hf,←hg hf]
theorem Qjs {s:RS}(hg:s.good)(hf:s.f≠0)(op:Int)(x y:List Nd):(QO op x y s).2=s:=by
 unfold QO
 split
 ·exact Qj4 hg hf 2
 ·rfl
theorem ZN {h0 h:Hp}{g:Nat}{W:List Wd}{s:RS}(D:QU h0 h g W s){op:Int}{ax ay:Option Addr}{nx ny cx cy:Nat}{x y:List Nd}(X:s.f=0→SlP Zo h ax nx x∧x.length≤40)(Y:s.f=0→SlP Zo h ay ny y∧WfL y∧y.length≤40∧(0 < y.length↔1 < arI op))
  {R:Value→Hp→Prop} (hK:∀ a n c h',QU h0 h' g W (QO op x y s).2→((QO op x y s).2.f=0→YF h h' a n (QO op x y s).1)→Mut (At g) h (At g) h'→R (vsl a n c) h'):Qa Tryz.prog 113 [vhp g 0,vi op,vsl ax nx cx,vsl ay ny cy] h R:=by
 refine QiE ?_
 unfold Qcv
 have f0:=D.f0
 refine⟨_,D.c3,fun e=>?_,fun e=>?_⟩
 ·have e:s.f≠0:=by have:=of_decide_eq_true e;omega
  rw [Qjs D.good e] at hK
  exact hK ax nx cx h D (fun q=>absurd q e) (Mut.of_le (Hp.le_refl _))
 have hf:s.f=0:=by have:=of_decide_eq_false e;omega
 obtain⟨SX,hx⟩:=X hf
 obtain⟨SY,WY,hy,hyo⟩:=Y hf
 clear X Y
 obtain rfl:=SX.1
 obtain rfl:=SY.1
 unfold QO at hK
 refine⟨_,isW (by unfold InR;omega),_,isW (by unfold InR;omega),fun e=>?_,fun e=>?_⟩
 ·have e:=of_decide_eq_true e
  rw [if_pos (by omega)] at hK
  refine Jl D (by decide) fun h6 D6 M6=>⟨rfl,hK _ _ _ h6 D6 (fun q=>?_) M6⟩
  unfold RS.fail at q
  rw [if_pos hf] at q
  exact absurd q (by show (2:Int)≠0;decide)
 have e:=of_decide_eq_false e
 rw [if_neg (by omega)] at hK
 simp only at hK
 refine Qgh Ql6 SX.2 (Qs QD x) (Qk3 x) (by omega) (by omega) fun a3 c3 h2 V2=>⟨_,_,_,rfl,?_⟩
 refine⟨fun vs hh=>∃(i:Nat) (a:Option Addr) (c:Nat),vs=[vsl a (x++(y.take i).map (shN x.length)).length c,vi i]∧i≤y.length∧Uq h hh a c (x++(y.take i).map (shN x.length)),fun vs hh=>y.length - (Qn vs 1).toNat,
  ⟨0,a3,c3,by simp,Nat.zero_le _,by have V3:Uq h h2 a3 c3 x:=V2;simpa using V3⟩,?_⟩
 rintro vs hh ⟨i,a4,c4,rfl,hi,V⟩
 have hlen:(x++(y.take i).map (shN x.length)).length=x.length+i:=by simp;omega
 refine⟨_,_,_,_,rfl,fun g'=>?_,fun g'=>?_⟩
 ·have hlt:i < y.length:=by have:=of_decide_eq_true g';omega
  have hxx:y[i]?=some y[i]:=List.getElem?_eq_getElem hlt
  have wn:=WY _ _ hxx
  obtain⟨b,o,ha,hr⟩:=(SY.le V.le0).get QD (by decide) hxx
  have tk:(y.take (i+1)).map (shN x.length)=(y.take i).map (shN x.length)++[shN x.length y[i]]:=by
   rw [List.take_succ_eq_append_getElem hlt,List.map_append];rfl
  generalize y[i]=z at *
  refine⟨b,o,⟨ha,by omega,by omega⟩,_,_,_,_,_,_,hr,N9 ⟨_,rfl,?_⟩⟩
  intro J34
  have hJ:∀ x',x'=(shN (x.length:Int) z).x→J34 x':=by
   intro x' hx'
   unfold J34
   intro J45
   have h45:∀ y',y'=(shN (x.length:Int) z).y→J45 y':=by
    rintro y' rfl
    subst hx'
    intro b49 hb49 h50
    refine V.app (x:=shN (x.length:Int) z) Ql6 QD V7 (by omega) (by omega) hb49 fun a' c' h' V'=>⟨_,_,_,rfl,_,isW (by unfold InR;omega),⟨i+1,a',c',?_,by omega,?_⟩,by simp [Qn];omega⟩
    ·rw [tk,←List.append_assoc];rfl
    ·rw [tk,←List.append_assoc];exact V'
   clear_value J45
   refine⟨fun q=>?_,fun q=>?_⟩
   ·have q:=of_decide_eq_true q
    have hy2:=wn.y (by omega)
    refine⟨_,isW (by unfold InR;omega),h45 _ ?_⟩
    unfold shN
    simp only
    rw [if_pos (show 1 < arI z.op by omega)]
   ·have q:=of_decide_eq_false q
    refine h45 _ ?_
    unfold shN
    simp only
    rw [if_neg (show ¬ 1 < arI z.op by omega)]
  clear_value J34
  refine⟨fun q=>?_,fun q=>?_⟩
  ·have q:=of_decide_eq_true q
   have hX:=wn.x (by omega)
   refine⟨_,isW (by unfold InR;omega),hJ _ ?_⟩
   unfold shN
   simp only
   rw [if_pos (show 0 < arI z.op by omega)]
  ·have q:=of_decide_eq_false q
   refine hJ _ ?_
   unfold shN
   simp only
   rw [if_neg (show ¬ 0 < arI z.op by omega)]
 ·have hge:i=y.length:=by have:=of_decide_eq_false g';omega
  subst hge
  rw [List.take_of_length_le (Nat.le_refl _)] at V hlen ⊢
  refine⟨_,isW (by unfold InR;omega),?_⟩
  intro J60
  have hJ:∀ y',y'=(if 1 < arI op then((x.length+y.length:Nat):Int) - 1 else 0)→J60 y':=by
   rintro y' rfl b66 hb66
   intro h67
   refine V.app (x:=⟨op,(x.length:Int) - 1,if 1 < arI op then((x.length+y.length:Nat):Int) - 1 else 0,0,(0,0)⟩) Ql6 QD V7 (by omega) (by omega) hb66 fun a' c' h' V'=>⟨_,_,_,rfl,?_⟩
   have V'':Uq h h' a' c' (ZU op x y):=V'
   refine hK a' _ c' h' (D.le V''.le0) (fun _=>⟨V''.slp QD (by decide),fun b o e=>?_⟩) (Mut.of_le V''.le0)
   obtain rfl:=(Qh.own V'').at0 b o e
   exact Qh.new V'' b e
  clear_value J60
  refine⟨fun q=>?_,fun q=>?_⟩
  ·have q:=of_decide_eq_true q
   refine⟨_,isW (by unfold InR;omega),hJ _ ?_⟩
   rw [if_pos (hyo.1 (by omega)),hlen]
  ·have q:=of_decide_eq_false q
   refine hJ _ ?_
   rw [if_neg (fun h=>by have:=hyo.2 h;omega)]
def QG (k:Int)(P:Ps)(n:Nat):Prop:=∀{h0 h:Hp} {g:Nat} {W:List Wd} {s:RS},QU h0 h g W s→SOk n s→∀{R:Value→Hp→Prop},(∀ a m c h',QU h0 h' g W (P s).2→((P s).2.f=0→YF h h' a m (P s).1)→Mut (At g) h (At g) h'→R (vsl a m c) h')→Qa Tryz.prog 69 [vhp g 0,vi k] h R
theorem QkW {P:Ps}{n:Nat}(kp:KP P n){s:RS}(S:SOk n s)(hf:s.f≠0):(P s).2=s:=by
 have k:=kp s S.good (Nat.le_of_lt S.len)
 have h1:=S.good hf
 have h2:=k.len
 have h3:=k.deep
 have h4:=k.fst hf
 obtain⟨ws,d,f⟩:=s
 simp only at h1 h2 h3 h4 hf ⊢
 subst h1
 have h5:(P ⟨[],d,f⟩).2.ws=[]:=List.length_eq_zero_iff.1 (by simpa using h2)
 generalize (P ⟨[],d,f⟩).2=t at *
 obtain⟨ws,d',f'⟩:=t
 simp only at h3 h4 h5
 rw [h3,h4,h5]
theorem WP {k:Int}(hk:k=0∨k=1∨k=4∨k=5){P:Ps}{n:Nat}(kp:KP P n)(H:∀{h0 h:Hp} {g:Nat} {W:List Wd} {s:RS},QU h0 h g W s→SOk n s→∀{R:Value→Hp→Prop},(∀ a m c h',QU h0 h' g W (P s).2→((P s).2.f=0→YF h h' a m (P s).1)→Mut (At g) h (At g) h'→R (vsl a m c) h')→Qa Tryz.prog 111 [vhp g 0,vi k] h R):QG k P n:=by
 intro h0 h g W s D S R hK
 refine WM ?_
 unfold Xq
 have f0:=D.f0
 refine⟨_,D.c3,fun e=>?_,fun e=>?_⟩
 ·have e:s.f≠0:=by have:=of_decide_eq_true e;omega
  rw [QkW kp S e] at hK
  exact hK _ _ _ h D (fun q=>absurd q e) (Mut.of_le (Hp.le_refl _))
 intro J7
 have h7:J7 true:=⟨fun _=>H D S fun a m c h' D' N' M'=>⟨_,_,_,rfl,hK a m c h' D' N' M'⟩,fun q=>by cases q⟩
 clear_value J7
 refine⟨fun e=>by rw [e];exact h7,fun e1=>⟨fun e=>by rw [e];exact h7,fun e2=>⟨fun e=>by rw [e];exact h7,fun e3=>?_⟩⟩⟩
 have e1:=of_decide_eq_false e1
 have e2:=of_decide_eq_false e2
 have e3:=of_decide_eq_false e3
 rw [decide_eq_true (show k=5 by omega)]
 exact h7
theorem QhO {P:Ps}{n:Nat}(kp:KP P n)(H:∀{h0 h:Hp} {g:Nat} {W:List Wd} {s:RS},QU h0 h g W s→SOk n s→∀{R:Value→Hp→Prop},(∀ a m c h',QU h0 h' g W (P s).2→((P s).2.f=0→YF h h' a m (P s).1)→Mut (At g) h (At g) h'→R (vsl a m c) h')→Qa Tryz.prog 114 [vhp g 0] h R):QG 3 P n:=by
 intro h0 h g W s D S R hK
 refine WM ?_
 unfold Xq
 have f0:=D.f0
 refine⟨_,D.c3,fun e=>?_,fun e=>?_⟩
 ·have e:s.f≠0:=by have:=of_decide_eq_true e;omega
  rw [QkW kp S e] at hK
  exact hK _ _ _ h D (fun q=>absurd q e) (Mut.of_le (Hp.le_refl _))
 refine⟨fun e=>absurd e (by decide),fun _=>⟨fun e=>absurd e (by decide),fun _=>⟨fun e=>absurd e (by decide),fun _=>⟨fun e=>absurd e (by decide),fun _=>?_⟩⟩⟩⟩
 refine⟨fun e=>absurd e (by decide),fun _=>⟨fun e=>absurd e (by decide),fun _=>⟨fun _=>H D S fun a m c h' D' N' M'=>⟨_,_,_,rfl,hK a m c h' D' N' M'⟩,fun e=>absurd e (by decide)⟩⟩⟩
theorem Qfw {P:Ps}{n:Nat}(kp:KP P n)(H:∀{h0 h:Hp} {g:Nat} {W:List Wd} {s:RS},QU h0 h g W s→SOk n s→s.f=0→∀{R:Value→Hp→Prop},(∀ a m c h',QU h0 h' g W (P s).2→((P s).2.f=0→YF h h' a m (P s).1)→Mut (At g) h (At g) h'→R (vsl a m c) h')→Qa Tryz.prog 115 [vhp g 0] h R):QG 7 P n:=by
 intro h0 h g W s D S R hK
 refine WM ?_
 unfold Xq
 have f0:=D.f0
 refine⟨_,D.c3,fun e=>?_,fun e=>?_⟩
 ·have e:s.f≠0:=by have:=of_decide_eq_true e;omega
  rw [QkW kp S e] at hK
  exact hK _ _ _ h D (fun q=>absurd q e) (Mut.of_le (Hp.le_refl _))
 have hf:s.f=0:=by have:=of_decide_eq_false e;omega
 refine⟨fun e=>absurd e (by decide),fun _=>⟨fun e=>absurd e (by decide),fun _=>⟨fun e=>absurd e (by decide),fun _=>⟨fun e=>absurd e (by decide),fun _=>?_⟩⟩⟩⟩
 refine⟨fun e=>absurd e (by decide),fun _=>⟨fun e=>absurd e (by decide),fun _=>⟨fun e=>absurd e (by decide),fun _=>H D S hf fun a m c h' D' N' M'=>⟨_,_,_,rfl,hK a m c h' D' N' M'⟩⟩⟩⟩
theorem Mo {s:RS}{w:Wd}(hw:w≠[])(h:(s.is [w]).1=[]):(s.is [w]).2=s:=by
 obtain⟨n1,n2,n3⟩:=GI (s:=s) hw
 exact n3 fun q=>absurd h (n1.2 q)
def Qiu (w:Wd)(op:Int)(U A:Ps):Ps:=fun s=>if (s.is [w]).1=[] then A s else QO op (Xc U (s.is [w]).2).1 [] (Xc U (s.is [w]).2).2
theorem Nl {k:Int}{w:Wd}{op:Int}(hk:(k=2∧w=Jr∧op=4)∨(k=6∧w=ZE∧op=3)){U A:Ps}{n:Nat}(ku:KP U n)(kp:KP (Qiu w op U A) (n+1))(FU:QG k U n)(FA:QG (k+1) A (n+1)):QG k (Qiu w op U A) (n+1):=by
 intro h0 h g W s D S R hK
 refine WM ?_
 unfold Xq
 have f0:=D.f0
 refine⟨_,D.c3,fun e=>?_,fun e=>?_⟩
 ·have e:s.f≠0:=by have:=of_decide_eq_true e;omega
  rw [QkW kp S e] at hK
  exact hK _ _ _ h D (fun q=>absurd q e) (Mut.of_le (Hp.le_refl _))
 have hw:w≠[]:=by rcases hk with ⟨_,rfl,_⟩|⟨_,rfl,_⟩<;>decide
 have hop:arI op=1:=by rcases hk with ⟨_,_,rfl⟩|⟨_,_,rfl⟩<;>decide
 have hk2:k=2∨k=6:=by rcases hk with ⟨h,_⟩|⟨h,_⟩<;>omega
 have io:=@Mo s w hw
 have gi:=QA S.good [w]
 have tk:=@Ns s [w]
 unfold Qiu at hK
 refine⟨fun e=>absurd (of_decide_eq_true e) (by omega),fun _=>⟨fun e=>absurd (of_decide_eq_true e) (by omega),fun _=>⟨fun e=>absurd (of_decide_eq_true e) (by omega),fun _=>⟨fun e=>absurd (of_decide_eq_true e) (by omega),fun _=>?_⟩⟩⟩⟩
 intro J14
 have h14:J14 true:=by
  refine⟨fun _=>?_,fun q=>by cases q⟩
  intro J18
  have h18:J18 (bs w) op:=by
   refine ZF D hw fun h39 D39 M39=>⟨_,rfl,fun e=>?_,fun e=>?_⟩
   ·have e:(s.is [w]).1=[]:=by simpa using e
    rw [if_pos e] at hK
    rw [io e] at D39
    exact⟨_,isW (by unfold InR;omega),FA D39 S fun a m c h' D' N' M'=>⟨_,_,_,rfl,hK a m c h' D' (fun q=>(N' q).base (M39.up D39.al)) (M39.trans M')⟩⟩
   ·have e:(s.is [w]).1≠[]:=by simpa using e
    rw [if_neg e] at hK
    have tk:=tk e
    have S1:=S.goes gi
    have d0:=S1.d0
    have d1:=S1.d1
    have Sn:SOk n (s.is [w]).2:=⟨S1.good,by have:=S.len;omega,S1.big,d0,d1⟩
    generalize (s.is [w]).2=s1 at *
    have hdp:=gi.deep
    have sd1:=S.d1
    refine QiF D39 d0 (by omega) fun h47 D47 M47=>⟨rfl,?_⟩
    have Gin:(inS s1).ws.length≤s1.ws.length∧(inS s1).good∧(inS s1).deep=s1.deep+1:=by
     unfold inS
     split
     ·exact⟨Nat.zero_le _,RS.fail_good _ _,rfl⟩
     ·exact⟨Nat.le_refl _,Sn.good,rfl⟩
    have Si:SOk n (inS s1):=⟨Gin.2.1,Nat.lt_of_le_of_lt Gin.1 Sn.len,Nat.le_trans Gin.1 Sn.big,by rw [Gin.2.2];omega,by rw [Gin.2.2];have:=Gin.1;omega⟩
    have ki:=ku _ Si.good (Nat.le_of_lt Si.len)
    rw [Qih] at hK
    refine FU D47 Si fun a m c h49 D49 N49 M49=>⟨_,_,_,rfl,?_⟩
    have hdd:=ki.deep
    have hm:m=m:=rfl
    refine⟨_,D49.c2,_,isW (by unfold InR;omega),D49.put2 fun h53 D53 M53=>?_⟩
    have M53':=(M39.trans M47).trans (M49.trans M53)
    refine ZN D53 (x:=(U (inS s1)).1) (y:=[]) (fun q=>⟨((N49 q).mut D47.al M53).s,ki.le⟩) (fun q=>⟨(Yu h53 h53).s,Yb,by simp,by simp [hop]⟩) fun a m c h' D' N' M'=>⟨_,_,_,rfl,?_⟩
    exact hK a m c h' D' (fun q=>(N' q).base (M53'.up D53.al)) (M53'.trans M')
  clear_value J18
  rcases hk with ⟨rfl,rfl,rfl⟩|⟨rfl,rfl,rfl⟩
  ·exact⟨fun e=>absurd e (by decide),fun _=>h18⟩
  ·exact⟨fun _=>h18,fun e=>absurd e (by decide)⟩
 clear_value J14
 refine⟨fun e=>by rw [e];exact h14,fun e=>?_⟩
 rw [decide_eq_true (show k=6 by have:=of_decide_eq_false e;omega)]
 exact h14
theorem Qbh {s:RS}{L:List Wd}(hL:[] ∉ L):(Qw s ∈ L→∃ r,s.ws=Qw s :: r∧s.is L=(Qw s,⟨r,s.deep,s.f⟩))∧(Qw s ∉ L→s.is L=([],s)):=by
 unfold Qw RS.is
 cases h:s.ws with
 | nil=>exact⟨fun q=>absurd q hL,fun _=>rfl⟩
 | cons v r=>exact⟨fun q=>⟨r,rfl,if_pos q⟩,fun q=>if_neg q⟩
def rrN (h:Hp)(g:Nat):Nat:=match h.cell g (0+3),h.cell g 0,h.cell g (0+1) with
 | some (.int _ f),some (.slice _ n _),some (.int _ i)=>if f=0 then 1+(n - i.toNat) else 0
 | _,_,_=>0
theorem QU.rn {h0 h:Hp}{g:Nat}{W:List Wd}{s:RS}(D:QU h0 h g W s):rrN h g=if s.f=0 then 1+s.ws.length else 0:=by
 obtain⟨a,c,i,hb,hS,hi,hw⟩:=D.b
 have c0:h.cell g 0=some (vsl a W.length c):=Qb hb rfl
 have c1:h.cell g (0+1)=some (vi i):=Qb hb rfl
 have c3:h.cell g (0+3)=some (vi s.f):=Qb hb rfl
 unfold rrN
 rw [c0,c1,c3]
 simp only
 split
 ·rename_i hf
  rw [hw,if_pos hf,List.length_drop,Int.toNat_natCast]
 ·rfl
theorem Qjr {hB h:Hp}{b:Nat}(hb:hB b=none)(n:Nd):YF hB (h.set b (Qc (Zo n) 160)) (some ⟨b,0,none⟩) 1 [n]:=
 ⟨⟨rfl,(QI.new h b 160 (sz:=6) (n:=1) (Zo n) rfl (by decide)).row⟩,fun b' o e=>by cases e;exact hb⟩
def Qh2 (k:Int)(w:Wd):Int:=if w=wOr then(if k=0 then 10 else 0) else if w=Qkj then(if k=1 then 9 else 0) else if w=Vk then(if k=4 then 6 else 0) else if w=ZE then(if k=4 then 7 else 0) else if w=Xa then(if k=5 then 8 else 0) else 0
def Qji (k:Int)(ops:List (Wd × Int)):Prop:=(k=0∧ops=[(wOr,10)])∨(k=1∧ops=[(Qkj,9)])∨(k=4∧ops=[(Vk,6),(ZE,7)])∨(k=5∧ops=[(Xa,8)])
theorem Qmm {k:Int}{ops:List (Wd × Int)}(hk:Qji k ops)(w:Wd):Qh2 k w=if w ∈ ops.map (·.1) then QaM ops w else 0:=by
 by_cases h1:w=wOr
 ·subst h1;rcases hk with ⟨rfl,rfl⟩|⟨rfl,rfl⟩|⟨rfl,rfl⟩|⟨rfl,rfl⟩<;>decide
 by_cases h2:w=Qkj
 ·subst h2;rcases hk with ⟨rfl,rfl⟩|⟨rfl,rfl⟩|⟨rfl,rfl⟩|⟨rfl,rfl⟩<;>decide
 by_cases h3:w=Vk
 ·subst h3;rcases hk with ⟨rfl,rfl⟩|⟨rfl,rfl⟩|⟨rfl,rfl⟩|⟨rfl,rfl⟩<;>decide
 by_cases h4:w=ZE
 ·subst h4;rcases hk with ⟨rfl,rfl⟩|⟨rfl,rfl⟩|⟨rfl,rfl⟩|⟨rfl,rfl⟩<;>decide
 by_cases h5:w=Xa
 ·subst h5;rcases hk with ⟨rfl,rfl⟩|⟨rfl,rfl⟩|⟨rfl,rfl⟩|⟨rfl,rfl⟩<;>decide
 have e:Qh2 k w=0:=by unfold Qh2;rw [if_neg h1,if_neg h2,if_neg h3,if_neg h4,if_neg h5]
 rw [e,if_neg]
 intro hm
 rcases hk with ⟨_,rfl⟩|⟨_,rfl⟩|⟨_,rfl⟩|⟨_,rfl⟩
 ·exact h1 (by simpa using hm)
 ·exact h2 (by simpa using hm)
 ·have:w=Vk∨w=ZE:=by simpa using hm
  rcases this with q|q
  ·exact h3 q
  ·exact h4 q
 ·exact h5 (by simpa using hm)
theorem Qji.opr {k:Int}{ops:List (Wd × Int)}(hk:Qji k ops):(∀ q ∈ ops,Opr q.2)∧(∀ q ∈ ops,1 < arI q.2∧q.2≠0)∧([]:Wd) ∉ ops.map (·.1)∧(k=0∨k=1∨k=4∨k=5):=by
 rcases hk with ⟨rfl,rfl⟩|⟨rfl,rfl⟩|⟨rfl,rfl⟩|⟨rfl,rfl⟩<;>exact⟨by decide,by decide,by decide,by decide⟩
theorem Qoy {ops:List (Wd × Int)}{Q:Int→Prop}(ho:∀ q ∈ ops,Q q.2){w:Wd}(hw:w ∈ ops.map (·.1)):Q (QaM ops w):=by
 unfold QaM
 cases h:ops.find? (fun p=>p.1=w) with
 | none=>
  obtain⟨q,hq,rfl⟩:=List.mem_map.1 hw
  have:=List.find?_eq_none.1 h q hq
  simp at this
 | some q=>exact ho q (List.mem_of_find?_eq_some h)
theorem UY {k:Int}{ops:List (Wd × Int)}(hk:Qji k ops){P:Ps}{n:Nat}(F:QG (k+1) P n)(kp:KP P n){h0 h:Hp}{g:Nat}{W:List Wd}{s:RS}(D:QU h0 h g W s)(S:SOk n s){R:Value→Hp→Prop}
  (hK:∀ a m c h',QU h0 h' g W (K8 P ops s).2→((K8 P ops s).2.f=0→YF h h' a m (K8 P ops s).1)→Mut (At g) h (At g) h'→R (vsl a m c) h'):Qa Tryz.prog 111 [vhp g 0,vi k] h R:=by
 refine Qhu ?_
 unfold Qbn
 obtain⟨ho,ho2,hnil,hk4⟩:=hk.opr
 have kk:=kp s S.good (Nat.le_of_lt S.len)
 have Sx:=S.goes kk.goes
 have kx:=kk.wf
 have kl:=kk.le
 have kp1:=kk.pos
 unfold K8 at hK
 refine⟨_,isW (by unfold InR;omega),F D S fun a4 m4 c4 h3 D3 N3 M3=>⟨_,_,_,rfl,?_⟩⟩
 generalize P s=X at *
 obtain⟨x0,s0⟩:=X
 simp -zeta only at hK D3 N3 Sx kx kl kp1 ⊢
 intro J47
 refine⟨fun vs' hh=>∃(j:Nat) (x:List Nd) (t:RS) (a:Option Addr) (m c:Nat),vs'=[vsl a m c]∧QU h0 hh g W t∧(t.f=0→YF h hh a m x)∧Mut (At g) h (At g) hh∧SOk n t∧1≤x.length∧x.length≤40∧WfL x∧t.ws.length < j∧QbP P ops j x t=QbP P ops (s0.ws.length+1) x0 s0,fun _ hh=>rrN hh g,⟨_,x0,s0,a4,m4,c4,rfl,D3,N3,M3,Sx,kp1,kl,kx,Nat.lt_succ_self _,rfl⟩,?_⟩
 rintro vs' hh ⟨j,x,t,a,m,c,rfl,Dt,Nt,Mt,St,hx1,hx,Wx,hj,hrow⟩
 obtain⟨j,rfl⟩:∃ j',j=j'+1:=⟨j - 1,by omega⟩
 have hst:QbP P ops (j+1) x t=if t.f≠0 then(x,t) else if (t.is (ops.map (·.1))).1=[] then(x,(t.is (ops.map (·.1))).2) else QbP P ops j (QO (QaM ops (t.is (ops.map (·.1))).1) x (P (t.is (ops.map (·.1))).2).1 (P (t.is (ops.map (·.1))).2).2).1 (QO (QaM ops (t.is (ops.map (·.1))).1) x (P (t.is (ops.map (·.1))).2).1 (P (t.is (ops.map (·.1))).2).2).2:=rfl
 rw [hst] at hrow
 clear hst
 refine⟨_,_,_,rfl,_,Dt.c3,fun e=>?_,fun e=>?_⟩
 ·have f0:¬ t.f≠0:=fun h=>h (of_decide_eq_true e)
  rw [if_neg f0] at hrow
  have Nt:=Nt (Decidable.not_not.1 f0)
  have hrt:=Dt.rn
  rw [if_pos (Decidable.not_not.1 f0)] at hrt
  obtain⟨ny,nn⟩:=Qbh (s:=t) hnil
  refine Jj Dt ⟨_,rfl,?_⟩
  intro J33
  have key:J33 (Qh2 k (Qw t)):=by
   have hr:=Qmm hk (Qw t)
   by_cases hm:Qw t ∈ ops.map (·.1)
   ·rw [if_pos hm] at hr
    obtain⟨r,hws,his⟩:=ny hm
    have h2:=Qoy (Q:=fun o=>1 < arI o∧o≠0) ho2 hm
    have hop:=QeO ho hm
    rw [his] at hrow
    simp only at hrow
    have hne:Qw t≠[]:=fun q=>hnil (by rw [←q];exact hm)
    rw [if_neg hne] at hrow
    rw [hr]
    have gi:=QA St.good (ops.map (·.1))
    rw [his] at gi
    simp only at gi
    have S1:=St.goes gi
    generalize QaM ops (Qw t)=op at *
    refine⟨fun q=>absurd (of_decide_eq_true q) h2.2,fun _=>?_⟩
    obtain⟨i,hc,hi,hsto⟩:=Dt.adv hws
    have kn:=kp _ S1.good (Nat.le_of_lt S1.len)
    refine⟨_,hc,_,isW (by unfold InR;omega),hsto fun h39 D39 M39=>⟨_,isW (by unfold InR;omega),F D39 S1 fun a43 m43 c43 h42 D42 N42 M42=>⟨_,_,_,rfl,?_⟩⟩⟩
    have kj:YV (QO op x (P ⟨r,t.deep,t.f⟩).1 (P ⟨r,t.deep,t.f⟩).2) t:=QW hop (gi.trans kn.goes) Wx kn.wf hx1 (fun _=>kn.pos)
    have kn1:=kn.wf
    have kn2:=kn.le
    have kn3:=kn.len
    have kn4:=kn.pos
    have kj2:(QO op x (P ⟨r,t.deep,t.f⟩).1 (P ⟨r,t.deep,t.f⟩).2).2.ws.length≤(P ⟨r,t.deep,t.f⟩).2.ws.length:=by
     unfold QO
     split
     ·exact Nat.zero_le _
     ·exact Nat.le_refl _
    simp only at kn3
    generalize P ⟨r,t.deep,t.f⟩=Y at *
    obtain⟨y1,s2⟩:=Y
    simp only at hrow D42 N42 kj kn1 kn2 kn3 kn4 kj2 ⊢
    have M42':=Mt.trans M39
    refine ZN D42 (x:=x) (y:=y1) (fun q=>⟨((Nt.mut D.al M39).mut D.al M42).s,hx⟩) (fun q=>⟨(N42 q).s,kn1,kn2,⟨fun _=>h2.1,fun _=>kn4⟩⟩) fun a46 m46 c46 h45 D45 N45 M45=>⟨_,_,_,rfl,⟨j,_,_,a46,m46,c46,rfl,D45,fun q=>(N45 q).base ((M42'.trans M42).up D42.al),(M42'.trans M42).trans M45,St.goes kj.goes,kj.pos,kj.le,kj.wf,?_,hrow⟩,?_⟩
    ·rw [hws] at hj
     simp at hj
     omega
    ·have h45n:=D45.rn
     show rrN h45 g < rrN hh g
     rw [hrt,h45n,hws]
     simp
     split<;>omega
   ·rw [if_neg hm] at hr
    rw [nn hm] at hrow
    simp only at hrow
    rw [if_pos trivial] at hrow
    rw [hr]
    refine⟨fun _=>?_,fun q=>absurd q (by decide)⟩
    rw [←hrow] at hK
    exact hK a m c hh Dt (fun _=>Nt) Mt
  clear_value J33
  unfold Qh2 at key
  refine⟨_,Qt (b:=wOr),fun e1=>?_,fun e1=>⟨_,Qt (b:=Qkj),fun e2=>?_,fun e2=>⟨_,Qt (b:=Vk),fun e3=>?_,fun e3=>⟨_,Qt (b:=ZE),fun e4=>?_,fun e4=>⟨_,Qt (b:=Xa),fun e5=>?_,fun e5=>?_⟩⟩⟩⟩⟩
  ·rw [if_pos (of_decide_eq_true e1)] at key
   exact⟨fun q=>by rw [if_pos (of_decide_eq_true q)] at key;exact key,fun q=>by rw [if_neg (of_decide_eq_false q)] at key;exact key⟩
  ·rw [if_neg (of_decide_eq_false e1),if_pos (of_decide_eq_true e2)] at key
   exact⟨fun q=>by rw [if_pos (of_decide_eq_true q)] at key;exact key,fun q=>by rw [if_neg (of_decide_eq_false q)] at key;exact key⟩
  ·rw [if_neg (of_decide_eq_false e1),if_neg (of_decide_eq_false e2),if_pos (of_decide_eq_true e3)] at key
   exact⟨fun q=>by rw [if_pos (of_decide_eq_true q)] at key;exact key,fun q=>by rw [if_neg (of_decide_eq_false q)] at key;exact key⟩
  ·rw [if_neg (of_decide_eq_false e1),if_neg (of_decide_eq_false e2),if_neg (of_decide_eq_false e3),if_pos (of_decide_eq_true e4)] at key
   exact⟨fun q=>by rw [if_pos (of_decide_eq_true q)] at key;exact key,fun q=>by rw [if_neg (of_decide_eq_false q)] at key;exact key⟩
  ·rw [if_neg (of_decide_eq_false e1),if_neg (of_decide_eq_false e2),if_neg (of_decide_eq_false e3),if_neg (of_decide_eq_false e4),if_pos (of_decide_eq_true e5)] at key
   exact⟨fun q=>by rw [if_pos (of_decide_eq_true q)] at key;exact key,fun q=>by rw [if_neg (of_decide_eq_false q)] at key;exact key⟩
  ·rw [if_neg (of_decide_eq_false e1),if_neg (of_decide_eq_false e2),if_neg (of_decide_eq_false e3),if_neg (of_decide_eq_false e4),if_neg (of_decide_eq_false e5)] at key
   exact key
 ·have f0:t.f≠0:=of_decide_eq_false e
  rw [if_pos f0] at hrow
  rw [←hrow] at hK
  exact hK a m c hh Dt Nt Mt
def QiG:List Wd:=[wLt,wGt,wLe,wGe,wEq,wNe,wIs]
theorem QeP {P:Ps}{n:Nat}(F:QG 4 P n)(kp:KP P n){h0 h:Hp}{g:Nat}{W:List Wd}{s:RS}(D:QU h0 h g W s)(S:SOk n s){R:Value→Hp→Prop}
  (hK:∀ a m c h',QU h0 h' g W (QdW P s).2→((QdW P s).2.f=0→YF h h' a m (QdW P s).1)→Mut (At g) h (At g) h'→R (vsl a m c) h'):Qa Tryz.prog 114 [vhp g 0] h R:=by
 refine Qb9 ?_
 unfold UG
 have kk:=kp s S.good (Nat.le_of_lt S.len)
 have Sx:=S.goes kk.goes
 have kx:=kk.wf
 have kl:=kk.le
 have kp1:=kk.pos
 unfold QdW at hK
 simp only at hK
 refine F D S fun a3 m3 c3 h2 D2 N2 M2=>⟨_,_,_,rfl,?_⟩
 generalize P s=X at *
 obtain⟨x,s0⟩:=X
 simp -zeta only at hK D2 N2 Sx kx kl kp1 ⊢
 have hnil:([]:Wd) ∉ QiG:=by decide
 have hcw:[wLt,wGt,wLe,wGe,wEq,wNe,wIs]=QiG:=rfl
 rw [hcw] at hK
 obtain⟨ny,nn⟩:=Qbh (s:=s0) hnil
 refine Jj D2 ⟨_,rfl,_,YC (b:=wLt),_,fun _=>YC (b:=wGt),_,fun _=>YC (b:=wLe),_,fun _=>YC (b:=wGe),_,fun _=>YC (b:=wEq),_,fun _=>YC (b:=wNe),_,fun _=>YC (b:=wIs),?_⟩
 have hmem:Qw s0 ∈ QiG↔¬((((((Qw s0≠wLt∧Qw s0≠wGt)∧Qw s0≠wLe)∧Qw s0≠wGe)∧Qw s0≠wEq)∧Qw s0≠wNe)∧Qw s0≠wIs):=by
  generalize Qw s0=w
  unfold QiG
  constructor
  ·intro hm
   have:w=wLt∨w=wGt∨w=wLe∨w=wGe∨w=wEq∨w=wNe∨w=wIs:=by simpa using hm
   rintro⟨⟨⟨⟨⟨⟨q1,q2⟩,q3⟩,q4⟩,q5⟩,q6⟩,q7⟩
   rcases this with q|q|q|q|q|q|q
   ·exact q1 q
   ·exact q2 q
   ·exact q3 q
   ·exact q4 q
   ·exact q5 q
   ·exact q6 q
   ·exact q7 q
  ·intro hm
   refine Decidable.byContradiction fun q=>hm ?_
   have:¬(w=wLt∨w=wGt∨w=wLe∨w=wGe∨w=wEq∨w=wNe∨w=wIs):=fun r=>q (by simpa using r)
   simp only [not_or] at this
   obtain⟨q1,q2,q3,q4,q5,q6,q7⟩:=this
   exact⟨⟨⟨⟨⟨⟨q1,q2⟩,q3⟩,q4⟩,q5⟩,q6⟩,q7⟩
 simp -zeta only [QjH,ZJ]
 refine⟨fun e=>?_,fun e=>?_⟩
 ·have hm:Qw s0 ∉ QiG:=fun q=>hmem.1 q (of_decide_eq_true e)
  rw [nn hm] at hK
  simp only at hK
  rw [if_neg (by decide),if_neg (by decide),if_neg (by decide),if_neg (by decide),if_neg (by decide),if_neg (by decide),if_neg (by decide)] at hK
  exact hK a3 m3 c3 h2 D2 N2 M2
 have hm:Qw s0 ∈ QiG:=hmem.2 (of_decide_eq_false e)
 obtain⟨r,hws,his⟩:=ny hm
 have gi:=QA Sx.good QiG
 rw [his] at gi hK
 simp only at hK gi
 have S1:=Sx.goes gi
 have hf0:s0.f=0:=by
  rcases Decidable.em (s0.f=0) with q|q
  ·exact q
  ·rw [Sx.good q] at hws;cases hws
 have N2:=N2 hf0
 obtain⟨i,hc,hi,hsto⟩:=D2.adv hws
 have k2:=kp _ S1.good (Nat.le_of_lt S1.len)
 have kw:=k2.wf
 have kl2:=k2.le
 have kq2:=k2.pos
 refine⟨_,hc,_,isW (by unfold InR;omega),hsto fun h17 D17 M17=>?_⟩
 have N17:=N2.mut D.al M17
 have M17':=M2.trans M17
 generalize Qw s0=w at *
 generalize (⟨r,s0.deep,s0.f⟩:RS)=s1 at *
 have hm2:w=wLt∨w=wGt∨w=wLe∨w=wGe∨w=wEq∨w=wNe∨w=wIs:=by simpa [QiG] using hm
 refine⟨_,Qt (b:=wIs),fun e=>?_,fun e=>?_⟩
 ·have ew:w=wIs:=of_decide_eq_true e
  rw [if_neg (by rw [ew];decide),if_neg (by rw [ew];decide),if_neg (by rw [ew];decide),if_neg (by rw [ew];decide),if_neg (by rw [ew];decide),if_neg (by rw [ew];decide),if_pos ew] at hK
  have g3:=QA S1.good [Jr]
  refine ZF (w:=Jr) D17 (by decide) fun h20 D20 M20=>⟨_,rfl,?_⟩
  generalize s1.is [Jr]=C at *
  obtain⟨v,s3⟩:=C
  simp -zeta only at hK D20 g3 ⊢
  refine YB (w:=Xe) D20 (by decide) fun h23 D23 M23=>⟨rfl,?_⟩
  generalize s3.must Xe=s4 at *
  refine ZN D23 (x:=x) (y:=[]) (fun q=>⟨((N17.mut D.al M20).mut D.al M23).s,kl⟩) (fun q=>⟨(Yu h23 h23).s,Yb,by simp,by decide⟩) fun a26 m26 c26 h25 D25 N25 M25=>⟨_,_,_,rfl,?_⟩
  have M25':=(M17'.trans M20).trans M23
  have jl:=WQ 5 x [] s4
  intro J32
  refine⟨fun q=>?_,fun q=>?_⟩
  ·have q:=of_decide_eq_true q
   rw [if_pos q] at hK
   refine ZN D25 (x:=(QO 5 x [] s4).1) (y:=[]) (fun q=>⟨(N25 q).s,jl⟩) (fun q=>⟨(Yu h25 h25).s,Yb,by simp,by decide⟩) fun a29 m29 c29 h28 D28 N28 M28=>⟨_,_,_,rfl,?_⟩
   exact hK a29 m29 c29 h28 D28 (fun q=>(N28 q).base ((M25'.trans M25).up D25.al)) ((M25'.trans M25).trans M28)
  ·have q:=of_decide_eq_false q
   rw [if_neg q] at hK
   exact hK a26 m26 c26 h25 D25 (fun q=>(N25 q).base (M25'.up D23.al)) (M25'.trans M25)
 have ew:¬ w=wIs:=of_decide_eq_false e
 refine F D17 S1 fun a39 m39 c39 h38 D38 N38 M38=>⟨_,_,_,rfl,?_⟩
 have M38':=M17'.trans M38
 have Nx:=N17.mut D.al M38
 generalize P s1=Y at *
 obtain⟨y,s2⟩:=Y
 simp -zeta only at hK D38 N38 kw kl2 kq2 ⊢
 refine⟨_,Qt (b:=wLt),fun e=>?_,fun e1=>⟨_,Qt (b:=wGt),fun e=>?_,fun e2=>⟨_,Qt (b:=wLe),fun e=>?_,fun e3=>⟨_,Qt (b:=wGe),fun e=>?_,fun e4=>⟨_,Qt (b:=wEq),fun e=>?_,fun e5=>?_⟩⟩⟩⟩⟩
 ·rw [if_pos (of_decide_eq_true e)] at hK
  exact ZN D38 (x:=x) (y:=y) (fun q=>⟨Nx.s,kl⟩) (fun q=>⟨(N38 q).s,kw,kl2,⟨fun _=>by decide,fun _=>kq2⟩⟩) fun a m c h42 D42 N42 M42=>⟨_,_,_,rfl,hK a m c h42 D42 (fun q=>(N42 q).base (M38'.up D38.al)) (M38'.trans M42)⟩
 ·rw [if_neg (of_decide_eq_false e1),if_pos (of_decide_eq_true e)] at hK
  exact ZN D38 (x:=y) (y:=x) (fun q=>⟨(N38 q).s,kl2⟩) (fun q=>⟨Nx.s,kx,kl,⟨fun _=>by decide,fun _=>kp1⟩⟩) fun a m c h42 D42 N42 M42=>⟨_,_,_,rfl,hK a m c h42 D42 (fun q=>(N42 q).base (M38'.up D38.al)) (M38'.trans M42)⟩
 ·rw [if_neg (of_decide_eq_false e1),if_neg (of_decide_eq_false e2),if_pos (of_decide_eq_true e)] at hK
  have jl:=WQ 11 y x s2
  exact ZN D38 (x:=y) (y:=x) (fun q=>⟨(N38 q).s,kl2⟩) (fun q=>⟨Nx.s,kx,kl,⟨fun _=>by decide,fun _=>kp1⟩⟩) fun a m c h42 D42 N42 M42=>⟨_,_,_,rfl,ZN D42 (x:=(QO 11 y x s2).1) (y:=[]) (fun q=>⟨(N42 q).s,jl⟩) (fun q=>⟨(Yu h42 h42).s,Yb,by simp,by decide⟩) fun a m c h45 D45 N45 M45=>⟨_,_,_,rfl,hK a m c h45 D45 (fun q=>(N45 q).base ((M38'.trans M42).up D42.al)) ((M38'.trans M42).trans M45)⟩⟩
 ·rw [if_neg (of_decide_eq_false e1),if_neg (of_decide_eq_false e2),if_neg (of_decide_eq_false e3),if_pos (of_decide_eq_true e)] at hK
  have jl:=WQ 11 x y s2
  exact ZN D38 (x:=x) (y:=y) (fun q=>⟨Nx.s,kl⟩) (fun q=>⟨(N38 q).s,kw,kl2,⟨fun _=>by decide,fun _=>kq2⟩⟩) fun a m c h42 D42 N42 M42=>⟨_,_,_,rfl,ZN D42 (x:=(QO 11 x y s2).1) (y:=[]) (fun q=>⟨(N42 q).s,jl⟩) (fun q=>⟨(Yu h42 h42).s,Yb,by simp,by decide⟩) fun a m c h45 D45 N45 M45=>⟨_,_,_,rfl,hK a m c h45 D45 (fun q=>(N45 q).base ((M38'.trans M42).up D42.al)) ((M38'.trans M42).trans M45)⟩⟩
 ·rw [if_neg (of_decide_eq_false e1),if_neg (of_decide_eq_false e2),if_neg (of_decide_eq_false e3),if_neg (of_decide_eq_false e4),if_pos (of_decide_eq_true e)] at hK
  exact ZN D38 (x:=x) (y:=y) (fun q=>⟨Nx.s,kl⟩) (fun q=>⟨(N38 q).s,kw,kl2,⟨fun _=>by decide,fun _=>kq2⟩⟩) fun a m c h42 D42 N42 M42=>⟨_,_,_,rfl,hK a m c h42 D42 (fun q=>(N42 q).base (M38'.up D38.al)) (M38'.trans M42)⟩
 ·have e6:w=wNe:=by
   rcases hm2 with q|q|q|q|q|q|q
   ·exact absurd q (of_decide_eq_false e1)
   ·exact absurd q (of_decide_eq_false e2)
   ·exact absurd q (of_decide_eq_false e3)
   ·exact absurd q (of_decide_eq_false e4)
   ·exact absurd q (of_decide_eq_false e5)
   ·exact q
   ·exact absurd q ew
  rw [if_neg (of_decide_eq_false e1),if_neg (of_decide_eq_false e2),if_neg (of_decide_eq_false e3),if_neg (of_decide_eq_false e4),if_neg (of_decide_eq_false e5),if_pos e6] at hK
  have jl:=WQ 12 x y s2
  exact ZN D38 (x:=x) (y:=y) (fun q=>⟨Nx.s,kl⟩) (fun q=>⟨(N38 q).s,kw,kl2,⟨fun _=>by decide,fun _=>kq2⟩⟩) fun a m c h42 D42 N42 M42=>⟨_,_,_,rfl,ZN D42 (x:=(QO 12 x y s2).1) (y:=[]) (fun q=>⟨(N42 q).s,jl⟩) (fun q=>⟨(Yu h42 h42).s,Yb,by simp,by decide⟩) fun a m c h45 D45 N45 M45=>⟨_,_,_,rfl,hK a m c h45 D45 (fun q=>(N45 q).base ((M38'.trans M42).up D42.al)) ((M38'.trans M42).trans M45)⟩⟩
theorem Qjt {i:Nat}(hi:i < 4):Q5.getD i [] ∈ Q5∧Q5.idxOf (Q5.getD i [])=i:=by
 match i,hi with
 | 0,_=>decide
 | 1,_=>decide
 | 2,_=>decide
 | 3,_=>decide
theorem Qjo {P:Ps}{s:RS}{w:Wd}(h:s.is ([Zn]++Ze++Q5)=([],s)):XH P s=([⟨1,0,0,0,(1,(s.number 1000000000).1)⟩],(s.number 1000000000).2):=by
 unfold XH
 rw [h]
 rfl
theorem Qju {P:Ps}{n:Nat}(F:QG 0 P n)(kp:KP P n){h0 h:Hp}{g:Nat}{W:List Wd}{s:RS}(D:QU h0 h g W s)(S:SOk (n+1) s)(hf:s.f=0){R:Value→Hp→Prop}
  (hK:∀ a m c h',QU h0 h' g W (XH P s).2→((XH P s).2.f=0→YF h h' a m (XH P s).1)→Mut (At g) h (At g) h'→R (vsl a m c) h'):Qa Tryz.prog 115 [vhp g 0] h R:=by
 refine QgY ?_
 unfold Qbq
 have hnil:([]:Wd) ∉ ([Zn]++Ze++Q5):=by decide
 obtain⟨ny,nn⟩:=Qbh (s:=s) hnil
 obtain⟨o1,o2,o3⟩:=GI (s:=s) (w:=Zn) (by decide)
 have gi:=QA S.good ([Zn]++Ze++Q5)
 refine Jj D ⟨_,rfl,ZF (w:=Zn) D (by decide) fun h5 D5 M5=>⟨_,rfl,fun e=>?_,fun e=>?_⟩⟩
 ·have e:Qw s=Zn:=o1.1 (of_decide_eq_true e)
  obtain⟨r,hws,his⟩:=ny (by rw [e];decide)
  obtain⟨r',hws',his'⟩:=o2 e
  have er:r'=r:=by rw [hws] at hws';exact((List.cons.inj hws').2).symm
  subst er
  rw [his'] at D5
  have hat:XH P s=((Xc P ⟨r',s.deep,s.f⟩).1,(Xc P ⟨r',s.deep,s.f⟩).2.must Yc):=by
   unfold XH
   rw [his,e]
   rfl
  rw [hat] at hK
  rw [his] at gi
  simp only at gi hK
  have S1:=S.goes gi
  have d0:=S1.d0
  have d1:=S1.d1
  have hlen:r'.length < n:=by
   have h1:=S.len
   rw [hws] at h1
   simp at h1
   omega
  have Sn:SOk n ⟨r',s.deep,s.f⟩:=⟨S1.good,hlen,S1.big,d0,d1⟩
  have hl2:(⟨r',s.deep,s.f⟩:RS).ws.length+1=s.ws.length:=by rw [hws];rfl
  generalize (⟨r',s.deep,s.f⟩:RS)=s1 at *
  have sd1:=S.d1
  have hdp:=gi.deep
  refine QiF D5 d0 (by omega) fun h8 D8 M8=>⟨rfl,?_⟩
  have Gin:(inS s1).ws.length≤s1.ws.length∧(inS s1).good∧(inS s1).deep=s1.deep+1:=by
   unfold inS
   split
   ·exact⟨Nat.zero_le _,RS.fail_good _ _,rfl⟩
   ·exact⟨Nat.le_refl _,Sn.good,rfl⟩
  have hl3:(s1.ws.length:Int)+1≤(s.ws.length:Int):=by omega
  have Si:SOk n (inS s1):=⟨Gin.2.1,Nat.lt_of_le_of_lt Gin.1 Sn.len,Nat.le_trans Gin.1 Sn.big,by rw [Gin.2.2];omega,by rw [Gin.2.2];have:=Gin.1;omega⟩
  have ki:=kp _ Si.good (Nat.le_of_lt Si.len)
  have kd:=XE kp (Yr.refl Sn.good) (Nat.le_of_lt Sn.len)
  rw [Qih] at hK kd
  refine F D8 Si fun a m c h10 D10 N10 M10=>⟨_,_,_,rfl,?_⟩
  have hdd:=ki.deep
  refine⟨_,D10.c2,_,isW (by unfold InR;omega),D10.put2 fun h14 D14 M14=>?_⟩
  refine YB (w:=Yc) D14 (by decide) fun h16 D16 M16=>⟨rfl,?_⟩
  have M8':=M5.trans M8
  refine hK a m c h16 D16 (fun q=>?_) (((M8'.trans M10).trans M14).trans M16)
  have q2:(P (inS s1)).2.f=0:=by
   refine Decidable.byContradiction fun hne=>?_
   have:=(QN (s:=⟨(P (inS s1)).2.ws,(P (inS s1)).2.deep - 1,(P (inS s1)).2.f⟩) kd.ok Yc).fst hne
   exact hne (this.symm.trans q)
  exact(((N10 q2).base (M8'.up D8.al)).mut D.al M14).mut D.al M16
 have e:Qw s≠Zn:=fun q=>of_decide_eq_false e (o1.2 q)
 rw [o3 e] at D5
 intro b18 hb18 h19
 have l19:h5.le h19:=Hp.le_set (Hp.le_refl h5) hb18 _
 have D19:=D5.le l19
 have M19:=M5.trans (Mut.of_le l19)
 have hlit:=Mf h5 b18 Q5 (by decide)
 refine⟨fun vs' hh=>hh=h19∧∃ i:Nat,vs'=[vi i]∧i≤4∧∀ j,j < i→Qw s≠Q5.getD j [],fun vs' hh=>4 - (Qn vs' 0).toNat,⟨rfl,0,rfl,by omega,by omega⟩,?_⟩
 rintro vs' hh ⟨rfl,i,rfl,hi,hno⟩
 refine⟨i,rfl,fun e1=>?_,fun e1=>?_⟩
 ·have hlt:i < 4:=by have:=of_decide_eq_true e1;omega
  obtain⟨b,o,ha,hc⟩:=SlP.get1 hlit (i:=i) (by show i < 4;exact hlt)
  refine⟨b,o,⟨ha,by omega,by omega⟩,_,hc,_,Qt,fun q=>?_,fun q=>?_⟩
  ·have q:Qw s=Q5.getD i []:=of_decide_eq_true q
   obtain⟨hmf,hix⟩:=Qjt hlt
   rw [←q] at hmf hix
   obtain⟨r,hws,his⟩:=ny (List.mem_append_right _ hmf)
   have hnc:Qw s ∉ Ze:=by
    intro hc
    have h1:Qw s=Xe∨Qw s=YD∨Qw s=Ye:=by simpa [Ze] using hc
    rcases h1 with h1|h1|h1<;>rw [h1] at hmf<;>exact absurd hmf (by decide)
   have hne:Qw s≠[]:=by
    intro h1;rw [h1] at hmf;exact absurd hmf (by decide)
   have hat:XH P s=([⟨2,0,0,i,(0,0)⟩],⟨r,s.deep,s.f⟩):=by
    unfold XH
    rw [his]
    simp only
    rw [if_neg e,if_neg hnc,if_neg hne,hix]
   rw [hat] at hK
   obtain⟨i',hc',hi',hsto⟩:=D19.adv hws
   refine⟨_,hc',_,isW (by unfold InR;omega),hsto fun h34 D34 M34=>?_⟩
   intro b35 hb35 h36
   have l36:h34.le h36:=Hp.le_set (Hp.le_refl h34) hb35 _
   have M34':=M19.trans M34
   exact hK _ _ _ h36 (D34.le l36) (fun _=>Qjr (M34'.up D34.al b35 hb35) ⟨2,0,0,i,(0,0)⟩) (M34'.trans (Mut.of_le l36))
  ·have q:Qw s≠Q5.getD i []:=of_decide_eq_false q
   refine⟨_,isW (by unfold InR;omega),⟨rfl,i+1,rfl,by omega,fun j hj=>?_⟩,by simp [Qn];omega⟩
   rcases Nat.lt_or_ge j i with h1|h1
   ·exact hno j h1
   ·have:j=i:=by omega
    rw [this];exact q
 ·have hge:i=4:=by have:=of_decide_eq_false e1;omega
  subst hge
  have hnf:Qw s ∉ Q5:=by
   intro hm
   have h1:Qw s=[116]∨Qw s=[107]∨Qw s=[97]∨Qw s=[98]:=by simpa [Q5] using hm
   rcases h1 with h1|h1|h1|h1
   ·exact hno 0 (by omega) h1
   ·exact hno 1 (by omega) h1
   ·exact hno 2 (by omega) h1
   ·exact hno 3 (by omega) h1
  have hwc:Qw s ∈ Ze↔(Qw s=Xe∨Qw s=YD)∨Qw s=Ye:=by simp [Ze,or_assoc]
  refine⟨_,Qt (b:=Xe),_,fun _=>Qt (b:=YD),_,fun _=>Qt (b:=Ye),?_⟩
  simp -zeta only [cor]
  refine⟨fun q=>?_,fun q=>?_⟩
  ·have hc:Qw s ∈ Ze:=hwc.2 (of_decide_eq_true q)
   obtain⟨r,hws,his⟩:=ny (List.mem_append_left _ (List.mem_append_right _ hc))
   have hat:XH P s=([⟨1,0,0,0,QbJ (Qw s)⟩],⟨r,s.deep,s.f⟩):=by
    unfold XH
    rw [his]
    simp only
    rw [if_neg e,if_pos hc]
   rw [hat] at hK
   obtain⟨i',hc',hi',hsto⟩:=D19.adv hws
   have hwl:(Qw s).length≤1000000:=by
    have:Qw s=Xe∨Qw s=YD∨Qw s=Ye:=by simpa [Ze] using hc
    rcases this with h1|h1|h1<;>rw [h1]<;>decide
   refine⟨_,hc',_,isW (by unfold InR;omega),hsto fun h44 D44 M44=>QhR hwl ⟨_,_,_,rfl,?_⟩⟩
   rw [←Qlz,Qd0 hc]
   intro b50 hb50 h51
   have l51:h44.le h51:=Hp.le_set (Hp.le_refl h44) hb50 _
   have M44':=M19.trans M44
   exact hK _ _ _ h51 (D44.le l51) (fun _=>Qjr (M44'.up D44.al b50 hb50) ⟨1,0,0,0,QbJ (Qw s)⟩) (M44'.trans (Mut.of_le l51))
  ·have hc:Qw s ∉ Ze:=fun h1=>of_decide_eq_false q (hwc.1 h1)
   have hno2:Qw s ∉ ([Zn]++Ze++Q5):=by
    intro hm
    rcases List.mem_append.1 hm with h4|h4
    ·rcases List.mem_append.1 h4 with h5|h5
     ·exact e (by simpa using h5)
     ·exact hc h5
    ·exact hnf h4
   have hat:=Qjo (P:=P) (w:=[]) (nn hno2)
   rw [hat] at hK
   have nr1:=Qa2 (s:=s) (most:=1000000000) (by decide)
   refine UW D19 (by decide) (by decide) fun h54 D54 M54=>⟨_,rfl,YT ⟨_,_,rfl,?_⟩⟩
   have en:YP (s.number 1000000000).1=(1,(s.number 1000000000).1):=by unfold YP;rw [if_neg (by omega)]
   rw [en]
   intro b60 hb60 h61
   have l61:h54.le h61:=Hp.le_set (Hp.le_refl h54) hb60 _
   have M54':=M19.trans M54
   exact hK _ _ _ h61 (D54.le l61) (fun _=>Qjr (M54'.up D54.al b60 hb60) ⟨1,0,0,0,(1,(s.number 1000000000).1)⟩) (M54'.trans (Mut.of_le l61))
theorem Mk {k k':Int}(e:k=k'){P:Ps}{n:Nat}(H:QG k P n):QG k' P n:=by
 subst e
 exact fun D S _ hK=>H D S hK
theorem h6k {P:Ps}{n:Nat}(H:QG 7 P n):QG (6+1) P n:=Mk (by decide) H
theorem h5k {P:Ps}{n:Nat}(H:QG 6 P n):QG (5+1) P n:=Mk (by decide) H
theorem h4k {P:Ps}{n:Nat}(H:QG 5 P n):QG (4+1) P n:=Mk (by decide) H
theorem h2k {P:Ps}{n:Nat}(H:QG 3 P n):QG (2+1) P n:=Mk (by decide) H
theorem h1k {P:Ps}{n:Nat}(H:QG 2 P n):QG (1+1) P n:=Mk (by decide) H
theorem h0k {P:Ps}{n:Nat}(H:QG 1 P n):QG (0+1) P n:=Mk (by decide) H
theorem Qi5 {t:Vo}{n:Nat}(h:KP t.o n∧KP t.n n∧KP t.u n)(H:QG 0 t.o n∧QG 2 t.n n∧QG 6 t.u n):QG 0 (orS t) (n+1)∧QG 2 (Qc6 t) (n+1)∧QG 6 (unS t) (n+1):=by
 obtain⟨k1,k2,k3,k4,k5,k6,k7⟩:=QhN h
 have h7:QG 7 (XH t.o) (n+1):=Qfw (QdI h.1) fun D S hf _ hK=>Qju H.1 h.1 D S hf hK
 have e6:unS t=Qiu ZE 3 t.u (XH t.o):=rfl
 have h6:QG 6 (unS t) (n+1):=by
  rw [e6] at k3 ⊢
  exact Nl (w:=ZE) (op:=3) (.inr ⟨rfl,rfl,rfl⟩) h.2.2 k3 H.2.2 (h6k h7)
 have h5:QG 5 (Qje t) (n+1):=WP (by decide) k4 fun D S _ hK=>UY (ops:=[(Xa,8)]) (by unfold Qji;simp) (h5k h6) k3 D S hK
 have h4:QG 4 (Qmf t) (n+1):=WP (by decide) k5 fun D S _ hK=>UY (ops:=[(Vk,6),(ZE,7)]) (by unfold Qji;simp) (h4k h5) k4 D S hK
 have h3:QG 3 (Qln t) (n+1):=QhO k6 fun D S _ hK=>QeP h4 k5 D S hK
 have e2:Qc6 t=Qiu Jr 4 t.n (Qln t):=rfl
 have h2:QG 2 (Qc6 t) (n+1):=by
  rw [e2] at k2 ⊢
  exact Nl (w:=Jr) (op:=4) (.inl ⟨rfl,rfl,rfl⟩) h.2.1 k2 H.2.1 (h2k h3)
 have h1:QG 1 (Qnb t) (n+1):=WP (by decide) k7 fun D S _ hK=>UY (ops:=[(Qkj,9)]) (by unfold Qji;simp) (h1k h2) k2 D S hK
 have h0:QG 0 (orS t) (n+1):=WP (by decide) k1 fun D S _ hK=>UY (ops:=[(wOr,10)]) (by unfold Qji;simp) (h0k h1) k7 D S hK
 exact⟨h0,h2,h6⟩
theorem VB (k:Int)(P:Ps):QG k P 0:=by
 intro h0 h g W s D S R hK
 exact absurd S.len (Nat.not_lt_zero _)
theorem QjU (n:Nat):QG 0 (Xm n).o n∧QG 2 (Xm n).n n∧QG 6 (Xm n).u n:=by
 induction n with
 | zero=>exact⟨VB _ _,VB _ _,VB _ _⟩
 | succ n ih=>rw [Mw];exact Qi5 (Ut n) ih
end Go.Proofs.YtgmplfdecikgoaaGreatDoor
namespace Go.Proofs.YtgmplfdecikgoaaGreatDoor
open Go Go.Vc
def Vj (u0:Option Addr)(u1 u2:Nat)(u3:Option Addr)(u4 u5:Nat)(u6:Option Addr)(u7 u8:Nat)(u9:Int)(u10:Int)(u11:Int)(u12:Int)(h:Hp)(R:Value→Hp→Prop):Prop:=
 (((bif (decide ((u1:Int) < 1)) then true else(decide ((u1:Int) > 4)))=true→R (vi 2) h)∧((bif (decide ((u1:Int) < 1)) then true else(decide ((u1:Int) > 4)))=false→(∃(I3:List Value→Hp→Prop) (m4:List Value→Hp→Nat),I3 [vi 0] h∧∀ vs5 h6,I3 vs5 h6→∃ x7,vs5=[vi x7]∧(((decide (x7 < (u1:Int)))=true→(let J24:Hp→Prop:=fun h25=>(∃ x26,(IsW x26 (x7+1))∧(I3 [vi x26] h25∧m4 [vi x26] h25 < m4 vs5 h6));(∃ b10 o11,(u0=some ⟨b10,o11,none⟩∧(0:Int)≤x7∧x7 < (u1:Int))∧(∃ x12 a13 n13 c13,(Hp.row h6 b10 (o11+x7.toNat*2) 2=some [vi x12,vsl a13 n13 c13])∧(((bif (bif (decide (x12 < 1)) then true else(decide (x12 > 5))) then true else(bif (decide (x12=1)) then(decide ((n13:Int) > 0)) else false))=true→R (vi 3) h6)∧((bif (bif (decide (x12 < 1)) then true else(decide (x12 > 5))) then true else(bif (decide (x12=1)) then(decide ((n13:Int) > 0)) else false))=false→(let J17:Int→Prop:=fun x18=>(((decide (x12 > 1))=true→(Qa Tryz.prog 117 [vsl a13 n13 c13,vi x18] h6 fun v19 h20=>∃ x21,v19=(vi x21)∧(((decide (x21 > 0))=true→R (vi x21) h20)∧((decide (x21 > 0))=false→(J24 h20)))))∧((decide (x12 > 1))=false→(J24 h6)));(((decide (x12=2))=true→(J17 0))∧((decide (x12=2))=false→(J17 1))))))))))∧((decide (x7 < (u1:Int)))=false→(let J32:Hp→Prop:=fun h33=>(let J39:Hp→Prop:=fun h40=>(((bif (bif (bif (bif (bif (bif (bif (decide (u9 < 1)) then true else(decide (u9 > 1000))) then true else(decide (u10 < 1))) then true else(decide (u10 > 1000))) then true else(decide (u11 < 0))) then true else(decide (u11 > 1000))) then true else(decide (u12 < 0))) then true else(decide (u12 > 1000)))=true→R (vi 1) h40)∧((bif (bif (bif (bif (bif (bif (bif (decide (u9 < 1)) then true else(decide (u9 > 1000))) then true else(decide (u10 < 1))) then true else(decide (u10 > 1000))) then true else(decide (u11 < 0))) then true else(decide (u11 > 1000))) then true else(decide (u12 < 0))) then true else(decide (u12 > 1000)))=false→(∃ x42,((decide (u10 > u9))=false→IsW x42 (4*u10))∧(((bif (decide (u10 > u9)) then true else(decide (u9 > x42)))=true→R (vi 3) h40)∧((bif (decide (u10 > u9)) then true else(decide (u9 > x42)))=false→R (vi 0) h40)))));(((decide ((u7:Int) > 0))=true→(Qa Tryz.prog 117 [vsl u6 u7 u8,vi 0] h33 fun v34 h35=>∃ x36,v34=(vi x36)∧(((decide (x36 > 0))=true→R (vi x36) h35)∧((decide (x36 > 0))=false→(J39 h35)))))∧((decide ((u7:Int) > 0))=false→(J39 h33))));(((decide ((u4:Int) > 0))=true→(Qa Tryz.prog 117 [vsl u3 u4 u5,vi 2] h6 fun v27 h28=>∃ x29,v27=(vi x29)∧(((decide (x29 > 0))=true→R (vi x29) h28)∧((decide (x29 > 0))=false→(J32 h28)))))∧((decide ((u4:Int) > 0))=false→(J32 h6)))))))))
theorem Qde {u0 u1 u2 u3 u4 u5 u6 u7 u8 u9 u10 u11 u12 h R}(H:Vj u0 u1 u2 u3 u4 u5 u6 u7 u8 u9 u10 u11 u12 h R):Qa Tryz.prog 71 [vag [vsl u0 u1 u2,vsl u3 u4 u5,vsl u6 u7 u8,vi u9,vi u10,vi u11,vi u12]] h R:=
 Qd (cfg:=⟨[],[(4,([3],[.one (.int .i64)],[]))],[]⟩) Qo mixed Tryz.func71 [.ag [.v (vsl u0 u1 u2),.v (vsl u3 u4 u5),.v (vsl u6 u7 u8),.v (vi u9),.v (vi u10),.v (vi u11),.v (vi u12)]] (by kernel_rfl) rfl (by kernel_rfl) H
def Qe3 (u0:Option Addr)(u1 u2:Nat)(u3:Int)(h:Hp)(R:Value→Hp→Prop):Prop:=
 (Qa Tryz.prog 153 [vsl u0 u1 u2] h fun v1 h2=>∃ x3,v1=(vi x3)∧(((decide (x3 > 0))=true→R (vi x3) h2)∧((decide (x3 > 0))=false→(Qa Tryz.prog 154 [vsl u0 u1 u2] h2 fun v5 h6=>∃ x7 x8,v5=(Qf [vi x7,vi x8])∧(((decide (x8 > 0))=true→R (vi x8) h6)∧((decide (x8 > 0))=false→(((bif (bif (decide (u3 > 0)) then(decide (x7≠u3)) else false) then(decide (x7 > 0)) else false)=true→R (vi 3) h6)∧((bif (bif (decide (u3 > 0)) then(decide (x7≠u3)) else false) then(decide (x7 > 0)) else false)=false→R (vi 0) h6))))))))
theorem Qj8 {u0 u1 u2 u3 h R}(H:Qe3 u0 u1 u2 u3 h R):Qa Tryz.prog 117 [vsl u0 u1 u2,vi u3] h R:=
 Qd (cfg:=⟨[],[],[]⟩) Qo mixed Tryz.func117 [.one (.v (vsl u0 u1 u2)),.one (.v (vi u3))] (by kernel_rfl) rfl (by kernel_rfl) H
open Go.Txt
theorem QnU (l:List Nd):0≤(Zk l).2:=by
 unfold Zk
 split
 ·exact Int.le_refl _
 ·show (0:Int)≤3
  decide
theorem Qal {a:Option Addr}{k c:Nat}{l:List Nd}{kind:Int}(h0:0≤kind){h:Hp}{R:Value→Hp→Prop}(S:SlP Zo h a k l)(hl:l.length≤1000000)(hK:∀ h',h.le h'→R (vi (Zr l kind)) h'):Qa Tryz.prog 117 [vsl a k c,vi kind] h R:=by
 refine Qj8 ?_
 unfold Qe3
 unfold Zr at hK
 have e2:=QkJ l
 have t2:=QnU l
 refine Qfb S fun h2 l2=>⟨_,rfl,fun e=>?_,fun e=>?_⟩
 ·have e:=of_decide_eq_true e
  rw [if_pos (by omega)] at hK
  exact hK h2 l2
 ·have e:=of_decide_eq_false e
  have ez:YL l=0:=by omega
  rw [if_neg (by omega)] at hK
  have O:=(Z4 ez).1
  have tn:=Qmp O
  refine QlW (S.le l2) O.wf O.pos hl ⟨_,_,rfl,fun q=>?_,fun q=>?_⟩
  ·have q:=of_decide_eq_true q
   rw [if_pos (by omega)] at hK
   exact hK h2 l2
  ·have q:=of_decide_eq_false q
   rw [if_neg (by omega)] at hK
   rw [ZJ,ZJ]
   refine⟨fun q2=>?_,fun q2=>?_⟩
   ·have q2:=of_decide_eq_true q2
    rw [if_pos (by omega)] at hK
    exact hK h2 l2
   ·have q2:=of_decide_eq_false q2
    rw [if_neg (by omega)] at hK
    exact hK h2 l2
theorem Uk (l:List Nd)(k:Int):0≤Zr l k:=by
 have e2:=QkJ l
 have t2:=QnU l
 unfold Zr
 split
 ·exact e2
 ·split
  ·exact t2
  ·split<;>decide
theorem QcZ {q:Qy}{a1:Option Addr}{n1 c1:Nat}{a2:Option Addr}{n2 c2:Nat}{a3:Option Addr}{n3 c3:Nat}{h:Hp}{R:Value→Hp→Prop}(Q:QAt h q a1 n1 a2 n2 a3 n3)(B:QjR q)(hK:∀ h',h.le h'→R (vi (Ul q)) h'):Qa Tryz.prog 71 [qV a1 n1 c1 a2 n2 c2 a3 n3 c3 q] h R:=by
 refine Qde ?_
 unfold Vj
 have hn1:=Q.g.len
 have hn2:=Q.w.1
 have hn3:=Q.b.1
 have hB:=B.n
 rw [cor]
 refine⟨fun e=>?_,fun e=>?_⟩
 ·have e:=of_decide_eq_true e
  have:Ul q=2:=by unfold Ul;rw [if_pos (by omega)]
  rw [this] at hK
  exact hK h (Hp.le_refl h)
 have e:=of_decide_eq_false e
 have hq:Ul q=if Q4 (q.aggs.map Xs)≠0 then Q4 (q.aggs.map Xs) else Qgl q:=by unfold Ul;rw [if_neg (by omega)]
 rw [hq] at hK
 clear hq
 refine⟨fun vs' hh=>h.le hh∧∃ i:Nat,vs'=[vi i]∧i≤n1∧∀ y ∈ q.aggs.take i,Xs y=0,fun vs' hh=>n1 - (Qn vs' 0).toNat,⟨Hp.le_refl h,0,rfl,Nat.zero_le _,by simp⟩,?_⟩
 rintro vs' hh ⟨lh,i,rfl,hi,hz⟩
 refine⟨i,rfl,fun g=>?_,fun g=>?_⟩
 ·have hlt:i < n1:=by have:=of_decide_eq_true g;omega
  have hlt2:i < q.aggs.length:=by omega
  have hx:q.aggs[i]?=some q.aggs[i]:=List.getElem?_eq_getElem hlt2
  have hbig:=B.g _ (List.mem_of_getElem? hx)
  have hall:=@Qix _ q.aggs Xs i hlt2 hz
  generalize q.aggs[i]=y at hx hbig hall
  obtain⟨k,l⟩:=y
  obtain⟨b,o,a',c',ha,hrow,hS⟩:=(Q.g.le lh).row Wt (by decide) hx
  have bad:∀ f,f≠0→Xs (k,l)=f→∀ h',h.le h'→R (vi f) h':=by
   intro f hf hk h' l'
   have h1:=Qgt (g:=Xs) hz hx (by rw [hk];exact hf)
   rw [h1,hk,if_pos hf] at hK
   exact hK h' l'
  intro J25
  refine⟨b,o,⟨ha,by omega,by omega⟩,k,a',l.length,c',by rw [Int.toNat_natCast];exact hrow,?_⟩
  have good:Xs (k,l)=0→∀ h',h.le h'→J25 h':=fun hk h' l'=>⟨_,isW (by unfold InR;omega),⟨l',i+1,rfl,by omega,hall hk⟩,by simp [Qn];omega⟩
  clear_value J25
  rw [cor,ZJ,cor]
  have hnil:l≠[]↔(l.length:Int) > 0:=by rw [ne_eq,Xy];omega
  refine⟨fun g2=>?_,fun g2=>?_⟩
  ·have g2:=of_decide_eq_true g2
   refine bad 3 (by decide) ?_ hh lh
   unfold Xs
   rw [if_pos (by simp only [hnil];omega)]
  ·have g2:=of_decide_eq_false g2
   intro J17
   have hJ:J17 (if k=2 then 0 else 1):=by
    refine⟨fun g3=>?_,fun g3=>?_⟩
    ·have g3:=of_decide_eq_true g3
     have hf:Xs (k,l)=Zr l (if k=2 then 0 else 1):=by
      unfold Xs
      rw [if_neg (by simp only [hnil];omega),if_neg (by show ¬ k=1;omega)]
     have t2:=Uk l (if k=2 then 0 else 1)
     refine Qal (by split<;>decide) hS hbig fun h' l'=>⟨_,rfl,fun g4=>?_,fun g4=>?_⟩
     ·have g4:=of_decide_eq_true g4
      exact bad _ (by omega) hf h' (Hp.le_trans lh l')
     ·have g4:=of_decide_eq_false g4
      exact good (by rw [hf];omega) h' (Hp.le_trans lh l')
    ·have g3:=of_decide_eq_false g3
     refine good ?_ hh lh
     unfold Xs
     rw [if_neg (by simp only [hnil];omega),if_pos (by show k=1;omega)]
   clear_value J17
   refine⟨fun g4=>?_,fun g4=>?_⟩
   ·rw [if_pos (of_decide_eq_true g4)] at hJ;exact hJ
   ·rw [if_neg (of_decide_eq_false g4)] at hJ;exact hJ
 ·have hge:i=n1:=by have:=of_decide_eq_false g;omega
  have hz0:Q4 (q.aggs.map Xs)=0:=Ju (by
   intro x hx
   obtain⟨y,hy,rfl⟩:=List.mem_map.1 hx
   exact hz y (by rw [List.take_of_length_le (by omega)];exact hy))
  rw [hz0,if_neg (fun h=>h rfl)] at hK
  unfold Qgl at hK
  have Q:=Q.le lh
  intro J33
  have hJ33:∀ h',hh.le h'→(if q.wh=[] then 0 else Zr q.wh 2)=0→J33 h':=by
   intro h' l' hw
   rw [hw,Q4,if_neg (fun h=>h rfl)] at hK
   unfold J33
   intro J40
   have hJ40:∀ h2,h'.le h2→(if q.by_=[] then 0 else Zr q.by_ 0)=0→J40 h2:=by
    intro h2 l2 hb
    rw [hb,Q4,if_neg (fun h=>h rfl)] at hK
    have hK:=hK h2 (Hp.le_trans lh (Hp.le_trans l' l2))
    rw [Q4,Q4] at hK
    have hnum:Ky q=if ((((((q.size < 1∨q.size > 1000)∨q.slide < 1)∨q.slide > 1000)∨q.delay < 0)∨q.delay > 1000)∨q.late < 0)∨q.late > 1000 then 1 else if q.slide > q.size∨q.size > 4*q.slide then 3 else 0:=by
     unfold Ky
     simp only [or_assoc]
    show (_∧_)
    simp only [cor]
    refine⟨fun g2=>?_,fun g2=>?_⟩
    ·rw [if_pos (of_decide_eq_true g2)] at hnum
     rw [hnum,if_pos (by decide)] at hK
     exact hK
    ·have g3:=of_decide_eq_false g2
     rw [if_neg g3] at hnum
     refine⟨4*q.slide,fun _=>isW (by unfold InR;omega),fun g4=>?_,fun g4=>?_⟩
     ·rw [if_pos (of_decide_eq_true g4)] at hnum
      rw [hnum,if_pos (by decide)] at hK
      exact hK
     ·rw [if_neg (of_decide_eq_false g4)] at hnum
      rw [hnum,if_neg (by decide)] at hK
      exact hK
   clear_value J40
   refine⟨fun g2=>?_,fun g2=>?_⟩
   ·have hne:¬ q.by_=[]:=by have:=of_decide_eq_true g2;rw [Xy];omega
    rw [if_neg hne] at hJ40 hK
    have t2:=Uk q.by_ 0
    refine Qal (by decide) (Q.le l').b B.b fun h2 l2=>⟨_,rfl,fun g4=>?_,fun g4=>?_⟩
    ·have g4:=of_decide_eq_true g4
     rw [Q4,if_pos (by omega)] at hK
     exact hK h2 (Hp.le_trans lh (Hp.le_trans l' l2))
    ·have g4:=of_decide_eq_false g4
     exact hJ40 h2 l2 (by omega)
   ·have hnil:q.by_=[]:=by have:=of_decide_eq_false g2;rw [Xy];omega
    exact hJ40 h' (Hp.le_refl h') (if_pos hnil)
  clear_value J33
  refine⟨fun g2=>?_,fun g2=>?_⟩
  ·have hne:¬ q.wh=[]:=by have:=of_decide_eq_true g2;rw [Xy];omega
   rw [if_neg hne] at hJ33 hK
   have t2:=Uk q.wh 2
   refine Qal (by decide) Q.w B.w fun h2 l2=>⟨_,rfl,fun g4=>?_,fun g4=>?_⟩
   ·have g4:=of_decide_eq_true g4
    rw [Q4,if_pos (by omega)] at hK
    exact hK h2 (Hp.le_trans lh l2)
   ·have g4:=of_decide_eq_false g4
    exact hJ33 h2 l2 (by omega)
  ·have hnil:q.wh=[]:=by have:=of_decide_eq_false g2;rw [Xy];omega
   exact hJ33 hh (Hp.le_refl hh) (if_pos hnil)
end Go.Proofs.YtgmplfdecikgoaaGreatDoor
namespace Go.Proofs.YtgmplfdecikgoaaGreatDoor
open Go Go.Vc
def QbA (u0:ByteArray)(h:Hp)(R:Value→Hp→Prop):Prop:=
 (((decide ((((ByteArray.size u0:Nat):Int):Int) > 240))=true→R (Qf [vsl none 0 0,vi 2]) h)∧((decide ((((ByteArray.size u0:Nat):Int):Int) > 240))=false→(∃(I3:List Value→Hp→Prop) (m4:List Value→Hp→Nat),I3 [vsl none 0 0,vi 0] h∧∀ vs5 h6,I3 vs5 h6→∃ a7 n7 c7 x8,vs5=[vsl a7 n7 c7,vi x8]∧(((decide (x8 < ((ByteArray.size u0:Nat):Int)))=true→(∃ x11,(Rd Tryz.prog (Instr.index 9 (vs u0) (vi x8)) h6 (vk .u8 x11))∧(((decide (x11=32))=true→(∃ x12,(IsW x12 (x8+1))∧(I3 [vsl a7 n7 c7,vi x12] h6∧m4 [vsl a7 n7 c7,vi x12] h6 < m4 vs5 h6)))∧((decide (x11=32))=false→(∃(I15:List Value→Hp→Prop) (m16:List Value→Hp→Nat),I15 [vi x8] h6∧∀ vs17 h18,I15 vs17 h18→∃ x19,vs17=[vi x19]∧(∃ x20,((decide (x19 < ((ByteArray.size u0:Nat):Int)))=true→Rd Tryz.prog (Instr.index 9 (vs u0) (vi x19)) h18 (vk .u8 x20))∧(∃ x21,((bif (decide (x19 < ((ByteArray.size u0:Nat):Int))) then(decide (x20≥97)) else false)=true→Rd Tryz.prog (Instr.index 9 (vs u0) (vi x19)) h18 (vk .u8 x21))∧(((bif (bif (decide (x19 < ((ByteArray.size u0:Nat):Int))) then(decide (x20≥97)) else false) then(decide (x21≤122)) else false)=true→(∃ x24,(IsW x24 (x19+1))∧(I15 [vi x24] h18∧m16 [vi x24] h18 < m16 vs17 h18)))∧((bif (bif (decide (x19 < ((ByteArray.size u0:Nat):Int))) then(decide (x20≥97)) else false) then(decide (x21≤122)) else false)=false→(let J37:Int→Hp→Prop:=fun x39 h40=>(∃ x41,((decide (x39=x8))=true→IsW x41 (x39+1))∧(∃ x42,((bif (decide (x39=x8)) then(decide (x41 < ((ByteArray.size u0:Nat):Int))) else false)=true→IsW x42 (x39+2))∧(∃ s43,((bif (decide (x39=x8)) then(decide (x41 < ((ByteArray.size u0:Nat):Int))) else false)=true→Rd Tryz.prog (Instr.sliceAt 9 (vs u0) (some (vi x39)) (some (vi x42)) none) h40 (vs s43))∧(∃ p44,((bif (decide (x39=x8)) then(decide (x41 < ((ByteArray.size u0:Nat):Int))) else false)=true→Rd Tryz.prog ((eqGuard .eql 9 (.tmp 77) (.const (vs ⟨#[60,61]⟩)) (vs s43) (vs ⟨#[60,61]⟩) >>= fun _=>binOp .eql 9 (vs s43) (vs ⟨#[60,61]⟩))) h40 (vb p44))∧(∃ x45,(((bif (decide (x39=x8)) then(decide (x41 < ((ByteArray.size u0:Nat):Int))) else false)=true∧p44=false)→IsW x45 (x39+2))∧(∃ s46,(((bif (decide (x39=x8)) then(decide (x41 < ((ByteArray.size u0:Nat):Int))) else false)=true∧p44=false)→Rd Tryz.prog (Instr.sliceAt 9 (vs u0) (some (vi x39)) (some (vi x45)) none) h40 (vs s46))∧(∃ p47,(((bif (decide (x39=x8)) then(decide (x41 < ((ByteArray.size u0:Nat):Int))) else false)=true∧p44=false)→Rd Tryz.prog ((eqGuard .eql 9 (.tmp 84) (.const (vs ⟨#[62,61]⟩)) (vs s46) (vs ⟨#[62,61]⟩) >>= fun _=>binOp .eql 9 (vs s46) (vs ⟨#[62,61]⟩))) h40 (vb p47))∧(∃ x48,(((bif (decide (x39=x8)) then(decide (x41 < ((ByteArray.size u0:Nat):Int))) else false)=true∧(bif p44 then true else p47)=false)→IsW x48 (x39+2))∧(∃ s49,(((bif (decide (x39=x8)) then(decide (x41 < ((ByteArray.size u0:Nat):Int))) else false)=true∧(bif p44 then true else p47)=false)→Rd Tryz.prog (Instr.sliceAt 9 (vs u0) (some (vi x39)) (some (vi x48)) none) h40 (vs s49))∧(∃ p50,(((bif (decide (x39=x8)) then(decide (x41 < ((ByteArray.size u0:Nat):Int))) else false)=true∧(bif p44 then true else p47)=false)→Rd Tryz.prog ((eqGuard .eql 9 (.tmp 92) (.const (vs ⟨#[60,62]⟩)) (vs s49) (vs ⟨#[60,62]⟩) >>= fun _=>binOp .eql 9 (vs s49) (vs ⟨#[60,62]⟩))) h40 (vb p50))∧(let J54:Int→Prop:=fun x55=>(let J59:Int→Prop:=fun x60=>(((decide (x60=x8))=true→R (Qf [vsl none 0 0,vi 4]) h40)∧((decide (x60=x8))=false→(∃ s62,(Rd Tryz.prog (Instr.sliceAt 9 (vs u0) (some (vi x8)) (some (vi x60)) none) h40 (vs s62))∧(∀ b63,h40 b63=none→let h64:= Hp.set h40 b63 (Qc [vs s62] 9);(Ql Tryz.prog (Builtin.append_ #[75,75] 75 #[vsl a7 n7 c7,(vsl (some (⟨b63,0,none⟩:Addr)) 1 1)]) h64 fun v65 h66=>∃ a67 n67 c67,v65=(vsl a67 n67 c67)∧(((decide ((n67:Int) > 80))=true→R (Qf [vsl none 0 0,vi 2]) h66)∧((decide ((n67:Int) > 80))=false→(I3 [vsl a67 n67 c67,vi x60] h66∧m4 [vsl a67 n67 c67,vi x60] h66 < m4 vs5 h6))))))));(((bif (decide (x55=x8)) then(bif (bif (bif (bif (bif (bif (bif (bif (decide (x11=40)) then true else(decide (x11=41))) then true else(decide (x11=44))) then true else(decide (x11=42))) then true else(decide (x11=43))) then true else(decide (x11=45))) then true else(decide (x11=60))) then true else(decide (x11=62))) then true else(decide (x11=61))) else false)=true→(∃ x56,(IsW x56 (x55+1))∧(J59 x56)))∧((bif (decide (x55=x8)) then(bif (bif (bif (bif (bif (bif (bif (bif (decide (x11=40)) then true else(decide (x11=41))) then true else(decide (x11=44))) then true else(decide (x11=42))) then true else(decide (x11=43))) then true else(decide (x11=45))) then true else(decide (x11=60))) then true else(decide (x11=62))) then true else(decide (x11=61))) else false)=false→(J59 x55))));(((bif (bif (decide (x39=x8)) then(decide (x41 < ((ByteArray.size u0:Nat):Int))) else false) then(bif (bif p44 then true else p47) then true else p50) else false)=true→(∃ x51,(IsW x51 (x39+2))∧(J54 x51)))∧((bif (bif (decide (x39=x8)) then(decide (x41 < ((ByteArray.size u0:Nat):Int))) else false) then(bif (bif p44 then true else p47) then true else p50) else false)=false→(J54 x39))))))))))))));(((decide (x19=x8))=true→(∃(I26:List Value→Hp→Prop) (m27:List Value→Hp→Nat),I26 [vi x19] h18∧∀ vs28 h29,I26 vs28 h29→∃ x30,vs28=[vi x30]∧(∃ x31,((decide (x30 < ((ByteArray.size u0:Nat):Int)))=true→Rd Tryz.prog (Instr.index 9 (vs u0) (vi x30)) h29 (vk .u8 x31))∧(∃ x32,((bif (decide (x30 < ((ByteArray.size u0:Nat):Int))) then(decide (x31≥48)) else false)=true→Rd Tryz.prog (Instr.index 9 (vs u0) (vi x30)) h29 (vk .u8 x32))∧(((bif (bif (decide (x30 < ((ByteArray.size u0:Nat):Int))) then(decide (x31≥48)) else false) then(decide (x32≤57)) else false)=true→(∃ x35,(IsW x35 (x30+1))∧(I26 [vi x35] h29∧m27 [vi x35] h29 < m27 vs28 h29)))∧((bif (bif (decide (x30 < ((ByteArray.size u0:Nat):Int))) then(decide (x31≥48)) else false) then(decide (x32≤57)) else false)=false→(J37 x30 h29)))))))∧((decide (x19=x8))=false→(J37 x19 h18)))))))))))))∧((decide (x8 < ((ByteArray.size u0:Nat):Int)))=false→R (Qf [vsl a7 n7 c7,vi 0]) h6)))))
theorem QhU {u0 h R}(H:QbA u0 h R):Qa Tryz.prog 65 [vs u0] h R:=
 Qd (cfg:=⟨[],[(10,([7],[.one (.int .i64)],[])),(13,([7],[.one (.int .i64)],[])),(5,([4,5],[.one (.slice),.one (.int .i64)],[]))],[]⟩) Qo mixed Tryz.func65 [.one (.v (vs u0))] (by kernel_rfl) rfl (by kernel_rfl) H
theorem GD {c:UInt8}:ZB c=97↔isL c=true:=by
 unfold ZB
 cases isL c<;>cases Wh c<;>cases isS c<;>simp
theorem N6 {c:UInt8}:ZB c=48↔isL c=false∧Wh c=true:=by
 unfold ZB
 cases isL c<;>cases Wh c<;>cases isS c<;>simp
theorem Qlx {c:UInt8}:ZB c=40↔isL c=false∧Wh c=false∧isS c=true:=by
 unfold ZB
 cases isL c<;>cases Wh c<;>cases isS c<;>simp
theorem Qlj {c:UInt8}:ZB c=32↔isL c=false∧Wh c=false∧isS c=false:=by
 unfold ZB
 cases isL c<;>cases Wh c<;>cases isS c<;>simp
theorem Qmr {c:UInt8}(h:Wh c=true):isL c=false:=by
 unfold Wh at h
 unfold isL
 simp at h ⊢
 omega
theorem QjN:(fun c=>ZB c == 97)=isL:=by
 funext c
 cases h:isL c with
 | true=>simp [GD.2 h]
 | false=>simp only [beq_eq_false_iff_ne,ne_eq];intro h';rw [GD.1 h'] at h;cases h
theorem Ql1:(fun c=>ZB c == 48)=Wh:=by
 funext c
 cases h:Wh c with
 | true=>simp [N6.2 ⟨Qmr h,h⟩]
 | false=>simp only [beq_eq_false_iff_ne,ne_eq];intro h';rw [(N6.1 h').2] at h;cases h
theorem QoR (c:UInt8):(decide (((c.toNat:Nat):Int)≥97)&&decide (((c.toNat:Nat):Int)≤122))=isL c:=by
 unfold isL
 congr 1<;>exact decide_eq_decide.2 (by omega)
theorem Qnm (c:UInt8):(decide (((c.toNat:Nat):Int)≥48)&&decide (((c.toNat:Nat):Int)≤57))=Wh c:=by
 unfold Wh
 congr 1<;>exact decide_eq_decide.2 (by omega)
theorem NF (c d:UInt8):decide (((c.toNat:Nat):Int)=((d.toNat:Nat):Int))=(c == d):=by
 by_cases h:c=d
 ·subst h;simp
 ·have:¬((c.toNat:Nat):Int)=(d.toNat:Nat):=fun e=>h (Qgz.1 e)
  rw [decide_eq_false this]
  symm
  simpa using h
theorem Ql4 {l:List UInt8}{i:Nat}(h:i+1 < l.length):(l.drop i).take 2=[l.getD i 0,l.getD (i+1) 0]:=by
 rw [Md (by omega),Md (n:=i+1) h]
 rfl
theorem Qhj {l:List UInt8}{h:Hp}{R:Value→Hp→Prop}(hK:∀ a n c h',Qh h h' 9 1 a n c ((Zm l).1.flatMap JR)→R (Qf [vsl a n c,vi (Zm l).2]) h') :
  Qa Tryz.prog 65 [vs (bs l)] h R:=by
 refine QhU ?_
 unfold QbA
 rw [Y5]
 refine⟨fun e=>?_,fun e=>?_⟩
 ·have:Zm l=([],2):=by unfold Zm;rw [if_pos (by simp at e;omega)]
  rw [this] at hK
  exact hK none 0 0 h (Qh.nil (Hp.le_refl h) _ _)
 have hl:l.length≤240:=by simp at e;omega
 have hw:Zm l=JN l (l.length+1) 0 []:=by unfold Zm;rw [if_neg (by omega)]
 refine⟨fun vs hh=>∃(k i:Nat) (acc:List (List UInt8)) (a:Option Addr) (n c:Nat),vs=[vsl a n c,vi i]∧l.length < i+k∧i≤l.length∧JN l k i acc=Zm l∧Qh h hh 9 1 a n c (acc.flatMap JR)∧acc.length≤80,
  fun vs hh=>l.length - (Qn vs 1).toNat,⟨l.length+1,0,[],none,0,0,rfl,by omega,by omega,hw.symm,Qh.nil (Hp.le_refl h) _ _,by simp⟩,?_⟩
 rintro vs hh ⟨k,i,acc,a,n,c,rfl,hk,hi,hf,O,hacc⟩
 have hn:n=acc.length:=(O.slp Yi (by decide)).1
 refine⟨a,n,c,i,rfl,fun e=>?_,fun e=>?_⟩
 ·have hlt:i < l.length:=by simpa using e
  obtain⟨k,rfl⟩:∃ k',k=k'+1:=⟨k - 1,by omega⟩
  rw [JN,if_neg (by omega)] at hf
  refine⟨_,Ki (by kernel_rfl) (by omega) (by omega),?_⟩
  rw [Int.toNat_natCast]
  generalize hc0:l.getD i 0=c0 at *
  have h32:decide (((c0.toNat:Nat):Int)=32)=(c0 == 32):=NF c0 32
  rw [h32]
  refine⟨fun e=>?_,fun e=>?_⟩
  ·rw [if_pos (by simpa using e)] at hf
   exact⟨_,isW (by unfold InR;omega),⟨k,i+1,acc,a,n,c,rfl,by omega,by omega,hf,O,hacc⟩,by simp [Qn];omega⟩
  rw [if_neg (by simpa using e)] at hf
  have gidx:∀{h':Hp} (m:Nat),m < l.length→Rd Tryz.prog (Instr.index 9 (vs (bs l)) (vi (m:Nat))) h' (vk .u8 ((l.getD m 0).toNat:Nat)):=by
   intro h' m hm
   have:=Ki (P:=Tryz.prog) (h:=h') (t:=9) (by kernel_rfl) (l:=l) (i:=(m:Nat)) (by omega) (by omega)
   rwa [Int.toNat_natCast] at this
  have g1:=Qkx l i
  have g2:=QkA hlt
  refine⟨fun vs h'=>h'=hh∧∃ m:Nat,vs=[vi m]∧i≤m∧m≤l.length∧m+U2 isL (l.drop m)=i+U2 isL (l.drop i),fun vs hh=>l.length - (Qn vs 0).toNat,⟨rfl,i,rfl,Nat.le_refl _,hi,rfl⟩,?_⟩
  rintro vs hh2 ⟨rfl,m,rfl,him,hml,hrun⟩
  -- what is read at m
  refine⟨m,rfl,((l.getD m 0).toNat:Nat),fun e=>gidx m (by have:=of_decide_eq_true e;omega),((l.getD m 0).toNat:Nat),fun e=>gidx m (by
   by_cases q:m < l.length
   ·exact q
   ·have:decide (((m:Nat):Int) < (l.length:Nat))=false:=decide_eq_false (by omega)
    rw [this] at e;simp at e),?_⟩
  have hcond:(bif (bif (decide (((m:Nat):Int) < (l.length:Nat))) then(decide ((((l.getD m 0).toNat:Nat):Int)≥97)) else false) then(decide ((((l.getD m 0).toNat:Nat):Int)≤122)) else false)=(decide (m < l.length)&&isL (l.getD m 0)):=by
   rw [←QoR]
   by_cases q:m < l.length
   ·rw [decide_eq_true (show ((m:Nat):Int) < (l.length:Nat) by omega),decide_eq_true q,cond_true,Bool.true_and,Bool.and_eq_decide,Bool.cond_eq_ite]
    by_cases q2:((l.getD m 0).toNat:Int)≥97<;>by_cases q3:((l.getD m 0).toNat:Int)≤122<;>simp only [decide_eq_true,decide_eq_false,q2,q3,if_true,if_false,not_false_eq_true,and_self,and_true,true_and,false_and,and_false,decide_true,decide_false,Bool.false_eq_true]
   ·rw [decide_eq_false (show ¬((m:Nat):Int) < (l.length:Nat) by omega),decide_eq_false q]
    rfl
  rw [hcond]
  refine⟨fun e=>?_,fun e=>?_⟩
  ·have hm:m < l.length∧isL (l.getD m 0)=true:=by rw [Bool.and_eq_true,decide_eq_true_eq] at e;exact e
   rw [GH hm.1 hm.2] at hrun
   exact⟨_,isW (by unfold InR;omega),⟨rfl,m+1,rfl,by omega,by omega,by omega⟩,by simp [Qn];omega⟩
  have hrun0:U2 isL (l.drop m)=0:=Mm fun q=>by rw [decide_eq_true q,Bool.true_and] at e;exact e
  rw [hrun0] at hrun
  clear hcond e
  intro J37
  -- the end, where the word's end is known
  have tail:∀ J59:Int→Prop,(J59=fun(x60:Int)=>(((decide ((x60:Int)=(i:Nat)))=true→R (Qf [(vsl none 0 0),(vi 4)]) hh2)∧((decide ((x60:Int)=(i:Nat)))=false→(∃(s62:ByteArray),(Rd Tryz.prog (Instr.sliceAt 9 (vs (bs l)) (some (vi (i:Nat))) (some (vi x60)) none) hh2 (vs s62))∧(∀(b63:Nat),hh2 b63=none→let h64:Hp:=Hp.set hh2 b63 (Qc [(vs s62)] 9);(Ql Tryz.prog (Builtin.append_ #[75,75] 75 #[(vsl a n c),(vsl (some (⟨b63,0,none⟩:Addr)) 1 1)]) h64 fun v65 h66=>∃(a67:Option Addr) (n67 c67:Nat),v65=(vsl a67 n67 c67)∧(((decide ((((n67:Nat):Int):Int) > 80))=true→R (Qf [(vsl none 0 0),(vi 2)]) h66)∧((decide ((((n67:Nat):Int):Int) > 80))=false→((∃(k i:Nat) (acc:List (List UInt8)) (a:Option Addr) (n c:Nat),[(vsl a67 n67 c67),(vi x60)]=[vsl a n c,vi i]∧l.length < i+k∧i≤l.length∧JN l k i acc=Zm l∧Qh h h66 9 1 a n c (acc.flatMap JR)∧acc.length≤80)∧l.length - (Qn [(vsl a67 n67 c67),(vi x60)] 1).toNat < l.length - (Qn [vsl a n c,vi (i:Nat)] 1).toNat))))))))) →
    (ZB c0=32→J59 ((i:Nat):Int))∧(ZB c0≠32→J59 ((Ke l i:Nat):Int)):=by
   rintro J59 rfl
   refine⟨fun hk32=>⟨fun _=>?_,fun e=>by simp at e⟩,fun hk32=>⟨fun e=>?_,fun _=>?_⟩⟩
   ·rw [if_pos hk32] at hf
    rw [←hf] at hK
    exact hK none 0 0 hh2 (Qh.nil O.le _ _)
   ·have:=of_decide_eq_true e;omega
   ·rw [if_neg hk32] at hf
    refine⟨_,Qj3 (by kernel_rfl) (by omega) (by omega) (by omega),?_⟩
    rw [Int.toNat_natCast,Int.toNat_natCast]
    intro b hb h24
    refine Qh.append Qm1 (Qh.set hb _ O) (Qg.new _ _ [vs (bs ((l.drop i).take (Ke l i - i)))] _) (m:=1) rfl (by simp [Value.oneCell']) (by omega) (by omega) fun a' c' h' O' _ _=>⟨_,_,_,rfl,fun e=>?_,fun e=>?_⟩
    ·rw [if_pos (by simp at e;omega)] at hf
     rw [←hf] at hK
     exact hK none 0 0 h' (Qh.nil O'.le _ _)
    ·have h80:¬ acc.length+1 > 80:=by simp at e;omega
     rw [if_neg h80] at hf
     refine⟨⟨k,Ke l i,acc++[(l.drop i).take (Ke l i - i)],a',_,c',rfl,by omega,g2,hf,?_,by simp;omega⟩,by simp [Qn];omega⟩
     rw [List.flatMap_append]
     exact O'
  have big:∀ m':Nat,i < m'→m'=Ke l i→ZB c0≠32→J37 (m':Nat) hh2:=by
   intro m' h1 h2 h3
   have hd:decide (((m':Nat):Int)=(i:Nat))=false:=decide_eq_false (by omega)
   refine⟨0,fun e=>by simp [hd] at e,0,fun e=>by simp [hd] at e,bs [],fun e=>by simp [hd] at e,false,fun e=>by simp [hd] at e,0,fun e=>by simp [hd] at e,bs [],fun e=>by simp [hd] at e,false,fun e=>by simp [hd] at e,0,fun e=>by simp [hd] at e,bs [],fun e=>by simp [hd] at e,false,fun e=>by simp [hd] at e,?_⟩
   intro J54
   refine⟨fun e=>by simp [hd] at e,fun _=>?_⟩
   refine⟨fun e=>by simp [hd] at e,fun _=>?_⟩
   rw [h2]
   exact(tail _ rfl).2 h3
  have small:isL c0=false→Wh c0=false→J37 (i:Nat) hh2:=by
   intro hL hD
   have hd:decide (((i:Nat):Int)=(i:Nat))=true:=decide_eq_true rfl
   have e1:((i:Nat):Int)+1=((i+1:Nat):Int):=by omega
   have e2:((i:Nat):Int)+2=((i+2:Nat):Int):=by omega
   have cut:∀{b:Prop},(b→i+1 < l.length)→b→Rd Tryz.prog (Instr.sliceAt 9 (vs (bs l)) (some (vi (i:Nat))) (some (vi ((i+2:Nat):Int))) none) hh2 (vs (bs [c0,l.getD (i+1) 0])):=by
    intro b hb hb'
    have q:=hb hb'
    have:=Qj3 (P:=Tryz.prog) (h:=hh2) (t:=9) (by kernel_rfl) (l:=l) (i:=(i:Nat)) (j:=((i+2:Nat):Int)) (by omega) (by omega) (by omega)
    rw [Int.toNat_natCast,Int.toNat_natCast,show i+2 - i=2 by omega,Ql4 q,hc0] at this
    exact this
   have lt:∀{e:Bool},(bif decide (((i:Nat):Int)=(i:Nat)) then decide (((i+1:Nat):Int) < (l.length:Nat)) else false)=true→i+1 < l.length:=by
    intro _ e
    rw [hd,cond_true] at e
    have:=of_decide_eq_true e
    omega
   have w2:IsW ((i+2:Nat):Int) (((i:Nat):Int)+2):=by rw [e2];exact isW (by unfold InR;omega)
   refine⟨((i+1:Nat):Int),fun _=>by rw [e1];exact isW (by unfold InR;omega),((i+2:Nat):Int),fun _=>w2,_,cut (lt (e:=true)),_,fun _=>Qt (b:=[60,61]),((i+2:Nat):Int),fun _=>w2,_,cut (fun e=>lt (e:=true) e.1),_,fun _=>Qt (b:=[62,61]),
    ((i+2:Nat):Int),fun _=>w2,_,cut (fun e=>lt (e:=true) e.1),_,fun _=>Qt (b:=[60,62]),?_⟩
   intro J54
   have hlen:decide (((i+1:Nat):Int) < (l.length:Nat))=decide (i+1 < l.length):=decide_eq_decide.2 (by omega)
   rw [hd,cond_true,hlen]
   have d40:decide (((c0.toNat:Nat):Int)=40)=(c0 == 40):=NF c0 40
   have d41:decide (((c0.toNat:Nat):Int)=41)=(c0 == 41):=NF c0 41
   have d44:decide (((c0.toNat:Nat):Int)=44)=(c0 == 44):=NF c0 44
   have d42:decide (((c0.toNat:Nat):Int)=42)=(c0 == 42):=NF c0 42
   have d43:decide (((c0.toNat:Nat):Int)=43)=(c0 == 43):=NF c0 43
   have d45:decide (((c0.toNat:Nat):Int)=45)=(c0 == 45):=NF c0 45
   have d60:decide (((c0.toNat:Nat):Int)=60)=(c0 == 60):=NF c0 60
   have d62:decide (((c0.toNat:Nat):Int)=62)=(c0 == 62):=NF c0 62
   have d61:decide (((c0.toNat:Nat):Int)=61)=(c0 == 61):=NF c0 61
   have hsign:(bif (bif (bif (bif (bif (bif (bif (bif (c0 == 40) then true else(c0 == 41)) then true else(c0 == 44)) then true else(c0 == 42)) then true else(c0 == 43)) then true else(c0 == 45)) then true else(c0 == 60)) then true else(c0 == 62)) then true else(c0 == 61))=isS c0:=by
    unfold isS
    cases c0 == 40<;>cases c0 == 41<;>cases c0 == 44<;>cases c0 == 42<;>cases c0 == 43<;>cases c0 == 45<;>cases c0 == 60<;>cases c0 == 62<;>cases c0 == 61<;>rfl
   by_cases hS:isS c0=true
   ·have hk40:ZB c0=40:=Qlx.2 ⟨hL,hD,hS⟩
    have hne:ZB c0≠32:=by omega
    refine⟨fun e=>?_,fun e=>?_⟩
    ·have he:Ke l i=i+2:=by
      unfold Ke
      rw [hc0,if_pos hk40,if_pos ?_]
      by_cases q:i+1 < l.length
      ·refine⟨q,?_⟩
       generalize l.getD (i+1) 0=c1 at e ⊢
       by_cases q1:c0=60<;>by_cases q2:c1=61<;>by_cases q3:c1=62<;>by_cases q4:c0=62<;>simp [q,q1,q2,q3,q4] at e ⊢
      ·simp [q] at e
     refine⟨((i+2:Nat):Int),w2,?_⟩
     have hd2:decide (((i+2:Nat):Int)=(i:Nat))=false:=decide_eq_false (by omega)
     refine⟨fun e=>absurd e (by rw [hd2,cond_false];simp),fun _=>?_⟩
     have:=(tail _ rfl).2 hne
     rw [he] at this
     exact this
    ·have he:Ke l i=i+1:=by
      unfold Ke
      rw [hc0,if_pos hk40,if_neg ?_]
      rintro⟨q,q0⟩
      generalize l.getD (i+1) 0=c1 at e q0
      by_cases q1:c0=60<;>by_cases q2:c1=61<;>by_cases q3:c1=62<;>by_cases q4:c0=62<;>simp [q,q1,q2,q3,q4] at e q0
     refine⟨fun _=>⟨((i+1:Nat):Int),by rw [e1];exact isW (by unfold InR;omega),?_⟩,fun e=>?_⟩
     ·have:=(tail _ rfl).2 hne
      rw [he] at this
      exact this
     ·rw [hd,cond_true,d40,d41,d44,d42,d43,d45,d60,d62,d61,hsign,hS] at e
      cases e
   ·have hS':isS c0=false:=by simpa using hS
    have hk32:ZB c0=32:=Qlj.2 ⟨hL,hD,hS'⟩
    refine⟨fun e=>?_,fun e=>?_⟩
    ·exfalso
     have h60:¬ c0=60:=fun h=>by rw [h] at hS';revert hS';decide
     have h62:¬ c0=62:=fun h=>by rw [h] at hS';revert hS';decide
     simp [h60,h62] at e
    ·refine⟨fun e=>?_,fun e=>(tail _ rfl).1 hk32⟩
     rw [hd,cond_true,d40,d41,d44,d42,d43,d45,d60,d62,d61,hsign,hS'] at e
     cases e
  -- letters, digits, or neither
  by_cases hL:isL c0=true
  ·have hk97:ZB c0=97:=GD.2 hL
   have he:Ke l i=i+U2 isL (l.drop i):=by
    unfold Ke
    rw [hc0,hk97,if_neg (by decide),QjN,GH hlt (by rw [hc0];exact hL)]
    omega
   have hme:m=Ke l i:=by omega
   have hd:decide (((m:Nat):Int)=(i:Nat))=false:=decide_eq_false (by omega)
   refine⟨fun e=>?_,fun _=>big m (by omega) hme (by omega)⟩
   rw [hd] at e;cases e
  ·have hL':isL c0=false:=by simpa using hL
   have hr0:U2 isL (l.drop i)=0:=Mm fun _=>by rw [hc0];exact hL'
   have hmi:m=i:=by omega
   subst hmi
   have hd:decide (((m:Nat):Int)=(m:Nat))=true:=decide_eq_true rfl
   refine⟨fun _=>?_,fun e=>by rw [hd] at e;cases e⟩
   refine⟨fun vs h'=>h'=hh2∧∃ d:Nat,vs=[vi d]∧m≤d∧d≤l.length∧d+U2 Wh (l.drop d)=m+U2 Wh (l.drop m),fun vs hh=>l.length - (Qn vs 0).toNat,⟨rfl,m,rfl,Nat.le_refl _,hi,rfl⟩,?_⟩
   rintro vs hh3 ⟨rfl,d,rfl,hmd,hdl,hrund⟩
   refine⟨d,rfl,((l.getD d 0).toNat:Nat),fun e=>gidx d (by have:=of_decide_eq_true e;omega),((l.getD d 0).toNat:Nat),fun e=>gidx d (by
    by_cases q:d < l.length
    ·exact q
    ·have:decide (((d:Nat):Int) < (l.length:Nat))=false:=decide_eq_false (by omega)
     rw [this] at e;simp at e),?_⟩
   have hcond:(bif (bif (decide (((d:Nat):Int) < (l.length:Nat))) then(decide ((((l.getD d 0).toNat:Nat):Int)≥48)) else false) then(decide ((((l.getD d 0).toNat:Nat):Int)≤57)) else false)=(decide (d < l.length)&&Wh (l.getD d 0)):=by
    rw [←Qnm]
    by_cases q:d < l.length
    ·rw [decide_eq_true (show ((d:Nat):Int) < (l.length:Nat) by omega),decide_eq_true q,cond_true,Bool.true_and,Bool.and_eq_decide,Bool.cond_eq_ite]
     by_cases q2:((l.getD d 0).toNat:Int)≥48<;>by_cases q3:((l.getD d 0).toNat:Int)≤57<;>simp only [decide_eq_true,decide_eq_false,q2,q3,if_true,if_false,not_false_eq_true,and_self,and_true,true_and,false_and,and_false,decide_true,decide_false,Bool.false_eq_true]
    ·rw [decide_eq_false (show ¬((d:Nat):Int) < (l.length:Nat) by omega),decide_eq_false q]
     rfl
   rw [hcond]
   refine⟨fun e=>?_,fun e=>?_⟩
   ·have hm:d < l.length∧Wh (l.getD d 0)=true:=by rw [Bool.and_eq_true,decide_eq_true_eq] at e;exact e
    rw [GH hm.1 hm.2] at hrund
    exact⟨_,isW (by unfold InR;omega),⟨rfl,d+1,rfl,by omega,by omega,by omega⟩,by simp [Qn];omega⟩
   have hrund0:U2 Wh (l.drop d)=0:=Mm fun q=>by rw [decide_eq_true q,Bool.true_and] at e;exact e
   rw [hrund0] at hrund
   by_cases hD:Wh c0=true
   ·have hk48:ZB c0=48:=N6.2 ⟨hL',hD⟩
    have he:Ke l m=m+U2 Wh (l.drop m):=by
     unfold Ke
     rw [hc0,hk48,if_neg (by decide),Ql1,GH hlt (by rw [hc0];exact hD)]
     omega
    exact big d (by omega) (by omega) (by omega)
   ·have hD':Wh c0=false:=by simpa using hD
    have hr1:U2 Wh (l.drop m)=0:=Mm fun _=>by rw [hc0];exact hD'
    have hdm:d=m:=by omega
    subst hdm
    exact small hL' hD'
 ·have hge:i=l.length:=by simp at e;omega
  have:JN l k i acc=(acc,0):=by
   cases k with
   | zero=>rfl
   | succ k=>rw [JN,if_pos (by omega)]
  rw [this] at hf
  rw [←hf] at hK
  exact hK a n c hh O
open Go.Txt
def YQ:List Wd:=[QJ,Kl,Ks,Kn]
def Qg0 (w:Wd):Int:=if w=QJ then 2 else US w
theorem QnZ {i:Nat}(hi:i < 4):YQ.getD i [] ∈ YQ∧YQ.getD i []≠[]∧Qg0 (YQ.getD i [])=(i:Int)+2:=by
 match i,hi with
 | 0,_=>decide
 | 1,_=>decide
 | 2,_=>decide
 | 3,_=>decide
theorem Qou (h:Hp)(b:Nat){i:Nat}(hi:i < 4):(h.set b (Qc [vi 2,vi 3,vi 4,vi 5] 3)).cell b (0+(i:Int).toNat*1)=some (vi ((i:Int)+2)):=by
 match i,hi with
 | 0,_=>exact Qb (Hp.set_same _ _ _) rfl
 | 1,_=>exact Qb (Hp.set_same _ _ _) rfl
 | 2,_=>exact Qb (Hp.set_same _ _ _) rfl
 | 3,_=>exact Qb (Hp.set_same _ _ _) rfl
theorem QU.keep {h0 h h':Hp}{g:Nat}{W:List Wd}{s:RS}(D:QU h0 h g W s)(hb:h' g=h g)(l:h0.le h'):QU h0 h' g W s:=by
 obtain⟨a,c,i,hb',hS,hi,hw⟩:=D.b
 exact⟨⟨a,c,i,hb.trans hb',hS,hi,hw⟩,l,D.z,D.f0,D.n,D.w⟩
structure AgW (h0 h:Hp)(g:Nat)(a:Option Addr)(m c:Nat)(s:RS)(L:List Ag):Prop where
 own:∃ xs,Qh h0 h 96 2 a m c xs
 ne:a≠some ⟨g,0,none⟩
 ok:s.f=0→Ql9 (At g) h0 h a c L∧m=L.length
theorem AgW.mut {h0 h h':Hp}{g:Nat}{a:Option Addr}{m c:Nat}{s:RS}{L:List Ag}(A:AgW h0 h g a m c s L)(hg:h0 g=none)(M:Mut (At g) h (At g) h'):AgW h0 h' g a m c s L:=by
 have hG2:∀ b,At g b→h0 b=none:=fun b e=>by rw [show b=g from e];exact hg
 obtain⟨xs,O⟩:=A.own
 refine⟨⟨xs,⟨fun b o hb=>M.keep b o (fun q=>by rw [hG2 b q] at hb;cases hb) (O.le b o hb),O.own.keep fun b o ha hb=>M.keep b o (fun q=>A.ne (by rw [ha,show b=g from q])) hb,O.new⟩⟩,A.ne,fun hf=>⟨(A.ok hf).1.keep hG2 M.keep,(A.ok hf).2⟩⟩
theorem AgW.state {h0 h:Hp}{g:Nat}{a:Option Addr}{m c:Nat}{s t:RS}{L:List Ag}(A:AgW h0 h g a m c s L)(hh:t.f=0→s.f=0):AgW h0 h g a m c t L:=⟨A.own,A.ne,fun hf=>A.ok (hh hf)⟩
theorem AgW.al {h0 h:Hp}{g:Nat}{a:Option Addr}{m c:Nat}{s:RS}{L:List Ag}(A:AgW h0 h g a m c s L){b:Nat}(ha:a=some ⟨b,0,none⟩):h b≠none:=by
 obtain⟨xs,O⟩:=A.own
 rcases O.own.2 with ⟨q1,_⟩|⟨g',cur,q1,q2,_⟩
 ·rw [q1] at ha;cases ha
 ·rw [q1] at ha;cases ha;rw [q2];simp
theorem QoP {h0 hB h1:Hp}{g:Nat}{a:Option Addr}{m c:Nat}{L:List Ag}{W:List Wd}{s:RS}(A:AgW h0 h1 g a m c s L)(D:QU h0 h1 g W s)(hBg:hB g≠none)(hBa:∀ b,a=some ⟨b,0,none⟩→hB b≠none){k:Int}{a2:Option Addr}{m2 c2:Nat}{l:List Nd}(N:s.f=0→YF hB h1 a2 m2 l)(hL:m≤1000)
  {b:Nat} (hb:h1 b=none) {K:Value→Hp→Prop} (hK:∀ a' c' h',AgW h0 h' g a' (m+1) c' s (L++[(k,l)])→QU h0 h' g W s→K (vsl a' (m+1) c') h') :
  Ql Tryz.prog (Builtin.append_ #[25,25] 25 #[vsl a m c,vsl (some ⟨b,0,none⟩) 1 1]) (h1.set b (Qc [vi k,vsl a2 m2 c2] 96)) K:=by
 obtain⟨o,ho⟩:∃ o,h1 g=some o:=by
  cases e:h1 g with
  | none=>exact absurd e D.al
  | some o=>exact⟨o,rfl⟩
 by_cases hf:s.f=0
 ·obtain⟨B,hm⟩:=A.ok hf
  have N:=N hf
  obtain rfl:=N.s.1
  subst hm
  refine B.app (x:=k) (c2:=c2) QnC (Hp.le_refl h1) (fun b' e=>by rw [show b'=g from e];exact hBg) hBa N.s.2 N.nw ?_ rfl (fun b' e=>by rw [show b'=g from e];exact D.al) (by omega) (by omega) hb fun a' c' h' B' hk=>hK a' c' h' ⟨?_,B'.ne rfl,fun _=>⟨B',by simp⟩⟩ (D.keep ((hk g o ho (B.ne rfl)).trans ho.symm) B'.le0)
  ·intro u hu
   have:u=vi k∨u=vsl a2 l.length c2:=by simpa [Ny] using hu
   rcases this with rfl|rfl<;>rfl
  ·have:=B'.own
   simpa using this
 ·obtain⟨xs,O⟩:=A.own
  have l2:h1.le (h1.set b (Qc [vi k,vsl a2 m2 c2] 96)):=Hp.le_set (Hp.le_refl h1) hb _
  refine Qh.append QnC (O.mono l2) (Qg.new _ _ [vi k,vsl a2 m2 c2] _) (m:=1) rfl (by simp [Value.oneCell']) (by omega) (by omega) fun a' c' h' O' k1 k2=>hK a' c' h' ⟨⟨_,O'⟩,fun e=>?_,fun q=>absurd q hf⟩ (D.keep ((k1 g o (l2 g o ho) A.ne).trans ho.symm) O'.le)
  rcases k2 g e with q|q
  ·exact A.ne (q.trans e)
  ·rw [l2 g o ho] at q;cases q
theorem Qb7 {h0 h h2:Hp}{g:Nat}{W:List Wd}{s:RS}{w:Wd}(hw:w≠[]){d:Int}{J:Int→Hp→Prop}(hJ:∀ h',QU h0 h' g W (Um w d s).2→Mut (At g) h (At g) h'→J (Um w d s).1 h')(D:QU h0 h2 g W (s.is [w]).2)(M:Mut (At g) h (At g) h2) :
  (decide ((s.is [w]).1≠[])=true→Qa Tryz.prog 70 [vhp g 0,vi 1000] h2 fun v1 h3=>∃(x:Int),v1=vi x∧J x h3)∧(decide ((s.is [w]).1≠[])=false→J d h2):=by
 unfold Um at hJ
 refine⟨fun e=>?_,fun e=>?_⟩
 ·have e:(s.is [w]).1≠[]:=of_decide_eq_true e
  rw [if_neg e] at hJ
  exact UW D (by decide) (by decide) fun h3 D3 M3=>⟨_,rfl,hJ h3 D3 (M.trans M3)⟩
 ·have e:(s.is [w]).1=[]:=by simpa using e
  rw [if_pos e] at hJ
  rw [Mo hw e] at D
  exact hJ h2 D M
theorem QU.c01 {h0 h:Hp}{g:Nat}{W:List Wd}{s:RS}(D:QU h0 h g W s):∃(a:Option Addr) (c i:Nat),h.cell g 0=some (vsl a W.length c)∧h.cell g (0+1)=some (vi i)∧(s.f=0→(i < W.length↔s.ws≠[])):=by
 obtain⟨a,c,i,hb,hS,hi,hw⟩:=D.b
 refine⟨a,c,i,Qb hb rfl,Qb hb rfl,fun hf=>?_⟩
 rw [hw,if_pos hf,ne_eq,Xy,List.length_drop]
 omega
theorem QU.put3 {h0 h:Hp}{g:Nat}{W:List Wd}{s:RS}(D:QU h0 h g W s){f:Int}(hf:0≤f){K:Hp→Prop}(hK:∀ h' t,t.f=f→QU h0 h' g W t→Mut (At g) h (At g) h'→K h'):h.store g (0+3) [vi f] K:=by
 obtain⟨a,c,i,hb,hS,hi,hw⟩:=D.b
 exact QX hb (by simp) (hK _ ⟨if f=0 then W.drop i else [],s.deep,f⟩ rfl ⟨⟨a,c,i,Hp.set_same _ _ _,hS,hi,rfl⟩,K0 D.l D.z _,D.z,hf,D.n,D.w⟩ (X4 _ _ _))
theorem Qe8:∀(l:List Int),(∀ x ∈ l,0≤x)→0≤Q4 l
 | [],_=>Int.le_refl _
 | x :: l,h=>by
  rw [Q4]
  split
  ·exact h x (List.mem_cons_self ..)
  ·exact Qe8 l fun y hy=>h y (List.mem_cons_of_mem _ hy)
theorem Qjq (q:Qy):0≤Ul q:=by
 unfold Ul
 split
 ·decide
 ·have h1:=Qe8 (q.aggs.map Xs) (fun x hx=>by
   obtain⟨y,_,rfl⟩:=List.mem_map.1 hx
   unfold Xs
   split
   ·decide
   ·split
    ·decide
    ·exact Uk _ _)
  split
  ·exact h1
  ·refine Qe8 _ fun x hx=>?_
   have h2:x=(if q.wh=[] then 0 else Zr q.wh 2)∨x=(if q.by_=[] then 0 else Zr q.by_ 0)∨x=Ky q:=by simpa using hx
   rcases h2 with rfl|rfl|rfl
   ·split
    ·decide
    ·exact Uk _ _
   ·split
    ·decide
    ·exact Uk _ _
   ·unfold Ky
    split
    ·decide
    ·split<;>decide
theorem QgZ:QjR noQ:=⟨Nat.zero_le _,Nat.zero_le _,(fun a ha=>by cases ha),Nat.zero_le _⟩
def QkM (l:List Value)(i:Nat):Bool:=match l[i]? with|some (.bool x)=>x|_=>false
set_option maxHeartbeats 1000000 in
theorem Qhb {l:List UInt8}{h:Hp}{R:Value→Hp→Prop}(hK:∀ a1 n1 c1 a2 n2 c2 a3 n3 c3 h',h.le h'→0≤(Z7 l).2→QjR (Z7 l).1→QAt h' (Z7 l).1 a1 n1 a2 n2 a3 n3→R (Qf [qV a1 n1 c1 a2 n2 c2 a3 n3 c3 (Z7 l).1,vi (Z7 l).2]) h'):Qa Tryz.prog 24 [vs (bs l)] h R:=by
 refine QhX ?_
 unfold QaG
 refine Qhj fun wa wn wc h2 O=>⟨_,_,_,_,rfl,?_⟩
 have lw:=Qbg l
 have lf:=QmH l
 have l02:=O.le
 unfold Z7 at hK
 generalize Zm l=WW at *
 obtain⟨W,fw⟩:=WW
 simp only at hK lw O lf
 refine⟨fun e=>?_,fun e=>?_⟩
 ·have e2:fw≠0:=by have:=of_decide_eq_true e;omega
  rw [if_pos e2] at hK
  exact hK none 0 0 none 0 0 none 0 0 h2 l02 (by show 0≤fw;omega) QgZ (Qcl h2)
 have e2:¬ fw≠0:=by have:¬ fw > 0:=of_decide_eq_false e;omega
 rw [if_neg e2] at hK
 clear e e2
 have hS:=O.slp Yi (by decide)
 obtain rfl:=hS.1
 intro b6 hb6 h7
 have l7:h2.le h7:=Hp.le_set (Hp.le_refl h2) hb6 _
 have D7:QU h2 h7 b6 W ⟨W,0,0⟩:=⟨⟨wa,wc,0,Hp.set_same _ _ _,hS,Nat.zero_le _,rfl⟩,l7,hb6,Int.le_refl _,by omega,fun x hx=>Nat.le_trans (lw.2 x hx) (by decide)⟩
 have F:QG 0 (Xm (W.length+1)).o (W.length+1):=(QjU (W.length+1)).1
 have kp:=(Ut (W.length+1)).1
 have g0:(⟨W,0,0⟩:RS).good:=fun h=>absurd rfl h
 have S7:SOk (W.length+1) ⟨W,0,0⟩:=⟨g0,Nat.lt_succ_self _,by show W.length≤1000;omega,Int.le_refl _,by show (0:Int)+(W.length:Int)≤1000000;omega⟩
 have hAll:=Qkv W
 unfold QgW at hK
 rw [QeN] at hK
 unfold Qm9 Qaz at hK hAll
 generalize (Xm (W.length+1)).o=o at *
 have G1:=QN g0 WL
 refine YB (w:=WL) D7 (by decide) fun h9 D9 M9=>⟨rfl,?_⟩
 generalize (⟨W,0,0⟩:RS).must WL=s1 at *
 have S9:=S7.goes G1
 have hs1:s1.ws.length≤80:=Nat.le_trans G1.len lw.1
 intro J145
 -- the rest, behind what is gathered
 have hRest:∀(L:List Ag) (t:RS) (a:Option Addr) (m c:Nat) (hE:Hp),AgW h2 hE b6 a m c t L→QU h2 hE b6 W t→SOk (W.length+1) t→XM o ((Yp o s1).2.ws.length+1) [(Yp o s1).1] (Yp o s1).2=(L,t)→L.length≤1000→J145 a m c none 0 0 none 0 0 0 0 hE:=by
  intro L t a m c hE AE DE SE hL hLn
  rw [hL] at hK hAll
  simp only at hK hAll
  have hgE:=DE.al
  have G3:=QN SE.good Qbk
  refine YB (w:=Qbk) DE (by decide) fun h867 D867 M867=>⟨rfl,?_⟩
  have S867:=SE.goes G3
  have G4:=G3.trans (QN G3.ok Jw)
  refine YB (w:=Jw) D867 (by decide) fun h869 D869 M869=>⟨rfl,?_⟩
  have ME:=M867.trans M869
  have S869:=SE.goes G4
  unfold QmJ at hK
  generalize (t.must Qbk).must Jw=t2 at *
  have gi:=QA S869.good [Z9]
  have io:=@Mo t2 Z9 (by decide)
  refine ZF (w:=Z9) D869 (by decide) fun h871 D871 M871=>⟨_,rfl,?_⟩
  have M871':=ME.trans M871
  intro J878
  have h878:∀(wh:List Nd) (aw:Option Addr) (mw cw:Nat) (u:RS) (hX:Hp),Ka Z9 o t2=(wh,u)→QU h2 hX b6 W u→SOk (W.length+1) u→Yr u t→(u.f=0→YF hE hX aw mw wh)→NJ wh→Mut (At b6) hE (At b6) hX→J878 aw mw cw hX:=by
   intro wh aw mw cw u hX hw DX SX GX NX Kw MX
   rw [hw] at hK
   simp only at hK
   unfold byQ at hK
   have gi:=QA SX.good [ZW]
   have io:=@Mo u ZW (by decide)
   refine ZF (w:=ZW) DX (by decide) fun h939 D939 M939=>⟨_,rfl,?_⟩
   have M939':=MX.trans M939
   intro J948
   have h948:∀(by_:List Nd) (ab:Option Addr) (mb cb:Nat) (v:RS) (hY:Hp),Ka ZW (fun s=>o (s.must wBy)) u=(by_,v)→QU h2 hY b6 W v→SOk (W.length+1) v→Yr v t→(v.f=0→YF hE hY aw mw wh)→(v.f=0→YF hE hY ab mb by_)→NJ by_→Mut (At b6) hE (At b6) hY→J948 ab mb cb hY:=by
    intro by_ ab mb cb v hY hv DY SY GY Nw Nb Kb MY
    rw [hv] at hK
    simp only at hK
    unfold QpD at hK
    simp only at hK
    have Ga:=QN SY.good Jv
    refine YB (w:=Jv) DY (by decide) fun h997 D997 M997=>⟨rfl,?_⟩
    have Sa:=SY.goes Ga
    generalize v.must Jv=v1 at *
    have Gb:=JB Sa.good 1000
    refine UW D997 (by decide) (by decide) fun h999 D999 M999=>⟨_,rfl,?_⟩
    have Sb:=Sa.goes Gb
    generalize v1.number 1000=Z at *
    obtain⟨z,v2⟩:=Z
    simp -zeta only at hK D999 Sb Gb ⊢
    have M2:=(M997.trans M999)
    refine ZF (w:=Gr) D999 (by decide) fun h1002 D1002 M1002=>⟨_,rfl,?_⟩
    intro J1009
    have Gc:=KY Sb.good Gr z
    refine Qb7 (h:=hY) (d:=z) (by decide) (fun hA DA MA=>?_) D1002 (M2.trans M1002)
    have Sc:=Sb.goes Gc
    generalize Um Gr z v2=Z at *
    obtain⟨sl,v3⟩:=Z
    simp -zeta only at hK DA Sc Gc ⊢
    unfold J1009
    refine ZF (w:=Gk) DA (by decide) fun h1043 D1043 M1043=>⟨_,rfl,?_⟩
    intro J1050
    have Gd:=KY Sc.good Gk 0
    refine Qb7 (h:=hY) (d:=0) (by decide) (fun hB DB MB=>?_) D1043 (MA.trans M1043)
    have Sd:=Sc.goes Gd
    generalize Um Gk 0 v3=Z at *
    obtain⟨d,v4⟩:=Z
    simp -zeta only at hK DB Sd Gd ⊢
    unfold J1050
    refine ZF (w:=Qcz) DB (by decide) fun h1074 D1074 M1074=>⟨_,rfl,?_⟩
    intro J1081
    have Ge:=KY Sd.good Qcz 0
    refine Qb7 (h:=hY) (d:=0) (by decide) (fun hC DC MC=>?_) D1074 (MB.trans M1074)
    have Se:=Sd.goes Ge
    generalize Um Qcz 0 v4=Z at *
    obtain⟨lt,v5⟩:=Z
    simp -zeta only at hK DC Se Ge ⊢
    unfold J1081
    have GZ:Yr v5 v:=((((Ga.trans Gb).trans Gc).trans Gd).trans Ge)
    have GT:Yr v5 t:=GY.trans GZ
    have MC':=MY.trans MC
    obtain⟨qa,qc,qi,hq0,hq1,hqw⟩:=DC.c01
    refine⟨_,DC.c3,_,fun _=>hq1,_,_,_,fun _=>hq0,?_⟩
    intro J1100
    have h1100:∀(hD:Hp) (y:RS),y.f=(if v5.f=0∧v5.ws≠[] then v5.fail 4 else v5).f→(y.f=0→v5.f=0)→QU h2 hD b6 W y→Mut (At b6) hC (At b6) hD→J1100 hD:=by
     intro hD y hy hy0 DD MD
     rw [←hy] at hK
     have MD':=MC'.trans MD
     refine⟨_,DD.c3,?_⟩
     intro J1109
     have h1109:∀(hF:Hp) (f:Int),0≤f→hF.cell b6 (0+3)=some (vi f)→h.le hF→(f≠0→∀ h',h.le h'→R (Qf [qV none 0 0 none 0 0 none 0 0 noQ,vi f]) h')→(f=0→R (Qf [qV a m c aw mw cw ab mb cb ⟨L,wh,by_,z,sl,d,lt⟩,vi 0]) hF)→J1109 hF:=by
      intro hF f hf hc lh hb hg
      refine⟨_,hc,fun e=>⟨_,hc,hc,?_⟩,fun e=>?_⟩
      ·have e:=of_decide_eq_true e
       exact hb (by omega) hF lh
      ·have e:=of_decide_eq_false e
       exact hg (by omega)
     clear_value J1109
     refine⟨fun e=>?_,fun e=>?_⟩
     ·have e:y.f=0:=of_decide_eq_true e
      have hv5:=hy0 e
      rw [e,if_neg (fun h=>h rfl)] at hK
      have hvf:v.f=0:=Decidable.byContradiction fun q=>q ((GZ.fst q).symm.trans hv5)
      have htf:t.f=0:=Decidable.byContradiction fun q=>q ((GT.fst q).symm.trans hv5)
      have AD:=AE.mut hb6 MD'
      obtain⟨BE,hm⟩:=AD.ok htf
      have Nw2:=(Nw hvf).mut hgE (MC.trans MD)
      have Nb2:=(Nb hvf).mut hgE (MC.trans MD)
      subst hm
      have QE:QAt hD ⟨L,wh,by_,z,sl,d,lt⟩ a L.length aw mw ab mb:=⟨BE.tab,Nw2.s,Nb2.s⟩
      have hbig:QjR ⟨L,wh,by_,z,sl,d,lt⟩:=⟨Nat.le_trans Kw.1 (by decide),Nat.le_trans Kb.1 (by decide),fun x hx=>Nat.le_trans (hAll x hx).1 (by decide),by show L.length≤1000000;omega⟩
      refine QcZ (q:=⟨L,wh,by_,z,sl,d,lt⟩) (c1:=c) (c2:=cw) (c3:=cb) QE hbig fun hG lG=>⟨Ul ⟨L,wh,by_,z,sl,d,lt⟩,rfl,?_⟩
      refine(DD.le lG).put3 (Qjq _) fun hH y2 hy2 DH MH=>?_
      have lh:h.le hH:=Hp.le_trans l02 DH.l
      have hc3:=DH.c3
      rw [hy2] at hc3
      refine h1109 hH _ (Qjq _) hc3 lh (fun hf h' l'=>?_) fun hf=>?_
      ·rw [if_pos hf] at hK
       exact hK none 0 0 none 0 0 none 0 0 h' l' (Qjq _) QgZ (Qcl h')
      ·rw [if_neg (fun h=>h hf)] at hK
       have M2:=(Mut.of_le lG).trans MH
       have AD2:=(AD.mut hb6 M2).ok htf
       exact hK _ _ c _ _ cw _ _ cb hH lh (Int.le_refl _) hbig ⟨AD2.1.tab,(Nw2.mut hgE M2).s,(Nb2.mut hgE M2).s⟩
     ·have e:y.f≠0:=of_decide_eq_false e
      rw [if_pos e] at hK
      refine h1109 hD y.f DD.f0 DD.c3 (Hp.le_trans l02 DD.l) (fun hf h' l'=>?_) fun hf=>absurd hf e
      exact hK none 0 0 none 0 0 none 0 0 h' l' DD.f0 QgZ (Qcl h')
    clear_value J1100
    rw [ZJ]
    refine⟨fun e=>?_,fun e=>?_⟩
    ·have e:=of_decide_eq_true e
     have e2:v5.f=0∧v5.ws≠[]:=⟨e.1,(hqw e.1).1 (by omega)⟩
     refine DC.put3 (f:=4) (by decide) fun hD y hy DD MD=>h1100 hD y ?_ (fun q=>by rw [hy] at q;cases q) DD MD
     rw [if_pos e2,hy]
     unfold RS.fail
     rw [if_pos e2.1]
    ·have e:=of_decide_eq_false e
     refine h1100 hC v5 ?_ id DC (Mut.of_le (Hp.le_refl _))
     rw [if_neg]
     rintro⟨q1,q2⟩
     exact e ⟨q1,by have:=(hqw q1).2 q2;omega⟩
   clear_value J948
   refine⟨fun e=>?_,fun e=>?_⟩
   ·have e:(u.is [ZW]).1≠[]:=of_decide_eq_true e
    have hop:Ka ZW (fun s=>o (s.must wBy)) u=o ((u.is [ZW]).2.must wBy):=by unfold Ka;rw [if_neg e]
    rw [hop] at h948
    have Su:=SX.goes gi
    have Gy:=QN Su.good wBy
    refine YB (w:=wBy) D939 (by decide) fun h942 D942 M942=>⟨rfl,?_⟩
    have S942:=Su.goes Gy
    have k2:=kp _ S942.good (Nat.le_of_lt S942.len)
    have M942':=M939'.trans M942
    refine F D942 S942 fun a m c hY DY NY MY=>⟨_,_,_,rfl,?_⟩
    have Gall:=(gi.trans Gy).trans k2.goes
    refine h948 _ _ _ _ _ hY rfl DY (S942.goes k2.goes) (GX.trans Gall) (fun q=>?_) (fun q=>(NY q).base (M942'.up D942.al)) k2.nds (M942'.trans MY)
    have huf:u.f=0:=Decidable.byContradiction fun q2=>q2 ((Gall.fst q2).symm.trans q)
    exact(((NX huf).mut hgE M939).mut hgE M942).mut hgE MY
   ·have e:(u.is [ZW]).1=[]:=by simpa using e
    have hop:Ka ZW (fun s=>o (s.must wBy)) u=([],u):=by unfold Ka;rw [if_pos e]
    rw [io e] at D939
    exact h948 [] none 0 0 u h939 hop D939 SX GX (fun q=>(NX q).mut hgE M939) (fun _=>Yu _ _) Qbr M939'
  clear_value J878
  refine⟨fun e=>?_,fun e=>?_⟩
  ·have e:(t2.is [Z9]).1≠[]:=of_decide_eq_true e
   have hop:Ka Z9 o t2=o (t2.is [Z9]).2:=by unfold Ka;rw [if_neg e]
   rw [hop] at h878
   have Su:=S869.goes gi
   have k2:=kp _ Su.good (Nat.le_of_lt Su.len)
   refine F D871 Su fun a m c hX DX NX MX=>⟨_,_,_,rfl,?_⟩
   exact h878 _ _ _ _ _ hX rfl DX (Su.goes k2.goes) ((G4.trans gi).trans k2.goes) (fun q=>(NX q).base (M871'.up D871.al)) k2.nds (M871'.trans MX)
  ·have e:(t2.is [Z9]).1=[]:=by simpa using e
   have hop:Ka Z9 o t2=([],t2):=by unfold Ka;rw [if_pos e]
   rw [io e] at D871
   exact h878 [] none 0 0 t2 h871 hop D871 S869 G4 (fun _=>Yu _ _) Qbr M871'
 clear_value J145
 -- what is gathered, one behind the other
 refine⟨fun vs' hh=>∃(p:Bool) (k:Nat) (L:List Ag) (t:RS) (a:Option Addr) (m c:Nat),vs'=[vb p,vsl a m c,vsl none 0 0,vsl none 0 0,vi 0,vi 0,vi 0,vi 0]∧AgW h2 hh b6 a m c t L∧QU h2 hh b6 W t∧SOk (W.length+1) t∧XM o ((Yp o s1).2.ws.length+1) [(Yp o s1).1] (Yp o s1).2=(if p=true then XM o k (L++[(Yp o t).1]) (Yp o t).2 else(L,t))∧(p=true→(Yp o t).2.ws.length < k)∧L.length+t.ws.length≤100+(if p=true then 0 else 1)∧m+t.ws.length≤100+(if p=true then 0 else 1),fun vs' hh=>(if QkM vs' 0=true then 1 else 0)+rrN hh b6,⟨true,_,[],s1,none,0,0,rfl,⟨⟨[],Qh.nil D9.l _ _⟩,(fun e=>by cases e),fun _=>⟨YN.nil D9.l,rfl⟩⟩,D9,S9,rfl,fun _=>Nat.lt_succ_self _,by show 0+s1.ws.length≤100;omega,by show 0+s1.ws.length≤100;omega⟩,?_⟩
 rintro vs' h14 ⟨p,k,L,t,a,m,c,rfl,A,D,S,hrow,hk,hL,hm⟩
 refine⟨_,_,_,_,_,_,_,_,_,_,_,_,_,_,rfl,fun e=>?_,fun e=>?_⟩
 ·rw [e] at hrow hk hm
  rw [e] at hL
  rw [if_pos rfl] at hrow hm hL
  have hk:=hk rfl
  have hrn:=D.rn
  have Ga:=Ur kp S.good (Nat.le_of_lt S.len)
  intro b25 hb25 h26 b27 hb27 h28
  have l26:h14.le h26:=Hp.le_set (Hp.le_refl h14) hb25 _
  have l28:h26.le h28:=Hp.le_set (Hp.le_refl h26) hb27 _
  have l14:=Hp.le_trans l26 l28
  have hg:=D.al
  have W25:QmE JR h28 b6 (some ⟨b25,0,none⟩) 4 YQ:=⟨SlP.le l28 (Mf h14 b25 YQ (by decide)),fun b o q=>by cases q;exact fun q2=>hg (by rw [←q2];exact hb25)⟩
  have I27:∀{i:Nat},i < 4→∀ hh,Mut (At b6) h28 (At b6) hh→hh.cell b27 (0+(i:Int).toNat*1)=some (vi ((i:Int)+2)):=by
   intro i hi hh M
   have hne:b27≠b6:=fun q=>hg (by rw [←q];exact Hp.none_of_le l26 hb27)
   have:=Qou h26 b27 hi
   unfold Hp.cell at this ⊢
   rw [Hp.set_same] at this
   rw [M.keep b27 _ (fun q=>hne q) (Hp.set_same _ _ _)]
   exact this
  have D28:=D.le l14
  intro J56
  -- one that is gathered
  have h56:∀(x95:Int) (hh:Hp),x95=(if (t.is YQ).1=[] then 0 else Qg0 (t.is YQ).1)→QU h2 hh b6 W (t.is YQ).2→Mut (At b6) h14 (At b6) hh→J56 x95 none 0 0 hh:=by
   intro x95 hh hx DD MM
   have hcw:[QJ,Kl,Ks,Kn]=YQ:=rfl
   have hagg:Yp o t=(if (t.is YQ).1=QJ∧((((if (t.is YQ).1=[] then(t.is YQ).2.fail 4 else(t.is YQ).2).must Zn).is [Xa]).1≠[]) then((1,[]),((((if (t.is YQ).1=[] then(t.is YQ).2.fail 4 else(t.is YQ).2).must Zn).is [Xa]).2.must Yc)) else((if (t.is YQ).1=QJ then 2 else US (t.is YQ).1,(o ((if (t.is YQ).1=[] then(t.is YQ).2.fail 4 else(t.is YQ).2).must Zn)).1),(o ((if (t.is YQ).1=[] then(t.is YQ).2.fail 4 else(t.is YQ).2).must Zn)).2.must Yc)):=rfl
   have gi:=QA S.good YQ
   have hwm:(t.is YQ).1 ∈ [[],QJ,Kl,Ks,Kn]:=by
    by_cases q:(t.is YQ).1=[]
    ·rw [q];simp
    ·exact List.mem_cons_of_mem _ (Qh1 q)
   generalize t.is YQ=B at *
   obtain⟨w,u⟩:=B
   simp -zeta only at hx DD hagg gi hwm
   have hkind:x95=0↔w=[]:=by
    have h5:w=[]∨w=QJ∨w=Kl∨w=Ks∨w=Kn:=by simpa using hwm
    rw [hx]
    rcases h5 with rfl|rfl|rfl|rfl|rfl<;>decide
   have hkind2:x95=2↔w=QJ:=by
    have h5:w=[]∨w=QJ∨w=Kl∨w=Ks∨w=Kn:=by simpa using hwm
    rw [hx]
    rcases h5 with rfl|rfl|rfl|rfl|rfl<;>decide
   have hkind3:x95=(if w=QJ then 2 else US w):=by
    have h5:w=[]∨w=QJ∨w=Kl∨w=Ks∨w=Kn:=by simpa using hwm
    rw [hx]
    rcases h5 with rfl|rfl|rfl|rfl|rfl<;>decide
   clear hx hwm
   unfold J56
   intro J102
   have h102:∀(hA:Hp) (u2:RS),u2=(if w=[] then u.fail 4 else u)→QU h2 hA b6 W u2→Yr u2 t→Mut (At b6) h14 (At b6) hA→J102 hA:=by
    intro hA u2 hu DA GA MA
    rw [←hu] at hagg
    clear hu
    have Sa:=S.goes GA
    refine YB (w:=Zn) DA (by decide) fun h105 D105 M105=>⟨rfl,?_⟩
    have G5:=GA.trans (QN GA.ok Zn)
    have M105':=MA.trans M105
    generalize u2.must Zn=s2 at *
    have S2:=S.goes G5
    intro J111
    -- behind what it is gathered of
    have fin:∀(x132:Int) (a133:Option Addr) (m133 c133:Nat) (nl:List Nd) (v:RS) (hB:Hp),Yp o t=((x132,nl),v.must Yc)→QU h2 hB b6 W v→Yr v t→(v.f=0→YF h14 hB a133 m133 nl)→Mut (At b6) h14 (At b6) hB →
      Qa Tryz.prog 66 [vhp b6 0,vs ⟨#[41]⟩] hB fun v135 h136=>v135=(Qf [])∧(∀(b137:Nat),h136 b137=none→let h138:Hp:=Hp.set h136 b137 (Qc [(vi x132),(vsl a133 m133 c133)] 96);(Ql Tryz.prog (Builtin.append_ #[25,25] 25 #[(vsl a m c),(vsl (some (⟨b137,0,none⟩:Addr)) 1 1)]) h138 fun v139 h140=>∃(a141:Option Addr) (n141 c141:Nat),v139=(vsl a141 n141 c141)∧(Qa Tryz.prog 67 [(vhp b6 0),(vs ⟨#[44]⟩)] h140 fun v142 h143=>∃(p144:Bool),v142=(vb p144)∧((∃(p:Bool) (k:Nat) (L:List Ag) (t:RS) (a:Option Addr) (m c:Nat),[(vb p144),(vsl a141 n141 c141),(vsl none 0 0),(vsl none 0 0),(vi 0),(vi 0),(vi 0),(vi 0)]=[vb p,vsl a m c,vsl none 0 0,vsl none 0 0,vi 0,vi 0,vi 0,vi 0]∧AgW h2 h143 b6 a m c t L∧QU h2 h143 b6 W t∧SOk (W.length+1) t∧XM o ((Yp o s1).2.ws.length+1) [(Yp o s1).1] (Yp o s1).2=(if p=true then XM o k (L++[(Yp o t).1]) (Yp o t).2 else(L,t))∧(p=true→(Yp o t).2.ws.length < k)∧L.length+t.ws.length≤100+(if p=true then 0 else 1)∧m+t.ws.length≤100+(if p=true then 0 else 1))∧(if QkM [(vb p144),(vsl a141 n141 c141),(vsl none 0 0),(vsl none 0 0),(vi 0),(vi 0),(vi 0),(vi 0)] 0=true then 1 else 0)+rrN h143 b6 < (if QkM [vb p,vsl a m c,vsl none 0 0,vsl none 0 0,vi 0,vi 0,vi 0,vi 0] 0=true then 1 else 0)+rrN h14 b6)))):=by
     intro x132 a133 m133 c133 nl v hB hag DB GB NB MB
     have Gv:=QN GB.ok Yc
     have GV:=GB.trans Gv
     refine YB (w:=Yc) DB (by decide) fun h136 D136 M136=>⟨rfl,?_⟩
     have M136':=MB.trans M136
     rw [hag] at hrow hk
     simp only at hrow hk
     intro b137 hb137 h138
     have A136:AgW h2 h136 b6 a m c (v.must Yc) L:=(A.mut hb6 M136').state fun q=>Decidable.byContradiction fun q2=>q2 ((GV.fst q2).symm.trans q)
     refine QoP (hB:=h14) (k:=x132) A136 D136 hg (fun b q=>A.al q) (fun q=>(NB (Decidable.byContradiction fun q2=>q2 ((Gv.fst q2).symm.trans q))).mut hg M136) (by omega) hb137 fun a141 c141 h140 A140 D140=>⟨_,_,_,rfl,?_⟩
     have S140:=S.goes GV
     have hlen:=GV.len
     have hfm:v.must Yc=v.must Yc:=rfl
     have hmono:(v.must Yc).f=0→t.f=0:=fun q=>Decidable.byContradiction fun q2=>q2 ((GV.fst q2).symm.trans q)
     generalize v.must Yc=t2 at *
     obtain⟨k,rfl⟩:∃ j,k=j+1:=⟨k - 1,by omega⟩
     have hst:XM o (k+1) (L++[(x132,nl)]) t2=if (t2.is [Zw]).1=[] then(L++[(x132,nl)],t2) else XM o k (L++[(x132,nl)]++[(Yp o (t2.is [Zw]).2).1]) (Yp o (t2.is [Zw]).2).2:=rfl
     rw [hst] at hrow
     clear hst
     have gi2:=QA S140.good [Zw]
     have io2:=@Mo t2 Zw (by decide)
     have tk2:=@Ns t2 [Zw]
     obtain⟨nx1,nx2,nx3⟩:=GI (s:=t2) (w:=Zw) (by decide)
     refine ZF (w:=Zw) D140 (by decide) fun h143 D143 M143=>⟨_,rfl,?_⟩
     have A143:=A140.mut hb6 M143
     have hrn3:=D143.rn
     have hv1:QkM [vb p,vsl a m c,vsl none 0 0,vsl none 0 0,vi 0,vi 0,vi 0,vi 0] 0=true:=e
     rw [if_pos hv1,hrn]
     by_cases q:(t2.is [Zw]).1=[]
     ·rw [if_pos q] at hrow
      rw [io2 q] at D143 hrn3
      rw [decide_eq_false (fun h=>h q)]
      refine⟨⟨false,0,_,t2,a141,m+1,c141,rfl,A143,D143,S140,by rw [hrow];rfl,(fun q=>by cases q),by rw [List.length_append,if_neg (by decide)];show L.length+1+_≤100+1;omega,by rw [if_neg (by decide)];omega⟩,?_⟩
      show 0+rrN h143 b6 < _
      rw [hrn3]
      split
      ·rename_i q3
       rw [if_pos (hmono q3)]
       omega
      ·split<;>omega
     ·rw [if_neg q] at hrow
      have tk2:=tk2 q
      have hf2:t2.f=0:=Decidable.byContradiction fun q2=>by
       have:=S140.good q2
       rw [this] at tk2
       simp at tk2
      rw [decide_eq_true q]
      have St:=S140.goes gi2
      have Gn:=Ur kp St.good (Nat.le_of_lt St.len)
      have hgn:=Gn.1.len
      refine⟨⟨true,k,L++[(x132,nl)],(t2.is [Zw]).2,a141,m+1,c141,rfl,A143.state (fun _=>hf2),D143,St,by rw [hrow];rfl,fun _=>by omega,by rw [List.length_append,if_pos rfl];show L.length+1+_≤100;omega,by rw [if_pos rfl];omega⟩,?_⟩
      show 1+rrN h143 b6 < _
      rw [hrn3,if_pos (hmono hf2)]
      split<;>omega
    have h111:∀(p113:Bool) (hB:Hp) (v:RS),Yp o t=(if p113=true then((1,[]),v.must Yc) else((x95,(o v).1),(o v).2.must Yc))→QU h2 hB b6 W v→Yr v t→Mut (At b6) h14 (At b6) hB→J111 p113 hB:=by
     intro p113 hB v hag DB GB MB
     have Sv:=S.goes GB
     unfold J111
     intro J120
     refine⟨fun q=>?_,fun q=>?_⟩
     ·rw [if_pos q] at hag
      exact fin 1 none 0 0 [] v hB hag DB GB (fun _=>Yu _ _) MB
     ·rw [if_neg (by rw [q];decide)] at hag
      have k2:=kp v Sv.good (Nat.le_of_lt Sv.len)
      refine F DB Sv fun a118 m118 c118 h117 D117 N117 M117=>⟨_,_,_,rfl,?_⟩
      exact fin x95 a118 m118 c118 _ _ h117 hag D117 (GB.trans k2.goes) (fun q=>(N117 q).base (MB.up DB.al)) (MB.trans M117)
    clear_value J111
    have gs:=QA S2.good [Xa]
    have ios:=@Mo s2 Xa (by decide)
    refine⟨fun q=>?_,fun q=>?_⟩
    ·have hw:w=QJ:=hkind2.1 (of_decide_eq_true q)
     refine ZF (w:=Xa) D105 (by decide) fun h107 D107 M107=>⟨_,rfl,?_⟩
     by_cases q2:(s2.is [Xa]).1=[]
     ·rw [if_neg (fun h=>h.2 q2)] at hagg
      rw [ios q2] at D107
      rw [decide_eq_false (fun h=>h q2)]
      refine h111 false h107 s2 ?_ D107 G5 (M105'.trans M107)
      rw [if_neg (by decide),hagg,←hkind3]
     ·rw [if_pos ⟨hw,q2⟩] at hagg
      rw [decide_eq_true q2]
      refine h111 true h107 _ ?_ D107 (G5.trans gs) (M105'.trans M107)
      rw [if_pos rfl,hagg]
    ·have hw:¬ w=QJ:=fun h=>of_decide_eq_false q (hkind2.2 h)
     rw [if_neg (fun h=>hw h.1)] at hagg
     refine h111 false h105 s2 ?_ D105 G5 M105'
     rw [if_neg (by decide),hagg,←hkind3]
   clear_value J102
   refine⟨fun q=>?_,fun q=>?_⟩
   ·have q:=hkind.1 (of_decide_eq_true q)
    exact Jl DD (by decide) fun hA DA MA=>⟨rfl,h102 hA _ (by rw [if_pos q]) DA (gi.trans (XO _ _)) (MM.trans MA)⟩
   ·have q:¬ w=[]:=fun h=>of_decide_eq_false q (hkind.2 h)
    exact h102 hh u (by rw [if_neg q]) DD gi MM
  clear_value J56
  -- which it is
  have hnil:([]:Wd) ∉ YQ:=by decide
  obtain⟨ny,nn⟩:=Qbh (s:=t) hnil
  refine⟨fun vs' hh=>∃(i:Nat) (x:Int),vs'=[vi i,vi x,vsl none 0 0]∧i≤4∧Mut (At b6) h28 (At b6) hh∧((x=0∧(∀ j,j < i→Qw t≠YQ.getD j [])∧QU h2 hh b6 W t)∨(Qw t ∈ YQ∧x=Qg0 (Qw t)∧x≠0∧QU h2 hh b6 W (t.is YQ).2)),fun vs' hh=>4 - (Qn vs' 0).toNat,⟨0,0,rfl,by omega,Mut.of_le (Hp.le_refl _),.inl ⟨rfl,(fun j hj=>by omega),D28⟩⟩,?_⟩
  rintro vs' hh ⟨i,x,rfl,hi,Mi,hst⟩
  refine⟨_,_,_,_,_,rfl,fun q=>?_,fun q=>?_⟩
  ·rw [ZJ] at q
   obtain⟨q1,q2⟩:=of_decide_eq_true q
   have hlt:i < 4:=by omega
   rcases hst with ⟨hx0,hno,Di⟩|⟨_,_,hx,_⟩
   ·intro J50
    obtain⟨b,o',ha,hc⟩:=SlP.get1 (W25.mut Mi).s hlt
    refine⟨b,o',⟨ha,by omega,by omega⟩,_,hc,?_⟩
    obtain⟨ha1,ha2,ha3⟩:=QnZ hlt
    obtain⟨o1,o2,o3⟩:=GI (s:=t) ha2
    refine ZF Di ha2 fun h43 D43 M43=>⟨_,rfl,fun q3=>?_,fun q3=>?_⟩
    ·have q3:=o1.1 (of_decide_eq_true q3)
     obtain⟨r',hr1,hr2⟩:=o2 q3
     rw [←q3] at ha1 ha3
     obtain⟨r,hr3,hr4⟩:=ny ha1
     have er:r'=r:=by rw [hr3,q3] at hr1;exact((List.cons.inj hr1).2).symm
     refine⟨b27,0,⟨rfl,by omega,by omega⟩,_,I27 hlt h43 (Mi.trans M43),_,isW (by unfold InR;omega),⟨i+1,(i:Int)+2,rfl,by omega,Mi.trans M43,.inr ⟨ha1,ha3.symm,by omega,?_⟩⟩,by simp [Qn];omega⟩
     rw [hr4]
     rw [hr2,er] at D43
     exact D43
    ·have q3:Qw t≠YQ.getD i []:=fun h=>of_decide_eq_false q3 (o1.2 h)
     rw [o3 q3] at D43
     refine⟨_,isW (by unfold InR;omega),⟨i+1,x,rfl,by omega,Mi.trans M43,.inl ⟨hx0,fun j hj=>?_,D43⟩⟩,by simp [Qn];omega⟩
     rcases Nat.lt_or_ge j i with h1|h1
     ·exact hno j h1
     ·have:j=i:=by omega
      rw [this];exact q3
   ·exact absurd q2 hx
  ·rw [ZJ] at q
   have q:=of_decide_eq_false q
   have ML:=(Mut.of_le l14:Mut (At b6) h14 (At b6) h28).trans Mi
   rcases hst with ⟨hx0,hno,Di⟩|⟨hmm,hx,hx0,Di⟩
   ·have hge:i=4:=by omega
    subst hge
    have hmm:Qw t ∉ YQ:=by
     intro hm
     have h1:Qw t=QJ∨Qw t=Kl∨Qw t=Ks∨Qw t=Kn:=by simpa [YQ] using hm
     rcases h1 with h1|h1|h1|h1
     ·exact hno 0 (by omega) h1
     ·exact hno 1 (by omega) h1
     ·exact hno 2 (by omega) h1
     ·exact hno 3 (by omega) h1
    refine h56 x hh ?_ (by rw [nn hmm];exact Di) ML
    rw [nn hmm,if_pos rfl,hx0]
   ·obtain⟨r,hr3,hr4⟩:=ny hmm
    refine h56 x hh ?_ Di ML
    rw [hr4]
    simp only
    rw [if_neg (fun h=>hnil (by rw [←h];exact hmm)),hx]
 ·rw [e] at hrow hL
  rw [if_neg (by decide)] at hrow hL
  exact hRest L t a m c h14 A D S hrow (by omega)
end Go.Proofs.YtgmplfdecikgoaaGreatDoor
namespace Go.Proofs.YtgmplfdecikgoaaGreatDoor
open Go Go.Vc
def Vm (u0:Int)(u1:Int)(u2:Int)(u3:Int)(u4:Int)(u5:Int)(u6:Int)(h:Hp)(R:Value→Hp→Prop):Prop:=
 (((bif (decide (u0 < 0)) then true else(decide (u0 > 9999)))=true→R (vi 1) h)∧((bif (decide (u0 < 0)) then true else(decide (u0 > 9999)))=false→(∀ b2,h b2=none→let h3:= Hp.set h b2 (Qc [vi u1,vi u2,vi u3,vi u4,vi u5,vi u6] 42);(∃(I5:List Value→Hp→Prop) (m6:List Value→Hp→Nat),I5 [vi 0] h3∧∀ vs7 h8,I5 vs7 h8→∃ x9,vs7=[vi x9]∧(((decide (x9 < 3))=true→(∃ b12 o13,((some (⟨b2,0,none⟩:Addr))=some ⟨b12,o13,none⟩∧(0:Int)≤x9∧x9 < ((3:Nat):Int))∧(∃ x14 x15,(Hp.row h8 b12 (o13+x9.toNat*2) 2=some [vi x14,vi x15])∧(Qa Tryz.prog 35 [vag [vi x14,vi x15]] h8 fun v16 h17=>∃ x18,v16=(vi x18)∧(∃ b19 o20,((decide (x18 > 0))=false→((some (⟨b2,0,none⟩:Addr))=some ⟨b19,o20,none⟩∧(0:Int)≤x9∧x9 < ((3:Nat):Int)))∧(∃ x21,((decide (x18 > 0))=false→Hp.cell h17 b19 (o20+x9.toNat*2)=some (vi x21))∧(((bif (decide (x18 > 0)) then true else(decide (x21=2)))=true→R (vi 3) h17)∧((bif (decide (x18 > 0)) then true else(decide (x21=2)))=false→(∃ b23 o24,((some (⟨b2,0,none⟩:Addr))=some ⟨b23,o24,none⟩∧(0:Int)≤x9∧x9 < ((3:Nat):Int))∧(∃ x25,(Hp.cell h17 b23 ((o24+x9.toNat*2)+1)=some (vi x25))∧(∃ b26 o27,((decide (x25 < (-1000)))=false→((some (⟨b2,0,none⟩:Addr))=some ⟨b26,o27,none⟩∧(0:Int)≤x9∧x9 < ((3:Nat):Int)))∧(∃ x28,((decide (x25 < (-1000)))=false→Hp.cell h17 b26 ((o27+x9.toNat*2)+1)=some (vi x28))∧(((bif (decide (x25 < (-1000))) then true else(decide (x28 > 1000)))=true→R (vi 1) h17)∧((bif (decide (x25 < (-1000))) then true else(decide (x28 > 1000)))=false→(∃ x30,(IsW x30 (x9+1))∧(I5 [vi x30] h17∧m6 [vi x30] h17 < m6 vs7 h8))))))))))))))))∧((decide (x9 < 3))=false→R (vi 0) h8))))))
theorem Qdb {u0 u1 u2 u3 u4 u5 u6 h R}(H:Vm u0 u1 u2 u3 u4 u5 u6 h R):Qa Tryz.prog 13 [vag [vi u0,vi u1,vi u2,vi u3,vi u4,vi u5,vi u6]] h R:=
 Qd (cfg:=⟨[],[(5,([4],[.one (.int .i64)],[]))],[]⟩) Qo mixed Tryz.func13 [.ag [.v (vi u0),.v (vi u1),.v (vi u2),.v (vi u3),.v (vi u4),.v (vi u5),.v (vi u6)]] (by kernel_rfl) rfl (by kernel_rfl) H
theorem Qc9 {e:EvL}{h:Hp}{R:Value→Hp→Prop}(hK:∀ h',h.le h'→R (vi (QgR e)) h'):Qa Tryz.prog 13 [vag (Vu e)] h R:=by
 refine Qdb ?_
 unfold Vm
 refine⟨fun q=>?_,fun q=>?_⟩
 ·have:QgR e=1:=by unfold QgR;rw [if_pos (by simp [Bool.cond_eq_ite] at q;omega)]
  rw [this] at hK;exact hK h (Hp.le_refl h)
 have e1:QgR e=QhJ [e.2.1,e.2.2.1,e.2.2.2]:=by unfold QgR;rw [if_neg (by simp [Bool.cond_eq_ite] at q;omega)]
 rw [e1] at hK
 clear e1 q
 intro b2 hb2 h3
 have l3:h.le h3:=Hp.le_set (Hp.le_refl h) hb2 _
 have S:SlP Qv h3 (some ⟨b2,0,none⟩) 3 [e.2.1,e.2.2.1,e.2.2.2]:=⟨rfl,Qg.new _ _ [vi e.2.1.1,vi e.2.1.2,vi e.2.2.1.1,vi e.2.2.1.2,vi e.2.2.2.1,vi e.2.2.2.2] _⟩
 clear_value h3
 have hl:[e.2.1,e.2.2.1,e.2.2.2].length=3:=rfl
 generalize [e.2.1,e.2.2.1,e.2.2.2]=l at *
 refine⟨fun vs hh=>hh=h3∧∃ i:Nat,vs=[vi i]∧i≤3∧QhJ l=QhJ (l.drop i),fun vs hh=>3 - (Qn vs 0).toNat,⟨rfl,0,rfl,by decide,rfl⟩,?_⟩
 rintro vs hh ⟨rfl,i,rfl,hi,hc⟩
 refine⟨i,rfl,fun q=>?_,fun q=>?_⟩
 ·have hlt:i < 3:=by have:=of_decide_eq_true q;omega
  have hx:l[i]?=some (l[i]'(by omega)):=List.getElem?_eq_getElem (by omega)
  rw [Qet (by omega:i < l.length),QhJ] at hc
  obtain⟨b,o,ha,hr⟩:=S.get Ym (by decide) hx
  generalize l[i]'(by omega)=v at *
  have A:(some ⟨b2,0,none⟩:Option Addr)=some ⟨b,o,none⟩∧(0:Int)≤i∧(i:Int) < (3:Nat):=⟨ha,by omega,by omega⟩
  refine⟨b,o,A,_,_,hr,U9 (v:=v) ⟨_,rfl,b,o,fun _=>A,_,fun _=>Hp.row_cell hr (i:=0) rfl,fun q2=>?_,fun q2=>⟨b,o,A,_,Hp.row_cell hr (i:=1) rfl,b,o,fun _=>A,_,fun _=>Hp.row_cell hr (i:=1) rfl,fun q3=>?_,fun q3=>?_⟩⟩⟩
  ·have:Qc3 v=3:=by
    unfold Qc3;rw [if_pos]
    by_cases hg:Qp v
    ·right;simp [hg] at q2;exact q2
    ·exact .inl hg
   rw [this,if_neg (by decide)] at hc
   rw [hc] at hK;exact hK hh l3
  ·have:Qc3 v=1:=by
    unfold Qc3;rw [if_neg,if_pos]
    ·simp [Bool.cond_eq_ite] at q3;omega
    ·by_cases hg:Qp v
     ·simp [hg] at q2 ⊢;exact q2
     ·simp [hg] at q2
   rw [this,if_neg (by decide)] at hc
   rw [hc] at hK;exact hK hh l3
  ·have:Qc3 v=0:=by
    unfold Qc3;rw [if_neg,if_neg]
    ·simp [Bool.cond_eq_ite] at q3;omega
    ·by_cases hg:Qp v
     ·simp [hg] at q2 ⊢;exact q2
     ·simp [hg] at q2
   rw [this,if_pos rfl] at hc
   exact⟨_,isW (by unfold InR;omega),⟨rfl,i+1,rfl,by omega,hc⟩,by simp [Qn];omega⟩
 ·have hge:i=3:=by have:=of_decide_eq_false q;omega
  subst hge
  rw [List.drop_eq_nil_of_le (by omega)] at hc
  rw [hc] at hK;exact hK hh l3
open Go.Txt
def JI (l:List Nd):Prop:=∀ n ∈ l,0≤n.v.2
def PP (P:Ps):Prop:=∀ s,JI (P s).1
theorem Qa8 {n:Nd}(h:0≤n.v.2):JI [n]:=fun m hm=>by rw [List.mem_singleton.1 hm];exact h
theorem Qnf {op:Int}{x y:List Nd}(hx:JI x)(hy:JI y):JI (ZU op x y):=by
 intro n hn
 unfold ZU at hn
 rcases List.mem_append.1 hn with h|h
 ·rcases List.mem_append.1 h with h|h
  ·exact hx n h
  ·obtain⟨m,hm,rfl⟩:=List.mem_map.1 h
   exact hy m hm
 ·rw [List.mem_singleton.1 h]
  exact Int.le_refl _
theorem Zs {op:Int}{x y:List Nd}{s:RS}(hx:JI x)(hy:JI y):JI (QO op x y s).1:=by
 unfold QO
 split
 ·exact Qa8 (by decide)
 ·exact Qnf hx hy
theorem WI:JI []:=fun n h=>by cases h
theorem QjZ (s:RS)(m:Int):0≤(s.number m).1:=by
 unfold RS.number
 split
 ·exact Int.le_refl _
 ·split
  ·exact Int.le_refl _
  ·rename_i h;simp only;omega
theorem QhI {P:Ps}(h:PP P):PP (Xc P):=by
 intro s
 unfold Xc
 exact h _
theorem QoV {o:Ps}(h:PP o):PP (XH o):=by
 intro s
 unfold XH
 simp only
 split
 ·exact QhI h _
 ·split
  ·refine Qa8 ?_
   simp only
   unfold QbJ
   split
   ·decide
   ·simp only
    split<;>decide
  ·split
   ·exact Qa8 (QjZ _ _)
   ·exact Qa8 (Int.le_refl _)
theorem Qnp {u a:Ps}(hu:PP u)(ha:PP a):PP (Qas u a):=by
 intro s
 unfold Qas
 split
 ·exact ha s
 ·exact Zs (QhI hu _) WI
theorem Qpc {u a:Ps}(hu:PP u)(ha:PP a):PP (QjK u a):=by
 intro s
 unfold QjK
 split
 ·exact ha s
 ·exact Zs (QhI hu _) WI
theorem QkH {P:Ps}(h:PP P){ops:List (Wd × Int)}:∀(k:Nat) (x:List Nd) (s:RS),JI x→JI (QbP P ops k x s).1
 | 0,x,s,hx=>hx
 | k+1,x,s,hx=>by
  rw [QbP]
  split
  ·exact hx
  ·simp only
   split
   ·exact hx
   ·exact QkH h k _ _ (Zs hx (h _))
theorem QhS {P:Ps}(h:PP P){ops:List (Wd × Int)}:PP (K8 P ops):=fun s=>QkH h _ _ _ (h s)
theorem Qpe {P:Ps}(h:PP P):PP (QdW P):=by
 intro s
 unfold QdW
 simp only
 split
 ·exact Zs (h _) (h _)
 ·split
  ·exact Zs (h _) (h _)
  ·split
   ·exact Zs (Zs (h _) (h _)) WI
   ·split
    ·exact Zs (Zs (h _) (h _)) WI
    ·split
     ·exact Zs (h _) (h _)
     ·split
      ·exact Zs (Zs (h _) (h _)) WI
      ·split
       ·split
        ·exact Zs (Zs (h _) WI) WI
        ·exact Zs (h _) WI
       ·exact h _
theorem Qp7 {t:Vo}(ho:PP t.o)(hn:PP t.n)(hu:PP t.u):PP (orS t)∧PP (Qc6 t)∧PP (unS t):=by
 have h1:PP (unS t):=Qnp hu (QoV ho)
 have h3:PP (Qmf t):=QhS (QhS h1)
 have h5:PP (Qc6 t):=Qpc hn (Qpe h3)
 exact⟨QhS (QhS h5),h5,h1⟩
theorem Qjy:PP noP:=fun s=>Qa8 (by decide)
theorem QpN (n:Nat):PP (Xm n).o∧PP (Xm n).n∧PP (Xm n).u:=by
 induction n with
 | zero=>exact⟨Qjy,Qjy,Qjy⟩
 | succ n ih=>
  rw [Mw]
  exact Qp7 ih.1 ih.2.1 ih.2.2
structure Qp1 (q:Qy):Prop where
 g:∀ a ∈ q.aggs,JI a.2
 w:JI q.wh
 b:JI q.by_
theorem QoE {c:Prop}[Decidable c]{x y:Ag × RS}(hx:JI x.1.2)(hy:JI y.1.2):JI (if c then x else y).1.2:=by
 split
 ·exact hx
 ·exact hy
theorem QmL {o:Ps}(h:PP o)(s:RS):JI (Yp o s).1.2:=by
 unfold Yp
 exact QoE WI (h _)
theorem Qks {o:Ps}(h:PP o):∀(k:Nat) (l:List Ag) (s:RS),(∀ a ∈ l,JI a.2)→∀ a ∈ (XM o k l s).1,JI a.2
 | 0,l,s,hl=>hl
 | k+1,l,s,hl=>by
  rw [XM]
  split
  ·exact hl
  ·refine Qks h k _ _ fun a ha=>?_
   rcases List.mem_append.1 ha with h1|h1
   ·exact hl a h1
   ·rw [List.mem_singleton.1 h1];exact QmL h _
theorem Qmu {P:Ps}(h:PP P){w:Wd}{s:RS}:JI (Ka w P s).1:=by
 unfold Ka
 split
 ·exact WI
 ·exact h _
theorem QlG (ws:List Wd):Qp1 (QcE ws).1:=by
 have ho:=(QpN (ws.length+1)).1
 rw [QeN]
 generalize (Xm (ws.length+1)).o=o at ho ⊢
 refine⟨Qks ho _ _ _ fun a ha=>?_,Qmu ho,Qmu (fun s=>ho _)⟩
 rw [List.mem_singleton.1 ha];exact QmL ho _
theorem Qes {s:List UInt8}(h:(Z7 s).2=0):QOk (Z7 s).1∧Qp1 (Z7 s).1:=by
 unfold Z7 at h ⊢
 split at h
 ·rename_i h1;exact absurd h h1
 ·rename_i h1
  rw [if_neg h1]
  unfold QgW at h ⊢
  split at h
  ·rename_i h2;exact absurd h h2
  ·rename_i h2
   rw [if_neg h2]
   split at h
   ·rename_i h3;exact absurd h h3
   ·rename_i h3
    rw [if_neg h3]
    exact⟨QpE (Decidable.not_not.1 h3),QlG _⟩
end Go.Proofs.YtgmplfdecikgoaaGreatDoor
namespace Go.Proofs.YtgmplfdecikgoaaGreatDoor
open Go Go.Vc
def QaV (u0:ByteArray)(h:Hp)(R:Value→Hp→Prop):Prop:=
 (((decide ((((ByteArray.size u0:Nat):Int):Int) > 400))=true→R (Qf [vag [vsl none 0 0,vsl none 0 0,vsl none 0 0,vi 0,vi 0,vi 0,vi 0],vb false]) h)∧((decide ((((ByteArray.size u0:Nat):Int):Int) > 400))=false→(Qa Tryz.prog 24 [vs u0] h fun v2 h3=>∃ a4 n4 c4 a5 n5 c5 a6 n6 c6 x7 x8 x9 x10 x11,v2=(Qf [vag [vsl a4 n4 c4,vsl a5 n5 c5,vsl a6 n6 c6,vi x7,vi x8,vi x9,vi x10],vi x11])∧R (Qf [vag [vsl a4 n4 c4,vsl a5 n5 c5,vsl a6 n6 c6,vi x7,vi x8,vi x9,vi x10],(vb (decide (x11=0)))]) h3)))
theorem QhC {u0 h R}(H:QaV u0 h R):Qa Tryz.prog 7 [vs u0] h R:=
 Qd (cfg:=⟨[],[],[]⟩) Qo mixed Tryz.func7 [.one (.v (vs u0))] (by kernel_rfl) rfl (by kernel_rfl) H
open Go.RowKit Go.Txt
def Qj7:Wd:=[115,101,108,101,99,116,32,99,111,117,110,116,40,42,41,32,102,114,111,109,32,101,118,101,110,116,115,32,119,105,110,100,111,119,32,49,48]
def evE (t:Int):EvL:=(t,(0,0),(0,0),(0,0))
theorem Qmc:(Z7 Qj7).2=0∧(XL (Z7 Qj7).1 0 (evE 12) (XL (Z7 Qj7).1 0 (evE 3) (WX 1))).rows=[(false,(0,(0,0)),[(1,1)])]:=by decide +kernel
theorem QfE {s:Wd}{h:Hp}{R:Value→Hp→Prop}(hK:∀ a1 n1 c1 a2 n2 c2 a3 n3 c3 x4 x5 x6 x7 (p:Bool) h',h.le h'→(p=true→∃ q,QOk q∧QAt h' q a1 n1 a2 n2 a3 n3∧x4=q.size∧x5=q.slide∧x6=q.delay∧x7=q.late)→R (Qf [vag [vsl a1 n1 c1,vsl a2 n2 c2,vsl a3 n3 c3,vi x4,vi x5,vi x6,vi x7],vb p]) h'):Qa Tryz.prog 7 [vs (bs s)] h R:=by
 refine QhC ?_
 unfold QaV
 refine⟨fun e=>hK none 0 0 none 0 0 none 0 0 0 0 0 0 false h (Hp.le_refl h) (fun q=>by cases q),fun _=>?_⟩
 refine Qhb fun b1 m1 d1 b2 m2 d2 b3 m3 d3 h' l' hpf hpb Q=>⟨_,_,_,_,_,_,_,_,_,_,_,_,_,_,rfl,?_⟩
 refine hK b1 m1 d1 b2 m2 d2 b3 m3 d3 _ _ _ _ _ h' l' fun q=>⟨(Z7 s).1,(Qes (of_decide_eq_true q)).1,Q,rfl,rfl,rfl,rfl⟩
theorem Qoi {parts:Nat}(hp:1≤parts)(x:Int):∃ p:Nat,Int.tmod (x % 1024) (parts:Int)=(p:Int)∧p < parts:=by
 have h1:0≤x % 1024:=Int.emod_nonneg _ (by decide)
 obtain⟨y,hy⟩:=Int.eq_ofNat_of_zero_le h1
 rw [hy]
 exact⟨y % parts,by rw [←Int.ofNat_tmod],Nat.mod_lt _ hp⟩
end Go.Proofs.YtgmplfdecikgoaaGreatDoor
namespace Go.Proofs.YtgmplfdecikgoaaGreatDoor
open Go Go.Vc
def Kv (u0 u1:Nat)(h:Hp)(R:Value→Hp→Prop):Prop:=
 (∃ a1 n1 c1,(Hp.cell h u0 u1=some (vsl a1 n1 c1))∧(((decide ((n1:Int)=0))=true→(Hp.store h u0 (u1+1) [vb true] fun h2=>R (vs ⟨#[]⟩) h2))∧((decide ((n1:Int)=0))=false→(∃ a4 n4 c4,(Hp.cell h u0 u1=some (vsl a4 n4 c4))∧(∃ b5 o6,(a4=some ⟨b5,o6,none⟩∧(0:Int)≤0∧0 < (n4:Int))∧(∃ s7,(Hp.cell h b5 (o6+(0:Int).toNat*1)=some (vs s7))∧(∃ a8 n8 c8,(Hp.cell h u0 u1=some (vsl a8 n8 c8))∧(∃ a9 n9 c9,(Rd Tryz.prog (Instr.sliceAt 75 (vsl a8 n8 c8) (some (vi 1)) none none) h (vsl a9 n9 c9))∧(Hp.store h u0 u1 [vsl a9 n9 c9] fun h10=>R (vs s7) h10)))))))))
theorem MP {u0 u1 h R}(H:Kv u0 u1 h R):Qa Tryz.prog 73 [vhp u0 u1] h R:=
 Qd (cfg:=⟨[],[],[]⟩) Qo mixed Tryz.func73 [.one (.hp u0 u1)] (by kernel_rfl) rfl (by kernel_rfl) H
def Wq (u0 u1:Nat)(u2:Int)(u3:Int)(h:Hp)(R:Value→Hp→Prop):Prop:=
 (Qa Tryz.prog 73 [vhp u0 u1] h fun v1 h2=>∃ s3,v1=(vs s3)∧(Qa Tryz.prog 74 [vs s3] h2 fun v4 h5=>∃ x6 e7,v4=(Qf [vi x6,ifv e7])∧(∃(J8:SV→Hp→Prop),((Option.isSome e7)=false→(Qa Tryz.prog 32 [vi x6] h5 fun v9 h10=>∃ s11,v9=(vs s11)∧J8 (.t (.one (.v (vs s11)))) h10))∧(¬((Option.isSome e7)=false)→J8 (.t (.one (.v (vs ⟨#[]⟩)))) h5)∧∀ h12 s13,J8 (.t (.one (.v (vs s13)))) h12→(∃ p14,((Option.isSome e7)=false→Rd Tryz.prog ((eqGuard .neq 9 (.tmp 21) (.tmp 22) (vs s13) (vs s3) >>= fun _=>binOp .neq 9 (vs s13) (vs s3))) h12 (vb p14))∧(((bif (bif (bif (Option.isSome e7) then true else p14) then true else(decide (x6 < u2))) then true else(decide (x6 > u3)))=true→(Hp.store h12 u0 (u1+1) [vb true] fun h15=>R (vi u2) h15))∧((bif (bif (bif (Option.isSome e7) then true else p14) then true else(decide (x6 < u2))) then true else(decide (x6 > u3)))=false→R (vi x6) h12))))))
theorem Vt {u0 u1 u2 u3 h R}(H:Wq u0 u1 u2 u3 h R):Qa Tryz.prog 26 [vhp u0 u1,vi u2,vi u3] h R:=
 Qd (cfg:=⟨[],[],[]⟩) Qo mixed Tryz.func26 [.one (.hp u0 u1),.one (.v (vi u2)),.one (.v (vi u3))] (by kernel_rfl) rfl (by kernel_rfl) H
def W9 (u0 u1:Nat)(h:Hp)(R:Value→Hp→Prop):Prop:=
 (Qa Tryz.prog 73 [vhp u0 u1] h fun v1 h2=>∃ s3,v1=(vs s3)∧(Qa Tryz.prog 123 [vs s3] h2 fun v4 h5=>∃ x6 x7 e8,v4=(Qf [vag [vi x6,vi x7],ifv e8])∧(∃ p9,(Hp.cell h5 u0 (u1+1)=some (vb p9))∧(Hp.store h5 u0 (u1+1) [(vb (bif p9 then true else(Option.isSome e8)))] fun h10=>R (vag [vi x6,vi x7]) h10))))
theorem V6 {u0 u1 h R}(H:W9 u0 u1 h R):Qa Tryz.prog 75 [vhp u0 u1] h R:=
 Qd (cfg:=⟨[],[],[]⟩) Qo mixed Tryz.func75 [.one (.hp u0 u1)] (by kernel_rfl) rfl (by kernel_rfl) H
def KB (u0 u1:Nat)(u2:Option Addr)(u3 u4:Nat)(u5:Option Addr)(u6 u7:Nat)(u8:Option Addr)(u9 u10:Nat)(u11:Int)(u12:Int)(u13:Int)(u14:Int)(h:Hp)(R:Value→Hp→Prop):Prop:=
 (Qa Tryz.prog 26 [vhp u0 u1,(vi (-1000)),vi 9999] h fun v1 h2=>∃ x3,v1=(vi x3)∧(Qa Tryz.prog 75 [vhp u0 u1] h2 fun v4 h5=>∃ x6 x7,v4=(vag [vi x6,vi x7])∧(Qa Tryz.prog 26 [vhp u0 u1,vi 0,vi 1] h5 fun v8 h9=>∃ x10,v8=(vi x10)∧(let J44:Int→Int→Int→Option Addr→Nat→Nat→Bool→Hp→Prop:=fun x60 x61 x62 a63 n63 c63 p64 h65=>R (vag [vi x60,vi x61,vi x62,vsl a63 n63 c63,vb p64]) h65;(∃(I12:List Value→Hp→Prop) (m13:List Value→Hp→Nat),I12 [vi 0,vi x3,vi x6,vi x7,vsl none 0 0,(vb (decide (x10=1)))] h9∧∀ vs14 h15,I12 vs14 h15→∃ x16 x17 x18 x19 a20 n20 c20 p21,vs14=[vi x16,vi x17,vi x18,vi x19,vsl a20 n20 c20,vb p21]∧(((decide (x16 < (u3:Int)))=true→(∃ b24 o25,(u2=some ⟨b24,o25,none⟩∧(0:Int)≤x16∧x16 < (u3:Int))∧(∃ x26 a27 n27 c27,(Hp.row h15 b24 (o25+x16.toNat*2) 2=some [vi x26,vsl a27 n27 c27])∧(Qa Tryz.prog 26 [vhp u0 u1,vi 0,vi 120] h15 fun v28 h29=>∃ x30,v28=(vi x30)∧(Qa Tryz.prog 26 [vhp u0 u1,(vi (-1099511627776)),vi 1099511627776] h29 fun v31 h32=>∃ x33,v31=(vi x33)∧(Qa Tryz.prog 26 [vhp u0 u1,(vi (-1000000000)),vi 1000000000] h32 fun v34 h35=>∃ x36,v34=(vi x36)∧(∀ b37,h35 b37=none→let h38:= Hp.set h35 b37 (Qc [vi x26,vi x30,vi x33,vi x36] 101);(Ql Tryz.prog (Builtin.append_ #[81,81] 81 #[vsl a20 n20 c20,(vsl (some (⟨b37,0,none⟩:Addr)) 1 1)]) h38 fun v39 h40=>∃ a41 n41 c41,v39=(vsl a41 n41 c41)∧(∃ x43,(IsW x43 (x16+1))∧(I12 [vi x43,vi x17,vi x18,vi x19,vsl a41 n41 c41,vb p21] h40∧m13 [vi x43,vi x17,vi x18,vi x19,vsl a41 n41 c41,vb p21] h40 < m13 vs14 h15))))))))))∧((decide (x16 < (u3:Int)))=false→(J44 x17 x18 x19 a20 n20 c20 p21 h15))))))))
theorem MQ {u0 u1 u2 u3 u4 u5 u6 u7 u8 u9 u10 u11 u12 u13 u14 h R}(H:KB u0 u1 u2 u3 u4 u5 u6 u7 u8 u9 u10 u11 u12 u13 u14 h R):Qa Tryz.prog 27 [vhp u0 u1,vag [vsl u2 u3 u4,vsl u5 u6 u7,vsl u8 u9 u10,vi u11,vi u12,vi u13,vi u14]] h R:=
 Qd (cfg:=⟨[],[(3,([19],[.one (.int .i64)],[(2,[.int .i64,.int .i64,.int .i64,.slice,.bool])]))],[(5,[0,1,2,3,4,6,8,5,7,9,10,11,12,13,14])]⟩) Qo mixed Tryz.func27 [.one (.hp u0 u1),.ag [.v (vsl u2 u3 u4),.v (vsl u5 u6 u7),.v (vsl u8 u9 u10),.v (vi u11),.v (vi u12),.v (vi u13),.v (vi u14)]] (by kernel_rfl) rfl (by kernel_rfl) H
def Ji (u0 u1:Nat)(u2:Option Addr)(u3 u4:Nat)(u5:Option Addr)(u6 u7:Nat)(u8:Option Addr)(u9 u10:Nat)(u11:Int)(u12:Int)(u13:Int)(u14:Int)(h:Hp)(R:Value→Hp→Prop):Prop:=
 (Qa Tryz.prog 26 [vhp u0 u1,vi 0,vi 1] h fun v1 h2=>∃ x3,v1=(vi x3)∧(Qa Tryz.prog 26 [vhp u0 u1,(vi (-1000)),vi 9999] h2 fun v4 h5=>∃ x6,v4=(vi x6)∧(Qa Tryz.prog 75 [vhp u0 u1] h5 fun v7 h8=>∃ x9 x10,v7=(vag [vi x9,vi x10])∧(let J35:Bool→Int→Int→Int→Option Addr→Nat→Nat→Hp→Prop:=fun p51 x52 x53 x54 a55 n55 c55 h56=>R (vag [vb p51,vi x52,vi x53,vi x54,vsl a55 n55 c55]) h56;(∃(I12:List Value→Hp→Prop) (m13:List Value→Hp→Nat),I12 [vi 0,(vb (decide (x3=1))),vi x6,vi x9,vi x10,vsl none 0 0] h8∧∀ vs14 h15,I12 vs14 h15→∃ x16 p17 x18 x19 x20 a21 n21 c21,vs14=[vi x16,vb p17,vi x18,vi x19,vi x20,vsl a21 n21 c21]∧(((decide (x16 < (u3:Int)))=true→(Qa Tryz.prog 75 [vhp u0 u1] h15 fun v24 h25=>∃ x26 x27,v24=(vag [vi x26,vi x27])∧(∀ b28,h25 b28=none→let h29:= Hp.set h25 b28 (Qc [vi x26,vi x27] 42);(Ql Tryz.prog (Builtin.append_ #[85,85] 85 #[vsl a21 n21 c21,(vsl (some (⟨b28,0,none⟩:Addr)) 1 1)]) h29 fun v30 h31=>∃ a32 n32 c32,v30=(vsl a32 n32 c32)∧(∃ x34,(IsW x34 (x16+1))∧(I12 [vi x34,vb p17,vi x18,vi x19,vi x20,vsl a32 n32 c32] h31∧m13 [vi x34,vb p17,vi x18,vi x19,vi x20,vsl a32 n32 c32] h31 < m13 vs14 h15))))))∧((decide (x16 < (u3:Int)))=false→(J35 p17 x18 x19 x20 a21 n21 c21 h15))))))))
theorem NV {u0 u1 u2 u3 u4 u5 u6 u7 u8 u9 u10 u11 u12 u13 u14 h R}(H:Ji u0 u1 u2 u3 u4 u5 u6 u7 u8 u9 u10 u11 u12 u13 u14 h R):Qa Tryz.prog 28 [vhp u0 u1,vag [vsl u2 u3 u4,vsl u5 u6 u7,vsl u8 u9 u10,vi u11,vi u12,vi u13,vi u14]] h R:=
 Qd (cfg:=⟨[],[(3,([18],[.one (.int .i64)],[(2,[.bool,.int .i64,.int .i64,.int .i64,.slice])]))],[(4,[0,1,2,3,4,5,6,7,8,9])]⟩) Qo mixed Tryz.func28 [.one (.hp u0 u1),.ag [.v (vsl u2 u3 u4),.v (vsl u5 u6 u7),.v (vsl u8 u9 u10),.v (vi u11),.v (vi u12),.v (vi u13),.v (vi u14)]] (by kernel_rfl) rfl (by kernel_rfl) H
def QaO (u0 u1:Nat)(h:Hp)(R:Value→Hp→Prop):Prop:=
 (∃ a1 n1 c1,(Hp.cell h u0 (u1+8)=some (vsl a1 n1 c1))∧(∃ x2,(Hp.cell h u0 (u1+11)=some (vi x2))∧(∃ a3 n3 c3,(Hp.cell h u0 (u1+10)=some (vsl a3 n3 c3))∧(∃ a4 n4 c4,(Hp.cell h u0 (u1+12)=some (vsl a4 n4 c4))∧(Yt Tryz.prog (Value.func (.func 32) #[] #[]) [(vi (n1:Int))] h fun v5 h6=>∃ s7,v5=(vs s7)∧((Hp.cell h6 u0 (u1+12)=some (vsl a4 n4 c4))∧((Hp.cell h6 u0 (u1+10)=some (vsl a3 n3 c3))∧((Hp.cell h6 u0 (u1+11)=some (vi x2))∧(Yt Tryz.prog (Value.func (.func 32) #[] #[]) [vi x2] h6 fun v8 h9=>∃ s10,v8=(vs s10)∧((Hp.cell h9 u0 (u1+12)=some (vsl a4 n4 c4))∧((Hp.cell h9 u0 (u1+10)=some (vsl a3 n3 c3))∧(Yt Tryz.prog (Value.func (.func 32) #[] #[]) [(vi (n3:Int))] h9 fun v11 h12=>∃ s13,v11=(vs s13)∧((Hp.cell h12 u0 (u1+12)=some (vsl a4 n4 c4))∧(Yt Tryz.prog (Value.func (.func 32) #[] #[]) [(vi (n4:Int))] h12 fun v14 h15=>∃ s16,v14=(vs s16)∧(∀ b17,h15 b17=none→let h18:= Hp.set h15 b17 (Qc [vs s7,vs s10,vs s13,vs s16] 9);(∃ a19 n19 c19,(Hp.cell h18 u0 (u1+8)=some (vsl a19 n19 c19))∧(∃(I21:List Value→Hp→Prop) (m22:List Value→Hp→Nat),I21 [(vsl (some (⟨b17,0,none⟩:Addr)) 4 4),vi 0] h18∧∀ vs23 h24,I21 vs23 h24→∃ a25 n25 c25 x26,vs23=[vsl a25 n25 c25,vi x26]∧(((decide (x26 < (n19:Int)))=true→(∃ a29 n29 c29,(Hp.cell h24 u0 (u1+8)=some (vsl a29 n29 c29))∧(∃ b30 o31,(a29=some ⟨b30,o31,none⟩∧(0:Int)≤x26∧x26 < (n29:Int))∧(∃ x32,(Hp.cell h24 b30 (o31+x26.toNat*1)=some (vi x32))∧(∃ a33 n33 c33,(Hp.cell h24 u0 (u1+9)=some (vsl a33 n33 c33))∧(∃ b34 o35,(a33=some ⟨b34,o35,none⟩∧(0:Int)≤x26∧x26 < (n33:Int))∧(∃ x36,(Hp.cell h24 b34 (o35+x26.toNat*1)=some (vi x36))∧(Yt Tryz.prog (Value.func (.func 32) #[] #[]) [vi x32] h24 fun v37 h38=>∃ s39,v37=(vs s39)∧((Hp.cell h38 b34 (o35+x26.toNat*1)=some (vi x36))∧((Hp.cell h38 u0 (u1+9)=some (vsl a33 n33 c33))∧(Yt Tryz.prog (Value.func (.func 32) #[] #[]) [vi x36] h38 fun v40 h41=>∃ s42,v40=(vs s42)∧(∀ b43,h41 b43=none→let h44:= Hp.set h41 b43 (Qc [vs s39,vs s42] 9);(Ql Tryz.prog (Builtin.append_ #[75,75] 75 #[vsl a25 n25 c25,(vsl (some (⟨b43,0,none⟩:Addr)) 2 2)]) h44 fun v45 h46=>∃ a47 n47 c47,v45=(vsl a47 n47 c47)∧(∃ x49,(IsW x49 (x26+1))∧(I21 [vsl a47 n47 c47,vi x49] h46∧m22 [vsl a47 n47 c47,vi x49] h46 < m22 vs23 h24)))))))))))))))∧((decide (x26 < (n19:Int)))=false→(∃ a50 n50 c50,(Hp.cell h24 u0 (u1+10)=some (vsl a50 n50 c50))∧(∃(I52:List Value→Hp→Prop) (m53:List Value→Hp→Nat),I52 [vsl a25 n25 c25,vi 0] h24∧∀ vs54 h55,I52 vs54 h55→∃ a56 n56 c56 x57,vs54=[vsl a56 n56 c56,vi x57]∧(((decide (x57 < (n50:Int)))=true→(∃ b60 o61,(a50=some ⟨b60,o61,none⟩∧(0:Int)≤x57∧x57 < (n50:Int))∧(∃ x62 x63 x64 a65 n65 c65 p66,(Hp.row h55 b60 (o61+x57.toNat*5) 5=some [vi x62,vi x63,vi x64,vsl a65 n65 c65,vb p66])∧(let J69:ByteArray→Prop:=fun s76=>(Yt Tryz.prog (Value.func (.func 32) #[] #[]) [vi x62] h55 fun v77 h78=>∃ s79,v77=(vs s79)∧(Qa Tryz.prog 33 [vag [vi x63,vi x64]] h78 fun v80 h81=>∃ s82,v80=(vs s82)∧(∀ b83,h81 b83=none→let h84:= Hp.set h81 b83 (Qc [vs s79,vs s82,vs s76] 9);(Ql Tryz.prog (Builtin.append_ #[75,75] 75 #[vsl a56 n56 c56,(vsl (some (⟨b83,0,none⟩:Addr)) 3 3)]) h84 fun v85 h86=>∃ a87 n87 c87,v85=(vsl a87 n87 c87)∧(∃(I89:List Value→Hp→Prop) (m90:List Value→Hp→Nat),I89 [vsl a87 n87 c87,vi 0] h86∧∀ vs91 h92,I89 vs91 h92→∃ a93 n93 c93 x94,vs91=[vsl a93 n93 c93,vi x94]∧(((decide (x94 < (n65:Int)))=true→(∃ b97 o98,(a65=some ⟨b97,o98,none⟩∧(0:Int)≤x94∧x94 < (n65:Int))∧(∃ x99 x100 x101 x102,(Hp.row h92 b97 (o98+x94.toNat*4) 4=some [vi x99,vi x100,vi x101,vi x102])∧(Yt Tryz.prog (Value.func (.func 32) #[] #[]) [vi x100] h92 fun v103 h104=>∃ s105,v103=(vs s105)∧(Yt Tryz.prog (Value.func (.func 32) #[] #[]) [vi x101] h104 fun v106 h107=>∃ s108,v106=(vs s108)∧(Yt Tryz.prog (Value.func (.func 32) #[] #[]) [vi x102] h107 fun v109 h110=>∃ s111,v109=(vs s111)∧(∀ b112,h110 b112=none→let h113:= Hp.set h110 b112 (Qc [vs s105,vs s108,vs s111] 9);(Ql Tryz.prog (Builtin.append_ #[75,75] 75 #[vsl a93 n93 c93,(vsl (some (⟨b112,0,none⟩:Addr)) 3 3)]) h113 fun v114 h115=>∃ a116 n116 c116,v114=(vsl a116 n116 c116)∧(∃ x118,(IsW x118 (x94+1))∧(I89 [vsl a116 n116 c116,vi x118] h115∧m90 [vsl a116 n116 c116,vi x118] h115 < m90 vs91 h92))))))))))∧((decide (x94 < (n65:Int)))=false→(∃ x119,(IsW x119 (x57+1))∧(I52 [vsl a93 n93 c93,vi x119] h92∧m53 [vsl a93 n93 c93,vi x119] h92 < m53 vs54 h55)))))))));((p66=true→(J69 ⟨#[49]⟩))∧(p66=false→(J69 ⟨#[48]⟩)))))))∧((decide (x57 < (n50:Int)))=false→(∃ a120 n120 c120,(Hp.cell h55 u0 (u1+12)=some (vsl a120 n120 c120))∧(∃(I122:List Value→Hp→Prop) (m123:List Value→Hp→Nat),I122 [vsl a56 n56 c56,vi 0] h55∧∀ vs124 h125,I122 vs124 h125→∃ a126 n126 c126 x127,vs124=[vsl a126 n126 c126,vi x127]∧(((decide (x127 < (n120:Int)))=true→(∃ b130 o131,(a120=some ⟨b130,o131,none⟩∧(0:Int)≤x127∧x127 < (n120:Int))∧(∃ p132 x133 x134 x135 a136 n136 c136,(Hp.row h125 b130 (o131+x127.toNat*5) 5=some [vb p132,vi x133,vi x134,vi x135,vsl a136 n136 c136])∧(let J139:ByteArray→Prop:=fun s146=>(Yt Tryz.prog (Value.func (.func 32) #[] #[]) [vi x133] h125 fun v147 h148=>∃ s149,v147=(vs s149)∧(Qa Tryz.prog 33 [vag [vi x134,vi x135]] h148 fun v150 h151=>∃ s152,v150=(vs s152)∧(∀ b153,h151 b153=none→let h154:= Hp.set h151 b153 (Qc [vs s146,vs s149,vs s152] 9);(Ql Tryz.prog (Builtin.append_ #[75,75] 75 #[vsl a126 n126 c126,(vsl (some (⟨b153,0,none⟩:Addr)) 3 3)]) h154 fun v155 h156=>∃ a157 n157 c157,v155=(vsl a157 n157 c157)∧(∃(I159:List Value→Hp→Prop) (m160:List Value→Hp→Nat),I159 [vsl a157 n157 c157,vi 0] h156∧∀ vs161 h162,I159 vs161 h162→∃ a163 n163 c163 x164,vs161=[vsl a163 n163 c163,vi x164]∧(((decide (x164 < (n136:Int)))=true→(∃ b167 o168,(a136=some ⟨b167,o168,none⟩∧(0:Int)≤x164∧x164 < (n136:Int))∧(∃ x169 x170,(Hp.row h162 b167 (o168+x164.toNat*2) 2=some [vi x169,vi x170])∧(Qa Tryz.prog 33 [vag [vi x169,vi x170]] h162 fun v171 h172=>∃ s173,v171=(vs s173)∧(∀ b174,h172 b174=none→let h175:= Hp.set h172 b174 (Qc [vs s173] 9);(Ql Tryz.prog (Builtin.append_ #[75,75] 75 #[vsl a163 n163 c163,(vsl (some (⟨b174,0,none⟩:Addr)) 1 1)]) h175 fun v176 h177=>∃ a178 n178 c178,v176=(vsl a178 n178 c178)∧(∃ x180,(IsW x180 (x164+1))∧(I159 [vsl a178 n178 c178,vi x180] h177∧m160 [vsl a178 n178 c178,vi x180] h177 < m160 vs161 h162))))))))∧((decide (x164 < (n136:Int)))=false→(∃ x181,(IsW x181 (x127+1))∧(I122 [vsl a163 n163 c163,vi x181] h162∧m123 [vsl a163 n163 c163,vi x181] h162 < m123 vs124 h125)))))))));((p132=true→(J139 ⟨#[49]⟩))∧(p132=false→(J139 ⟨#[48]⟩)))))))∧((decide (x127 < (n120:Int)))=false→(Qa Tryz.prog 34 [vsl a126 n126 c126,(vs ⟨#[32]⟩)] h125 fun v182 h183=>∃ s184,v182=(vs s184)∧R (vs s184) h183))))))))))))))))))))))))))))
theorem Qhe {u0 u1 h R}(H:QaO u0 u1 h R):Qa Tryz.prog 12 [vhp u0 u1] h R:=
 Qd (cfg:=⟨[],[(4,([4,50],[.one (.slice),.one (.int .i64)],[])),(16,([4,102],[.one (.slice),.one (.int .i64)],[])),(9,([4,82],[.one (.slice),.one (.int .i64)],[])),(29,([4,151],[.one (.slice),.one (.int .i64)],[])),(22,([4,128],[.one (.slice),.one (.int .i64)],[]))],[(2,[0,1,2,3,4,5,7,8,9,10,11,13,14,15,16,17,18,19,21,22,23,24,25,26,6,12,20,27,28,29]),(6,[0,1,2,3,4,5,6,7,8,10,11,12,13,14,15,16,17,18,9,19,20,21,22]),(14,[0,1,2,3,5,6,8,4,7,9,10,11]),(18,[0,1,2,3,5,6,7,9,10,11,4,8,12,13,14,15]),(27,[0,1,2,3,4,5,7,8,9,6,10,11,12,13])]⟩) Qo mixed Tryz.func12 [.one (.hp u0 u1)] (by kernel_rfl) rfl (by kernel_rfl) H
def Nh (u0:ByteArray)(u1:Option Addr)(u2 u3:Nat)(u4:Option Addr)(u5 u6:Nat)(u7:Option Addr)(u8 u9:Nat)(u10:Int)(u11:Int)(u12:Int)(u13:Int)(u14:Int)(h:Hp)(R:Value→Hp→Prop):Prop:=
 (Qa Tryz.prog 10 [vag [vsl u1 u2 u3,vsl u4 u5 u6,vsl u7 u8 u9,vi u10,vi u11,vi u12,vi u13],vi u14] h fun v1 h2=>∃ q3 e4,v1=(Qf [vp q3,ifv e4])∧(((Option.isSome e4)=true→R (Qf [vp none,ifv e4]) h2)∧((Option.isSome e4)=false→(Qa Tryz.prog 25 [vs u0,(vs ⟨#[32]⟩)] h2 fun v6 h7=>∃ a8 n8 c8,v6=(vsl a8 n8 c8)∧(∀ b9,h7 b9=none→let h10:= Hp.set h7 b9 (Qc [vsl a8 n8 c8,vb false] 78);(Qa Tryz.prog 26 [vhp b9 0,vi 1,vi 3] h10 fun v11 h12=>∃ x13,v11=(vi x13)∧(Qa Tryz.prog 26 [vhp b9 0,vi 0,vi 1099511627776] h12 fun v14 h15=>∃ x16,v14=(vi x16)∧(∃ b17 o18,(q3=some ⟨b17,o18,none⟩)∧(Hp.store h15 b17 (o18+11) [vi x16] fun h19=>(Qa Tryz.prog 26 [vhp b9 0,vi 0,vi 10000] h19 fun v20 h21=>∃ x22,v20=(vi x22)∧(Qa Tryz.prog 26 [vhp b9 0,vi 0,vi 10000] h21 fun v23 h24=>∃ x25,v23=(vi x25)∧(∃ x26,((decide (x13≠u14))=false→IsW x26 (x22+x25))∧(∃ a27 n27 c27,((decide (x13≠u14))=false→Hp.cell h24 b9 0=some (vsl a27 n27 c27))∧(((bif (decide (x13≠u14)) then true else(decide (x26 > (n27:Int))))=true→R (Qf [vp none,(ifv (some (80,(vi 4))))]) h24)∧((bif (decide (x13≠u14)) then true else(decide (x26 > (n27:Int))))=false→(∃(I30:List Value→Hp→Prop) (m31:List Value→Hp→Nat),I30 [vi 0] h24∧∀ vs32 h33,I30 vs32 h33→∃ x34,vs32=[vi x34]∧(((decide (x34 < u14))=true→(∃ b37 o38,(q3=some ⟨b37,o38,none⟩)∧(∃ a39 n39 c39,(Hp.cell h33 b37 (o38+8)=some (vsl a39 n39 c39))∧(Qa Tryz.prog 26 [vhp b9 0,vi 0,vi 40] h33 fun v40 h41=>∃ x42,v40=(vi x42)∧((Hp.cell h41 b37 (o38+8)=some (vsl a39 n39 c39))∧(∃ b43 o44,(a39=some ⟨b43,o44,none⟩∧(0:Int)≤x34∧x34 < (n39:Int))∧(Hp.store h41 b43 (o44+x34.toNat*1) [vi x42] fun h45=>(∃ b46 o47,(q3=some ⟨b46,o47,none⟩)∧(∃ a48 n48 c48,(Hp.cell h45 b46 (o47+9)=some (vsl a48 n48 c48))∧(Qa Tryz.prog 26 [vhp b9 0,(vi (-1)),vi 9999] h45 fun v49 h50=>∃ x51,v49=(vi x51)∧((Hp.cell h50 b46 (o47+9)=some (vsl a48 n48 c48))∧(∃ b52 o53,(a48=some ⟨b52,o53,none⟩∧(0:Int)≤x34∧x34 < (n48:Int))∧(Hp.store h50 b52 (o53+x34.toNat*1) [vi x51] fun h54=>(∃ x56,(IsW x56 (x34+1))∧(I30 [vi x56] h54∧m31 [vi x56] h54 < m31 vs32 h33)))))))))))))))∧((decide (x34 < u14))=false→(∃(I58:List Value→Hp→Prop) (m59:List Value→Hp→Nat),I58 [vi 0] h33∧∀ vs60 h61,I58 vs60 h61→∃ x62,vs60=[vi x62]∧(((decide (x62 < x22))=true→(∃ b65 o66,(q3=some ⟨b65,o66,none⟩)∧(∃ a67 n67 c67,(Hp.cell h61 b65 (o66+10)=some (vsl a67 n67 c67))∧(Qa Tryz.prog 27 [vhp b9 0,vag [vsl u1 u2 u3,vsl u4 u5 u6,vsl u7 u8 u9,vi u10,vi u11,vi u12,vi u13]] h61 fun v68 h69=>∃ x70 x71 x72 a73 n73 c73 p74,v68=(vag [vi x70,vi x71,vi x72,vsl a73 n73 c73,vb p74])∧((Hp.cell h69 b65 (o66+10)=some (vsl a67 n67 c67))∧(∀ b75,h69 b75=none→let h76:= Hp.set h69 b75 (Qc [vi x70,vi x71,vi x72,vsl a73 n73 c73,vb p74] 83);(Ql Tryz.prog (Builtin.append_ #[64,64] 64 #[vsl a67 n67 c67,(vsl (some (⟨b75,0,none⟩:Addr)) 1 1)]) h76 fun v77 h78=>∃ a79 n79 c79,v77=(vsl a79 n79 c79)∧(∃ b80 o81,(q3=some ⟨b80,o81,none⟩)∧(Hp.store h78 b80 (o81+10) [vsl a79 n79 c79] fun h82=>(∃ x84,(IsW x84 (x62+1))∧(I58 [vi x84] h82∧m59 [vi x84] h82 < m59 vs60 h61)))))))))))∧((decide (x62 < x22))=false→(∃(I86:List Value→Hp→Prop) (m87:List Value→Hp→Nat),I86 [vi 0] h61∧∀ vs88 h89,I86 vs88 h89→∃ x90,vs88=[vi x90]∧(((decide (x90 < x25))=true→(∃ b93 o94,(q3=some ⟨b93,o94,none⟩)∧(∃ a95 n95 c95,(Hp.cell h89 b93 (o94+12)=some (vsl a95 n95 c95))∧(Qa Tryz.prog 28 [vhp b9 0,vag [vsl u1 u2 u3,vsl u4 u5 u6,vsl u7 u8 u9,vi u10,vi u11,vi u12,vi u13]] h89 fun v96 h97=>∃ p98 x99 x100 x101 a102 n102 c102,v96=(vag [vb p98,vi x99,vi x100,vi x101,vsl a102 n102 c102])∧((Hp.cell h97 b93 (o94+12)=some (vsl a95 n95 c95))∧(∀ b103,h97 b103=none→let h104:= Hp.set h97 b103 (Qc [vb p98,vi x99,vi x100,vi x101,vsl a102 n102 c102] 89);(Ql Tryz.prog (Builtin.append_ #[50,50] 50 #[vsl a95 n95 c95,(vsl (some (⟨b103,0,none⟩:Addr)) 1 1)]) h104 fun v105 h106=>∃ a107 n107 c107,v105=(vsl a107 n107 c107)∧(∃ b108 o109,(q3=some ⟨b108,o109,none⟩)∧(Hp.store h106 b108 (o109+12) [vsl a107 n107 c107] fun h110=>(∃ x112,(IsW x112 (x90+1))∧(I86 [vi x112] h110∧m87 [vi x112] h110 < m87 vs88 h89)))))))))))∧((decide (x90 < x25))=false→(∃ p113,(Hp.cell h89 b9 (0+1)=some (vb p113))∧(∃ a114 n114 c114,(p113=false→Hp.cell h89 b9 0=some (vsl a114 n114 c114))∧(((bif p113 then true else(decide ((n114:Int) > 0)))=true→R (Qf [vp none,(ifv (some (80,(vi 4))))]) h89)∧((bif p113 then true else(decide ((n114:Int) > 0)))=false→R (Qf [vp q3,ifv none]) h89))))))))))))))))))))))))))))
theorem QfU {u0 u1 u2 u3 u4 u5 u6 u7 u8 u9 u10 u11 u12 u13 u14 h R}(H:Nh u0 u1 u2 u3 u4 u5 u6 u7 u8 u9 u10 u11 u12 u13 u14 h R):Qa Tryz.prog 8 [vs u0,vag [vsl u1 u2 u3,vsl u4 u5 u6,vsl u7 u8 u9,vi u10,vi u11,vi u12,vi u13],vi u14] h R:=
 Qd (cfg:=⟨[27],[(11,([55],[.one (.int .i64)],[])),(17,([77],[.one (.int .i64)],[])),(21,([95],[.one (.int .i64)],[]))],[(13,[0,1,2,3,4,5,6,7,8]),(14,[0,1,2,3,4,5,6,7,8,9]),(18,[0,1,2,3,4,5,6,7,8,9,10,11,12,13,14]),(22,[0,1,2,3,4,5,6,7,8,9,10,11,12])]⟩) Qo mixed Tryz.func8 [.one (.v (vs u0)),.ag [.v (vsl u1 u2 u3),.v (vsl u4 u5 u6),.v (vsl u7 u8 u9),.v (vi u10),.v (vi u11),.v (vi u12),.v (vi u13)],.one (.v (vi u14))] (by kernel_rfl) rfl (by kernel_rfl) H
open Go.Txt
abbrev Wds:=List UInt8
theorem Qfd:∀(w r:Wds),(32:UInt8) ∉ w→Lib.index (w++32 :: r) [32]=(w.length:Nat)
 | [],r,_=>by
  show Lib.index (32 :: r) [32]=_
  unfold Lib.index
  rw [if_pos (by simp [List.isPrefixOf])]
  rfl
 | c :: w,r,h=>by
  have hc:c≠32:=fun e=>h (by rw [e];exact List.mem_cons_self ..)
  have ih:=Qfd w r fun hm=>h (List.mem_cons_of_mem _ hm)
  rw [List.cons_append]
  unfold Lib.index
  have hp:([32]:Wds).isPrefixOf (c :: (w++32 :: r))=false:=by simp [List.isPrefixOf,Ne.symm hc]
  rw [hp,if_neg (by decide),ih,if_neg (by rw [beq_iff_eq];omega),List.length_cons]
  omega
theorem QdD:∀(w:Wds),(32:UInt8) ∉ w→Lib.index w [32]=-1
 | [],_=>rfl
 | c :: w,h=>by
  have hc:c≠32:=fun e=>h (by rw [e];exact List.mem_cons_self ..)
  have ih:=QdD w fun hm=>h (List.mem_cons_of_mem _ hm)
  unfold Lib.index
  have hp:([32]:Wds).isPrefixOf (c :: w)=false:=by simp [List.isPrefixOf,Ne.symm hc]
  rw [hp,if_neg (by decide),ih,if_pos (by decide)]
def Yx (s:Wds):List Wds:=Lib.split s [32]
theorem QmX {w:Wds}(h:(32:UInt8) ∉ w):Yx w=[w]:=by
 unfold Yx Lib.split
 rw [Lib.count_miss (QdD w h)]
 rfl
theorem Qmb {w r:Wds}(h:(32:UInt8) ∉ w):Yx (w++32 :: r)=w :: Yx r:=by
 unfold Yx Lib.split
 have hi:=Qfd w r h
 rw [Lib.count_hit (by decide) hi]
 have hd:(w++32 :: r).drop (w.length+[(32:UInt8)].length)=r:=by
  rw [←List.drop_drop,List.drop_left];rfl
 rw [hd,Nat.add_comm,Lib.splitK,if_neg (by rw [hi,beq_iff_eq];omega),hi]
 rw [Int.toNat_natCast,Nat.add_zero,List.take_left,hd]
theorem QgA:∀{ws:List Wds},ws≠[]→(∀ w ∈ ws,(32:UInt8) ∉ w)→Yx (Lib.join ws [32])=ws
 | [],h,_=>absurd rfl h
 | [w],_,h=>by rw [Lib.join_one];exact QmX (h w (List.mem_cons_self ..))
 | w :: v :: r,_,h=>by
  have e:Lib.join (w :: v :: r) [32]=w++32 :: Lib.join (v :: r) [32]:=by
   rw [Lib.join_cons,Lib.join_cons]
   unfold Lib.joinTail
   simp
  rw [e,Qmb (h w (List.mem_cons_self ..)),QgA (by simp) fun x hx=>h x (List.mem_cons_of_mem _ hx)]
theorem Qly {s:Wds}{k:Nat}:(Lib.splitK [32] 0 k s).length≤k+1:=by
 induction k generalizing s with
 | zero=>exact Nat.le_refl _
 | succ k ih=>
  unfold Lib.splitK
  split
  ·simp
  ·rw [List.length_cons];have:=ih (s:=s.drop ((Lib.index s [32]).toNat+[(32:UInt8)].length));omega
theorem QlZ {s:Wds}{k:Nat}:∀ w ∈ Lib.splitK [32] 0 k s,w.length≤s.length:=by
 induction k generalizing s with
 | zero=>intro w hw;rw [List.mem_singleton.1 hw];exact Nat.le_refl _
 | succ k ih=>
  intro w hw
  unfold Lib.splitK at hw
  split at hw
  ·rw [List.mem_singleton.1 hw];exact Nat.le_refl _
  ·rcases List.mem_cons.1 hw with rfl|h
   ·rw [List.length_take];exact Nat.min_le_right ..
   ·have:=ih w h
    rw [List.length_drop] at this
    omega
theorem QiO (s:Wds):1≤(Yx s).length∧(Yx s).length≤s.length+1∧∀ w ∈ Yx s,w.length≤s.length:=by
 refine⟨?_,?_,QlZ⟩
 ·unfold Yx Lib.split
  generalize Lib.count s [32]=k
  cases k with
  | zero=>exact Nat.le_refl _
  | succ k=>unfold Lib.splitK;split<;>simp
 ·have h1:Lib.count s [32]≤s.length:=by
   rw [Lib.count_one]
   exact List.count_le_length
  have:=Qly (s:=s) (k:=Lib.count s [32])
  unfold Yx Lib.split
  omega
theorem QiI {l:Wds}(h:∀ c ∈ l,isD c):(32:UInt8) ∉ l:=fun hm=>by
 have:=h 32 hm
 unfold isD at this
 revert this;decide
theorem Mp (n:Int):(32:UInt8) ∉ Lib.itoa n:=by
 unfold Lib.itoa
 split
 ·intro hm
  rcases List.mem_cons.1 hm with e|hm
  ·revert e;decide
  ·exact QiI (WV _).1 hm
 ·exact QiI (WV _).1
theorem QdE (v:Vl):(32:UInt8) ∉ Z3 v:=by
 unfold Z3
 split
 ·decide
 ·split
  ·exact Mp _
  ·split<;>decide
theorem Qoz {n:Int}:∃ c r,Lib.itoa n=c :: r∧c≠110∧c≠116∧c≠102:=by
 unfold Lib.itoa
 split
 ·exact⟨45,_,rfl,by decide,by decide,by decide⟩
 ·obtain⟨d1,d2,d3,d4⟩:=WV n.toNat
  match hx:Lib.decDigits n.toNat,d3 with
  | c :: r,_=>
   rw [hx] at d1
   have:=d1 c (List.mem_cons_self ..)
   unfold isD at this
   refine⟨c,r,rfl,?_,?_,?_⟩<;>(rintro rfl;revert this;decide)
theorem QpW {v:Vl}(hv:Qp v):Wo (Z3 v)=(v,0):=by
 obtain⟨a,b⟩:=v
 unfold Qp at hv
 simp only at hv
 rcases hv with ⟨rfl,rfl⟩|⟨rfl,h1,h2⟩|⟨rfl,rfl|rfl⟩
 ·rfl
 ·obtain⟨c,r,e,n1,n2,n3⟩:=Qoz (n:=b)
  have et:Z3 (1,b)=Lib.itoa b:=rfl
  rw [et]
  have hn:Lib.itoa b≠Xe:=by rw [e];intro h;unfold Xe at h;injection h with h _;exact n1 h
  have hw:¬(Lib.itoa b=YD∨Lib.itoa b=Ye):=by
   rw [e]
   rintro(h|h)
   ·unfold YD at h;injection h with h _;exact n2 h
   ·unfold Ye at h;injection h with h _;exact n3 h
  unfold Wo
  rw [if_neg hn,if_neg hw,Qb5 (by omega) (by omega)]
  simp only
  rw [if_pos ⟨trivial,h1,h2⟩]
  unfold YP
  rw [if_neg (by omega)]
 ·rfl
 ·rfl
theorem QeG {v:Vl}(hv:Qp v):(Z3 v).length≤14:=by
 unfold Qp at hv
 unfold Z3
 split
 ·decide
 ·split
  ·exact Qjd (by omega) (by omega)
  ·split<;>decide
abbrev RdW:=List Wds × Bool
def wdR:RdW→Wds × RdW
 | ([],_)=>([],([],true))
 | (w :: l,b)=>(w,(l,b))
def nmV (lo hi:Int)(w:Wds):Option Int:=match Lib.atoiAll w with|.ok n=>if Lib.itoa n=w∧lo≤n∧n≤hi then some n else none|_=>none
def nmR (lo hi:Int)(s:RdW):Int × RdW:=match nmV lo hi (wdR s).1 with|some n=>(n,(wdR s).2)|none=>(lo,((wdR s).2.1,true))
def vlR (s:RdW):Vl × RdW:=((Wo (wdR s).1).1,((wdR s).2.1,(wdR s).2.2||decide ((Wo (wdR s).1).2≠0)))
def QV {κ α:Type}(f:κ→RdW→α × RdW):List κ→RdW→List α × RdW
 | [],s=>([],s)
 | k :: l,s=>((f k s).1 :: (QV f l (f k s).2).1,(QV f l (f k s).2).2)
theorem WD {κ α:Type}(f:κ→RdW→α × RdW)(k:κ):∀(l:List κ) (s:RdW),QV f (l++[k]) s=((QV f l s).1++[(f k (QV f l s).2).1],(f k (QV f l s).2).2)
 | [],s=>rfl
 | x :: l,s=>by
  rw [List.cons_append,QV,WD f k l (f x s).2]
  rfl
theorem Up {κ α:Type}(f:κ→RdW→α × RdW):∀(l:List κ) (s:RdW),(QV f l s).1.length=l.length
 | [],s=>rfl
 | x :: l,s=>by rw [QV,List.length_cons,List.length_cons,Up f l]
abbrev AcT:=PK × List AcS × Bool
def acR (k:Int)(s:RdW):AcS × RdW:=
 let n:=nmR 0 120 s
 let m:=nmR (-1099511627776) 1099511627776 n.2
 let b:=nmR (-1000000000) 1000000000 m.2
 ((k,n.1,m.1,b.1),b.2)
def pnR (ks:List Int)(s:RdW):AcT × RdW:=
 let a:=nmR (-1000) 9999 s
 let k:=vlR a.2
 let t:=nmR 0 1 k.2
 let l:=QV acR ks t.2
 (((a.1,k.1),l.1,decide (t.1=1)),l.2)
def rwR (n:Nat)(s:RdW):Rw × RdW:=
 let g:=nmR 0 1 s
 let a:=nmR (-1000) 9999 g.2
 let k:=vlR a.2
 let l:=QV (fun _:Unit=>vlR) (List.replicate n ()) k.2
 ((decide (g.1=1),(a.1,k.1),l.1),l.2)
def rfR (s:RdW):(Int × Int) × RdW:=
 let r:=nmR 0 40 s
 let f:=nmR (-1) 9999 r.2
 ((r.1,f.1),f.2)
structure ShX where
 rd:List Nat
 far:List Int
 late:Nat
 pn:List AcT
 rows:List Rw
def hdR (s:RdW):(Int × Int × Int × Int) × RdW:=
 let k:=nmR 1 3 s
 let a:=nmR 0 1099511627776 k.2
 let m:=nmR 0 10000 a.2
 let w:=nmR 0 10000 m.2
 ((k.1,a.1,m.1,w.1),w.2)
def Qdu (ks:List Int)(parts:Nat)(ws:List Wds):Option ShX:=
 let h:=hdR (ws,false)
 if h.1.1≠parts∨h.1.2.2.1+h.1.2.2.2 > h.2.1.length then none else
 let f:=QV (fun _:Unit=>rfR) (List.replicate parts ()) h.2
 let p:=QV (fun _:Unit=>pnR ks) (List.replicate h.1.2.2.1.toNat ()) f.2
 let r:=QV (fun _:Unit=>rwR ks.length) (List.replicate h.1.2.2.2.toNat ()) p.2
 if r.2.2=true∨r.2.1≠[] then none else some ⟨f.1.map fun x=>x.1.toNat,f.1.map (·.2),h.1.2.1.toNat,p.1,r.1⟩
theorem QmW {lo hi n:Int}{w:Wds}(h:nmV lo hi w=some n):Lib.atoiAll w=.ok n∧Lib.itoa n=w∧lo≤n∧n≤hi:=by
 unfold nmV at h
 split at h
 ·rename_i m hm
  split at h
  ·cases h;exact⟨hm,by assumption⟩
  ·cases h
 ·cases h
theorem Qap {lo hi:Int}(h:lo≤hi)(s:RdW):lo≤(nmR lo hi s).1∧(nmR lo hi s).1≤hi:=by
 unfold nmR
 split
 ·rename_i n hn;exact(QmW hn).2.2
 ·exact⟨Int.le_refl _,h⟩
theorem Qgr {κ α:Type}{f:κ→RdW→α × RdW}{Q:α→Prop}(h:∀ k s,Q (f k s).1):∀(l:List κ) (s:RdW),∀ x ∈ (QV f l s).1,Q x
 | [],s,x,hx=>by cases hx
 | k :: l,s,x,hx=>by
  rw [QV] at hx
  rcases List.mem_cons.1 hx with rfl|hx
  ·exact h k s
  ·exact Qgr h l _ x hx
def GW (b:Bool):Wds:=if b then [49] else [48]
def acW (a:AcS):List Wds:=[Lib.itoa a.2.1,Lib.itoa a.2.2.1,Lib.itoa a.2.2.2]
def pnW (p:AcT):List Wds:=[Lib.itoa p.1.1,Z3 p.1.2,GW p.2.2]++p.2.1.flatMap acW
def rwW (w:Rw):List Wds:=[GW w.1,Lib.itoa w.2.1.1,Z3 w.2.1.2]++w.2.2.map Z3
def rfW (x:Nat × Int):List Wds:=[Lib.itoa (x.1:Nat),Lib.itoa x.2]
def hdW (st:En):List Wds:=[Lib.itoa (st.rd.length:Nat),Lib.itoa (st.late:Nat),Lib.itoa (st.pn.length:Nat),Lib.itoa (st.rows.length:Nat)]
def XV (ks:List Int)(st:En):List Wds:=hdW st++(st.rd.zip st.far).flatMap rfW++(st.pn.map (pnT ks)).flatMap pnW++st.rows.flatMap rwW
def QgC (ks:List Int)(st:En):Wds:=Lib.join (XV ks st) [32]
theorem Qku (b:Bool):(32:UInt8) ∉ GW b:=by cases b<;>decide
theorem QmC (ks:List Int)(st:En):∀ w ∈ XV ks st,(32:UInt8) ∉ w:=by
 intro w hw
 unfold XV hdW at hw
 simp only [List.mem_append,List.mem_flatMap,List.mem_cons,List.not_mem_nil,or_false] at hw
 rcases hw with ((hw|⟨x,_,hx⟩)|⟨x,_,hx⟩)|⟨x,_,hx⟩
 ·rcases hw with rfl|rfl|rfl|rfl<;>exact Mp _
 ·unfold rfW at hx
  simp only [List.mem_cons,List.not_mem_nil,or_false] at hx
  rcases hx with rfl|rfl<;>exact Mp _
 ·unfold pnW acW at hx
  simp only [List.mem_append,List.mem_flatMap,List.mem_cons,List.not_mem_nil,or_false] at hx
  rcases hx with (rfl|rfl|rfl)|⟨a,_,ha⟩
  ·exact Mp _
  ·exact QdE _
  ·exact Qku _
  ·rcases ha with rfl|rfl|rfl<;>exact Mp _
 ·unfold rwW at hx
  simp only [List.mem_append,List.mem_map,List.mem_cons,List.not_mem_nil,or_false] at hx
  rcases hx with (rfl|rfl|rfl)|⟨a,_,rfl⟩
  ·exact Qku _
  ·exact Mp _
  ·exact QdE _
  ·exact QdE _
theorem Qnq (ks:List Int)(st:En):Yx (QgC ks st)=XV ks st:=QgA (by unfold XV hdW;simp) (QmC ks st)
theorem Yo {lo hi n:Int}(h1:lo≤n)(h2:n≤hi)(h3:-1099511627776≤lo)(h4:hi≤1099511627776:=by omega)(h5:-1000000000000≤n:=by omega)(h6:n≤1000000000000:=by omega){l:List Wds}{b:Bool}:nmR lo hi (Lib.itoa n :: l,b)=(n,(l,b)):=by
 have e:nmV lo hi (Lib.itoa n)=some n:=by
  unfold nmV
  rw [Qb5 h5 h6]
  simp only
  rw [if_pos ⟨trivial,h1,h2⟩]
 unfold nmR
 simp only [wdR,e]
theorem QeR {v:Vl}(hv:Qp v){l:List Wds}{b:Bool}:vlR (Z3 v :: l,b)=(v,(l,b)):=by
 unfold vlR
 simp only [wdR,QpW hv]
 simp
theorem QpV {g b:Bool}{l:List Wds}:nmR 0 1 (GW g :: l,b)=((if g then 1 else 0),(l,b)):=by
 cases g
 ·have e:Lib.itoa 0=GW false:=Qin (by decide) (by decide)
  rw [←e]
  exact Yo (lo:=0) (hi:=1) (n:=0) (by decide) (by decide) (by decide) (by decide) (by decide) (by decide)
 ·have e:Lib.itoa 1=GW true:=Qin (by decide) (by decide)
  rw [←e]
  exact Yo (lo:=0) (hi:=1) (n:=1) (by decide) (by decide) (by decide) (by decide) (by decide) (by decide)
theorem WH {κ α β:Type}{f:κ→RdW→α × RdW}{W:β→List Wds}{φ:β→α}{key:β→κ}{Q:β→Prop}(h:∀ x l b,Q x→f (key x) (W x++l,b)=(φ x,(l,b))):∀(xs:List β) {l:List Wds} {b:Bool},(∀ x ∈ xs,Q x)→QV f (xs.map key) (xs.flatMap W++l,b)=(xs.map φ,(l,b))
 | [],l,b,_=>rfl
 | x :: xs,l,b,hq=>by
  rw [List.map_cons,List.flatMap_cons,List.append_assoc,QV,h x _ b (hq x (List.mem_cons_self ..)),WH h xs fun y hy=>hq y (List.mem_cons_of_mem _ hy)]
  rfl
def AcO (a:AcS):Prop:=0≤a.2.1∧a.2.1≤120∧-120000000000≤a.2.2.1∧a.2.2.1≤120000000000∧-1000000000≤a.2.2.2∧a.2.2.2≤1000000000
theorem QnN (a:AcS)(l:List Wds)(b:Bool)(h:AcO a):acR a.1 (acW a++l,b)=(a,(l,b)):=by
 obtain⟨h1,h2,h3,h4,h5,h6⟩:=h
 unfold acR acW
 simp only [List.cons_append,List.nil_append]
 rw [Yo h1 h2 (by decide) (by decide) (by omega) (by omega)]
 simp only
 rw [Yo (by omega) (by omega) (by decide) (by decide) (by omega) (by omega)]
 simp only
 rw [Yo h5 h6 (by decide) (by decide) (by omega) (by omega)]
def PnO (ks:List Int)(p:AcT):Prop:=-1000≤p.1.1∧p.1.1≤9999∧Qp p.1.2∧p.2.1.map Prod.fst=ks∧∀ a ∈ p.2.1,AcO a
theorem Qmy {ks:List Int}(p:AcT)(l:List Wds)(b:Bool)(h:PnO ks p):pnR ks (pnW p++l,b)=(p,(l,b)):=by
 obtain⟨h1,h2,h3,h4,h5⟩:=h
 obtain⟨⟨s,k⟩,acs,t⟩:=p
 unfold pnR pnW
 simp only [List.cons_append,List.nil_append,List.append_assoc] at h1 h2 h3 h4 h5 ⊢
 have e1:=fun l b=>Yo (l:=l) (b:=b) h1 h2 (by decide) (by decide) (by omega) (by omega)
 have e2:=fun l b=>QeR (l:=l) (b:=b) h3
 have e3:=fun l b=>QpV (g:=t) (l:=l) (b:=b)
 simp only [e1,e2,e3]
 have:=WH (f:=acR) (W:=acW) (φ:=id) (key:=Prod.fst) (Q:=AcO) QnN acs (l:=l) (b:=b) h5
 rw [h4] at this
 rw [this,List.map_id]
 cases t<;>rfl
def RwO (n:Nat)(w:Rw):Prop:=-1000≤w.2.1.1∧w.2.1.1≤9999∧Qp w.2.1.2∧w.2.2.length=n∧∀ v ∈ w.2.2,Qp v
theorem Qm6 (vs:List Vl):vs.flatMap (fun v=>[Z3 v])=vs.map Z3:=by
 induction vs with
 | nil=>rfl
 | cons x l ih=>rw [List.flatMap_cons,ih];rfl
theorem QnP {n:Nat}(w:Rw)(l:List Wds)(b:Bool)(h:RwO n w):rwR n (rwW w++l,b)=(w,(l,b)):=by
 obtain⟨h1,h2,h3,h4,h5⟩:=h
 obtain⟨g,⟨s,k⟩,vals⟩:=w
 unfold rwR rwW
 simp only [List.cons_append,List.nil_append,List.append_assoc] at h1 h2 h3 h4 h5 ⊢
 have e1:=fun l b=>Yo (l:=l) (b:=b) h1 h2 (by decide) (by decide) (by omega) (by omega)
 have e2:=fun l b=>QeR (l:=l) (b:=b) h3
 have e3:=fun l b=>QpV (g:=g) (l:=l) (b:=b)
 simp only [e1,e2,e3]
 have:=WH (f:=fun _:Unit=>vlR) (W:=fun v=>[Z3 v]) (φ:=id) (key:=fun _=>()) (Q:=Qp) (fun v l b hv=>QeR hv) vals (l:=l) (b:=b) h5
 rw [show vals.map (fun _=>())=List.replicate n () by rw [List.map_const',h4],Qm6] at this
 rw [this,List.map_id]
 cases g<;>rfl
theorem QmM (x:Nat × Int)(l:List Wds)(b:Bool)(h:x.1≤40∧-1≤x.2∧x.2≤9999):rfR (rfW x++l,b)=(((x.1:Int),x.2),(l,b)):=by
 obtain⟨h1,h2,h3⟩:=h
 unfold rfR rfW
 simp only [List.cons_append,List.nil_append]
 rw [Yo (by omega) (by omega) (by decide) (by decide) (by omega) (by omega)]
 simp only
 rw [Yo h2 h3 (by decide) (by decide) (by omega) (by omega)]
structure ShO (ks:List Int)(parts:Nat)(st:En):Prop where
 p1:1≤parts
 p3:parts≤3
 rl:st.rd.length=parts
 fl:st.far.length=parts
 rb:∀ x ∈ st.rd,x≤40
 fb:∀ x ∈ st.far,-1≤x∧x≤9999
 la:st.late≤10000
 pl:st.pn.length≤10000
 wl:st.rows.length≤10000
 pn:∀ p ∈ st.pn,PnO ks (pnT ks p)
 rw:∀ w ∈ st.rows,RwO ks.length w
theorem Qau {α:Type}{f:α→List Wds}(h:∀ x,1≤(f x).length):∀ l:List α,l.length≤(l.flatMap f).length
 | []=>Nat.le_refl _
 | x :: l=>by
  have:=h x
  have:=Qau h l
  rw [List.length_cons,List.flatMap_cons,List.length_append]
  omega
theorem QlC {ks:List Int}{parts:Nat}{st:En}(H:ShO ks parts st):Qdu ks parts (XV ks st)=some ⟨st.rd,st.far,st.late,st.pn.map (pnT ks),st.rows⟩:=by
 obtain⟨p1,p3,rl,fl,rb,fb,la,pl,wl,pn,rw'⟩:=H
 have e0:hdR (XV ks st,false)=((((parts:Int),(st.late:Int),(st.pn.length:Int),(st.rows.length:Int)):Int × Int × Int × Int),((st.rd.zip st.far).flatMap rfW++((st.pn.map (pnT ks)).flatMap pnW++st.rows.flatMap rwW),false)):=by
  unfold hdR XV hdW
  simp only [List.cons_append,List.nil_append,List.append_assoc,rl]
  rw [Yo (by omega) (by omega) (by decide) (by decide) (by omega) (by omega)]
  simp only
  rw [Yo (by omega) (by omega) (by decide) (by decide) (by omega) (by omega)]
  simp only
  rw [Yo (by omega) (by omega) (by decide) (by decide) (by omega) (by omega)]
  simp only
  rw [Yo (by omega) (by omega) (by decide) (by decide) (by omega) (by omega)]
 have hz:(st.rd.zip st.far).length=parts:=by rw [List.length_zip];omega
 have e1:=WH (f:=fun _:Unit=>rfR) (W:=rfW) (φ:=fun x:Nat × Int=>((x.1:Int),x.2)) (key:=fun _=>()) (Q:=fun x:Nat × Int=>x.1≤40∧-1≤x.2∧x.2≤9999) (fun x l b h=>QmM x l b h) (st.rd.zip st.far)
  (l:=(st.pn.map (pnT ks)).flatMap pnW++st.rows.flatMap rwW) (b:=false) (fun x hx=>⟨rb _ (List.of_mem_zip hx).1,fb _ (List.of_mem_zip hx).2⟩)
 rw [show (st.rd.zip st.far).map (fun _=>())=List.replicate parts () by rw [List.map_const',hz]] at e1
 have e2:=WH (f:=fun _:Unit=>pnR ks) (W:=pnW) (φ:=id) (key:=fun _=>()) (Q:=PnO ks) (fun x l b h=>Qmy x l b h) (st.pn.map (pnT ks)) (l:=st.rows.flatMap rwW) (b:=false) (fun x hx=>by
  obtain⟨p,hp,rfl⟩:=List.mem_map.1 hx
  exact pn p hp)
 rw [show (st.pn.map (pnT ks)).map (fun _=>())=List.replicate st.pn.length () by rw [List.map_const',List.length_map]] at e2
 have e3:=WH (f:=fun _:Unit=>rwR ks.length) (W:=rwW) (φ:=id) (key:=fun _=>()) (Q:=RwO ks.length) (fun x l b h=>QnP x l b h) st.rows (l:=[]) (b:=false) rw'
 rw [show st.rows.map (fun _=>())=List.replicate st.rows.length () by rw [List.map_const'],List.append_nil] at e3
 have k1:st.pn.length≤((st.pn.map (pnT ks)).flatMap pnW).length:=by
  have:=Qau (f:=pnW) (fun x=>by unfold pnW;simp) (st.pn.map (pnT ks))
  rw [List.length_map] at this
  exact this
 have k2:st.rows.length≤(st.rows.flatMap rwW).length:=Qau (f:=rwW) (fun x=>by unfold rwW;simp) st.rows
 unfold Qdu
 simp only [e0]
 rw [if_neg (by
  rintro(h|h)
  ·exact h rfl
  ·rw [List.length_append,List.length_append] at h
   omega)]
 simp only [Int.toNat_natCast,e1,e2,e3]
 rw [if_neg (by simp)]
 congr 1
 rw [List.map_id,List.map_id]
 have z1:((st.rd.zip st.far).map fun x:Nat × Int=>((x.1:Int),x.2)).map (fun x=>x.1.toNat)=st.rd:=by
  rw [List.map_map]
  rw [show ((fun x:Int × Int=>x.1.toNat) ∘ fun x:Nat × Int=>((x.1:Int),x.2))=Prod.fst from by funext x;simp]
  exact List.map_fst_zip (by omega)
 have z2:((st.rd.zip st.far).map fun x:Nat × Int=>((x.1:Int),x.2)).map (·.2)=st.far:=by
  rw [List.map_map]
  exact List.map_snd_zip (by omega)
 rw [z1,z2]
theorem QbW {s:Int}(hs:1≤s):∀(k:Nat) (lo:Int) (n:Nat) (f:Int),Zp s f=true→lo < f→f≤lo+s→lo+n < f+k*s→(k=0∨f+(k - 1)*s≤lo+n) →
  upto (Zp s) lo n=(List.range k).map fun i:Nat=>f+i*s
 | 0,lo,n,f,hf,h1,h2,h3,h4=>by
  have:=Ms (Zp s) n lo 0 fun x x1 x2=>by
   refine JP (x:=f - s) hs ?_ (by omega) (by simp at h3;omega)
   rw [YH] at hf ⊢
   exact Int.dvd_sub hf (Int.dvd_refl _)
  simpa [upto] using this
 | k+1,lo,n,f,hf,h1,h2,h3,h4=>by
  have hk:0≤(k:Int)*s:=Int.mul_nonneg (by omega) (by omega)
  have e0:((k+1:Nat):Int)*s=k*s+s:=by rw [Int.natCast_add,Int.add_mul];simp
  have e1:(((k+1:Nat):Int) - 1)*s=k*s:=by congr 1;omega
  rw [e0] at h3
  rw [e1] at h4
  have h5:f+k*s≤lo+n:=by omega
  have a:=Ms (Zp s) (f - 1 - lo).toNat lo ((lo+n - f).toNat+1) fun x x1 x2=>by
   refine JP (x:=f - s) hs ?_ (by omega) (by omega)
   rw [YH] at hf ⊢
   exact Int.dvd_sub hf (Int.dvd_refl _)
  have e2:(f - 1 - lo).toNat+((lo+n - f).toNat+1)=n:=by omega
  have e3:lo+((f - 1 - lo).toNat:Int)=f - 1:=by omega
  have e4:f - 1+1=f:=by omega
  rw [e2,e3,Mg,e4,hf,if_pos rfl] at a
  have b:=QbW hs k f (lo+n - f).toNat (f+s) (by rw [YH] at hf ⊢;exact Int.dvd_add hf (Int.dvd_refl _)) (by omega) (by omega) (by omega) (by
   rcases Nat.eq_zero_or_pos k with h|h
   ·exact .inl h
   ·refine .inr ?_
    rw [Int.sub_mul]
    omega)
  rw [a,b,List.range_succ_eq_map,List.map_cons,List.map_map]
  simp only [List.singleton_append]
  congr 1
  ·simp
  ·refine List.map_congr_left fun i _=>?_
   show f+s+i*s=f+((i+1:Nat):Int)*s
   rw [Int.natCast_add,Int.add_mul]
   simp
   omega
theorem Qio {at_ size slide:Int}(hs:1≤slide)(h1:slide≤size):∃(k:Nat) (f:Int),ZH at_ size slide=((List.range k).map fun i:Nat=>f+i*slide) ∧
  ZH (at_+slide) size slide=((List.range k).map fun i:Nat=>f+slide+i*slide)∧1≤k∧Zp slide f=true∧at_ - size < f∧f≤at_ - size+slide∧at_ < f+k*slide∧f+(k - 1)*slide≤at_:=by
 have m0:0≤(at_ - size).emod slide:=Int.emod_nonneg _ (by omega)
 have m1:(at_ - size).emod slide < slide:=Int.emod_lt_of_pos _ (by omega)
 have d1:slide*((at_ - size) / slide)+(at_ - size).emod slide=at_ - size:=Int.mul_ediv_add_emod _ _
 let f:=slide*((at_ - size) / slide)+slide
 have hf:Zp slide f=true:=YH.2 ⟨(at_ - size) / slide+1,by show slide*_+slide=_;rw [Int.mul_add];simp⟩
 have f1:at_ - size < f:=by show at_ - size < slide*_+slide;omega
 have f2:f≤at_ - size+slide:=by show slide*_+slide≤_;omega
 have q0:0≤(at_ - f).emod slide:=Int.emod_nonneg _ (by omega)
 have q1:(at_ - f).emod slide < slide:=Int.emod_lt_of_pos _ (by omega)
 have q2:slide*((at_ - f) / slide)+(at_ - f).emod slide=at_ - f:=Int.mul_ediv_add_emod _ _
 have q3:0≤(at_ - f) / slide:=Int.ediv_nonneg (by omega) (by omega)
 have e0:((((at_ - f) / slide).toNat+1:Nat):Int)*slide=slide*((at_ - f) / slide)+slide:=by
  rw [Int.natCast_add,Int.add_mul,Int.toNat_of_nonneg q3,Int.mul_comm];simp
 have e1:(((((at_ - f) / slide).toNat+1:Nat):Int) - 1)*slide=slide*((at_ - f) / slide):=by
  rw [Int.sub_mul,e0];omega
 refine⟨((at_ - f) / slide).toNat+1,f,?_,?_,by omega,hf,f1,f2,?_,?_⟩
 ·exact QbW hs _ _ _ f hf f1 f2 (by rw [e0];omega) (.inr (by rw [e1];omega))
 ·exact QbW hs _ _ _ (f+slide) (by rw [YH] at hf ⊢;exact Int.dvd_add hf (Int.dvd_refl _)) (by omega) (by omega) (by rw [e0];omega) (.inr (by rw [e1];omega))
 ·rw [e0];omega
 ·rw [e1];omega
theorem QcR {q:Qy}(B:QOk q)(t:Int):(ZH t q.size q.slide).length≤4∧(ZH t q.size q.slide).Nodup:=by
 have hl:=B.l
 have hr:=B.r
 obtain⟨k,f,e,_,_,_,h1,_,_,h2⟩:=Qio (at_:=t) hl.1 hr.1
 rw [e]
 refine⟨?_,?_⟩
 ·rw [List.length_map,List.length_range]
  refine Decidable.byContradiction fun hk=>?_
  have h3:4≤(k:Int) - 1:=by omega
  have h4:4*q.slide≤((k:Int) - 1)*q.slide:=Int.mul_le_mul_of_nonneg_right h3 (by omega)
  omega
 ·unfold List.Nodup
  rw [List.pairwise_map]
  refine List.Pairwise.imp (fun {a b} hab q1=>?_) (List.nodup_range (n:=k))
  have h5:(a:Int)*q.slide=b*q.slide:=by omega
  have h6:=Int.eq_of_mul_eq_mul_right (by omega) h5
  exact hab (by omega)
theorem Qlo {q:Qy}(B:QOk q){e:EvL}(E:WC e):Qp (Zq q e):=by
 unfold Zq
 split
 ·exact .inl ⟨rfl,rfl⟩
 ·rename_i h
  obtain⟨O,_⟩:=Z4 (B.b h)
  exact(VY O E (by have:=O.pos;omega)).1
theorem QkK (n:Int):Qp (YP n):=by
 unfold YP
 split
 ·exact .inl ⟨rfl,rfl⟩
 ·exact .inr (.inl ⟨rfl,by omega,by omega⟩)
theorem QlU (k:Int)(s:Int × Int × Int):Qp (QdU k s):=by
 unfold QdU
 split
 ·exact QkK _
 ·split
  ·exact .inl ⟨rfl,rfl⟩
  ·split<;>exact QkK _
theorem Qca (ks:List Int)(rs:List (List Vl)):∀ v ∈ Yq ks rs,Qp v:=by
 intro v hv
 unfold Yq at hv
 obtain⟨a,_,rfl⟩:=List.mem_map.1 hv
 exact QlU _ _
def AcM (m:Nat)(a:AcS):Prop:=0≤a.2.1∧a.2.1≤m∧-(m*1000000000:Int)≤a.2.2.1∧a.2.2.1≤m*1000000000∧-1000000000≤a.2.2.2∧a.2.2.2≤1000000000
theorem QlY {m:Nat}{a:AcS}(h:AcM m a){v:Vl}(hv:ZQ v):AcM (m+1) (a.1,Q8 a.1 a.2 v):=by
 obtain⟨h1,h2,h3,h4,h5,h6⟩:=h
 unfold ZQ at hv
 unfold AcM Q8
 simp only
 split
 ·refine⟨h1,by omega,by push_cast;omega,by push_cast;omega,h5,h6⟩
 ·refine⟨by simp only;omega,by simp only;omega,by simp only;push_cast;omega,by simp only;push_cast;omega,?_,?_⟩<;>(simp only;split<;>omega)
theorem Qjv {ks:List Int}{rs:List (List Vl)}(hv:∀ r ∈ rs,∀ v ∈ r,ZQ v):∀ a ∈ Wa ks rs,AcM rs.length a:=by
 induction rs using QbB with
 | h0=>
  intro a ha
  have ha:a ∈ Xk ks:=ha
  unfold Xk at ha
  obtain⟨k,_,rfl⟩:=List.mem_map.1 ha
  exact⟨Int.le_refl _,Int.le_refl _,Int.le_refl _,Int.le_refl _,(by show (-1000000000:Int)≤0;decide),(by show (0:Int)≤1000000000;decide)⟩
 | h1 rs r ih=>
  intro a ha
  rw [Gx] at ha
  unfold ZO at ha
  obtain⟨i,hi,rfl⟩:=List.mem_iff_getElem.1 ha
  rw [List.length_zipWith] at hi
  rw [List.getElem_zipWith,List.length_append,List.length_singleton]
  exact QlY (ih (fun x hx=>hv x (List.mem_append_left _ hx)) _ (List.getElem_mem _)) (hv r (by simp) _ (List.getElem_mem _))
structure EnT (q:Qy)(n:Nat)(st:En):Prop where
 a:∀ p ∈ st.pn,p.rs.length≤n∧Qp p.k.2
 w:∀ w ∈ st.rows,-1000≤w.2.1.1∧w.2.1.1≤9999∧Qp w.2.1.2∧∀ v ∈ w.2.2,Qp v
theorem Qk6 {ks:List Int}{k:PK}{v:List Vl}{o:Option Pn}(hk:-1000≤k.1∧k.1≤9999∧Qp k.2):∀ w ∈ MI ks k v o,-1000≤w.2.1.1∧w.2.1.1≤9999∧Qp w.2.1.2∧∀ v ∈ w.2.2,Qp v:=by
 intro w hw
 unfold MI at hw
 split at hw
 ·split at hw
  ·simp only [List.mem_cons,List.not_mem_nil,or_false] at hw
   rcases hw with rfl|rfl
   ·exact⟨hk.1,hk.2.1,hk.2.2,Qca _ _⟩
   ·exact⟨hk.1,hk.2.1,hk.2.2,Qca _ _⟩
  ·cases hw
 ·cases hw
theorem Qi9 {q:Qy}(B:QOk q){far:Int}{e:EvL}(E:WC e){n:Nat}:∀(ss:List Int) {st:En},ss.Nodup→(∀ s ∈ ss,-1000≤s∧s≤9999)→EnT q (n+1) st→(∀ p ∈ st.pn,p.k.1 ∈ ss→p.rs.length≤n)→EnT q (n+1) (ss.foldl (Xp q far e) st)
 | [],st,_,_,H,_=>H
 | s :: ss,st,hn,hs,H,hm=>by
  obtain⟨hn1,hn2⟩:=List.nodup_cons.1 hn
  have hg:=Qlo B E
  have hs0:=hs s (List.mem_cons_self ..)
  rw [List.foldl_cons]
  refine Qi9 B E ss hn2 (fun x hx=>hs x (List.mem_cons_of_mem _ hx)) ?_ ?_
  ·unfold Xp
   split
   ·exact⟨H.a,H.w⟩
   ·refine⟨fun p hp=>?_,fun w hw=>?_⟩
    ·rcases Qby hp with h|⟨rfl,_⟩|⟨p0,h,hk,rfl⟩
     ·exact H.a p h
     ·exact⟨by simp,hg⟩
     ·have:=hm p0 h (by rw [hk];exact List.mem_cons_self ..)
      exact⟨by simp;omega,hg⟩
    ·rcases List.mem_append.1 hw with h|h
     ·exact H.w w h
     ·exact Qk6 ⟨hs0.1,hs0.2,hg⟩ w h
  ·intro p hp hin
   unfold Xp at hp
   split at hp
   ·exact hm p hp (List.mem_cons_of_mem _ hin)
   ·rcases Qby hp with h|⟨rfl,_⟩|⟨p0,h,hk,rfl⟩
    ·exact hm p h (List.mem_cons_of_mem _ hin)
    ·exact absurd hin hn1
    ·exact absurd hin hn1
theorem EnT.step {q:Qy}(B:QOk q){n parts N:Nat}{st:En}(H:EnT q n st)(HB:EnB q parts N st){p:Nat}{e:EvL}(E:WC e):EnT q (n+1) (XL q p e st):=by
 have H1:EnT q (n+1) st:=⟨fun p hp=>⟨Nat.le_succ_of_le (H.a p hp).1,(H.a p hp).2⟩,H.w⟩
 have HB2:=Qey B HB E (far:=st.far.getD p 0)
 have H2:EnT q (n+1) (Yf q (st.far.getD p 0) e st):=by
  unfold Yf
  split
  ·exact Qi9 B E _ (QcR B e.1).2 (Uu B E) H1 fun p hp _=>(H.a p hp).1
  ·exact H1
 unfold XL
 have HB3:∀ p' ∈ (Xh p e (Yf q (st.far.getD p 0) e st)).pn,-1000≤p'.k.1∧p'.k.1≤9999:=fun p' hp'=>⟨(HB2.pa p' hp').2.1,(HB2.pa p' hp').2.2.1⟩
 have H3:EnT q (n+1) (Xh p e (Yf q (st.far.getD p 0) e st)):=⟨H2.a,H2.w⟩
 generalize Xh p e (Yf q (st.far.getD p 0) e st)=s2 at HB3 H3
 unfold MW
 split
 ·refine⟨fun p' hp'=>?_,fun w hw=>?_⟩
  ·have:=(List.mem_filter.1 hp').1
   unfold YS at this
   obtain⟨p0,h0,rfl⟩:=List.mem_map.1 this
   exact H3.a p0 h0
  ·rcases List.mem_append.1 hw with h|h
   ·exact H3.w w h
   ·obtain⟨p0,h0,rfl⟩:=List.mem_map.1 h
    have hm:=(List.mem_filter.1 h0).1
    exact⟨(HB3 p0 hm).1,(HB3 p0 hm).2,(H3.a p0 hm).2,Qca _ _⟩
 ·exact H3
theorem Ql8 {q:Qy}(B:QOk q){parts N:Nat}{st:En}(H:EnB q parts N st){p:Nat}(hp:p < parts){e:EvL}(E:WC e):EnB q parts (N+5) (XL q p e st):=by
 have H2:EnB q parts (N+4) (Yf q (st.far.getD p 0) e st):=by
  unfold Yf
  split
  ·exact(K4 B E _ H (Uu B E)).mono (by have:=(QcR B e.1).1;omega)
  ·exact H.mono (by omega)
 exact Qn0 (QnO H2 hp E)
structure EnZ (q:Qy)(parts:Nat)(st:En):Prop where
 b:EnB q parts (5*st.rd.sum) st
 t:EnT q st.rd.sum st
theorem QkI:∀(l:List Nat) (p:Nat),p < l.length→(l.set p (l.getD p 0+1)).sum=l.sum+1
 | [],p,h=>absurd h (Nat.not_lt_zero _)
 | x :: l,0,_=>by simp;omega
 | x :: l,p+1,h=>by
  have:=QkI l p (by simpa using h)
  simp only [List.getD_cons_succ,List.set_cons_succ,List.sum_cons,this]
  omega
theorem QiS {q:Qy}{p:Nat}{e:EvL}{st:En}:(XL q p e st).rd=st.rd.set p (st.rd.getD p 0+1):=by
 have hse:∀ s:En,(MW q s).rd=s.rd:=fun s=>by unfold MW;split<;>rfl
 unfold XL
 rw [hse]
 unfold Xh
 rw [(Qaf).1]
theorem EnZ.step {q:Qy}(B:QOk q){parts:Nat}{st:En}(Z:EnZ q parts st){p:Nat}(hp:p < parts){e:EvL}(E:WC e):EnZ q parts (XL q p e st):=by
 have hs:(XL q p e st).rd.sum=st.rd.sum+1:=by rw [QiS,QkI _ _ (by rw [Z.b.rl];exact hp)]
 refine⟨?_,?_⟩
 ·rw [hs]
  exact Ql8 B Z.b hp E
 ·rw [hs]
  exact Z.t.step B Z.b E
theorem Qn2 (n:Nat):(List.replicate n (0:Nat)).sum=0:=by
 induction n with
 | zero=>rfl
 | succ n ih=>rw [List.replicate_succ,List.sum_cons,ih]
theorem EnZ.new (q:Qy)(parts:Nat):EnZ q parts (WX parts):=by
 have hs:(WX parts).rd.sum=0:=Qn2 parts
 refine⟨by rw [hs];exact Qkz q parts,by rw [hs];exact⟨fun p hp=>(by cases hp),fun w hw=>(by cases hw)⟩⟩
theorem Qdq {M:Nat}:∀ l:List Nat,(∀ x ∈ l,x≤M)→l.sum≤l.length*M
 | [],_=>by simp
 | x :: l,h=>by
  have:=Qdq l fun y hy=>h y (List.mem_cons_of_mem _ hy)
  have:=h x (List.mem_cons_self ..)
  rw [List.sum_cons,List.length_cons,Nat.succ_mul]
  omega
theorem EnZ.sho {q:Qy}{parts:Nat}{st:En}(Z:EnZ q parts st)(h1:1≤parts)(h3:parts≤3)(hr:∀ x ∈ st.rd,x≤40):ShO (Qe q) parts st:=by
 have hs:st.rd.sum≤120:=by
  have:=Qdq st.rd hr
  rw [Z.b.rl] at this
  omega
 have hl:=Z.b.ll
 have hp:=Z.b.pl
 have hw:=Z.b.wl
 refine⟨h1,h3,Z.b.rl,Z.b.fl,hr,Z.b.fb,by omega,by omega,by omega,fun p hp'=>?_,fun w hw'=>?_⟩
 ·obtain⟨q1,q2,q3,q4⟩:=Z.b.pa p hp'
  obtain⟨t1,t2⟩:=Z.t.a p hp'
  refine⟨q2,q3,t2,UR fun r hr=>by rw [(q4 r hr).l,QC],fun a ha=>?_⟩
  obtain⟨m1,m2,m3,m4,m5,m6⟩:=Qjv (ks:=Qe q) (rs:=p.rs) (fun r hr=>(q4 r hr).v) a ha
  exact⟨m1,by omega,by omega,by omega,m5,m6⟩
 ·obtain⟨t1,t2,t3,t4⟩:=Z.t.w w hw'
  exact⟨t1,t2,t3,by rw [Z.b.wo w hw',QC],t4⟩
end Go.Proofs.YtgmplfdecikgoaaGreatDoor
namespace Go.Vc
open Go
section
variable {hi h:Hp}{L:List Ow}
theorem QS.sub {L':List Ow}(O:QS hi h L)(hs:L'.Sublist L):QS hi h L':=⟨O.le,fun s h1=>O.own s (hs.mem h1),fun s h1=>O.new s (hs.mem h1),O.dj.sublist hs⟩
theorem QS.cons {h':Hp}(O:QS hi h L)(l:h.le h'){s:Ow}(O':s.own h')(hn:∀ b,s.at b→h b=none):QS hi h' (s :: L):=by
 have O2:=O.grow l
 refine⟨O2.le,fun t ht=>?_,fun t ht b hb=>?_,List.pairwise_cons.2 ⟨fun y hy b hb hb'=>?_,O.dj⟩⟩
 ·rcases List.mem_cons.1 ht with rfl|q
  ·exact O'
  ·exact O2.own t q
 ·rcases List.mem_cons.1 ht with rfl|q
  ·exact Hp.none_of_le O.le (hn b hb)
  ·exact O.new t q b hb
 ·exact Ow.al (O.own y hy) hb' (hn b hb)
theorem QS.ins {h':Hp}{x:Ow}(O:QS hi h (x :: L))(l:h.le h'){s:Ow}(O':s.own h')(hn:∀ b,s.at b→h b=none):QS hi h' (x :: s :: L):=by
 have O2:=O.grow l
 have Os:=(O.sub (List.sublist_cons_self x L)).cons l O' hn
 obtain⟨d1,d2⟩:=List.pairwise_cons.1 O.dj
 refine⟨O2.le,fun t ht=>?_,fun t ht b hb=>?_,List.pairwise_cons.2 ⟨fun y hy b hb hb'=>?_,Os.dj⟩⟩
 ·rcases List.mem_cons.1 ht with rfl|q
  ·exact O2.own _ (List.mem_cons_self ..)
  ·exact Os.own t q
 ·rcases List.mem_cons.1 ht with rfl|q
  ·exact O.new _ (List.mem_cons_self ..) b hb
  ·exact Os.new t q b hb
 ·rcases List.mem_cons.1 hy with rfl|q
  ·exact Ow.al (O.own x (List.mem_cons_self ..)) hb (hn b hb')
  ·exact d1 y q b hb hb'
theorem QS.shut1 {x s:Ow}(O:QS hi h (x :: s :: L)):∃ hj:Hp,hi.le hj∧QS hj h (x :: L)∧Qg hj s.a s.xs:=by
 obtain⟨hj,lj,Oj,kj⟩:=O.rebase (L':=x :: L) (List.Sublist.cons_cons x (List.sublist_cons_self s L))
 refine⟨hj,lj,Oj,?_⟩
 have hs:s ∈ x :: s :: L:=by simp
 have hrow:=(O.ownV hs).row
 obtain⟨d1,d2⟩:=List.pairwise_cons.1 O.dj
 obtain⟨d3,d4⟩:=List.pairwise_cons.1 d2
 rcases hrow with e|⟨b,o,ha,hr⟩
 ·exact .inl e
 ·refine .inr ⟨b,o,ha,?_⟩
  have hb0:o=0:=(O.own s hs).at0 b o ha
  subst hb0
  unfold Hp.row at hr ⊢
  cases hq:h b with
  | none=>rw [hq] at hr;cases hr
  | some ob=>
   rw [kj b ob hq fun t ht q1=>?_]
   ·rw [hq] at hr;exact hr
   ·rcases List.mem_cons.1 ht with rfl|ht
    ·exact d1 s (List.mem_cons_self ..) b q1 ha
    ·exact d3 t ht b ha q1
end
end Go.Vc
namespace Go.Proofs.YtgmplfdecikgoaaGreatDoor
open Go Go.Vc Go.Txt Go.RowKit
def RdO (hi h:Hp)(g:Nat)(L:List Ow)(s:RdW):Prop:=∃(a:Option Addr) (n c:Nat),QS hi h (ZX g 78 [vsl a n c,vb s.2] :: L)∧SlB hi a n s.1∧n≤c∧∀ w ∈ s.1,w.length≤1000000
theorem RdO.le {hi h:Hp}{g:Nat}{L:List Ow}{s:RdW}(X:RdO hi h g L s):hi.le h:=by
 obtain⟨a,n,c,O,_⟩:=X
 exact O.le
section
variable {hi h:Hp}{g:Nat}{L:List Ow}{s:RdW}{R:Value→Hp→Prop}
theorem QeS (X:RdO hi h g L s)(hK:∀ h',RdO hi h' g L (wdR s).2→(wdR s).1.length≤1000000→R (vs (bs (wdR s).1)) h'):Qa Tryz.prog 73 [vhp g 0] h R:=by
 refine MP ?_
 unfold Kv
 obtain⟨a,n,c,O,S,hc,hw⟩:=X
 obtain⟨ws,b⟩:=s
 have hb:=O.blk (List.mem_cons_self ..)
 have hn:=S.1
 simp only at hn hw S
 refine⟨_,_,_,Qb hb rfl,fun e=>?_,fun e=>?_⟩
 ·have h0:n=0:=by have:=of_decide_eq_true e;omega
  have hws:ws=[]:=List.eq_nil_of_length_eq_zero (by omega)
  subst hws
  refine O.put (j:=0) rfl (i:=1) (Nat.le_of_ble_eq_true rfl) fun h' O' _=>?_
  simp only [List.set_cons_zero,List.set_cons_succ] at O'
  exact hK h' ⟨a,n,c,O',S,hc,hw⟩ (Nat.zero_le _)
 ·have h0:0 < n:=by have:=of_decide_eq_false e;omega
  match ws,S,hn,hw with
  | [],_,hn,_=>simp at hn;omega
  | w :: ws,S,hn,hw=>
   obtain⟨b5,o6,ea,hcell⟩:=(S.le O.le).get1 (i:=0) (by omega)
   have hT:Tryz.prog.underlying 75=some (.slice 9):=by kernel_rfl
   have hI:(Tryz.prog.info? 9).isSome=true:=by kernel_rfl
   have hsz:szT Tryz.prog 9=1:=by kernel_rfl
   have rdl:=YY (P:=Tryz.prog) (h:=h) (t:=75) (e:=9) hT hI (a:=a) (n:=n) (c:=c) (x:=((1:Nat):Int)) (by omega) (by omega)
   simp only [Int.toNat_natCast,hsz] at rdl
   refine⟨_,_,_,Qb hb rfl,b5,o6,⟨ea,by omega,by omega⟩,_,hcell,_,_,_,Qb hb rfl,_,_,_,rdl,?_⟩
   have S2:=S.drop Yi (i:=1) (by omega) hc
   rw [show (w :: ws).drop 1=ws from rfl] at S2
   refine O.put (j:=0) rfl (i:=0) (Nat.le_of_ble_eq_true rfl) fun h' O' _=>?_
   simp only [List.set_cons_zero] at O'
   exact hK h' ⟨_,_,_,O',S2,by omega,fun x hx=>hw x (List.mem_cons_of_mem _ hx)⟩ (hw w (List.mem_cons_self ..))
theorem Q3 {lo hi':Int}(X:RdO hi h g L s)(T:VF hi)(E:Qbt hi)(hK:∀ h',RdO hi h' g L (nmR lo hi' s).2→R (vi (nmR lo hi' s).1) h'):Qa Tryz.prog 26 [vhp g 0,vi lo,vi hi'] h R:=by
 refine Vt ?_
 unfold Wq
 refine QeS X fun h2 X2 hl=>⟨_,rfl,?_⟩
 have bad:∀ h',RdO hi h' g L (wdR s).2→nmV lo hi' (wdR s).1=none→(Hp.store h' g (0+1) [vb true] fun h15=>R (vi lo) h15):=by
  intro h' X' e
  obtain⟨a,n,c,O,S,hc,hw⟩:=X'
  refine O.put (j:=0) rfl (i:=1) (Nat.le_of_ble_eq_true rfl) fun h15 O15 _=>?_
  simp only [List.set_cons_zero,List.set_cons_succ] at O15
  have e1:nmR lo hi' s=(lo,((wdR s).2.1,true)):=by unfold nmR;rw [e]
  rw [e1] at hK
  exact hK h15 ⟨a,n,c,O15,S,hc,hw⟩
 refine strconv_Atoi_ok hl (E.le X2.le) (fun n hn=>⟨n,none,rfl,?_⟩) fun hno x e=>⟨x,some e,rfl,?_⟩
 ·have hb:=Lib.atoiAll_bounds hn
  refine⟨fun v hh=>hh=h2∧v=.t (.one (.v (vs (bs (Lib.itoa n))))),fun _=>Xw (by unfold InR;omega) (T.le X2.le) ⟨_,rfl,rfl,rfl⟩,fun e=>absurd rfl e,?_⟩
  rintro h12 s13 ⟨rfl,e13⟩
  cases e13
  refine⟨_,fun _=>YC (a:=Lib.itoa n) (b:=(wdR s).1),fun e=>bad _ X2 ?_,fun e=>?_⟩
  ·unfold nmV
   rw [hn]
   simp only
   rw [if_neg]
   rintro⟨k1,k2,k3⟩
   rw [decide_eq_true k1,decide_eq_false (show ¬ n < lo by omega),decide_eq_false (show ¬ n > hi' by omega)] at e
   cases e
  ·obtain⟨e,g3⟩:=ZC e
   obtain⟨e,g2⟩:=ZC e
   obtain⟨_,e⟩:=ZC e
   have g3:=of_decide_eq_false g3
   have g2:=of_decide_eq_false g2
   have g1:Lib.itoa n=(wdR s).1:=by simpa using e
   have e1:nmR lo hi' s=(n,(wdR s).2):=by
    unfold nmR nmV
    rw [hn]
    simp only
    rw [if_pos ⟨g1,by omega,by omega⟩]
   rw [e1] at hK
   exact hK _ X2
 ·refine⟨fun v hh=>hh=h2∧∃ y,v=.t (.one (.v (vs y))),fun e=>(by cases e),fun _=>⟨rfl,_,rfl⟩,?_⟩
  rintro h12 s13 ⟨rfl,y,e13⟩
  refine⟨false,fun e=>(by cases e),fun _=>bad _ X2 ?_,fun e=>(by cases e)⟩
  unfold nmV
  split
  ·rename_i n hn;exact absurd hn (hno n)
  ·rfl
theorem Gq (X:RdO hi h g L s)(T:VF hi)(E:Qbt hi)(hK:∀ h',RdO hi h' g L (vlR s).2→R (vag (Qv (vlR s).1)) h'):Qa Tryz.prog 75 [vhp g 0] h R:=by
 refine V6 ?_
 unfold W9
 refine QeS X fun h2 X2 hl=>⟨_,rfl,?_⟩
 refine GO hl (T.le X2.le) (E.le X2.le) ⟨_,_,_,rfl,?_⟩
 obtain⟨a,n,c,O,S,hc,hw⟩:=X2
 refine⟨_,Qb (O.blk (List.mem_cons_self ..)) rfl,?_⟩
 refine O.put (j:=0) rfl (i:=1) (Nat.le_of_ble_eq_true rfl) fun h15 O15 _=>?_
 simp only [List.set_cons_zero,List.set_cons_succ] at O15
 refine hK h15 ⟨a,n,c,?_,S,hc,hw⟩
 have e:(bif (wdR s).2.2 then true else Option.isSome (YA (Wo (wdR s).1).2))=((wdR s).2.2||decide ((Wo (wdR s).1).2≠0)):=by
  rw [Zj]
  cases (wdR s).2.2<;>simp
 rw [e] at O15
 exact O15
end
abbrev owA (a:Option Addr)(n c:Nat)(l:List AcS):Ow:=⟨101,4,a,n,c,l.flatMap YK⟩
abbrev QpX (a:Option Addr)(n c:Nat)(l:List Vl):Ow:=⟨42,2,a,n,c,l.flatMap Qv⟩
theorem RdO.ins {hi h:Hp}{g:Nat}{L:List Ow}{s:RdW}(X:RdO hi h g L s){o:Ow}(O':o.own h)(hn:∀ b,o.at b→h b=none):RdO hi h g (o :: L) s:=by
 obtain⟨a,n,c,O,S,hc,hw⟩:=X
 exact⟨a,n,c,O.ins (Hp.le_refl h) O' hn,S,hc,hw⟩
theorem Qlb (x:Vl):∀ u ∈ Qv x,u.oneCell'=true:=by
 intro u hu
 simp only [Qv,List.mem_cons,List.not_mem_nil,or_false] at hu
 rcases hu with rfl|rfl<;>rfl
section
variable {hi h:Hp}{g:Nat}{L:List Ow}{s:RdW}{R:Value→Hp→Prop}{q:Qy}{a1:Option Addr}{n1 c1:Nat}{a2:Option Addr}{n2 c2:Nat}{a3:Option Addr}{n3 c3:Nat}
set_option maxHeartbeats 1000000 in
theorem Qkd (X:RdO hi h g L s)(Q:QAt hi q a1 n1 a2 n2 a3 n3)(B:QOk q)(T:VF hi)(E:Qbt hi)
  (hK:∀ a' c' hj h',hi.le hj→RdO hj h' g L (pnR (Qe q) s).2→Qg hj a' ((pnR (Qe q) s).1.2.1.flatMap YK)→R (vag [vi (pnR (Qe q) s).1.1.1,vi (pnR (Qe q) s).1.1.2.1,vi (pnR (Qe q) s).1.1.2.2,vsl a' (pnR (Qe q) s).1.2.1.length c',vb (pnR (Qe q) s).1.2.2]) h') :
  Qa Tryz.prog 27 [vhp g 0,qV a1 n1 c1 a2 n2 c2 a3 n3 c3 q] h R:=by
 refine MQ ?_
 unfold KB
 have hn1:=Q.g.len
 have hn4:=B.n2
 refine Q3 X T E fun h2 X2=>⟨_,rfl,?_⟩
 refine Gq X2 T E fun h5 X5=>⟨_,_,rfl,?_⟩
 refine Q3 X5 T E fun h9 X9=>⟨_,rfl,?_⟩
 have e0:pnR (Qe q) s=((((nmR (-1000) 9999 s).1,(vlR (nmR (-1000) 9999 s).2).1),(QV acR (Qe q) (nmR 0 1 (vlR (nmR (-1000) 9999 s).2).2).2).1,decide ((nmR 0 1 (vlR (nmR (-1000) 9999 s).2).2).1=1)),(QV acR (Qe q) (nmR 0 1 (vlR (nmR (-1000) 9999 s).2).2).2).2):=rfl
 rw [e0] at hK
 clear e0 X X2 X5
 generalize nmR (-1000) 9999 s=A at *
 generalize vlR A.2=K at *
 generalize nmR 0 1 K.2=U at *
 intro J44
 have hJ:∀ a' c' hj h',hi.le hj→RdO hj h' g L (QV acR (Qe q) U.2).2→Qg hj a' ((QV acR (Qe q) U.2).1.flatMap YK)→J44 A.1 K.1.1 K.1.2 a' q.aggs.length c' (decide (U.1=1)) h':=by
  intro a' c' hj h' l1 l2 l3
  have:=hK a' c' hj h' l1 l2 l3
  simp only [Up,QC] at this
  exact this
 clear_value J44
 clear hK
 refine⟨fun vs hh=>∃(i:Nat) (aA:Option Addr) (cA:Nat),vs=[vi i,vi A.1,vi K.1.1,vi K.1.2,vsl aA i cA,vb (decide (U.1=1))]∧i≤q.aggs.length∧RdO hi hh g (owA aA i cA (QV acR ((Qe q).take i) U.2).1 :: L) (QV acR ((Qe q).take i) U.2).2,
  fun vs hh=>q.aggs.length - (Qn vs 0).toNat,⟨0,none,0,rfl,Nat.zero_le _,X9.ins (QI.nil _ _ _) (fun b hb=>by cases hb)⟩,?_⟩
 rintro vs hh ⟨i,aA,cA,rfl,hi',X⟩
 refine⟨_,_,_,_,_,_,_,_,rfl,fun e1=>?_,fun e1=>?_⟩
 ·have hlt:i < q.aggs.length:=by have:=of_decide_eq_true e1;omega
  have hx:q.aggs[i]?=some q.aggs[i]:=List.getElem?_eq_getElem hlt
  have hkt:(Qe q).take (i+1)=(Qe q).take i++[(q.aggs[i]).1]:=by
   rw [List.take_succ_eq_append_getElem (by rw [QC];exact hlt)]
   congr 2
   unfold Qe
   rw [List.getElem_map]
  generalize q.aggs[i]=ag at *
  obtain⟨b,o,a',c',ha,hrow,hS⟩:=((Q.le X.le).g).row Wt (by decide) hx
  refine⟨b,o,⟨ha,by omega,by omega⟩,ag.1,a',ag.2.length,c',by rw [Int.toNat_natCast];exact hrow,?_⟩
  have eS:=WD acR ag.1 ((Qe q).take i) U.2
  rw [←hkt] at eS
  generalize QV acR ((Qe q).take i) U.2=F at *
  have eA:acR ag.1 F.2=((ag.1,(nmR 0 120 F.2).1,(nmR (-1099511627776) 1099511627776 (nmR 0 120 F.2).2).1,(nmR (-1000000000) 1000000000 (nmR (-1099511627776) 1099511627776 (nmR 0 120 F.2).2).2).1),(nmR (-1000000000) 1000000000 (nmR (-1099511627776) 1099511627776 (nmR 0 120 F.2).2).2).2):=rfl
  rw [eA] at eS
  refine Q3 X T E fun h29 Y1=>⟨_,rfl,?_⟩
  refine Q3 Y1 T E fun h32 Y2=>⟨_,rfl,?_⟩
  refine Q3 Y2 T E fun h35 Y3=>⟨_,rfl,?_⟩
  clear eA X Y1 Y2
  generalize nmR 0 120 F.2=x1 at *
  generalize nmR (-1099511627776) 1099511627776 x1.2=x2 at *
  generalize nmR (-1000000000) 1000000000 x2.2=x3 at *
  intro b37 hb37 h38
  obtain⟨a,n,c,O,S,hc,hw⟩:=Y3
  refine O.app (j:=1) rfl Qmv (m:=1) (tn:=101) (news:=YK (ag.1,x1.1,x2.1,x3.1)) hb37 rfl (Qki _) (by simp only;omega) (by simp only;omega) fun aA' cA' h40 O40 _=>⟨_,_,_,rfl,?_⟩
  simp only [List.set_cons_succ,List.set_cons_zero] at O40
  refine⟨_,isW (by unfold InR;omega),⟨i+1,aA',cA',rfl,by omega,?_⟩,by simp [Qn];omega⟩
  rw [eS]
  refine⟨a,n,c,?_,S,hc,hw⟩
  unfold owA
  rw [List.flatMap_append,List.flatMap_singleton]
  exact O40
 ·have hge:i=q.aggs.length:=by have:=of_decide_eq_false e1;omega
  subst hge
  rw [List.take_of_length_le (by rw [QC];exact Nat.le_refl _)] at X
  obtain⟨a,n,c,O,S,hc,hw⟩:=X
  obtain⟨hj,lj,Oj,Hj⟩:=O.shut1
  exact hJ aA cA hj hh lj ⟨a,n,c,Oj,S.le lj,hc,hw⟩ Hj
set_option maxHeartbeats 1000000 in
theorem QlS (X:RdO hi h g L s)(Q:QAt hi q a1 n1 a2 n2 a3 n3)(B:QOk q)(T:VF hi)(E:Qbt hi)
  (hK:∀ a' c' hj h',hi.le hj→RdO hj h' g L (rwR q.aggs.length s).2→Qg hj a' ((rwR q.aggs.length s).1.2.2.flatMap Qv)→R (vag [vb (rwR q.aggs.length s).1.1,vi (rwR q.aggs.length s).1.2.1.1,vi (rwR q.aggs.length s).1.2.1.2.1,vi (rwR q.aggs.length s).1.2.1.2.2,vsl a' (rwR q.aggs.length s).1.2.2.length c']) h') :
  Qa Tryz.prog 28 [vhp g 0,qV a1 n1 c1 a2 n2 c2 a3 n3 c3 q] h R:=by
 refine NV ?_
 unfold Ji
 have hn1:=Q.g.len
 have hn4:=B.n2
 refine Q3 X T E fun h2 X2=>⟨_,rfl,?_⟩
 refine Q3 X2 T E fun h5 X5=>⟨_,rfl,?_⟩
 refine Gq X5 T E fun h9 X9=>⟨_,_,rfl,?_⟩
 have e0:rwR q.aggs.length s=((decide ((nmR 0 1 s).1=1),((nmR (-1000) 9999 (nmR 0 1 s).2).1,(vlR (nmR (-1000) 9999 (nmR 0 1 s).2).2).1),(QV (fun _:Unit=>vlR) (List.replicate q.aggs.length ()) (vlR (nmR (-1000) 9999 (nmR 0 1 s).2).2).2).1),(QV (fun _:Unit=>vlR) (List.replicate q.aggs.length ()) (vlR (nmR (-1000) 9999 (nmR 0 1 s).2).2).2).2):=rfl
 rw [e0] at hK
 clear e0 X X2 X5
 generalize nmR 0 1 s=U at *
 generalize nmR (-1000) 9999 U.2=A at *
 generalize vlR A.2=K at *
 intro J44
 have hJ:∀ a' c' hj h',hi.le hj→RdO hj h' g L (QV (fun _:Unit=>vlR) (List.replicate q.aggs.length ()) K.2).2→Qg hj a' ((QV (fun _:Unit=>vlR) (List.replicate q.aggs.length ()) K.2).1.flatMap Qv)→J44 (decide (U.1=1)) A.1 K.1.1 K.1.2 a' q.aggs.length c' h':=by
  intro a' c' hj h' l1 l2 l3
  have:=hK a' c' hj h' l1 l2 l3
  simp only [Up,List.length_replicate] at this
  exact this
 clear_value J44
 clear hK
 refine⟨fun vs hh=>∃(i:Nat) (aA:Option Addr) (cA:Nat),vs=[vi i,vb (decide (U.1=1)),vi A.1,vi K.1.1,vi K.1.2,vsl aA i cA]∧i≤q.aggs.length∧RdO hi hh g (QpX aA i cA (QV (fun _:Unit=>vlR) (List.replicate i ()) K.2).1 :: L) (QV (fun _:Unit=>vlR) (List.replicate i ()) K.2).2,
  fun vs hh=>q.aggs.length - (Qn vs 0).toNat,⟨0,none,0,rfl,Nat.zero_le _,X9.ins (QI.nil _ _ _) (fun b hb=>by cases hb)⟩,?_⟩
 rintro vs hh ⟨i,aA,cA,rfl,hi',X⟩
 refine⟨_,_,_,_,_,_,_,_,rfl,fun e1=>?_,fun e1=>?_⟩
 ·have hlt:i < q.aggs.length:=by have:=of_decide_eq_true e1;omega
  have eS:=WD (fun _:Unit=>vlR) () (List.replicate i ()) K.2
  rw [←List.replicate_succ'] at eS
  generalize QV (fun _:Unit=>vlR) (List.replicate i ()) K.2=F at *
  refine Gq X T E fun h25 Y3=>⟨_,_,rfl,?_⟩
  intro b37 hb37 h38
  obtain⟨a,n,c,O,S,hc,hw⟩:=Y3
  refine O.app (j:=1) rfl Qff (m:=1) (tn:=42) (news:=Qv (vlR F.2).1) hb37 rfl (Qlb _) (by simp only;omega) (by simp only;omega) fun aA' cA' h40 O40 _=>⟨_,_,_,rfl,?_⟩
  simp only [List.set_cons_succ,List.set_cons_zero] at O40
  refine⟨_,isW (by unfold InR;omega),⟨i+1,aA',cA',rfl,by omega,?_⟩,by simp [Qn];omega⟩
  rw [eS]
  refine⟨a,n,c,?_,S,hc,hw⟩
  unfold QpX
  rw [List.flatMap_append,List.flatMap_singleton]
  exact O40
 ·have hge:i=q.aggs.length:=by have:=of_decide_eq_false e1;omega
  subst hge
  obtain⟨a,n,c,O,S,hc,hw⟩:=X
  obtain⟨hj,lj,Oj,Hj⟩:=O.shut1
  exact hJ aA cA hj hh lj ⟨a,n,c,Oj,S.le lj,hc,hw⟩ Hj
end
def Qfp (h:Hp):Prop:=∃ m,h.cell 1 0=some (vk .i64 m)
theorem Qfp.le {h h':Hp}(T:Qfp h)(l:h.le h'):Qfp h':=by
 obtain⟨m,hm⟩:=T
 exact⟨m,Hp.cell_le l hm⟩
theorem QiZ:∀ l:List ByteArray,(l.map fun x=>x.data.toList).flatMap JR=l.map Value.string
 | []=>rfl
 | x :: l=>by
  rw [List.map_cons,List.flatMap_cons,QiZ l,List.map_cons]
  show [Value.string (bs x.data.toList)]++_=_
  have:bs x.data.toList=x:=by unfold bs;simp
  rw [this];rfl
theorem Qcq {s:Wds}(hs:s.length≤1000000000){h:Hp}(T:Qfp h){R:Value→Hp→Prop}(hK:∀ a h',Qh h h' 9 1 a (Yx s).length (Yx s).length ((Yx s).flatMap JR)→R (vsl a (Yx s).length (Yx s).length) h'):Qa Tryz.prog 25 [vs (bs s),vs (bs [32])] h R:=by
 obtain⟨m,hm⟩:=T
 intro w hw
 have hsz:(bs s).size=s.length:=Y5 s
 have hd:(bs s).data.toList=s:=by simp [bs]
 have hd2:(bs [32]).data.toList=[32]:=by simp [bs]
 refine(Tryz.strings_Split (bs s) (bs [32]) m w (by omega) (Wu hm hw) (by decide)).mono ?_
 rintro e w' ⟨he,hw'⟩
 subst hw'
 have hl:=Lib.splitB_all (bs [32]) (by decide) 0 _ (bs s) rfl
 have e1:=Lib.splitB_data (bs [32]) 0 (Lib.countB (bs s) (bs [32])) (bs s)
 have e2:Lib.countB (bs s) (bs [32])=Lib.count s [32]:=by show Lib.count _ _=_;rw [hd,hd2]
 rw [hd,hd2,e2] at e1
 have e3:(Lib.splitB (bs [32]) 0 (Lib.countB (bs s) (bs [32])) (bs s)).map (fun x=>x.data.toList)=Yx s:=by rw [e2];exact e1
 have e4:(Yx s).length=Lib.countB (bs s) (bs [32])+1:=by rw [←e3,List.length_map,hl]
 have hln:=(QiO s).2.1
 have e5:=QiZ (Lib.splitB (bs [32]) 0 (Lib.countB (bs s) (bs [32])) (bs s))
 rw [e3] at e5
 rw [←e4] at he
 refine⟨_,h.set w.heap.size (Qc ((Yx s).flatMap JR) 9),he,?_,?_,hK _ _ (Qh.mk_new (Hp.le_refl h) (hw.none) _ _ ?_ ?_)⟩
 ·rw [e5];exact Sub.pushSet hw _
 ·rw [e5];exact Fr.pushSet h w _
 ·rw [Qs Yi]
 ·unfold maxLen;omega
theorem QoJ {a:Option Addr}{n c:Nat}{l:List Wds}{sep:Wds}{h:Hp}{R:Value→Hp→Prop}(S:SlB h a n l)(hn:0 < n)(hc:n≤c)(hn2:n≤100000000)(hlen:(Lib.join l sep).length≤10000000000)(hK:R (vs (bs (Lib.join l sep))) h):Qa Tryz.prog 34 [vsl a n c,vs (bs sep)] h R:=by
 obtain rfl:=S.1
 obtain⟨b,o,ha,hcell⟩:=SlP.get1 S hn
 subst ha
 have hmap:((l.map bs).map fun x=>x.data.toList)=l:=by
  rw [List.map_map]
  have:((fun x:ByteArray=>x.data.toList) ∘ bs)=id:=by funext x;simp [bs]
  rw [this,List.map_id]
 have hs:(bs sep).data.toList=sep:=by simp [bs]
 have hl:(l.map bs).length=l.length:=by simp
 refine UJ fun w hw=>?_
 have hcs:∀(j:Nat) x,(l.map bs)[j]?=some x→w.cell? ⟨b,o+j,none⟩=some (.string x):=by
  intro j x hx
  rw [List.getElem?_map,Option.map_eq_some_iff] at hx
  obtain⟨y,hy,rfl⟩:=hx
  have hj:=(List.getElem?_eq_some_iff.1 hy).1
  obtain⟨b',o',e,hc'⟩:=SlP.get1 S hj
  cases e
  rw [List.getD_eq_getElem?_getD,hy,Nat.mul_one] at hc'
  exact Wu hc' hw
 have hbk:b < w.heap.size:=by
  have h1:=Wu hcell hw
  unfold World.cell? at h1
  cases hb:w.heap[b]? with
  | none=>rw [hb] at h1;cases h1
  | some ob=>exact(Array.getElem?_eq_some_iff.1 hb).1
 have:=Tryz.strings_Join b o c (l.map bs) (bs sep) w hcs hbk (by rw [hl];omega) (by rw [hl];exact hc) (by rw [hmap,hs];omega)
 rw [hl,hmap,hs] at this
 refine this.mono fun e w' ⟨he,hB⟩=>⟨_,he,hB,hK⟩
theorem We {n:Int}(hn:InR n){h:Hp}(T:VF h){K:Value→Hp→Prop}(hK:K (vs (bs (Lib.itoa n))) h):Yt Tryz.prog (.func (.func 32) #[] #[]) [vi n] h K:=
 ⟨_,_,_,rfl,⟨_,Tryz.func32,by kernel_rfl,by kernel_rfl⟩,Xw hn T hK⟩
def ShE (q:Qy)(h h':Hp)(g:Nat)(X:ShX):Prop:=∀ st:En,st.rd=X.rd→st.far=X.far→st.late=X.late→st.pn.map (pnT (Qe q))=X.pn→st.rows=X.rows→Y7 q h h' g st
abbrev Qmg (a:Option Addr)(n c:Nat)(xs:List Value):Ow:=⟨83,5,a,n,c,xs⟩
abbrev Qmi (a:Option Addr)(n c:Nat)(xs:List Value):Ow:=⟨89,5,a,n,c,xs⟩
theorem Qk1 {hi h:Hp}{a:Option Addr}{n c:Nat}{xs:List Value}{L:List Ow}(O:QS hi h L)(hs:owI a n c xs ∈ L)(hn:0 < n):∃ b,a=some ⟨b,0,none⟩:=by
 have O1:=O.ownV hs
 have:=O1.own.cap
 obtain⟨b,_,e,_⟩:=O1.blk (by simp only at this ⊢;omega) (show 0 < 1 by decide)
 exact⟨b,e⟩
theorem Qk0 {α β:Type}(f:α→β)(l:List α)(x y:α)(k:Nat):QP ((l++List.replicate (k+1) x).map f) l.length [f y]=((l++[y])++List.replicate k x).map f:=by
 have h1:l.length < ((l++List.replicate (k+1) x).map f).length:=by simp
 rw [Jq _ _ _ h1,←List.map_set]
 congr 1
 rw [List.set_append_right _ _ (Nat.le_refl _),Nat.sub_self,List.replicate_succ,List.set_cons_zero,List.append_assoc]
 rfl
theorem QpC (s:RdW):0≤(rfR s).1.1∧(rfR s).1.1≤40∧-1≤(rfR s).1.2∧(rfR s).1.2≤9999:=
 ⟨(Qap (by decide) s).1,(Qap (by decide) s).2,(Qap (by decide) _).1,(Qap (by decide) _).2⟩
section
variable {h:Hp}{q:Qy}{a1:Option Addr}{n1 c1:Nat}{a2:Option Addr}{n2 c2:Nat}{a3:Option Addr}{n3 c3:Nat}
set_option maxHeartbeats 4000000 in
theorem Nq {s:Wds}{parts:Nat}{R':Value→Hp→Prop}(Q:QAt h q a1 n1 a2 n2 a3 n3)(B:QOk q)(T:VF h)(E:Qbt h)(M:Qfp h)(hs:s.length≤1000000)(h1:1≤parts)(h3:parts≤3)
  (hN:∀ h',h.le h'→Qdu (Qe q) parts (Yx s)=none→R' (Qf [vp none,ifv (some (80,vi 4))]) h')
  (hY:∀ X g h',h.le h'→Qdu (Qe q) parts (Yx s)=some X→ShE q h h' g X→R' (Qf [vhp g 0,ifv none]) h') :
  Qa Tryz.prog 8 [vs (bs s),vag [vsl a1 n1 c1,vsl a2 n2 c2,vsl a3 n3 c3,vi q.size,vi q.slide,vi q.delay,vi q.late],vi parts] h R':=by
 refine QfU ?_
 unfold Nh
 refine Vz Q B (fun hbad=>absurd ⟨by omega,by omega⟩ hbad) fun _ _ g h2 l2 X=>⟨some ⟨g,0,none⟩,none,rfl,fun e=>(by cases e),fun _=>?_⟩
 rw [Int.toNat_natCast] at X
 obtain⟨qf,hi,b1,m1,d1,b2,m2,d2,b3,m3,d3,ak,nk,ck,ar,cr,ac,cc,l0,O,F,QF,K⟩:=X
 obtain⟨w1,w2,w3⟩:=QiO s
 refine O.frame (Qcq (by omega) (M.le l0) fun a8 hk O8 h7 l7 O7=>⟨_,_,_,rfl,?_⟩)
 have lk:=O8.le
 have S8:SlB hk a8 (Yx s).length (Yx s):=O8.slp Yi (by decide)
 have O9:=(O7.push (Hp.le_refl h7) (s:=Qmg none 0 0 []) (QI.nil _ _ _) (fun b hb=>by cases hb)).push (Hp.le_refl h7) (s:=Qmi none 0 0 []) (QI.nil _ _ _) (fun b hb=>by cases hb)
 simp only [List.cons_append,List.nil_append] at O9
 clear O O7
 intro b9 hb9 h10
 have l10:h7.le h10:=Hp.le_set (Hp.le_refl _) hb9 _
 have X0:RdO hk h10 b9 _ (Yx s,false):=⟨a8,_,_,O9.cons l10 (s:=ZX b9 78 [vsl a8 (Yx s).length (Yx s).length,vb false]) (Qep (Hp.set_same _ _ _)) (fun b hb=>by cases hb;exact hb9),S8,Nat.le_refl _,fun w hw=>Nat.le_trans (w3 w hw) hs⟩
 clear_value h10
 have Tk:=T.le (Hp.le_trans l0 lk)
 have Ek:=E.le (Hp.le_trans l0 lk)
 have Qk:=Q.le (Hp.le_trans l0 lk)
 have Fk:=F
 have QFk:=QF.le lk
 have Kk:=K.le lk
 have l0k:=Hp.le_trans l0 lk
 clear O9 S8 O8 l10 hb9 Q QF K T E M l0 lk l2 l7
 refine Q3 X0 Tk Ek fun h12 X12=>⟨_,rfl,?_⟩
 refine Q3 X12 Tk Ek fun h15 X15=>⟨_,rfl,?_⟩
 have eh:hdR (Yx s,false)=(((nmR 1 3 (Yx s,false)).1,(nmR 0 1099511627776 (nmR 1 3 (Yx s,false)).2).1,(nmR 0 10000 (nmR 0 1099511627776 (nmR 1 3 (Yx s,false)).2).2).1,(nmR 0 10000 (nmR 0 10000 (nmR 0 1099511627776 (nmR 1 3 (Yx s,false)).2).2).2).1),(nmR 0 10000 (nmR 0 10000 (nmR 0 1099511627776 (nmR 1 3 (Yx s,false)).2).2).2).2):=rfl
 have bA:=Qap (lo:=0) (hi:=1099511627776) (by decide) (nmR 1 3 (Yx s,false)).2
 have bM:=Qap (lo:=0) (hi:=10000) (by decide) (nmR 0 1099511627776 (nmR 1 3 (Yx s,false)).2).2
 have bW:=Qap (lo:=0) (hi:=10000) (by decide) (nmR 0 10000 (nmR 0 1099511627776 (nmR 1 3 (Yx s,false)).2).2).2
 have hSh:∀ X,Qdu (Qe q) parts (Yx s)=X→Qdu (Qe q) parts (Yx s)=X:=fun _ e=>e
 unfold Qdu at hN hY
 simp only [eh] at hN hY
 generalize nmR 1 3 (Yx s,false)=yK at *
 generalize nmR 0 1099511627776 yK.2=yA at *
 obtain⟨late,hlate⟩:∃ n:Nat,yA.1=(n:Int):=⟨yA.1.toNat,by omega⟩
 obtain⟨aR,nR,cR,OR,SR,hcR,hwR⟩:=X15
 refine⟨g,0,rfl,OR.put (j:=3) rfl (i:=11) (Nat.le_of_ble_eq_true rfl) fun h19 O19 _=>?_⟩
 simp only [List.set_cons_succ,List.set_cons_zero,W4] at O19
 have X19:RdO hk h19 b9 _ yA.2:=⟨aR,nR,cR,O19,SR,hcR,hwR⟩
 clear O19 OR SR hcR hwR X0 X12
 refine Q3 X19 Tk Ek fun h21 X21=>⟨_,rfl,?_⟩
 refine Q3 X21 Tk Ek fun h24 X24=>⟨_,rfl,?_⟩
 generalize nmR 0 10000 yA.2=yM at *
 generalize nmR 0 10000 yM.2=yW at *
 clear X19 X21 eh hSh
 obtain⟨many,hmany⟩:∃ n:Nat,yM.1=(n:Int):=⟨yM.1.toNat,by omega⟩
 obtain⟨rows,hrows⟩:∃ n:Nat,yW.1=(n:Int):=⟨yW.1.toNat,by omega⟩
 have rdL:∀{hi h:Hp} {L:List Ow} {s:RdW},RdO hi h b9 L s→∃(a:Option Addr) (n c:Nat),Hp.cell h b9 0=some (vsl a n c)∧Hp.cell h b9 (0+1)=some (vb s.2)∧n=s.1.length:=by
  intro hi h L s X
  obtain⟨a,n,c,O,S,_⟩:=X
  have hb:=O.blk (List.mem_cons_self ..)
  exact⟨a,n,c,Qb hb rfl,Qb hb rfl,S.1⟩
 obtain⟨a27,n27,c27,k27,_,e27⟩:=rdL X24
 have l024:=Hp.le_trans l0k X24.le
 refine⟨_,fun _=>isW (by unfold InR;omega),a27,n27,c27,fun _=>k27,fun e1=>?_,fun e1=>?_⟩
 ·refine hN h24 l024 ?_
  rw [if_pos]
  by_cases h9:yK.1=(parts:Int)
  ·refine .inr ?_
   rw [decide_eq_false (fun q1=>q1 h9)] at e1
   have:=of_decide_eq_true (show decide (yM.1+yW.1 > ((n27:Nat):Int))=true from e1)
   omega
  ·exact .inl h9
 obtain⟨e2,e3⟩:=ZC e1
 have hk9:yK.1=(parts:Int):=Decidable.not_not.1 (of_decide_eq_false e2)
 have hmw:yM.1+yW.1≤((n27:Nat):Int):=by have:=of_decide_eq_false e3;omega
 have hc0:¬(yK.1≠(parts:Int)∨yM.1+yW.1 > (yW.2.1.length:Int)):=by
  rintro(q1|q1)
  ·exact q1 hk9
  ·omega
 simp only [if_neg hc0] at hN hY
 simp only [hmany,hrows,hlate,Int.toNat_natCast] at hN hY
 have hX9:RdO hk h24 b9 [owI ac parts cc ((((QV (fun _:Unit=>rfR) (List.replicate 0 ()) yW.2).1.map (·.2))++List.replicate parts (-1:Int)).map vi),owI ar parts cr ((((QV (fun _:Unit=>rfR) (List.replicate 0 ()) yW.2).1.map (·.1))++List.replicate parts (0:Int)).map vi),ZX g 68 (W4 b1 m1 d1 b2 m2 d2 b3 m3 d3 qf ak nk ck ar parts cr ac parts cc none 0 0 late none 0 0),Qmg none 0 0 [],Qmi none 0 0 []] yW.2:=by
  have e:(List.replicate parts (0:Nat)).map (fun n:Nat=>vi n)=(List.replicate parts (0:Int)).map vi:=by rw [List.map_replicate,List.map_replicate];rfl
  rw [hlate,e] at X24
  exact X24
 clear X24 k27 rdL
 refine⟨fun vs hh=>∃ i:Nat,vs=[vi i]∧i≤parts∧RdO hk hh b9 [owI ac parts cc ((((QV (fun _:Unit=>rfR) (List.replicate i ()) yW.2).1.map (·.2))++List.replicate (parts - i) (-1:Int)).map vi),owI ar parts cr ((((QV (fun _:Unit=>rfR) (List.replicate i ()) yW.2).1.map (·.1))++List.replicate (parts - i) (0:Int)).map vi),ZX g 68 (W4 b1 m1 d1 b2 m2 d2 b3 m3 d3 qf ak nk ck ar parts cr ac parts cc none 0 0 late none 0 0),Qmg none 0 0 [],Qmi none 0 0 []] (QV (fun _:Unit=>rfR) (List.replicate i ()) yW.2).2,
  fun vs hh=>parts - (Qn vs 0).toNat,⟨0,rfl,Nat.zero_le _,hX9⟩,?_⟩
 clear hX9
 rintro vs hh ⟨i,rfl,hi',X⟩
 refine⟨i,rfl,fun e4=>?_,fun e4=>?_⟩
 ·have hlt:i < parts:=by have:=of_decide_eq_true e4;omega
  have eS:=WD (fun _:Unit=>rfR) () (List.replicate i ()) yW.2
  rw [←List.replicate_succ'] at eS
  have hl:=Up (fun _:Unit=>rfR) (List.replicate i ()) yW.2
  rw [List.length_replicate] at hl
  generalize QV (fun _:Unit=>rfR) (List.replicate i ()) yW.2=G at *
  have eR:rfR G.2=(((nmR 0 40 G.2).1,(nmR (-1) 9999 (nmR 0 40 G.2).2).1),(nmR (-1) 9999 (nmR 0 40 G.2).2).2):=rfl
  obtain⟨k,hkk⟩:∃ k,parts - i=k+1:=⟨parts - i - 1,by omega⟩
  have hk2:parts - (i+1)=k:=by omega
  rw [hkk] at X
  have X':=X
  obtain⟨aR,nR,cR,O,SR,hcR,hwR⟩:=X'
  obtain⟨br,er⟩:=Qk1 (n:=parts) (c:=cr) (a:=ar) O (List.mem_cons_of_mem _ (List.mem_cons_of_mem _ (List.mem_cons_self ..))) (by omega)
  obtain⟨bc,ec⟩:=Qk1 (n:=parts) (c:=cc) (a:=ac) O (List.mem_cons_of_mem _ (List.mem_cons_self ..)) (by omega)
  have blkOf:∀{hk h:Hp} {s:RdW} {c1 c2:Ow},RdO hk h b9 (c1 :: c2 :: ZX g 68 (W4 b1 m1 d1 b2 m2 d2 b3 m3 d3 qf ak nk ck ar parts cr ac parts cc none 0 0 late none 0 0) :: [Qmg none 0 0 [],Qmi none 0 0 []]) s→h g=some (Qc (W4 b1 m1 d1 b2 m2 d2 b3 m3 d3 qf ak nk ck ar parts cr ac parts cc none 0 0 late none 0 0) 68):=by
   rintro hk h s c1 c2 ⟨a,n,c,O,_⟩
   exact O.blk (by simp)
  refine⟨g,0,rfl,_,_,_,Qb (blkOf X) rfl,?_⟩
  refine Q3 X Tk Ek fun h41 X41=>⟨_,rfl,Qb (blkOf X41) rfl,br,0,⟨er,by omega,by omega⟩,?_⟩
  obtain⟨aR,nR,cR,O,SR,hcR,hwR⟩:=X41
  rw [Int.toNat_natCast,Nat.mul_one]
  refine O.store (j:=2) rfl (i:=i) (by simp) (by simp only [List.length_singleton];omega) er fun h45 O45 _=>?_
  simp only [List.set_cons_succ,List.set_cons_zero] at O45
  have hl1:(G.1.map (·.1)).length=i:=by rw [List.length_map];exact hl
  have hl2:(G.1.map (·.2)).length=i:=by rw [List.length_map];exact hl
  have es1:=Qk0 vi (G.1.map (·.1)) (0:Int) (nmR 0 40 G.2).1 k
  rw [hl1] at es1
  rw [es1] at O45
  have X45:RdO hk h45 b9 _ (nmR 0 40 G.2).2:=⟨aR,nR,cR,O45,SR,hcR,hwR⟩
  refine⟨g,0,rfl,_,_,_,Qb (blkOf X45) rfl,?_⟩
  refine Q3 X45 Tk Ek fun h50 X50=>⟨_,rfl,Qb (blkOf X50) rfl,bc,0,⟨ec,by omega,by omega⟩,?_⟩
  obtain⟨aR2,nR2,cR2,O2,SR2,hcR2,hwR2⟩:=X50
  refine O2.store (j:=1) rfl (i:=i) (by simp) (by simp only [List.length_singleton];omega) ec fun h54 O54 _=>?_
  simp only [List.set_cons_succ,List.set_cons_zero] at O54
  have es2:=Qk0 vi (G.1.map (·.2)) (-1:Int) (nmR (-1) 9999 (nmR 0 40 G.2).2).1 k
  rw [hl2] at es2
  rw [es2] at O54
  refine⟨_,isW (by unfold InR;omega),⟨i+1,rfl,by omega,?_⟩,by simp [Qn];omega⟩
  rw [eS,hk2,eR]
  simp only [List.map_append,List.map_cons,List.map_nil] at O54 ⊢
  exact⟨aR2,nR2,cR2,O54,SR2,hcR2,hwR2⟩
 ·have hge:i=parts:=by have:=of_decide_eq_false e4;omega
  subst hge
  rw [Nat.sub_self] at X
  simp only [List.replicate_zero,List.append_nil] at X
  have hlf:=Up (fun _:Unit=>rfR) (List.replicate i ()) yW.2
  rw [List.length_replicate] at hlf
  have hbf:=Qgr (f:=fun _:Unit=>rfR) (Q:=fun x=>0≤x.1∧x.1≤40∧-1≤x.2∧x.2≤9999) (fun _ s=>QpC s) (List.replicate i ()) yW.2
  generalize QV (fun _:Unit=>rfR) (List.replicate i ()) yW.2=G at *
  refine⟨fun vs hh=>∃(j:Nat) (hj:Hp) (tb:Option Addr) (tc:Nat) (R:List PR),vs=[vi j]∧j≤many∧hk.le hj∧R.length=j∧RdO hj hh b9 [owI ac i cc ((G.1.map (·.2)).map vi),owI ar i cr ((G.1.map (·.1)).map vi),ZX g 68 (W4 b1 m1 d1 b2 m2 d2 b3 m3 d3 qf ak nk ck ar i cr ac i cc tb j tc late none 0 0),Qmg tb j tc (R.flatMap Qi),Qmi none 0 0 []] (QV (fun _:Unit=>pnR (Qe q)) (List.replicate j ()) G.2).2∧R.map prT=(QV (fun _:Unit=>pnR (Qe q)) (List.replicate j ()) G.2).1∧∀ r ∈ R,Qg hj r.a (r.acs.flatMap YK),
   fun vs hh=>many - (Qn vs 0).toNat,⟨0,hk,none,0,[],rfl,Nat.zero_le _,Hp.le_refl _,rfl,X,rfl,fun r hr=>by cases hr⟩,?_⟩
  clear X
  rintro vs hh ⟨j,hj,tb,tc,R,rfl,hj',lj,hRl,X,eRt,hRi⟩
  refine⟨j,rfl,fun e5=>?_,fun e5=>?_⟩
  ·have hlt:j < many:=by have:=of_decide_eq_true e5;omega
   have eS:=WD (fun _:Unit=>pnR (Qe q)) () (List.replicate j ()) G.2
   rw [←List.replicate_succ'] at eS
   generalize QV (fun _:Unit=>pnR (Qe q)) (List.replicate j ()) G.2=H at *
   have blkOf:∀{hk h:Hp} {s:RdW} {c1 c2:Ow} {L:List Ow},RdO hk h b9 (c1 :: c2 :: ZX g 68 (W4 b1 m1 d1 b2 m2 d2 b3 m3 d3 qf ak nk ck ar i cr ac i cc tb j tc late none 0 0) :: L) s→h g=some (Qc (W4 b1 m1 d1 b2 m2 d2 b3 m3 d3 qf ak nk ck ar i cr ac i cc tb j tc late none 0 0) 68):=by
    rintro hk h s c1 c2 L ⟨a,n,c,O,_⟩
    exact O.blk (by simp)
   refine⟨g,0,rfl,_,_,_,Qb (blkOf X) rfl,?_⟩
   refine Qkd X (Qk.le lj) B (Tk.le lj) (Ek.le lj) fun a73 c73 hj2 h69 l69 X69 H69=>⟨_,_,_,_,_,_,_,rfl,Qb (blkOf X69) rfl,?_⟩
   generalize pnR (Qe q) H.2=Z at *
   intro b75 hb75 h76
   obtain⟨aR,nR,cR,O,SR,hcR,hwR⟩:=X69
   refine O.app (j:=4) rfl QbY (m:=1) (tn:=83) (news:=Qi ⟨Z.1.1,a73,c73,Z.1.2.1,Z.1.2.2⟩) hb75 rfl (KU _) (by simp only;omega) (by simp only;omega) fun tb' tc' h78 O78 _=>⟨_,_,_,rfl,g,0,rfl,?_⟩
   simp only [List.set_cons_succ,List.set_cons_zero] at O78
   refine O78.put (j:=3) rfl (i:=10) (Nat.le_of_ble_eq_true rfl) fun h82 O82 _=>?_
   simp only [List.set_cons_succ,List.set_cons_zero,W4] at O82
   refine⟨_,isW (by unfold InR;omega),⟨j+1,hj2,tb',tc',R++[⟨Z.1.1,a73,c73,Z.1.2.1,Z.1.2.2⟩],rfl,by omega,Hp.le_trans lj l69,by simp [hRl],?_,?_,fun r hr=>?_⟩,by simp [Qn];omega⟩
   ·rw [eS,List.flatMap_append,List.flatMap_singleton]
    exact⟨aR,nR,cR,O82,SR,hcR,hwR⟩
   ·rw [eS,List.map_append,eRt]
    rfl
   ·rcases List.mem_append.1 hr with q1|q1
    ·exact(hRi r q1).le l69
    ·rw [List.mem_singleton.1 q1];exact H69
  ·have hge:j=many:=by have:=of_decide_eq_false e5;omega
   rw [hge] at X eRt hRl
   clear hge e5 hj'
   generalize QV (fun _:Unit=>pnR (Qe q)) (List.replicate many ()) G.2=H at *
   have hkl:(Qe q).length=q.aggs.length:=QC q
   rw [hkl] at hN hY
   refine⟨fun vs hh=>∃(k:Nat) (hm:Hp) (aw:Option Addr) (cw:Nat) (RW:List (KR Vl (Bool × PK))),vs=[vi k]∧k≤rows∧hj.le hm∧RW.length=k∧RdO hm hh b9 [owI ac i cc ((G.1.map (·.2)).map vi),owI ar i cr ((G.1.map (·.1)).map vi),ZX g 68 (W4 b1 m1 d1 b2 m2 d2 b3 m3 d3 qf ak nk ck ar i cr ac i cc tb many tc late aw k cw),Qmg tb many tc (R.flatMap Qi),Qmi aw k cw (RW.flatMap (YU Xg))] (QV (fun _:Unit=>rwR q.aggs.length) (List.replicate k ()) H.2).2∧Q7 RW=(QV (fun _:Unit=>rwR q.aggs.length) (List.replicate k ()) H.2).1.map Xo∧∀ r ∈ RW,Qg hm r.2.1.1 (r.2.2.flatMap Qv),
    fun vs hh=>rows - (Qn vs 0).toNat,⟨0,hj,none,0,[],rfl,Nat.zero_le _,Hp.le_refl _,rfl,X,rfl,fun r hr=>by cases hr⟩,?_⟩
   clear X
   rintro vs hh ⟨k,hm,aw,cw,RW,rfl,hk',lm,hWl,X,eWt,hWi⟩
   refine⟨k,rfl,fun e5=>?_,fun e5=>?_⟩
   ·have hlt:k < rows:=by have:=of_decide_eq_true e5;omega
    have eS:=WD (fun _:Unit=>rwR q.aggs.length) () (List.replicate k ()) H.2
    rw [←List.replicate_succ'] at eS
    generalize QV (fun _:Unit=>rwR q.aggs.length) (List.replicate k ()) H.2=J at *
    have blkOf:∀{hk h:Hp} {s:RdW} {c1 c2:Ow} {L:List Ow},RdO hk h b9 (c1 :: c2 :: ZX g 68 (W4 b1 m1 d1 b2 m2 d2 b3 m3 d3 qf ak nk ck ar i cr ac i cc tb many tc late aw k cw) :: L) s→h g=some (Qc (W4 b1 m1 d1 b2 m2 d2 b3 m3 d3 qf ak nk ck ar i cr ac i cc tb many tc late aw k cw) 68):=by
     rintro hk h s c1 c2 L ⟨a,n,c,O,_⟩
     exact O.blk (by simp)
    have ljm:=Hp.le_trans lj lm
    refine⟨g,0,rfl,_,_,_,Qb (blkOf X) rfl,?_⟩
    refine QlS X (Qk.le ljm) B (Tk.le ljm) (Ek.le ljm) fun a73 c73 hj2 h69 l69 X69 H69=>⟨_,_,_,_,_,_,_,rfl,Qb (blkOf X69) rfl,?_⟩
    generalize rwR q.aggs.length J.2=Z at *
    intro b75 hb75 h76
    obtain⟨aR,nR,cR,O,SR,hcR,hwR⟩:=X69
    refine O.app (j:=5) rfl Qne (m:=1) (tn:=89) (news:=YU Xg ((Z.1.1,Z.1.2.1),(a73,c73),Z.1.2.2)) hb75 rfl (by
     intro u hu
     simp only [YU,Xg,List.mem_cons,List.not_mem_nil,or_false] at hu
     rcases hu with rfl|rfl|rfl|rfl|rfl<;>rfl) (by simp only;omega) (by simp only;omega) fun aw' cw' h78 O78 _=>⟨_,_,_,rfl,g,0,rfl,?_⟩
    simp only [List.set_cons_succ,List.set_cons_zero] at O78
    refine O78.put (j:=3) rfl (i:=12) (Nat.le_of_ble_eq_true rfl) fun h82 O82 _=>?_
    simp only [List.set_cons_succ,List.set_cons_zero,W4] at O82
    refine⟨_,isW (by unfold InR;omega),⟨k+1,hj2,aw',cw',RW++[((Z.1.1,Z.1.2.1),(a73,c73),Z.1.2.2)],rfl,by omega,Hp.le_trans lm l69,by simp [hWl],?_,?_,fun r hr=>?_⟩,by simp [Qn];omega⟩
    ·rw [eS,List.flatMap_append,List.flatMap_singleton]
     exact⟨aR,nR,cR,O82,SR,hcR,hwR⟩
    ·rw [eS,Qct,eWt,List.map_append]
     rfl
    ·rcases List.mem_append.1 hr with q1|q1
     ·exact(hWi r q1).le l69
     ·rw [List.mem_singleton.1 q1];exact H69
   ·have hge:k=rows:=by have:=of_decide_eq_false e5;omega
    rw [hge] at X eWt hWl
    clear hge e5 hk'
    generalize QV (fun _:Unit=>rwR q.aggs.length) (List.replicate rows ()) H.2=J at *
    obtain⟨aR,nR,cR,O,SR,hcR,hwR⟩:=X
    have hb:=O.blk (List.mem_cons_self ..)
    have lend:=Hp.le_trans l0k (Hp.le_trans lj (Hp.le_trans lm O.le))
    refine⟨_,Qb hb rfl,_,_,_,fun _=>Qb hb rfl,fun e6=>?_,fun e6=>?_⟩
    ·refine hN hh lend ?_
     rw [if_pos]
     cases h9:J.2.2 with
     | true=>exact .inl rfl
     | false=>
      rw [h9] at e6
      have:=of_decide_eq_true (show decide (((nR:Nat):Int) > 0)=true from e6)
      refine .inr fun q1=>?_
      have:=SR.1
      rw [q1] at this
      simp at this
      omega
    ·obtain⟨e7,e8⟩:=ZC e6
     have hnil:J.2.1=[]:=List.eq_nil_of_length_eq_zero (by have:=of_decide_eq_false e8;have:=SR.1;omega)
     refine hY _ g hh lend (by rw [if_neg (by rintro(q1|q1);(rw [e7] at q1;cases q1);exact q1 hnil)]) fun st s1 s2 s3 s4 s5=>?_
     have OE:=O.sub (List.sublist_cons_self _ _)
     have hrl:st.rd.length=i:=by rw [s1,List.length_map,hlf]
     have hfl:st.far.length=i:=by rw [s2,List.length_map,hlf]
     have erd:(G.1.map (·.1)).map vi=st.rd.map fun n:Nat=>vi n:=by
      rw [s1,List.map_map,List.map_map]
      refine List.map_congr_left fun x hx=>?_
      have:=hbf x hx
      show vi x.1=vi ((x.1.toNat:Nat):Int)
      rw [Int.toNat_of_nonneg this.1]
     have s2':st.far=G.1.map (·.2):=s2
     have s3':st.late=late:=s3
     rw [erd,←s2'] at OE
     refine Y7.of_owns (qf:=qf) (R:=R) (RW:=RW) (tb:=tb) (tc:=tc) (aw:=aw) (cw:=cw) (c1:=d1) (c2:=d2) (c3:=d3) (ck:=ck) (ar:=ar) (cr:=cr) (ac:=ac) (cc:=cc) (Hp.le_trans l0k (Hp.le_trans lj lm)) ?_ Fk (QFk.le (Hp.le_trans lj lm)) (Kk.le (Hp.le_trans lj lm)) (fun r hr=>(hRi r hr).le lm) hWi (by rw [s4];exact eRt) (by rw [s5];exact eWt)
     rw [hrl,hfl,s3',hRl,hWl]
     exact OE
end
end Go.Proofs.YtgmplfdecikgoaaGreatDoor
namespace Go.Proofs.YtgmplfdecikgoaaGreatDoor
open Go Go.Vc
theorem Qoj (l:List Nat):(l.map fun n:Nat=>vi n)=(l.map fun n:Nat=>(n:Int)).map vi:=by rw [List.map_map];rfl
theorem Y7.seen {q:Qy}{h0 h:Hp}{g:Nat}{st:En}(X:Y7 q h0 h g st):∃(a1:Option Addr) (n1 c1:Nat) (a2:Option Addr) (n2 c2:Nat) (a3:Option Addr) (n3 c3:Nat) (qf:Qy) (ak:Option Addr) (nk ck:Nat) (ar:Option Addr) (cr:Nat) (ac:Option Addr) (cc:Nat) (tb:Option Addr) (tc:Nat) (aw:Option Addr) (cw:Nat) (R:List PR),
  h g=some (Qc (W4 a1 n1 c1 a2 n2 c2 a3 n3 c3 qf ak nk ck ar st.rd.length cr ac st.far.length cc tb R.length tc st.late aw (st.rows.map Xo).length cw) 68)∧SlI h ar st.rd.length (st.rd.map fun n:Nat=>(n:Int))∧SlI h ac st.far.length st.far∧NT Qv Xg h aw (st.rows.map Xo).length (st.rows.map Xo) ∧
   Tb h tb R∧R.map prT=st.pn.map (pnT (Qe q)):=by
 obtain⟨qf,hi,a1,n1,c1,a2,n2,c2,a3,n3,c3,ak,nk,ck,ar,cr,ac,nc,cc,tb,tc,aw,cw,R,RW,l0,M,I⟩:=X
 have hWl:RW.length=(st.rows.map Xo).length:=by have:=congrArg List.length I.w;simpa [Q7] using this
 have hnc:nc=st.far.length:=I.c.1
 subst hnc
 refine⟨a1,n1,c1,a2,n2,c2,a3,n3,c3,qf,ak,nk,ck,ar,cr,ac,cc,tb,tc,aw,cw,R,?_,?_,I.c.le M.le0,⟨RW,I.w,rfl,M.w.row,fun r hr=>(I.wi r hr).le M.le0⟩,I.t.le M.le0,I.p⟩
 ·rw [←hWl];exact M.blk
 ·have:=M.r
  rw [Qoj] at this
  exact this.sli
end Go.Proofs.YtgmplfdecikgoaaGreatDoor
